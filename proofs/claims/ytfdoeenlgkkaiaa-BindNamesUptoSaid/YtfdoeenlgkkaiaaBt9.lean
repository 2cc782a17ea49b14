/- The plain law: an expression with its sources' new names is bound to the same. -/
import Derived.Test.YtfdoeenlgkkaiaaBt8
import Derived.Test.YtfdoeenlgkkaiaaBt3
import Derived.Test.YtfdoeenlgkkaiaaBt7
import Derived.Test.YtfdoeenlgkkaiaaBt5
namespace Go.Abs
open Go.Proofs
open Classical
set_option maxRecDepth 100000
mutual
theorem Ex.bd_e0 (ns : List (List Nat)) (ts : List Tbl) : ∀ (e : Ex) (err : Int),(e.bd ns ts err).2.2 = 0 → err = 0
 | .mk op v t m col args,err,h => by
  unfold Ex.bd at h
  split at h
  ·
   split at h
   · exact h
   · rename_i h1; exact (keep_ne h1 h).1
  ·
   split at h
   · exact h
   · exact Ex.bdL_e0 ns ts args err (keep_ne (by decide) h).1
theorem Ex.bdL_e0 (ns : List (List Nat)) (ts : List Tbl) : ∀ (l : List Ex) (err : Int),(Ex.bdL ns ts l err).2.2 = 0 → err = 0
 | [],_err,h => h
 | e :: r,err,h => Ex.bd_e0 ns ts e err (Ex.bdL_e0 ns ts r _ h)
end
mutual
theorem Ex.full_sz (l : List (List Nat × Tbl)) : ∀ e : Ex,(e.full l).1.sz ≤ e.sz
 | .mk op v t m col args => by
  unfold Ex.full
  split
  ·
   split
   · simp [Ex.sz,Ex.szL]
   · exact Nat.le_refl _
  ·
   split
   · simp only [Ex.sz]; have:=Ex.full_szL l args; omega
   · exact Nat.le_refl _
theorem Ex.full_szL (l : List (List Nat × Tbl)) : ∀ r : List Ex,Ex.szL (Ex.fullL l r).1 ≤ Ex.szL r
 | [] => by simp [Ex.fullL]
 | e :: r => by
  have h1:=Ex.full_sz l e
  have h2:=Ex.full_szL l r
  simp only [Ex.fullL,Ex.szL]
  omega
end
theorem zz_named {i : Nat} (h : i < 4) : NamedOk (zz i):=by
 have : i = 0 ∨ i = 1 ∨ i = 2 ∨ i = 3:=by omega
 rcases this with rfl | rfl | rfl | rfl <;> (
  refine ⟨⟨by simp [zz],by simp [zz],fun j hj => ?_⟩,by simp [zz,kws]⟩
  simp [zz] at hj
  have : j = 0 ∨ j = 1 ∨ j = 2:=by omega
  rcases this with rfl | rfl | rfl <;> simp [zz,chr0,chr1])
mutual
theorem Ex.full_bd {ns : List (List Nat)} {ts : List Tbl} (hn : ns.length = ts.length) (h4 : ts.length ≤ 4) : ∀ e : Ex,e.may = true → (e.bd ns ts 0).2.2 = 0 → (e.full (ns.zip ts)).2 = true ∧ (e.full (ns.zip ts)).1.bd (zzs 0 ts.length) ts 0 = e.bd ns ts 0 ∧ (e.full (ns.zip ts)).1.may = true
 | .mk op v t m col args,hm,h => by
  unfold Ex.bd at h
  unfold Ex.may at hm
  by_cases h2 : op = 2
  ·
   rw [if_pos h2] at h
   subst h2
   by_cases hp : (placeS ns ts t m).2 = 0
   ·
    obtain ⟨a1,a2,a3⟩:=place_new hn hp
    have a4 : (findS t m (ns.zip ts)).2 = 0:=by rw [a1]
    have a5 : (findS t m (ns.zip ts)).1 = (placeS ns ts t m).1:=by rw [a1]
    unfold Ex.full
    rw [if_pos rfl,if_pos a4,a5]
    refine ⟨rfl,?_,?_⟩
    ·
     simp only [Ex.bd,if_true]
     rw [a3]
     simp [hp]
    ·
     simp at hm
     simp [Ex.may,hm.1,zz_named (show (leadF (ns.zip ts) (placeS ns ts t m).1 0).getD 0 < 4 by omega)]
   ·
    rw [if_neg hp] at h
    have h' : keep 0 (placeS ns ts t m).2 true = 0:=h
    have:=(keep_ne hp h').2
    cases this
  ·
   rw [if_neg h2] at h
   by_cases h1 : op = 1
   ·
    subst h1
    have ha : args = []:=by simp at hm; exact hm.1.2.2.2
    subst ha
    unfold Ex.full
    rw [if_neg (by decide)]
    simp only [Ex.fullL,if_true]
    refine ⟨trivial,by simp [Ex.bd],?_⟩
    unfold Ex.may
    exact hm
   ·
    rw [if_neg h1] at h
    rw [if_neg h1,if_neg h2] at hm
    simp only [Bool.and_eq_true,decide_eq_true_eq] at hm
    obtain ⟨hm1,hm2,hm3,hm4⟩:=hm
    have hk:=keep_ne (by decide) h
    obtain ⟨b1,b2,b3,b4⟩:=Ex.full_bdL hn h4 args hm4 hk.1
    unfold Ex.full
    rw [if_neg h2,if_pos b1]
    refine ⟨rfl,?_,?_⟩
    ·
     simp only [Ex.bd,if_neg h2,if_neg h1]
     rw [b2]
    ·
     unfold Ex.may
     rw [if_neg h1,if_neg h2]
     simp only [Bool.and_eq_true,decide_eq_true_eq]
     exact ⟨hm1,by rw [b4]; exact hm2,hm3,b3⟩
theorem Ex.full_bdL {ns : List (List Nat)} {ts : List Tbl} (hn : ns.length = ts.length) (h4 : ts.length ≤ 4) : ∀ l : List Ex,Ex.mayL l = true → (Ex.bdL ns ts l 0).2.2 = 0 → (Ex.fullL (ns.zip ts) l).2 = true ∧ Ex.bdL (zzs 0 ts.length) ts (Ex.fullL (ns.zip ts) l).1 0 = Ex.bdL ns ts l 0 ∧ Ex.mayL (Ex.fullL (ns.zip ts) l).1 = true ∧ (Ex.fullL (ns.zip ts) l).1.length = l.length
 | [],_,_ => by simp [Ex.fullL,Ex.bdL,Ex.mayL]
 | e :: r,hm,h => by
  simp only [Ex.mayL,Bool.and_eq_true] at hm
  have h0 : (e.bd ns ts 0).2.2 = 0:=Ex.bdL_e0 ns ts r _ h
  obtain ⟨a1,a2,a3⟩:=Ex.full_bd hn h4 e hm.1 h0
  simp only [Ex.bdL,h0] at h
  obtain ⟨b1,b2,b3,b4⟩:=Ex.full_bdL hn h4 r hm.2 h
  simp only [Ex.fullL,Ex.bdL,Ex.mayL,a1,a2,a3,b1,b3,h0,b2,List.length_cons,b4]
  simp
end
def Ex.z : Ex:=.mk 0 ⟨0,0,[]⟩ [] [] 0 []
noncomputable def renA (s : Sch) (q : Qry) (k : Nat) : Src:=⟨(srcAt q.srcs k).table,zz k,if k = 0 then Ex.z else ((srcAt q.srcs k).cond.full ((q.srcs.map s.so).take (k + 1))).1⟩
noncomputable def renS (s : Sch) (q : Qry) (i : Nat) : List Src:=(List.range i).map (renA s q)
noncomputable def Itm.ren (l : List (List Nat × Tbl)) (x : Itm) : Itm:=⟨(x.e.full l).1,[97]⟩
noncomputable def Qry.ren (s : Sch) (q : Qry) : Qry:={ dist:=q.dist,star:=q.star,items:=q.items.map (Itm.ren (q.srcs.map s.so)),srcs:=renS s q q.srcs.length,cond:=if q.cond.op = 0 then Ex.z else (q.cond.full (q.srcs.map s.so)).1,order:=[],limited:=q.limited,limit:=q.limit }
theorem renS_nm (s : Sch) (q : Qry) (i : Nat) : (renS s q i).map Src.nm = zzs 0 i:=by
 unfold renS zzs
 rw [List.map_map,← List.range_eq_range']
 exact List.map_congr_left fun k _ => by simp [renA,Src.nm,zz]
theorem renS_tb (s : Sch) (q : Qry) : (renS s q q.srcs.length).map s.tb = q.srcs.map s.tb:=by
 unfold renS
 rw [List.map_map]
 refine List.ext_getElem (by simp) fun i h1 h2 => ?_
 simp at h2
 simp [renA,Sch.tb,srcAt_lt h2]
theorem renS_len (s : Sch) (q : Qry) (i : Nat) : (renS s q i).length = i:=by simp [renS]
theorem renS_at (s : Sch) (q : Qry) {i k : Nat} (h : k < i) : srcAt (renS s q i) k = renA s q k:=by
 rw [srcAt_lt (by simpa [renS] using h)]; simp [renS]
theorem zzs_take (i n : Nat) (h : i ≤ n) : (zzs 0 n).take i = zzs 0 i:=by
 unfold zzs
 rw [← List.map_take,← List.range_eq_range',← List.range_eq_range',List.take_range,Nat.min_eq_left h]
theorem sz_op {e : Ex} (h : e.may = true) : e.op ≠ 0:=by
 obtain ⟨op,v,t,m,col,args⟩:=e
 rintro rfl
 unfold Ex.may at h
 simp at h
theorem may_bare {e : Ex} (h : e.may = true) : ¬ e.bare 0:=by
 intro hb
 obtain ⟨op,v,t,m,col,args⟩:=e
 obtain ⟨rfl,_⟩:=hb
 exact sz_op h rfl
theorem bare_z : Ex.z.bare 0:=⟨rfl,⟨rfl,rfl,rfl⟩,rfl,rfl,rfl,rfl⟩
theorem bare_eq {e : Ex} (h : e.bare 0) : e = Ex.z:=by
 obtain ⟨op,⟨k,a,s⟩,t,m,col,args⟩:=e
 obtain ⟨rfl,⟨h1,h2,h3⟩,rfl,rfl,rfl,rfl⟩:=h
 simp at h1 h2 h3
 subst h1 h2 h3
 rfl
theorem condB_e0 {ns : List (List Nat)} {ts : List Tbl} {e : Ex} {err : Int} (h : (condB ns ts e err).2 = 0) : err = 0:=by
 unfold condB at h
 split at h
 · exact h
 · exact Ex.bd_e0 ns ts e err (keep_ne (by decide) h).1
theorem condB_new {ns : List (List Nat)} {ts : List Tbl} (hn : ns.length = ts.length) (h4 : ts.length ≤ 4) {e : Ex} (hm : e.may = true) (h : (condB ns ts e 0).2 = 0) : (e.full (ns.zip ts)).2 = true ∧ condB (zzs 0 ts.length) ts (e.full (ns.zip ts)).1 0 = condB ns ts e 0 ∧ (e.full (ns.zip ts)).1.may = true:=by
 unfold condB at h ⊢
 rw [if_neg (may_bare hm)] at h ⊢
 obtain ⟨a1,a2,a3⟩:=Ex.full_bd hn h4 e hm (keep_ne (by decide) h).1
 refine ⟨a1,?_,a3⟩
 rw [if_neg (may_bare a3),a2]
theorem itR_e0 {ns : List (List Nat)} {ts : List Tbl} : ∀ (l : List Itm) (err : Int),(itR ns ts l err).2.2 = 0 → err = 0
 | [],_err,h => h
 | x :: r,err,h => Ex.bd_e0 ns ts x.e err (itR_e0 r _ h)
theorem itR_new {ns : List (List Nat)} {ts : List Tbl} (hn : ns.length = ts.length) (h4 : ts.length ≤ 4) : ∀ (l : List Itm),(∀ x ∈ l,x.e.may = true) → (itR ns ts l 0).2.2 = 0 → (∀ x ∈ l,(x.e.full (ns.zip ts)).2 = true ∧ (x.e.full (ns.zip ts)).1.may = true) ∧ itR (zzs 0 ts.length) ts (l.map (Itm.ren (ns.zip ts))) 0 = itR ns ts l 0
 | [],_,_ => by simp [itR]
 | x :: r,hm,h => by
  have h0 : (x.e.bd ns ts 0).2.2 = 0:=itR_e0 r _ h
  obtain ⟨a1,a2,a3⟩:=Ex.full_bd hn h4 x.e (hm x (by simp)) h0
  simp only [itR,h0] at h
  obtain ⟨b1,b2⟩:=itR_new hn h4 r (fun y hy => hm y (by simp [hy])) h
  refine ⟨fun y hy => ?_,?_⟩
  ·
   rcases List.mem_cons.1 hy with rfl | hy
   · exact ⟨a1,a3⟩
   · exact b1 y hy
  ·
   simp only [List.map_cons,itR,Itm.ren,a2,h0]
   have b2' : itR (zzs 0 ts.length) ts (List.map (fun x => (⟨(x.e.full (ns.zip ts)).1,[97]⟩ : Itm)) r) 0 = itR ns ts r 0:=b2
   rw [show List.map (Itm.ren (ns.zip ts)) r = List.map (fun x => (⟨(x.e.full (ns.zip ts)).1,[97]⟩ : Itm)) r from rfl,b2']
structure QmF (q : Qry) : Prop where
 s4 : q.srcs.length ≤ 4
 st : ∀ i (_ : i < q.srcs.length),NamedOk (srcAt q.srcs i).table
 s0 : 0 < q.srcs.length → (srcAt q.srcs 0).cond.bare 0
 s1 : ∀ i,0 < i → i < q.srcs.length → (srcAt q.srcs i).cond.may = true
 it : ∀ x ∈ q.items,x.e.may = true
 il : if q.star then q.items.length = 0 else 1 ≤ q.items.length ∧ q.items.length ≤ 16
 c : q.cond.bare 0 ∨ q.cond.may = true
 l0 : 0 ≤ q.limit
 l1 : q.limited = true ∨ q.limit = 0
theorem QmF.of {q : Qry} (h : q.may = true) : QmF q:=by
 unfold Qry.may at h
 simp only [Bool.and_eq_true,decide_eq_true_eq,List.all_eq_true,Bool.or_eq_true] at h
 obtain ⟨⟨⟨⟨⟨⟨⟨⟨h1,h2⟩,h3⟩,h4⟩,h5⟩,h6⟩,h7⟩,h8⟩,h9⟩:=h
 have hs : ∀ i (hi : i < q.srcs.length),(q.srcs[i]).ok (decide (i = 0)) = true:=by
  cases hq : q.srcs with
  | nil => intro i hi; simp at hi
  | cons x r =>
   rw [hq] at h8
   simp only [srcsOk,Bool.and_eq_true,List.all_eq_true] at h8
   intro i hi
   cases i with
   | zero => simpa using h8.1
   | succ i => simpa using h8.2 _ (List.getElem_mem (by simpa using hi))
 refine ⟨h2,fun i hi => ?_,fun h0 => ?_,fun i h0 hi => ?_,fun x hx => ?_,?_,?_,h4,h5⟩
 ·
  have:=hs i hi
  rw [srcAt_lt hi]
  simp only [Src.ok,Bool.and_eq_true,decide_eq_true_eq] at this
  exact this.1
 ·
  have:=hs 0 h0
  rw [srcAt_lt h0]
  simp only [Src.ok,Bool.and_eq_true,decide_eq_true_eq,decide_true,if_true] at this
  exact this.2.2
 ·
  have:=hs i hi
  rw [srcAt_lt hi]
  simp only [Src.ok,Bool.and_eq_true,decide_eq_true_eq,show ¬ i = 0 by omega,if_false] at this
  exact this.2.2
 ·
  have:=h7 x hx
  simp only [Itm.ok,Bool.and_eq_true] at this
  exact this.1
 ·
  split at h6
  · rename_i hs; rw [if_pos hs]; exact of_decide_eq_true h6
  · rename_i hs; rw [if_neg hs]; exact of_decide_eq_true h6
 · simpa [Ex.maybe] using h1
theorem so_zip (s : Sch) (q : Qry) : q.srcs.map s.so = (q.srcs.map Src.nm).zip (q.srcs.map s.tb):=by
 rw [List.zip_map']; rfl
theorem onR_new (s : Sch) {q : Qry} (Q : QmF q) : ∀ i,i ≤ q.srcs.length → (onR (q.srcs.map Src.nm) (q.srcs.map s.tb) q.srcs i 0).2 = 0 →
  (∀ k,0 < k → k < i → ((srcAt q.srcs k).cond.full ((q.srcs.map s.so).take (k + 1))).2 = true ∧ ((srcAt q.srcs k).cond.full ((q.srcs.map s.so).take (k + 1))).1.may = true) ∧
  onR (zzs 0 q.srcs.length) (q.srcs.map s.tb) (renS s q q.srcs.length) i 0 = onR (q.srcs.map Src.nm) (q.srcs.map s.tb) q.srcs i 0
 | 0,_,_ => ⟨fun k h1 h2 => by omega,rfl⟩
 | i + 1,hi,h => by
  have h0:=condB_e0 h
  obtain ⟨a1,a2⟩:=onR_new s Q i (by omega) h0
  simp only [onR] at h ⊢
  rw [h0] at h ⊢
  rw [a2,h0,renS_at s q (by omega),zzs_take _ _ (by omega)]
  by_cases hz : i = 0
  ·
   subst hz
   refine ⟨fun k h1 h2 => by omega,?_⟩
   have hb:=Q.s0 (by omega)
   have hb2 : (renA s q 0).cond = (srcAt q.srcs 0).cond:=by rw [bare_eq hb]; simp [renA]
   rw [hb2]
   simp [condB,hb]
  ·
   have hm:=Q.s1 i (by omega) (by omega)
   have hc:=condB_new (ns:=(q.srcs.map Src.nm).take (i + 1)) (ts:=(q.srcs.map s.tb).take (i + 1)) (by simp) (by have:=Q.s4; simp; omega) hm h
   rw [show ((q.srcs.map Src.nm).take (i + 1)).zip ((q.srcs.map s.tb).take (i + 1)) = (q.srcs.map s.so).take (i + 1) by rw [so_zip]; unfold List.zip; rw [List.take_zipWith]] at hc
   have hl : ((q.srcs.map s.tb).take (i + 1)).length = i + 1:=by simp; omega
   rw [hl] at hc
   obtain ⟨c1,c2,c3⟩:=hc
   refine ⟨fun k h1 h2 => ?_,?_⟩
   ·
    by_cases hk : k = i
    · subst hk; exact ⟨c1,c3⟩
    · exact a1 k h1 (by omega)
   ·
    have hr : (renA s q i).cond = ((srcAt q.srcs i).cond.full ((q.srcs.map s.so).take (i + 1))).1:=by simp [renA,hz]
    rw [hr,c2]
theorem srcE_zz (s : Sch) (q : Qry) (h : srcE s q.srcs q.srcs.length 0 = 0) : ∀ i,i ≤ q.srcs.length → srcE s (renS s q q.srcs.length) i 0 = 0
 | 0,_ => rfl
 | i + 1,hi => by
  have h1 : srcE s q.srcs (i + 1) 0 = 0:=by
   refine Classical.byContradiction fun hne => hne ?_
   have:=srcE_on s q.srcs 0 (q.srcs.length - (i + 1)) (i + 1) hne
   rw [show i + 1 + (q.srcs.length - (i + 1)) = q.srcs.length by omega,h] at this
   exact this.symm
  rw [srcE] at h1
  have h2:=(keep_ne (by decide) h1).1
  have h3:=(keep_ne (by decide) h2).2
  rw [srcE,srcE_zz s q h i (by omega),renS_at s q (by omega)]
  have h4 : (renA s q i).table = (srcAt q.srcs i).table:=rfl
  have h5 : (renA s q i).nm = zz i:=by simp [renA,Src.nm,zz]
  rw [h4,h3,List.map_take,renS_nm,zzs_take _ _ (by omega),h5]
  have h6 : zz i ∉ zzs 0 i:=by
   unfold zzs
   rw [List.mem_map]
   rintro ⟨k,hk,e⟩
   have:=zz_inj e
   rw [List.mem_range'_1] at hk
   omega
  simp [keep,h6]
structure RenOk (s : Sch) (q : Qry) : Prop where
 src : srcE s q.srcs q.srcs.length 0 = 0
 on : ∀ k,0 < k → k < q.srcs.length → ((srcAt q.srcs k).cond.full ((q.srcs.map s.so).take (k + 1))).2 = true
 it : ∀ x ∈ q.items,(x.e.full (q.srcs.map s.so)).2 = true
 c : q.cond.op ≠ 0 → (q.cond.full (q.srcs.map s.so)).2 = true
 may : (q.ren s).may = true
 err : (queryB s (q.ren s) 8 0).2 = 0
 nm : (queryB s q 8 0).1.names.length = (queryB s (q.ren s) 8 0).1.names.length
 eq : { (queryB s (q.ren s) 8 0).1 with names:=(queryB s q 8 0).1.names } = (queryB s q 8 0).1
theorem queryB_eq {s : Sch} {q : Qry} {ns : List (List Nat)} {ts : List Tbl} {O : List (List Ex) × Int} {I : List Ex × List (List Nat) × List Int × Int} {C : List Ex × Int} (h0 : srcE s q.srcs q.srcs.length 0 = 0) (ho : q.order = []) (hns : q.srcs.map Src.nm = ns) (hts : q.srcs.map s.tb = ts) (hO : onR ns ts q.srcs q.srcs.length 0 = O) (hI : itemsB ns ts q O.2 = I) (hC : condB ns ts q.cond I.2.2.2 = C) :
  queryB s q 8 0 = ({ kind:=8,frm:=ts,on:=O.1,items:=I.1,names:=I.2.1,kinds:=I.2.2.1,cond:=C.1,order:=[],dist:=q.dist,limited:=q.limited,limit:=q.limit },C.2):=by
 subst hns hts hO hI hC
 unfold queryB
 rw [if_neg (by simpa using h0),ho]
 rfl
theorem named_a : NamedOk [97]:=by
 refine ⟨⟨by simp,by simp,fun j hj => ?_⟩,by simp [kws]⟩
 simp at hj
 subst hj
 simp [chr0]
theorem ren_ok (s : Sch) (q : Qry) (hm : q.may = true) (ho : q.order = []) (h : (queryB s q 8 0).2 = 0) : RenOk s q:=by
 have Q:=QmF.of hm
 have h4:=Q.s4
 have h0 : srcE s q.srcs q.srcs.length 0 = 0:=by
  unfold queryB at h
  split at h
  · rename_i hne; exact absurd h hne
  · rename_i hne; exact Classical.not_not.1 hne
 have hz:=srcE_zz s q h0 q.srcs.length (Nat.le_refl _)
 have hlen : (q.ren s).srcs.length = q.srcs.length:=renS_len s q _
 have hz' : srcE s (q.ren s).srcs (q.ren s).srcs.length 0 = 0:=by rw [hlen]; exact hz
 have e1 : (q.ren s).srcs.map Src.nm = zzs 0 q.srcs.length:=renS_nm s q _
 have e2 : (q.ren s).srcs.map s.tb = q.srcs.map s.tb:=renS_tb s q
 have hon:=onR_new s Q q.srcs.length (Nat.le_refl _)
 have hso:=so_zip s q
 generalize hns : q.srcs.map Src.nm = ns at *
 generalize hts : q.srcs.map s.tb = ts at *
 have hn : ns.length = ts.length:=by rw [← hns,← hts]; simp
 have htl : ts.length = q.srcs.length:=by rw [← hts]; simp
 generalize hO : onR ns ts q.srcs q.srcs.length 0 = O at *
 generalize hI : itemsB ns ts q O.2 = I at *
 generalize hC : condB ns ts q.cond I.2.2.2 = C at *
 have hq:=queryB_eq h0 ho hns hts hO hI hC
 rw [hq] at h
 simp only at h
 have hI0 : I.2.2.2 = 0:=by rw [← hC] at h; exact condB_e0 h
 have hI1 : O.2 = 0 ∧ (∀ x ∈ q.items,(x.e.full (ns.zip ts)).2 = true ∧ (x.e.full (ns.zip ts)).1.may = true) ∧ itemsB (zzs 0 q.srcs.length) ts (q.ren s) O.2 = (I.1,(if q.star = true then namesT ts else []) ++ (q.ren s).items.map Itm.nm,I.2.2.1,I.2.2.2) ∧ I.2.1 = (if q.star = true then namesT ts else []) ++ q.items.map Itm.nm:=by
  unfold itemsB at hI ⊢
  have hit : (q.ren s).items = q.items.map (Itm.ren (ns.zip ts)):=by rw [← hso]; rfl
  have hst : (q.ren s).star = q.star:=rfl
  rw [hst,hit]
  split at hI
  ·
   rename_i hs
   have hi0 : q.items = []:=by have:=Q.il; rw [if_pos hs] at this; exact List.length_eq_zero_iff.1 this
   rw [hi0] at hI ⊢
   subst hI
   simp only [itR] at hI0
   have k1:=keep_ne (by decide) hI0
   have k2:=keep_ne (by decide) k1.1
   refine ⟨k2.1,by simp,?_,by simp [hs]⟩
   simp [hs,itR]
  ·
   rename_i hs
   subst hI
   simp only at hI0
   have k0:=itR_e0 _ _ hI0
   rw [k0] at hI0 ⊢
   obtain ⟨b1,b2⟩:=itR_new hn (by omega) q.items Q.it hI0
   rw [htl] at b2
   refine ⟨rfl,b1,?_,by simp [hs]⟩
   simp [hs,b2]
 obtain ⟨hO0,hit1,hit2,hit3⟩:=hI1
 obtain ⟨hon1,hon2⟩:=hon hO0
 have hO' : onR (zzs 0 q.srcs.length) ts (q.ren s).srcs (q.ren s).srcs.length 0 = O:=by rw [hlen]; exact hon2
 have hc1 : (q.cond.op ≠ 0 → (q.cond.full (ns.zip ts)).2 = true) ∧ (q.ren s).cond.maybe = true ∧ condB (zzs 0 q.srcs.length) ts (q.ren s).cond I.2.2.2 = C:=by
  rcases Q.c with hb | hmc
  ·
   have hz:=bare_eq hb
   have hrc : (q.ren s).cond = Ex.z:=by simp [Qry.ren,hz,Ex.z,Ex.op]
   rw [hrc]
   refine ⟨fun h => absurd (by rw [hz]; rfl) h,by simp [Ex.maybe,bare_z],?_⟩
   rw [← hC]
   simp [condB,bare_z,hb]
  ·
   have hop:=sz_op hmc
   have hrc : (q.ren s).cond = (q.cond.full (ns.zip ts)).1:=by rw [← hso]; simp [Qry.ren,hop]
   rw [hI0] at hC ⊢
   obtain ⟨c1,c2,c3⟩:=condB_new hn (by omega) hmc (by rw [hC]; exact h)
   rw [htl] at c2
   rw [hrc]
   exact ⟨fun _ => c1,by simp [Ex.maybe,c3],c2.trans hC⟩
 obtain ⟨hc1,hc2,hc3⟩:=hc1
 have hq':=queryB_eq hz' rfl e1 e2 hO' hit2 hc3
 refine ⟨h0,fun k h1 h2 => (hon1 k h1 h2).1,fun x hx => by rw [hso]; exact (hit1 x hx).1,fun h => by rw [hso]; exact hc1 h,?_,by rw [hq']; exact h,?_,?_⟩
 ·
  have hit : (q.ren s).items = q.items.map (Itm.ren (ns.zip ts)):=by rw [← hso]; rfl
  have hsrc : srcsOk (q.ren s).srcs = true:=by
   have hk : ∀ k (hk : k < q.srcs.length),(renA s q k).ok (decide (k = 0)) = true:=by
    intro k hk
    have h1 : NamedOk (renA s q k).table:=Q.st k hk
    have h2 : NamedOk (renA s q k).name:=zz_named (by omega)
    simp only [Src.ok,h1,h2,decide_true,Bool.true_and,or_true]
    by_cases hz : k = 0
    · simp [hz,renA,bare_z]
    ·
     simp only [hz,decide_false,Bool.false_eq_true,if_false]
     simp only [renA,hz,if_false]
     exact (hon1 k (by omega) hk).2
   have hrs : (q.ren s).srcs = (List.range q.srcs.length).map (renA s q):=rfl
   rw [hrs]
   generalize q.srcs.length = n at hk ⊢
   cases n with
   | zero => rfl
   | succ n =>
    rw [List.range_succ_eq_map,List.map_cons,srcsOk,Bool.and_eq_true,List.all_eq_true]
    refine ⟨by simpa using hk 0 (by omega),fun x hx => ?_⟩
    simp only [List.map_map,List.mem_map,List.mem_range] at hx
    obtain ⟨k,h1,rfl⟩:=hx
    simpa using hk (k + 1) (by omega)
  unfold Qry.may
  simp only [Bool.and_eq_true,decide_eq_true_eq,List.all_eq_true,Bool.or_eq_true]
  refine ⟨⟨⟨⟨⟨⟨⟨⟨hc2,by rw [hlen]; exact h4⟩,by simp [Qry.ren]⟩,Q.l0⟩,Q.l1⟩,?_⟩,?_⟩,hsrc⟩,by simp [Qry.ren]⟩
  ·
   have hil:=Q.il
   have hst : (q.ren s).star = q.star:=rfl
   rw [hst,hit,List.length_map]
   split at hil
   · rename_i hs; rw [if_pos hs]; exact decide_eq_true hil
   · rename_i hs; rw [if_neg hs]; exact decide_eq_true hil
  ·
   rw [hit]
   intro x hx
   obtain ⟨y,hy,rfl⟩:=List.mem_map.1 hx
   simp only [Itm.ok,Itm.ren,(hit1 y hy).2,Bool.true_and]
   exact decide_eq_true (.inr named_a)
 ·
  rw [hq,hq',hit3]
  simp [Qry.ren]
 ·
  rw [hq,hq']
  rfl
theorem Qry.g1 (q : Qry) : q.cells[1]? = some (.bool q.star):=by simp [Qry.cells]
theorem Qry.g2 (q : Qry) : q.cells[2]? = some (eItm.ds q.items):=by simp [Qry.cells]
theorem Qry.g3 (q : Qry) : q.cells[3]? = some (eSrc.ds q.srcs):=by simp [Qry.cells]
theorem Qry.g12 (q : Qry) : q.cells[12]? = some (eOrd.ds q.order):=by
 simp only [Qry.cells]; rw [List.getElem?_append_right (by simp)]; simp
theorem Qry.g13 (q : Qry) : q.cells[13]? = some (.bool q.limited):=by
 simp only [Qry.cells]; rw [List.getElem?_append_right (by simp)]; simp
theorem Qry.g14 (q : Qry) : q.cells[14]? = some (.int .i64 q.limit):=by
 simp only [Qry.cells]; rw [List.getElem?_append_right (by simp)]; simp
noncomputable def Qry.may0 (q : Qry) : Bool:=q.cond.maybe && decide (q.srcs.length ≤ 4) && decide (q.order.length ≤ 16) && decide (0 ≤ q.limit) && (q.limited || decide (q.limit = 0))
noncomputable def Qry.may1 (q : Qry) : Bool:=if q.star then decide (q.items.length = 0) else decide (1 ≤ q.items.length ∧ q.items.length ≤ 16)
theorem query55h (q : Qry) (hc : q.cond.sz ≤ lim) (F : Fr) (K : Hp) (n : Nat) (Q : QA) (h1 : F.get 1 = some (.ptr 0 0)) (k0 : K.get 0 = some (.cells 15 [] q.cells .nil))
  (hQ : ∀ F' b,F'.get 1 = some (.ptr 0 0) → F'.get 3 = some (.bool b) → b = q.may0 → Q .normal F' K n []) : VC Try.prog R55_1 F K n [] Q:=by
 have hm:=maybe54 q.cond hc
 have hav : q.cond.av = .agg q.cond.cells 8:=Eq.trans rfl rfl
 rw [hav] at hm
 have e4 : (q.cells.drop 4).take 8 = q.cond.cells:=by
  simp only [Qry.cells,List.cons_append,List.nil_append,List.drop_succ_cons,List.drop_zero]
  rw [List.take_append_of_le_length (by simp)]; simp
 have g3:=q.g3
 have g12:=q.g12
 have g13:=q.g13
 have g14:=q.g14
 have hl:=q.cells_len
 generalize q.cells = cs at *
 simp [R55_1,h1,k0,hl,e4]
 refine CalV.pure hm ?_
 cases hcm : q.cond.maybe with
 | false =>
  simp
  refine hQ _ false ?_ ?_ ?_
  · simp [h1]
  · simp
  · simp [Qry.may0,hcm]
 | true =>
  by_cases h4 : (q.srcs.length : Int) ≤ 4
  ·
   have h4' : q.srcs.length ≤ 4:=by omega
   by_cases h16 : (q.order.length : Int) ≤ 16
   ·
    have h16' : q.order.length ≤ 16:=by omega
    by_cases hl0 : 0 ≤ q.limit
    ·
     cases hlm : q.limited with
     | true =>
      simp [h1,k0,g3,g12,g13,g14,Enc.len_ds,h4,h16,hl0,hlm]
      refine hQ _ true ?_ ?_ ?_
      · simp [h1]
      · simp
      · simp [Qry.may0,hcm,h4',h16',hl0,hlm]
     | false =>
      simp [h1,k0,g3,g12,g13,g14,Enc.len_ds,h4,h16,hl0,hlm]
      refine hQ _ (decide (q.limit = 0)) ?_ ?_ ?_
      · simp [h1]
      · simp
      · simp [Qry.may0,hcm,h4',h16',hl0,hlm]
    ·
     simp [h1,k0,g3,g12,g14,Enc.len_ds,h4,h16,hl0]
     refine hQ _ false ?_ ?_ ?_
     · simp [h1]
     · simp
     · simp [Qry.may0,hl0]
   ·
    simp [h1,k0,g3,g12,Enc.len_ds,h4,h16]
    refine hQ _ false ?_ ?_ ?_
    · simp [h1]
    · simp
    ·
     have h16' : ¬ q.order.length ≤ 16:=by omega
     simp [Qry.may0,h16']
  ·
   simp [h1,k0,g3,Enc.len_ds,h4]
   refine hQ _ false ?_ ?_ ?_
   · simp [h1]
   · simp
   ·
    have h4' : ¬ q.srcs.length ≤ 4:=by omega
    simp [Qry.may0,h4']
theorem query55i (q : Qry) (b : Bool) (F : Fr) (K : Hp) (n : Nat) (Q : QA) (h1 : F.get 1 = some (.ptr 0 0)) (h3 : F.get 3 = some (.bool b)) (k0 : K.get 0 = some (.cells 15 [] q.cells .nil))
  (hQ : ∀ F' c,F'.get 1 = some (.ptr 0 0) → F'.get 3 = some (.bool c) → c = (b && q.may1) → Q .normal F' K n []) : VC Try.prog R55_2 F K n [] (SeqV Try.prog (.cond (slotG 40) R55_3 R55_4) Q):=by
 have g1:=q.g1
 have g2:=q.g2
 generalize q.cells = cs at *
 cases hst : q.star with
 | true =>
  cases b with
  | true =>
   by_cases hl : q.items.length = 0
   ·
    simp [R55_2,R55_3,h1,h3,k0,g1,g2,hst,Enc.len_ds,hl]
    exact hQ _ true (by simp [h1]) (by simp) (by simp [Qry.may1,hst,hl])
   ·
    simp [R55_2,R55_3,h1,h3,k0,g1,g2,hst,Enc.len_ds,hl]
    have hl' : ¬ q.items = []:=by simpa using hl
    first
    | exact hQ _ false (by simp [h1]) (by simp) (by simp [Qry.may1,hst,hl])
    | (simp [hl']; exact hQ _ false (by simp [h1]) (by simp) (by simp [Qry.may1,hst,hl]))
  | false =>
   simp [R55_2,R55_3,h1,h3,k0,g1,hst]
   exact hQ _ false (by simp [h1]) (by simp) (by simp)
 | false =>
  cases b with
  | true =>
   simp [R55_2,R55_4,h1,h3,k0,g1,g2,hst,Enc.len_ds]
   refine CalV.pure (upTo52 (q.items.length : Int) 16) ?_
   simp
   refine hQ _ (decide ((1 : Int) ≤ (q.items.length : Int)) && decide ((q.items.length : Int) ≤ 16)) ?_ ?_ ?_
   · simp [h1]
   · simp
   ·
    simp [Qry.may1,hst]
    congr 1
    · simp; omega
    · simp; omega
  | false =>
   simp [R55_2,R55_4,h1,h3,k0,g1,hst]
   exact hQ _ false (by simp [h1]) (by simp) (by simp)
theorem query55 (q : Qry) (hc : q.cond.sz ≤ lim) (ho : q.order.length ≤ lim) (hs : q.srcs.length ≤ lim) (hi : q.items.length ≤ lim) (hz1 : ∀ x ∈ q.items,x.e.sz ≤ lim) (hz2 : ∀ x ∈ q.srcs,x.cond.sz ≤ lim) : FnPure Try.prog 55 [.agg q.cells 15] (.bool q.may):=by
 refine pureV c55 (by simp [Qry.pure]) (by simp) (by simp [A55]) fun F hF => ?_
 simp [A55,B55,R55_0,hF]
 have k0 : (Tr.nil.put 0 (some (ABlk.cells 15 [] q.cells Ov.nil)) : Hp).get 0 = some (.cells 15 [] q.cells .nil):=by simp
 refine query55h q hc _ _ _ _ ?_ k0 fun F' b g1 g3 hb => ?_
 · simp
 simp only [seqV_normal,vc_seq]
 refine query55i q b F' _ _ _ g1 g3 k0 fun F2 c g1 g3 hc => ?_
 have:=query55d q ho hs hi hz1 hz2 c F2 _ 1 g1 g3 k0 (by omega)
 have hm : q.may = ((((c && q.items.all Itm.ok) && srcsOk q.srcs) && q.order.all Ord.ok)):=by rw [hc,hb]; rfl
 rw [hm]
 simp only [seqV_normal,vc_seq]
 simp only [vc_seq] at this
 exact this
theorem Ex.c0 (e : Ex) : e.cells[0]? = some (.int .i64 e.op):=by
 obtain ⟨op,v,t,m,col,args⟩:=e; simp [Ex.cells,Ex.op]
theorem Stm.g0 (x : Stm) : x.cells[0]? = some (.int .i64 x.kind):=by simp [Stm.cells]
theorem Stm.g1 (x : Stm) : x.cells[1]? = some (.str x.table):=by simp [Stm.cells]
theorem Stm.g2 (x : Stm) : x.cells[2]? = some (.str x.name):=by simp [Stm.cells]
theorem Stm.g3 (x : Stm) : x.cells[3]? = some (eCol.ds x.cols):=by simp [Stm.cells]
theorem Stm.g4 (x : Stm) : x.cells[4]? = some (eStr.ds x.on):=by simp [Stm.cells]
theorem Stm.g5 (x : Stm) : x.cells[5]? = some (.bool x.uniq):=by simp [Stm.cells]
theorem Stm.g6 (x : Stm) : x.cells[6]? = some (eRow.ds x.rows):=by simp [Stm.cells]
theorem Stm.g7 (x : Stm) : x.cells[7]? = some (eSet.ds x.sets):=by simp [Stm.cells]
theorem Stm.g8 (x : Stm) : x.cells[8]? = some (.int .i64 x.cond.op):=by
 obtain ⟨_,_,_,_,_,_,_,_,⟨op,v,t,m,col,args⟩,_⟩:=x; simp [Stm.cells,Ex.cells,Ex.op]
theorem Qry.g0 (q : Qry) : q.cells[0]? = some (.bool q.dist):=by simp [Qry.cells]
theorem Qry.g4 (q : Qry) : q.cells[4]? = some (.int .i64 q.cond.op):=by
 obtain ⟨_,_,_,_,⟨op,v,t,m,col,args⟩,_⟩:=q; simp [Qry.cells,Ex.cells,Ex.op]
theorem Stm.tq (x : Stm) : (x.cells.drop 16).take 15 = x.q.cells:=by rw [Stm.cq,List.take_of_length_le (by simp)]
noncomputable def condR (a b : Ex) : Bool:=decide (a.op = b.op) && (decide (b.op ≠ 0) || decide (a.bare 0))
noncomputable def restB (x t : Stm) : Bool:=decide (x.table = t.table) && (decide (x.name = t.name) && (decide (x.cols.length = t.cols.length) && (decide (x.on.length = t.on.length) && ((x.uniq == t.uniq) && (decide (x.rows.length = t.rows.length) && (decide (x.sets.length = t.sets.length) && (condR x.cond t.cond &&
 ((x.q.dist == t.q.dist) && ((x.q.star == t.q.star) && (decide (x.q.items.length = t.q.items.length) && (decide (x.q.srcs.length = t.q.srcs.length) && (condR x.q.cond t.q.cond && (decide (x.q.order.length = t.q.order.length) && ((x.q.limited == t.q.limited) && decide (x.q.limit = t.q.limit)))))))))))))))
set_option maxHeartbeats 4000000 in
theorem rest56 (x t : Stm) : FnPure Try.prog 56 [.agg x.cells 31,.agg t.cells 31] (.bool (restB x t)):=by
 refine pureV c56 (by simp) (by simp) (by simp [A56]) fun F hF => ?_
 have la:=lacks91 x.cond
 have lb:=lacks91 x.q.cond
 have ax : allOne x.q.cells = true:=by simp [Qry.cells]
 have at' : allOne t.q.cells = true:=by simp [Qry.cells]
 have hav : x.cond.av = .agg x.cond.cells 8:=Eq.trans rfl rfl
 have hbv : x.q.cond.av = .agg x.q.cond.cells 8:=Eq.trans rfl rfl
 rw [hav] at la
 rw [hbv] at lb
 have x1:=x.g1
 have x2:=x.g2
 have x3:=x.g3
 have x4:=x.g4
 have x5:=x.g5
 have x6:=x.g6
 have x7:=x.g7
 have x8:=x.g8
 have xc:=x.cc
 have xq:=x.tq
 have xl:=x.cells_len
 have t1:=t.g1
 have t2:=t.g2
 have t3:=t.g3
 have t4:=t.g4
 have t5:=t.g5
 have t6:=t.g6
 have t7:=t.g7
 have t8:=t.g8
 have tq:=t.tq
 have tl:=t.cells_len
 have y0:=x.q.g0
 have y1:=x.q.g1
 have y2:=x.q.g2
 have y3:=x.q.g3
 have y4:=x.q.g4
 have y12:=x.q.g12
 have y13:=x.q.g13
 have y14:=x.q.g14
 have yc:=x.q.cc
 have yl:=x.q.cells_len
 have z0:=t.q.g0
 have z1:=t.q.g1
 have z2:=t.q.g2
 have z3:=t.q.g3
 have z4:=t.q.g4
 have z12:=t.q.g12
 have z13:=t.q.g13
 have z14:=t.q.g14
 have zl:=t.q.cells_len
 generalize hr : restB x t = R
 unfold restB condR at hr
 generalize x.cells = xs at *
 generalize t.cells = ts at *
 generalize x.q.cells = xqs at *
 generalize t.q.cells = tqs at *
 simp [A56,B56,R56_0,hF]
 simp only [R56_1,vc_drw]
 refine DrwV.of (ce0_ok (P:=Try.prog)) ?_
 simp [clearF_get,xl,tl,xq,tq,yl,zl,noneAt_cons,noneAt_nil,ax,at']
 generalize hK : (Tr.put (Tr.put _ 2 _) 3 _ : Hp) = K
 have k0 : K.get 0 = some (.cells 31 [] xs .nil):=by rw [← hK]; simp
 have k1 : K.get 1 = some (.cells 31 [] ts .nil):=by rw [← hK]; simp
 have k2 : K.get 2 = some (.cells 15 [] xqs .nil):=by rw [← hK]; simp
 have k3 : K.get 3 = some (.cells 15 [] tqs .nil):=by rw [← hK]; simp
 clear hK
 generalize hF0 : (Fp 10 _ _ : Fr) = F0
 have f2 : F0.get 2 = some (.ptr 0 0):=by rw [← hF0]; simp [clearF_get]
 have f3 : F0.get 3 = some (.ptr 1 0):=by rw [← hF0]; simp [clearF_get]
 have f5 : F0.get 5 = some (.ptr 2 0):=by rw [← hF0]; simp
 have f6 : F0.get 6 = some (.ptr 3 0):=by rw [← hF0]; simp
 clear hF0 hF F
 simp [R56_2,f2,f3,k0,k1,x1,t1]
 by_cases h1n : ¬ x.table = t.table
 ·
  simp [h1n]
  exact .bool (by rw [← hr]; simp [h1n])
 have h1:=Classical.not_not.1 h1n
 clear h1n
 simp [f2,f3,k0,k1,x2,t2,h1]
 by_cases h2n : ¬ x.name = t.name
 ·
  simp [h2n]
  exact .bool (by rw [← hr]; simp [h2n])
 have h2:=Classical.not_not.1 h2n
 clear h2n
 simp [f2,f3,k0,k1,x3,t3,Enc.len_ds,h2]
 by_cases h3n : ¬ x.cols.length = t.cols.length
 ·
  simp [h3n]
  exact .bool (by rw [← hr]; simp [h3n])
 have h3:=Classical.not_not.1 h3n
 clear h3n
 simp [f2,f3,k0,k1,x4,t4,Enc.len_ds,h3]
 by_cases h4n : ¬ x.on.length = t.on.length
 ·
  simp [h4n]
  exact .bool (by rw [← hr]; simp [h4n])
 have h4:=Classical.not_not.1 h4n
 clear h4n
 simp [f2,f3,k0,k1,x5,t5,h4]
 by_cases h5n : ¬ (x.uniq == t.uniq) = true
 ·
  simp [h5n]
  exact .bool (by rw [← hr]; simp [h5n])
 have h5:=Classical.not_not.1 h5n
 clear h5n
 simp [f2,f3,k0,k1,x6,t6,Enc.len_ds,h5]
 by_cases h6n : ¬ x.rows.length = t.rows.length
 ·
  simp [h6n]
  exact .bool (by rw [← hr]; simp [h6n])
 have h6:=Classical.not_not.1 h6n
 clear h6n
 simp [f2,f3,k0,k1,x7,t7,Enc.len_ds,h6]
 by_cases h7n : ¬ x.sets.length = t.sets.length
 ·
  simp [h7n]
  exact .bool (by rw [← hr]; simp [h7n])
 have h7:=Classical.not_not.1 h7n
 clear h7n
 simp [f2,f3,k0,k1,x8,t8,h7]
 by_cases h8n : ¬ x.cond.op = t.cond.op
 ·
  simp [h8n]
  exact .bool (by rw [← hr]; simp [h8n])
 have h8:=Classical.not_not.1 h8n
 clear h8n
 simp [f3,k1,t8,h8]
 by_cases w8 : t.cond.op = 0
 ·
  simp [f2,k0,xc,w8,xl]
  refine CalV.pure la ?_
  by_cases b8 : ¬ x.cond.bare 0
  ·
   simp [b8]
   exact .bool (by rw [← hr]; simp [h8,w8,b8])
  have b8':=Classical.not_not.1 b8
  clear b8
  simp [f5,f6,k2,k3,y0,z0,b8']
  by_cases h9n : ¬ (x.q.dist == t.q.dist) = true
  ·
   simp [h9n]
   exact .bool (by rw [← hr]; simp [h9n])
  have h9:=Classical.not_not.1 h9n
  clear h9n
  simp [f5,f6,k2,k3,y1,z1,h9]
  by_cases h10n : ¬ (x.q.star == t.q.star) = true
  ·
   simp [h10n]
   exact .bool (by rw [← hr]; simp [h10n])
  have h10:=Classical.not_not.1 h10n
  clear h10n
  simp [f5,f6,k2,k3,y2,z2,Enc.len_ds,h10]
  by_cases h11n : ¬ x.q.items.length = t.q.items.length
  ·
   simp [h11n]
   exact .bool (by rw [← hr]; simp [h11n])
  have h11:=Classical.not_not.1 h11n
  clear h11n
  simp [f5,f6,k2,k3,y3,z3,Enc.len_ds,h11]
  by_cases h12n : ¬ x.q.srcs.length = t.q.srcs.length
  ·
   simp [h12n]
   exact .bool (by rw [← hr]; simp [h12n])
  have h12:=Classical.not_not.1 h12n
  clear h12n
  simp [f5,f6,k2,k3,y4,z4,h12]
  by_cases h13n : ¬ x.q.cond.op = t.q.cond.op
  ·
   simp [h13n]
   exact .bool (by rw [← hr]; simp [h13n])
  have h13:=Classical.not_not.1 h13n
  clear h13n
  simp [f6,k3,z4,h13]
  by_cases w13 : t.q.cond.op = 0
  ·
   simp [f5,k2,yc,w13,yl]
   refine CalV.pure lb ?_
   by_cases b13 : ¬ x.q.cond.bare 0
   ·
    simp [b13]
    exact .bool (by rw [← hr]; simp [h13,w13,b13])
   have b13':=Classical.not_not.1 b13
   clear b13
   simp [f5,f6,k2,k3,y12,z12,Enc.len_ds,b13']
   by_cases h14n : ¬ x.q.order.length = t.q.order.length
   ·
    simp [h14n]
    exact .bool (by rw [← hr]; simp [h14n])
   have h14:=Classical.not_not.1 h14n
   clear h14n
   simp [f5,f6,k2,k3,y13,z13,h14]
   by_cases h15n : ¬ (x.q.limited == t.q.limited) = true
   ·
    simp [h15n]
    exact .bool (by rw [← hr]; simp [h15n])
   have h15:=Classical.not_not.1 h15n
   clear h15n
   simp [f5,f6,k2,k3,y14,z14,h15]
   by_cases h16n : ¬ x.q.limit = t.q.limit
   ·
    simp [h16n]
    exact .bool (by rw [← hr]; simp [h16n])
   have h16:=Classical.not_not.1 h16n
   clear h16n
   simp [h16]
   exact .bool (by rw [← hr]; simp [h1,h2,h3,h4,h5,h6,h7,h8,w8,b8',h9,h10,h11,h12,h13,w13,b13',h14,h15,h16])
  ·
   simp [f5,f6,k2,k3,y12,z12,Enc.len_ds,w13]
   by_cases h14n : ¬ x.q.order.length = t.q.order.length
   ·
    simp [h14n]
    exact .bool (by rw [← hr]; simp [h14n])
   have h14:=Classical.not_not.1 h14n
   clear h14n
   simp [f5,f6,k2,k3,y13,z13,h14]
   by_cases h15n : ¬ (x.q.limited == t.q.limited) = true
   ·
    simp [h15n]
    exact .bool (by rw [← hr]; simp [h15n])
   have h15:=Classical.not_not.1 h15n
   clear h15n
   simp [f5,f6,k2,k3,y14,z14,h15]
   by_cases h16n : ¬ x.q.limit = t.q.limit
   ·
    simp [h16n]
    exact .bool (by rw [← hr]; simp [h16n])
   have h16:=Classical.not_not.1 h16n
   clear h16n
   simp [h16]
   exact .bool (by rw [← hr]; simp [h1,h2,h3,h4,h5,h6,h7,h8,w8,b8',h9,h10,h11,h12,h13,w13,h14,h15,h16])
 ·
  simp [f5,f6,k2,k3,y0,z0,w8]
  by_cases h9n : ¬ (x.q.dist == t.q.dist) = true
  ·
   simp [h9n]
   exact .bool (by rw [← hr]; simp [h9n])
  have h9:=Classical.not_not.1 h9n
  clear h9n
  simp [f5,f6,k2,k3,y1,z1,h9]
  by_cases h10n : ¬ (x.q.star == t.q.star) = true
  ·
   simp [h10n]
   exact .bool (by rw [← hr]; simp [h10n])
  have h10:=Classical.not_not.1 h10n
  clear h10n
  simp [f5,f6,k2,k3,y2,z2,Enc.len_ds,h10]
  by_cases h11n : ¬ x.q.items.length = t.q.items.length
  ·
   simp [h11n]
   exact .bool (by rw [← hr]; simp [h11n])
  have h11:=Classical.not_not.1 h11n
  clear h11n
  simp [f5,f6,k2,k3,y3,z3,Enc.len_ds,h11]
  by_cases h12n : ¬ x.q.srcs.length = t.q.srcs.length
  ·
   simp [h12n]
   exact .bool (by rw [← hr]; simp [h12n])
  have h12:=Classical.not_not.1 h12n
  clear h12n
  simp [f5,f6,k2,k3,y4,z4,h12]
  by_cases h13n : ¬ x.q.cond.op = t.q.cond.op
  ·
   simp [h13n]
   exact .bool (by rw [← hr]; simp [h13n])
  have h13:=Classical.not_not.1 h13n
  clear h13n
  simp [f6,k3,z4,h13]
  by_cases w13 : t.q.cond.op = 0
  ·
   simp [f5,k2,yc,w13,yl]
   refine CalV.pure lb ?_
   by_cases b13 : ¬ x.q.cond.bare 0
   ·
    simp [b13]
    exact .bool (by rw [← hr]; simp [h13,w13,b13])
   have b13':=Classical.not_not.1 b13
   clear b13
   simp [f5,f6,k2,k3,y12,z12,Enc.len_ds,b13']
   by_cases h14n : ¬ x.q.order.length = t.q.order.length
   ·
    simp [h14n]
    exact .bool (by rw [← hr]; simp [h14n])
   have h14:=Classical.not_not.1 h14n
   clear h14n
   simp [f5,f6,k2,k3,y13,z13,h14]
   by_cases h15n : ¬ (x.q.limited == t.q.limited) = true
   ·
    simp [h15n]
    exact .bool (by rw [← hr]; simp [h15n])
   have h15:=Classical.not_not.1 h15n
   clear h15n
   simp [f5,f6,k2,k3,y14,z14,h15]
   by_cases h16n : ¬ x.q.limit = t.q.limit
   ·
    simp [h16n]
    exact .bool (by rw [← hr]; simp [h16n])
   have h16:=Classical.not_not.1 h16n
   clear h16n
   simp [h16]
   exact .bool (by rw [← hr]; simp [h1,h2,h3,h4,h5,h6,h7,h8,w8,h9,h10,h11,h12,h13,w13,b13',h14,h15,h16])
  ·
   simp [f5,f6,k2,k3,y12,z12,Enc.len_ds,w13]
   by_cases h14n : ¬ x.q.order.length = t.q.order.length
   ·
    simp [h14n]
    exact .bool (by rw [← hr]; simp [h14n])
   have h14:=Classical.not_not.1 h14n
   clear h14n
   simp [f5,f6,k2,k3,y13,z13,h14]
   by_cases h15n : ¬ (x.q.limited == t.q.limited) = true
   ·
    simp [h15n]
    exact .bool (by rw [← hr]; simp [h15n])
   have h15:=Classical.not_not.1 h15n
   clear h15n
   simp [f5,f6,k2,k3,y14,z14,h15]
   by_cases h16n : ¬ x.q.limit = t.q.limit
   ·
    simp [h16n]
    exact .bool (by rw [← hr]; simp [h16n])
   have h16:=Classical.not_not.1 h16n
   clear h16n
   simp [h16]
   exact .bool (by rw [← hr]; simp [h1,h2,h3,h4,h5,h6,h7,h8,w8,h9,h10,h11,h12,h13,w13,h14,h15,h16])
noncomputable def Col.ok (c : Col) : Bool:=decide (NamedOk c.name) && (decide (1 ≤ c.kind) && decide (c.kind ≤ 3))
noncomputable def St1.ok (x : St1) : Bool:=decide (NamedOk x.name) && x.e.may
structure MyF (x : Stm) (tc : List AV) (b : Bool) (F : Fr) (K : Hp) (n : Nat) : Prop where
 f1 : F.get 1 = some (.ptr 0 0)
 f3 : F.get 3 = some (.ptr 1 0)
 f4 : F.get 4 = some (.bool b)
 k0 : K.get 0 = some (.cells 31 [] x.cells .nil)
 k1 : K.get 1 = some (.cells 31 [] tc .nil)
 hn : 2 ≤ n
theorem take_all {α : Type} {l : List α} {i : Nat} (h : i < l.length) (f : α → Bool) (b : Bool) : (b && (l.take (i + 1)).all f) = ((b && (l.take i).all f) && f l[i]):=by
 rw [List.take_add_one,List.getElem?_eq_getElem h,List.all_append]
 simp only [Option.toList,List.all_cons,List.all_nil,Bool.and_true,Bool.and_assoc]
theorem may17a (x : Stm) (hl : x.cols.length ≤ lim) (tc : List AV) (b : Bool) (F : Fr) (K : Hp) (n : Nat) (Q : QA) (M : MyF x tc b F K n) (h38 : F.get 38 = some (eCol.ds x.cols)) (h39 : F.get 39 = some (.int .i64 (x.cols.length : Int))) (h40 : F.get 40 = some (.int .i64 0))
  (hQ : ∀ F' K' n',MyF x tc (b && x.cols.all Col.ok) F' K' n' → Q .normal F' K' n' []) : LoopV L17_0 Try.prog F K n [] (BlkQ 1 Q):=by
 unfold lim at hl
 refine LoopV.of (fun t F K n ms => ∃ i,t = x.cols.length - i ∧ i ≤ x.cols.length ∧ MyF x tc (b && (x.cols.take i).all Col.ok) F K n ∧ F.get 38 = some (eCol.ds x.cols) ∧ F.get 39 = some (.int .i64 (x.cols.length : Int)) ∧ F.get 40 = some (.int .i64 (i : Int)) ∧ ms = []) x.cols.length ⟨0,by simp,by simp,by simpa using M,h38,h39,h40,rfl⟩ ?_
 clear M h38 h39 h40 F K n
 rintro t F K n ms ⟨i,rfl,hi,M,f38,f39,f40,rfl⟩
 obtain ⟨f1,f3,f4,k0,k1,hn⟩:=M
 by_cases hlt : i < x.cols.length
 ·
  have hx:=eCol.ix (ik:=.i64) hlt
  have hld:=fun H => eCol.ldN x.cols[i] (eCol.l (x.cols.drop (i + 1))) H
  have hta:=take_all hlt Col.ok b
  simp [L17_0,R17_8,R17_9,f38,f39,f40,hlt,hx,hld,Enc.av]
  generalize hK1 : Tr.put _ n _ = K1
  have g0 : K1.get 0 = some (.cells 31 [] x.cells .nil):=by rw [← hK1]; simp [show ¬ 0 = n by omega,k0]
  have g1 : K1.get 1 = some (.cells 31 [] tc .nil):=by rw [← hK1]; simp [show ¬ 1 = n by omega,k1]
  have gn : K1.get n = some (.cells 3 [] (eCol.cells x.cols[i]) .nil):=by rw [← hK1]; simp
  clear hK1
  rw [eCol_c] at gn
  generalize hb : (b && (x.cols.take i).all Col.ok) = b1 at f4 hta
  have fin : ∀ (F4 : Fr) (b2 : Bool),F4.get 1 = some (.ptr 0 0) → F4.get 3 = some (.ptr 1 0) → F4.get 4 = some (.bool b2) → F4.get 38 = some (eCol.ds x.cols) → F4.get 39 = some (.int .i64 (x.cols.length : Int)) → F4.get 40 = some (.int .i64 (i : Int)) → b2 = (b1 && x.cols[i].ok) → VC Try.prog R17_11 F4 K1 (n + 1) [] (RndQ (fun t F K n ms => ∃ i,t = x.cols.length - i ∧ i ≤ x.cols.length ∧ MyF x tc (b && (x.cols.take i).all Col.ok) F K n ∧ F.get 38 = some (eCol.ds x.cols) ∧ F.get 39 = some (.int .i64 (x.cols.length : Int)) ∧ F.get 40 = some (.int .i64 (i : Int)) ∧ ms = []) (x.cols.length - i) (BlkQ 1 Q)):=by
   intro F4 b2 w1 w3 w4 w38 w39 w40 hb2
   simp [R17_11,w40,wrap_nat i (by omega)]
   refine ⟨_,by omega,i + 1,rfl,hlt,⟨by simp [w1],by simp [w3],?_,g0,g1,by omega⟩,by simp [w38],by simp [w39],by simp⟩
   rw [hta,← hb2]; simp [w4]
  cases b1 with
  | false =>
   simp [R17_10,f4]
   generalize hF3 : (Fp 4 _ _ : Fr) = F3
   have:=fin F3 false (by rw [← hF3]; simp [f1]) (by rw [← hF3]; simp [f3]) (by rw [← hF3]; simp) (by rw [← hF3]; simp [f38]) (by rw [← hF3]; simp [f39]) (by rw [← hF3]; simp [f40]) (by simp)
   simpa using this
  | true =>
   simp [R17_10,f4,gn]
   refine CalV.pure (named51 x.cols[i].name) ?_
   by_cases hnm : NamedOk x.cols[i].name
   ·
    by_cases h1 : 1 ≤ x.cols[i].kind
    ·
     simp [hnm,gn,h1]
     generalize hF3 : (Fp 4 _ _ : Fr) = F3
     have:=fin F3 (decide (x.cols[i].kind ≤ 3)) (by rw [← hF3]; simp [f1]) (by rw [← hF3]; simp [f3]) (by rw [← hF3]; simp) (by rw [← hF3]; simp [f38]) (by rw [← hF3]; simp [f39]) (by rw [← hF3]; simp [f40]) (by simp [Col.ok,hnm,h1])
     simpa using this
    ·
     simp [hnm,gn,h1]
     generalize hF3 : (Fp 4 _ _ : Fr) = F3
     have:=fin F3 false (by rw [← hF3]; simp [f1]) (by rw [← hF3]; simp [f3]) (by rw [← hF3]; simp) (by rw [← hF3]; simp [f38]) (by rw [← hF3]; simp [f39]) (by rw [← hF3]; simp [f40]) (by simp [Col.ok,h1])
     simpa using this
   ·
    simp [hnm]
    generalize hF3 : (Fp 4 _ _ : Fr) = F3
    have:=fin F3 false (by rw [← hF3]; simp [f1]) (by rw [← hF3]; simp [f3]) (by rw [← hF3]; simp) (by rw [← hF3]; simp [f38]) (by rw [← hF3]; simp [f39]) (by rw [← hF3]; simp [f40]) (by simp [Col.ok,hnm])
    simpa using this
 ·
  have hie : i = x.cols.length:=by omega
  subst hie
  rw [List.take_length] at f4
  simp [L17_0,R17_8,f39,f40]
  exact hQ _ K n ⟨by simp [f1],by simp [f3],by simp [f4],k0,k1,hn⟩
theorem may17b (x : Stm) (hl : x.on.length ≤ lim) (tc : List AV) (b : Bool) (F : Fr) (K : Hp) (n : Nat) (Q : QA) (M : MyF x tc b F K n) (h98 : F.get 98 = some (eStr.ds x.on)) (h99 : F.get 99 = some (.int .i64 (x.on.length : Int))) (h100 : F.get 100 = some (.int .i64 0))
  (hQ : ∀ F' K' n',MyF x tc (b && x.on.all fun s => decide (NamedOk s)) F' K' n' → Q .normal F' K' n' []) : LoopV L17_1 Try.prog F K n [] (BlkQ 3 Q):=by
 unfold lim at hl
 refine LoopV.of (fun t F K n ms => ∃ i,t = x.on.length - i ∧ i ≤ x.on.length ∧ MyF x tc (b && (x.on.take i).all fun s => decide (NamedOk s)) F K n ∧ F.get 98 = some (eStr.ds x.on) ∧ F.get 99 = some (.int .i64 (x.on.length : Int)) ∧ F.get 100 = some (.int .i64 (i : Int)) ∧ ms = []) x.on.length ⟨0,by simp,by simp,by simpa using M,h98,h99,h100,rfl⟩ ?_
 clear M h98 h99 h100 F K n
 rintro t F K n ms ⟨i,rfl,hi,M,f98,f99,f100,rfl⟩
 obtain ⟨f1,f3,f4,k0,k1,hn⟩:=M
 by_cases hlt : i < x.on.length
 ·
  have hx:=eStr.ix (ik:=.i64) hlt
  rw [eStr_c] at hx
  have hta:=take_all hlt (fun s => decide (NamedOk s)) b
  generalize hb : (b && (x.on.take i).all fun s => decide (NamedOk s)) = b1 at f4 hta
  have fin : ∀ (F4 : Fr) (b2 : Bool),F4.get 1 = some (.ptr 0 0) → F4.get 3 = some (.ptr 1 0) → F4.get 4 = some (.bool b2) → F4.get 98 = some (eStr.ds x.on) → F4.get 99 = some (.int .i64 (x.on.length : Int)) → F4.get 100 = some (.int .i64 (i : Int)) → b2 = (b1 && decide (NamedOk x.on[i])) → VC Try.prog R17_22 F4 K n [] (RndQ (fun t F K n ms => ∃ i,t = x.on.length - i ∧ i ≤ x.on.length ∧ MyF x tc (b && (x.on.take i).all fun s => decide (NamedOk s)) F K n ∧ F.get 98 = some (eStr.ds x.on) ∧ F.get 99 = some (.int .i64 (x.on.length : Int)) ∧ F.get 100 = some (.int .i64 (i : Int)) ∧ ms = []) (x.on.length - i) (BlkQ 3 Q)):=by
   intro F4 b2 w1 w3 w4 w38 w39 w40 hb2
   simp [R17_22,w40,wrap_nat i (by omega)]
   refine ⟨_,by omega,i + 1,rfl,hlt,⟨by simp [w1],by simp [w3],?_,k0,k1,by omega⟩,by simp [w38],by simp [w39],by simp⟩
   rw [hta,← hb2]; simp [w4]
  cases b1 with
  | false =>
   simp [L17_1,R17_19,R17_20,R17_21,f98,f99,f100,hlt,hx,f4]
   generalize hF3 : (Fp 4 _ _ : Fr) = F3
   have:=fin F3 false (by rw [← hF3]; simp [f1]) (by rw [← hF3]; simp [f3]) (by rw [← hF3]; simp) (by rw [← hF3]; simp [f98]) (by rw [← hF3]; simp [f99]) (by rw [← hF3]; simp [f100]) (by simp)
   simpa using this
  | true =>
   simp [L17_1,R17_19,R17_20,R17_21,f98,f99,f100,hlt,hx,f4]
   refine CalV.pure (named51 x.on[i]) ?_
   simp
   generalize hF3 : (Fp 4 _ _ : Fr) = F3
   have:=fin F3 (decide (NamedOk x.on[i])) (by rw [← hF3]; simp [f1]) (by rw [← hF3]; simp [f3]) (by rw [← hF3]; simp) (by rw [← hF3]; simp [f98]) (by rw [← hF3]; simp [f99]) (by rw [← hF3]; simp [f100]) (by simp)
   simpa using this
 ·
  have hie : i = x.on.length:=by omega
  subst hie
  rw [List.take_length] at f4
  simp [L17_1,R17_19,f99,f100]
  exact hQ _ K n ⟨by simp [f1],by simp [f3],by simp [f4],k0,k1,hn⟩
theorem may17c (x : Stm) (hl : x.sets.length ≤ lim) (hz : ∀ y ∈ x.sets,y.e.sz ≤ lim) (tc : List AV) (b : Bool) (F : Fr) (K : Hp) (n : Nat) (Q : QA) (M : MyF x tc b F K n) (h203 : F.get 203 = some (eSet.ds x.sets)) (h204 : F.get 204 = some (.int .i64 (x.sets.length : Int))) (h205 : F.get 205 = some (.int .i64 0))
  (hQ : ∀ F' K' n',MyF x tc (b && x.sets.all St1.ok) F' K' n' → Q .normal F' K' n' []) : LoopV L17_4 Try.prog F K n [] (BlkQ 9 Q):=by
 unfold lim at hl
 refine LoopV.of (fun t F K n ms => ∃ i,t = x.sets.length - i ∧ i ≤ x.sets.length ∧ MyF x tc (b && (x.sets.take i).all St1.ok) F K n ∧ F.get 203 = some (eSet.ds x.sets) ∧ F.get 204 = some (.int .i64 (x.sets.length : Int)) ∧ F.get 205 = some (.int .i64 (i : Int)) ∧ ms = []) x.sets.length ⟨0,by simp,by simp,by simpa using M,h203,h204,h205,rfl⟩ ?_
 clear M h203 h204 h205 F K n
 rintro t F K n ms ⟨i,rfl,hi,M,f203,f204,f205,rfl⟩
 obtain ⟨f1,f3,f4,k0,k1,hn⟩:=M
 by_cases hlt : i < x.sets.length
 ·
  have hx:=eSet.ix (ik:=.i64) hlt
  have hld:=fun H => eSet.ldN x.sets[i] (eSet.l (x.sets.drop (i + 1))) H
  have hta:=take_all hlt St1.ok b
  simp [L17_4,R17_46,R17_47,f203,f204,f205,hlt,hx,hld,Enc.av]
  generalize hK1 : Tr.put _ n _ = K1
  have g0 : K1.get 0 = some (.cells 31 [] x.cells .nil):=by rw [← hK1]; simp [show ¬ 0 = n by omega,k0]
  have g1 : K1.get 1 = some (.cells 31 [] tc .nil):=by rw [← hK1]; simp [show ¬ 1 = n by omega,k1]
  have gn : K1.get n = some (.cells 9 [] (eSet.cells x.sets[i]) .nil):=by rw [← hK1]; simp
  clear hK1
  rw [eSet_c] at gn
  have htk8 : List.take 8 x.sets[i].e.cells = x.sets[i].e.cells:=List.take_of_length_le (by simp)
  have hmy:=may53 x.sets[i].e (hz _ (List.getElem_mem hlt))
  have hav : x.sets[i].e.av = .agg x.sets[i].e.cells 8:=Eq.trans rfl rfl
  rw [hav] at hmy
  generalize hb : (b && (x.sets.take i).all St1.ok) = b1 at f4 hta
  have fin : ∀ (F4 : Fr) (b2 : Bool),F4.get 1 = some (.ptr 0 0) → F4.get 3 = some (.ptr 1 0) → F4.get 4 = some (.bool b2) → F4.get 203 = some (eSet.ds x.sets) → F4.get 204 = some (.int .i64 (x.sets.length : Int)) → F4.get 205 = some (.int .i64 (i : Int)) → b2 = (b1 && x.sets[i].ok) → VC Try.prog R17_49 F4 K1 (n + 1) [] (RndQ (fun t F K n ms => ∃ i,t = x.sets.length - i ∧ i ≤ x.sets.length ∧ MyF x tc (b && (x.sets.take i).all St1.ok) F K n ∧ F.get 203 = some (eSet.ds x.sets) ∧ F.get 204 = some (.int .i64 (x.sets.length : Int)) ∧ F.get 205 = some (.int .i64 (i : Int)) ∧ ms = []) (x.sets.length - i) (BlkQ 9 Q)):=by
   intro F4 b2 w1 w3 w4 w38 w39 w40 hb2
   simp [R17_49,w40,wrap_nat i (by omega)]
   refine ⟨_,by omega,i + 1,rfl,hlt,⟨by simp [w1],by simp [w3],?_,g0,g1,by omega⟩,by simp [w38],by simp [w39],by simp⟩
   rw [hta,← hb2]; simp [w4]
  cases b1 with
  | false =>
   simp [R17_48,f4]
   generalize hF3 : (Fp 4 _ _ : Fr) = F3
   have:=fin F3 false (by rw [← hF3]; simp [f1]) (by rw [← hF3]; simp [f3]) (by rw [← hF3]; simp) (by rw [← hF3]; simp [f203]) (by rw [← hF3]; simp [f204]) (by rw [← hF3]; simp [f205]) (by simp)
   simpa using this
  | true =>
   simp [R17_48,f4,gn]
   refine CalV.pure (named51 x.sets[i].name) ?_
   by_cases hnm : NamedOk x.sets[i].name
   ·
    simp [hnm,gn,htk8]
    refine CalV.pure hmy ?_
    simp
    generalize hF3 : (Fp 4 _ _ : Fr) = F3
    have:=fin F3 x.sets[i].e.may (by rw [← hF3]; simp [f1]) (by rw [← hF3]; simp [f3]) (by rw [← hF3]; simp) (by rw [← hF3]; simp [f203]) (by rw [← hF3]; simp [f204]) (by rw [← hF3]; simp [f205]) (by simp [St1.ok,hnm])
    simpa using this
   ·
    simp [hnm]
    generalize hF3 : (Fp 4 _ _ : Fr) = F3
    have:=fin F3 false (by rw [← hF3]; simp [f1]) (by rw [← hF3]; simp [f3]) (by rw [← hF3]; simp) (by rw [← hF3]; simp [f203]) (by rw [← hF3]; simp [f204]) (by rw [← hF3]; simp [f205]) (by simp [St1.ok,hnm])
    simpa using this
 ·
  have hie : i = x.sets.length:=by omega
  subst hie
  rw [List.take_length] at f4
  simp [L17_4,R17_46,f204,f205]
  exact hQ _ K n ⟨by simp [f1],by simp [f3],by simp [f4],k0,k1,hn⟩
structure RwF (x : Stm) (i : Nat) (F : Fr) : Prop where
 f136 : F.get 136 = some (eRow.ds x.rows)
 f137 : F.get 137 = some (.int .i64 (x.rows.length : Int))
 f138 : F.get 138 = some (.int .i64 (i : Int))
theorem may17d (x : Stm) (r : List Ex) (k : Nat) (hl : r.length ≤ lim) (hz : ∀ y ∈ r,y.sz ≤ lim) (tc : List AV) (b : Bool) (F : Fr) (K : Hp) (n : Nat) (Q : QA) (M : MyF x tc b F K n) (W : RwF x k F) (h148 : F.get 148 = some (eEx.ds r)) (h149 : F.get 149 = some (.int .i64 (r.length : Int))) (h150 : F.get 150 = some (.int .i64 0))
  (hQ : ∀ F' K' n',MyF x tc (b && r.all Ex.may) F' K' n' → RwF x k F' → Q .normal F' K' n' []) : LoopV L17_2 Try.prog F K n [] (BlkQ 7 Q):=by
 unfold lim at hl
 refine LoopV.of (fun t F K n ms => ∃ i,t = r.length - i ∧ i ≤ r.length ∧ MyF x tc (b && (r.take i).all Ex.may) F K n ∧ RwF x k F ∧ F.get 148 = some (eEx.ds r) ∧ F.get 149 = some (.int .i64 (r.length : Int)) ∧ F.get 150 = some (.int .i64 (i : Int)) ∧ ms = []) r.length ⟨0,by simp,by simp,by simpa using M,W,h148,h149,h150,rfl⟩ ?_
 clear M W h148 h149 h150 F K n
 rintro t F K n ms ⟨i,rfl,hi,M,⟨f136,f137,f138⟩,f148,f149,f150,rfl⟩
 obtain ⟨f1,f3,f4,k0,k1,hn⟩:=M
 by_cases hlt : i < r.length
 ·
  have hx:=eEx.ix (ik:=.i64) hlt
  have hld:=fun H => eEx.ldN r[i] (eEx.l (r.drop (i + 1))) H
  have hta:=take_all hlt Ex.may b
  simp [L17_2,R17_34,R17_35,f148,f149,f150,hlt,hx,eEx_c]
  generalize hK1 : Tr.put _ n (some (ABlk.cells 8 [] r[i].cells .nil)) = K1
  have g0 : K1.get 0 = some (.cells 31 [] x.cells .nil):=by rw [← hK1]; simp [show ¬ 0 = n by omega,k0]
  have g1 : K1.get 1 = some (.cells 31 [] tc .nil):=by rw [← hK1]; simp [show ¬ 1 = n by omega,k1]
  have gn : K1.get n = some (.cells 8 [] r[i].cells .nil):=by rw [← hK1]; simp
  clear hK1
  have hmy:=may53 r[i] (hz _ (List.getElem_mem hlt))
  have hav : r[i].av = .agg r[i].cells 8:=Eq.trans rfl rfl
  rw [hav] at hmy
  generalize hb : (b && (r.take i).all Ex.may) = b1 at f4 hta
  have fin : ∀ (F4 : Fr) (b2 : Bool),F4.get 1 = some (.ptr 0 0) → F4.get 3 = some (.ptr 1 0) → F4.get 4 = some (.bool b2) → RwF x k F4 → F4.get 148 = some (eEx.ds r) → F4.get 149 = some (.int .i64 (r.length : Int)) → F4.get 150 = some (.int .i64 (i : Int)) → b2 = (b1 && r[i].may) → VC Try.prog R17_37 F4 K1 (n + 1) [] (RndQ (fun t F K n ms => ∃ i,t = r.length - i ∧ i ≤ r.length ∧ MyF x tc (b && (r.take i).all Ex.may) F K n ∧ RwF x k F ∧ F.get 148 = some (eEx.ds r) ∧ F.get 149 = some (.int .i64 (r.length : Int)) ∧ F.get 150 = some (.int .i64 (i : Int)) ∧ ms = []) (r.length - i) (BlkQ 7 Q)):=by
   intro F4 b2 w1 w3 w4 ⟨w136,w137,w138⟩ w38 w39 w40 hb2
   simp [R17_37,w40,wrap_nat i (by omega)]
   refine ⟨_,by omega,i + 1,rfl,hlt,⟨by simp [w1],by simp [w3],?_,g0,g1,by omega⟩,⟨by simp [w136],by simp [w137],by simp [w138]⟩,by simp [w38],by simp [w39],by simp⟩
   rw [hta,← hb2]; simp [w4]
  cases b1 with
  | false =>
   simp [R17_36,f4]
   generalize hF3 : (Fp 4 _ _ : Fr) = F3
   have:=fin F3 false (by rw [← hF3]; simp [f1]) (by rw [← hF3]; simp [f3]) (by rw [← hF3]; simp) ⟨by rw [← hF3]; simp [f136],by rw [← hF3]; simp [f137],by rw [← hF3]; simp [f138]⟩ (by rw [← hF3]; simp [f148]) (by rw [← hF3]; simp [f149]) (by rw [← hF3]; simp [f150]) (by simp)
   simpa using this
  | true =>
   simp [R17_36,f4,gn]
   refine CalV.pure hmy ?_
   simp
   generalize hF3 : (Fp 4 _ _ : Fr) = F3
   have:=fin F3 r[i].may (by rw [← hF3]; simp [f1]) (by rw [← hF3]; simp [f3]) (by rw [← hF3]; simp) ⟨by rw [← hF3]; simp [f136],by rw [← hF3]; simp [f137],by rw [← hF3]; simp [f138]⟩ (by rw [← hF3]; simp [f148]) (by rw [← hF3]; simp [f149]) (by rw [← hF3]; simp [f150]) (by simp)
   simpa using this
 ·
  have hie : i = r.length:=by omega
  subst hie
  rw [List.take_length] at f4
  simp [L17_2,R17_34,f149,f150]
  exact hQ _ K n ⟨by simp [f1],by simp [f3],by simp [f4],k0,k1,hn⟩ ⟨by simp [f136],by simp [f137],by simp [f138]⟩
noncomputable def rowOk (r : List Ex) : Bool:=decide (1 ≤ r.length ∧ r.length ≤ 16) && r.all Ex.may
theorem may17e (x : Stm) (hl : x.rows.length ≤ lim) (hr : ∀ r ∈ x.rows,r.length ≤ lim ∧ ∀ y ∈ r,y.sz ≤ lim) (tc : List AV) (b : Bool) (F : Fr) (K : Hp) (n : Nat) (Q : QA) (M : MyF x tc b F K n) (W : RwF x 0 F)
  (hQ : ∀ F' K' n',MyF x tc (b && x.rows.all rowOk) F' K' n' → Q .normal F' K' n' []) : LoopV L17_3 Try.prog F K n [] (BlkQ 5 Q):=by
 unfold lim at hl
 refine LoopV.of (fun t F K n ms => ∃ i,t = x.rows.length - i ∧ i ≤ x.rows.length ∧ MyF x tc (b && (x.rows.take i).all rowOk) F K n ∧ RwF x i F ∧ ms = []) x.rows.length ⟨0,by simp,by simp,by simpa using M,W,rfl⟩ ?_
 clear M W F K n
 rintro t F K n ms ⟨i,rfl,hi,M,⟨f136,f137,f138⟩,rfl⟩
 obtain ⟨f1,f3,f4,k0,k1,hn⟩:=M
 by_cases hlt : i < x.rows.length
 ·
  have hx:=eRow.ix (ik:=.i64) hlt
  rw [eRow_c] at hx
  obtain ⟨hr1,hr2⟩:=hr _ (List.getElem_mem hlt)
  have hta:=take_all hlt rowOk b
  generalize hb : (b && (x.rows.take i).all rowOk) = b1 at f4 hta
  have fin : ∀ (F4 : Fr) (b2 : Bool),MyF x tc b2 F4 K n → RwF x i F4 → F4.get 10 = some (eEx.ds x.rows[i]) → b2 = (b1 && decide (1 ≤ x.rows[i].length ∧ x.rows[i].length ≤ 16)) → VC Try.prog R17_33 F4 K n [] (SeqV Try.prog (.block 7 (.loop L17_2)) (BlkQ 6 (SeqV Try.prog R17_38 (RndQ (fun t F K n ms => ∃ i,t = x.rows.length - i ∧ i ≤ x.rows.length ∧ MyF x tc (b && (x.rows.take i).all rowOk) F K n ∧ RwF x i F ∧ ms = []) (x.rows.length - i) (BlkQ 5 Q))))):=by
   intro F4 b2 ⟨w1,w3,w4,_,_,_⟩ ⟨w136,w137,w138⟩ w10 hb2
   simp [R17_33,w10,Enc.len_ds]
   refine may17d x x.rows[i] i hr1 hr2 tc b2 _ K n _ ⟨by simp [w1],by simp [w3],by simp [w4],k0,k1,hn⟩ ⟨by simp [w136],by simp [w137],by simp [w138]⟩ (by simp) (by simp) (by simp) fun F5 K5 n5 M5 W5 => ?_
   have f138':=W5.f138
   simp [R17_38,f138',wrap_nat i (by omega)]
   refine ⟨_,by omega,i + 1,rfl,hlt,⟨by simp [M5.f1],by simp [M5.f3],?_,M5.k0,M5.k1,M5.hn⟩,⟨by simp [W5.f136],by simp [W5.f137],by simp⟩⟩
   have:=M5.f4
   rw [hta,rowOk,← Bool.and_assoc,← hb2]; simp [this]
  cases b1 with
  | false =>
   simp [L17_3,R17_30,R17_31,R17_32,f136,f137,f138,hlt,hx,f4]
   generalize hF3 : (Fp 4 _ _ : Fr) = F3
   have:=fin F3 false ⟨by rw [← hF3]; simp [f1],by rw [← hF3]; simp [f3],by rw [← hF3]; simp,k0,k1,hn⟩ ⟨by rw [← hF3]; simp [f136],by rw [← hF3]; simp [f137],by rw [← hF3]; simp [f138]⟩ (by rw [← hF3]; simp) (by simp)
   simpa using this
  | true =>
   simp [L17_3,R17_30,R17_31,R17_32,f136,f137,f138,hlt,hx,f4,Enc.len_ds]
   refine CalV.pure (upTo52 (x.rows[i].length : Int) 16) ?_
   simp
   generalize hF3 : (Fp 4 _ _ : Fr) = F3
   have:=fin F3 (decide ((1 : Int) ≤ (x.rows[i].length : Int) ∧ (x.rows[i].length : Int) ≤ 16)) ⟨by rw [← hF3]; simp [f1],by rw [← hF3]; simp [f3],by rw [← hF3]; simp,k0,k1,hn⟩ ⟨by rw [← hF3]; simp [f136],by rw [← hF3]; simp [f137],by rw [← hF3]; simp [f138]⟩ (by rw [← hF3]; simp) (by
    rw [Bool.true_and]
    congr 1
    exact propext (by omega))
   simpa using this
 ·
  have hie : i = x.rows.length:=by omega
  subst hie
  rw [List.take_length] at f4
  simp [L17_3,R17_30,f137,f138]
  exact hQ _ K n ⟨by simp [f1],by simp [f3],by simp [f4],k0,k1,hn⟩
@[simp] theorem allVal_4 (e : Eff) (F : Fr) (n : Nat) (A B C D : Hp) (As : List Hp) : allVal e F n 4 (A :: B :: C :: D :: As) = (vE (e F A n)).bind fun v => eqA v ((vE (e F B n)).bind fun v => eqA v ((vE (e F C n)).bind fun v => eqA v (vE (e F D n)))):=by rw [allVal_two e F n 2,allVal_two e F n 1,allVal_two e F n 0,allVal_one]
def NV (v v' : AV) : Prop:=v = v' ∨ (v = .cst (.slice none 0 0) ∧ ∃ k,v' = .ds [] 0 (k + 1))
def NL : List AV → List AV → Prop
 | [],[] => True
 | v :: l,v' :: l' => NV v v' ∧ NL l l'
 | _,_ => False
@[simp] theorem nlNil : NL [] [] = True:=by simp [NL]
@[simp] theorem nlCons (v v' : AV) (l l' : List AV) : NL (v :: l) (v' :: l') = (NV v v' ∧ NL l l'):=by simp [NL]
@[simp] theorem nvRfl (v : AV) : NV v v = True:=by simp [NV]
@[simp] theorem nvNil {α : Type} {k : Nat} (E : Enc α (k + 1)) : NV (.cst (.slice none 0 0)) (E.ds []) = True:=by
 simp only [eq_iff_iff,iff_true]; exact .inr ⟨rfl,k,rfl⟩
theorem nvEx : NV (.cst (.slice none 0 0)) (.ds (Ex.cellsL []) 0 8):=.inr ⟨rfl,7,by simp [Ex.cellsL]⟩
theorem NV.vr {φ : Ph} {D : Da} {v v' : AV} {x : Value} (h : NV v v') (hx : VR φ D v x) : VR φ D v' x:=by
 rcases h with rfl | ⟨rfl,k,rfl⟩
 · exact hx
 · cases hx; exact .dsn _
theorem NL.len : ∀ {l l' : List AV},NL l l' → l'.length = l.length
 | [],[],_ => rfl
 | [],_ :: _,k => by simp [NL] at k
 | _ :: _,[],k => by simp [NL] at k
 | _ :: _,_ :: _,k => by simp only [nlCons] at k; simp [NL.len k.2]
theorem NL.vrs {φ : Ph} {D : Da} : ∀ {l l' : List AV} {xs : List Value},NL l l' → VRs φ D l xs → VRs φ D l' xs
 | [],[],_,_,h => h
 | [],_ :: _,_,k,_ => by simp [NL] at k
 | _ :: _,[],_,k,_ => by simp [NL] at k
 | _ :: _,_ :: _,_,k,.cons _ _ _ _ h1 h2 => by
  simp only [nlCons] at k
  exact .cons _ _ _ _ (k.1.vr h1) (NL.vrs k.2 h2)
theorem FnPure.conv {P : Program} {g : FuncId} {args args' : List AV} {v : AV} (h : FnPure P g args' v) (hp : PureL args) (hc : ∀ D xs,VRs PhN D args xs → VRs PhN D args' xs) : FnPure P g args v :=
 ⟨h.body,hp,h.pval,fun D w xs hd hv => h.run D w xs hd (hc D xs hv)⟩
def exZ : Ex:=.mk 0 ⟨0,0,[]⟩ [] [] 0 []
def qryZ : Qry:=⟨false,false,[],[],exZ,[],false,0⟩
def Stm.z (k : Int) : Stm:=⟨k,[],[],[],[],false,[],[],exZ,qryZ⟩
def Stm.cut (x : Stm) : Stm :=
 if x.kind = 1 then { Stm.z x.kind with table:=x.table,cols:=x.cols }
 else if x.kind = 2 then { Stm.z x.kind with table:=x.table }
 else if x.kind = 3 then { Stm.z x.kind with table:=x.table,name:=x.name,on:=x.on,uniq:=x.uniq }
 else if x.kind = 4 then { Stm.z x.kind with name:=x.name }
 else if x.kind = 5 then { Stm.z x.kind with table:=x.table,rows:=x.rows }
 else if x.kind = 6 then { Stm.z x.kind with table:=x.table,cond:=x.cond }
 else if x.kind = 7 then { Stm.z x.kind with table:=x.table,sets:=x.sets,cond:=x.cond }
 else if x.kind = 8 then { Stm.z x.kind with q:=x.q }
 else Stm.z x.kind
noncomputable def Stm.ok (x : Stm) : Bool :=
 if x.kind = 1 then decide (NamedOk x.table) && decide (1 ≤ x.cols.length ∧ x.cols.length ≤ 16) && x.cols.all Col.ok
 else if x.kind = 2 then decide (NamedOk x.table)
 else if x.kind = 3 then decide (NamedOk x.table) && decide (NamedOk x.name) && decide (1 ≤ x.on.length ∧ x.on.length ≤ 16) && x.on.all fun s => decide (NamedOk s)
 else if x.kind = 4 then decide (NamedOk x.name)
 else if x.kind = 5 then decide (NamedOk x.table) && decide (0 < x.rows.length) && x.rows.all rowOk
 else if x.kind = 6 then decide (NamedOk x.table) && x.cond.maybe
 else if x.kind = 7 then decide (NamedOk x.table) && decide (1 ≤ x.sets.length ∧ x.sets.length ≤ 16) && x.cond.maybe && x.sets.all St1.ok
 else if x.kind = 8 then x.q.may
 else decide (x.kind = 9 ∨ x.kind = 10 ∨ x.kind = 11)
structure Stm.sm (x : Stm) : Prop where
 cols : x.cols.length ≤ lim
 on : x.on.length ≤ lim
 rows : x.rows.length ≤ lim
 row : ∀ r ∈ x.rows,r.length ≤ lim ∧ ∀ y ∈ r,y.sz ≤ lim
 sets : x.sets.length ≤ lim
 set : ∀ y ∈ x.sets,y.e.sz ≤ lim
 cond : x.cond.sz ≤ lim
 items : x.q.items.length ≤ lim
 item : ∀ y ∈ x.q.items,y.e.sz ≤ lim
 srcs : x.q.srcs.length ≤ lim
 src : ∀ y ∈ x.q.srcs,y.cond.sz ≤ lim
 order : x.q.order.length ≤ lim
 qc : x.q.cond.sz ≤ lim
def tcZ (kind : Int) : List AV:=[(.int .i64 kind),(.str []),(.str []),(.cst (.slice none 0 0)),(.cst (.slice none 0 0)),(.bool false),(.cst (.slice none 0 0)),(.cst (.slice none 0 0)),(.int .i64 0),(.int .i64 0),(.int .i64 0),(.str []),(.str []),(.str []),(.int .i64 0),(.cst (.slice none 0 0)),(.bool false),(.bool false),(.cst (.slice none 0 0)),(.cst (.slice none 0 0)),(.int .i64 0),(.int .i64 0),(.int .i64 0),(.str []),(.str []),(.str []),(.int .i64 0),(.cst (.slice none 0 0)),(.cst (.slice none 0 0)),(.bool false),(.int .i64 0)]
noncomputable def M17 : CT:=(.seq R17_4 (.cond (slotG 20) (.seq R17_5 (.seq R17_6 (.seq R17_7 (.block 1 (.loop L17_0))))) (.seq R17_12 (.cond (slotG 61) (.seq R17_13 R17_14) (.seq R17_15 (.cond (slotG 69) (.seq R17_16 (.seq R17_17 (.seq R17_18 (.block 3 (.loop L17_1))))) (.seq R17_23 (.cond (slotG 110) (.seq R17_24 R17_25) (.seq R17_26 (.cond (slotG 118) (.seq R17_27 (.seq R17_28 (.seq R17_29 (.block 5 (.loop L17_3))))) (.seq R17_39 (.cond (slotG 161) (.seq R17_40 R17_41) (.seq R17_42 (.cond (slotG 177) (.seq R17_43 (.seq R17_44 (.seq R17_45 (.block 9 (.loop L17_4))))) (.seq R17_50 (.cond (slotG 221) (.seq R17_51 R17_52) (.seq (.seq R17_53 (.cond (slotG 229) .skip (.seq R17_54 (.cond (slotG 229) .skip R17_55)))) (.cond (slotG 229) R17_56 .skip))))))))))))))))))
theorem b17 : B17 = (.seq R17_0 (.seq R17_1 (.seq R17_2 (.seq (.seq R17_3 (.block 0 M17)) (.seq R17_57 .ret))))):=rfl
structure Ent17 (x : Stm) (F : Fr) (K : Hp) : Prop where
 f1 : F.get 1 = some (.ptr 0 0)
 f3 : F.get 3 = some (.ptr 1 0)
 f4 : F.get 4 = some (.bool false)
 f19 : F.get 19 = some (.int .i64 x.kind)
 k0 : K.get 0 = some (.cells 31 [] x.cells .nil)
 k1 : K.get 1 = some (.cells 31 [] (tcZ x.kind) .nil)
structure Tc17 (x : Stm) (tc : List AV) : Prop where
 len : tc.length = 31
 pure : PureL tc
 cut : NL tc x.cut.cells
def Fin17 (x : Stm) (Q : QA) : Prop:=∀ F' K' n' tc b,MyF x tc b F' K' n' → Tc17 x tc → b = x.ok → Q .normal F' K' n' []
end Go.Abs
