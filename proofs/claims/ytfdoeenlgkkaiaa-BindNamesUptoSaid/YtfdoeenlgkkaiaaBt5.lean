/- An index is made. -/
import Derived.Test.YtfdoeenlgkkaiaaBt4
namespace Go.Abs
open Go.Proofs
open Classical
set_option maxRecDepth 100000
noncomputable def colIx (t : Tbl) (name : List Nat) : Int:=idxI (fun c : Col => decide (c.name = name)) t.cols
noncomputable def onE (t : Tbl) (on : List (List Nat)) : Nat → Int → Int
 | 0,err => err
 | i + 1,err => keep (keep (onE t on i err) 201 (decide (colIx t (on.getD i []) < 0))) 205 (decide (on.getD i [] ∈ on.take i))
noncomputable def indexB (s : Sch) (x : Stm) (err : Int) : Bnd × Int :=
 ({ kind:=x.kind,table:=(s.named x.table).1,index:={ id:=0,table:=(s.named x.table).1.id,name:=x.name,cols:=x.on.map (colIx (s.named x.table).1),uniq:=x.uniq,root:=0 } },onE (s.named x.table).1 x.on x.on.length (keep (keep err 200 (!(s.named x.table).2)) 202 (s.index x.name).2))
def outI (kind : Int) (t : Tbl) (name : List Nat) (u : Bool) (va : AV) : List AV:=[.int .i64 kind,.str [],.int .u32 t.id,.str t.name,eCol.ds t.cols,.int .u32 t.head,.int .u32 0,.int .u32 t.id,.str name,va,.bool u,.int .u32 0,
 .cst (.slice none 0 0),.cst (.slice none 0 0),.cst (.slice none 0 0),.cst (.slice none 0 0),.cst (.slice none 0 0),.cst (.slice none 0 0),.cst (.slice none 0 0),.cst (.slice none 0 0),.cst (.slice none 0 0),.cst (.slice none 0 0),.bool false,.bool false,.int .i64 0]
structure IxI (H0 : Hp) (n p o : Nat) (s : Sch) (t : Tbl) (x : Stm) (e0 : Int) (i : Nat) (va : AV) (F : Fr) (K : Hp) (m : Nat) : Prop where
 hi : i ≤ x.on.length
 f0 : F.get 0 = some (.ptr p 0)
 f2 : F.get 2 = some (.ptr o 0)
 f4 : F.get 4 = some (.ptr n 0)
 f45 : F.get 45 = some (eStr.ds x.on)
 f46 : F.get 46 = some (.int .i64 (x.on.length : Int))
 f47 : F.get 47 = some (.int .i64 (i : Int))
 hm : n < m
 tp : Top K m
 kf : ∀ c,c < n → c ≠ p → c ≠ o → K.get c = H0.get c
 kp : K.get p = some (bdS s (onE t x.on i e0))
 kn : K.get n = some (.cells 31 [] x.cells .nil)
 ko : K.get o = some (.cells 25 [] (outI x.kind t x.name x.uniq va) .nil)
 oa : OwnS K m va (eInt.l ((x.on.take i).map (colIx t))) i 1
 da : ∀ c,blk va = some c → n < c
theorem index20 (s : Sch) (hs : s.fine) (x : Stm) (hx : x.on.length ≤ lim) (p o : Nat) (err : Int) (H : Hp) (n : Nat) (hpn : p < n) (hon : o < n) (hpo : p ≠ o) (hp : H.get p = some (bdS s err)) (ho : H.get o = some (.cells 25 [] (outZ x.kind) .nil)) :
  CallOk Try.prog 20 [.ptr p 0,x.av,.ptr o 0] H n (.tup []) ((H.put p (some (bdS s (indexB s x err).2))).put o (some (.cells 25 [] (indexB s x err).1.cells .nil))) n:=by
 refine binO (args:=[x.av]) c20 (by simp [A20]) (by simp) hpn hon hpo hp ho (PureL.rlt (by simp [outZ])) (PureL.rlt (by simp)) fun F H0 hF htop hp0 ho0 => ?_
 have hcr : indexB s x err = ({ kind:=x.kind,table:=(s.named x.table).1,index:={ id:=0,table:=(s.named x.table).1.id,name:=x.name,cols:=x.on.map (colIx (s.named x.table).1),uniq:=x.uniq,root:=0 } },onE (s.named x.table).1 x.on x.on.length (keep (keep err 200 (!(s.named x.table).2)) 202 (s.index x.name).2)):=rfl
 rw [hcr]
 have q:=neC hpn
 have q':=neD hpn
 have r:=neC hon
 have r':=neD hon
 have po : (p = o) = False:=by simp [hpo]
 have op : (o = p) = False:=by simp [hpo,eq_comm]
 have hix:=index21 s hs x.name
 have htc : (s.named x.table).1.cols.length ≤ lim:=firstD_len (Q:=fun t : Tbl => t.cols.length ≤ lim) (by simp [Tbl.zero]) hs.tc
 simp [A20,B20,R20_0,R20_1,hF,Stm.av,Stm.c1]
 refine CalV.ok (table19 s hs x.table p err _ _ (by omega) (by simp [q,hp0])) ?_
 generalize s.named x.table = tt at *
 simp only [outZ] at ho0
 simp [r,op,ho0,Enc.av,eTbl_c]
 generalize hK : Tr.put _ o _ = K1
 have k0 : ∀ c,c < n → c ≠ p → c ≠ o → K1.get c = H0.get c:=fun c h1 h2 h3 => by rw [← hK]; simp [h2,h3,neC h1]
 have kp : K1.get p = some (bdS s (keep err 200 (!tt.2))):=by rw [← hK]; simp [po]
 have kn : K1.get n = some (.cells 31 [] x.cells .nil):=by rw [← hK]; simp [q',r']
 have ko : K1.get o = some (.cells 25 [] [.int .i64 x.kind,.str [],.int .u32 tt.1.id,.str tt.1.name,eCol.ds tt.1.cols,.int .u32 tt.1.head,.int .u32 0,.int .u32 0,.str [],.cst (.slice none 0 0),.bool false,.int .u32 0,
  .cst (.slice none 0 0),.cst (.slice none 0 0),.cst (.slice none 0 0),.cst (.slice none 0 0),.cst (.slice none 0 0),.cst (.slice none 0 0),.cst (.slice none 0 0),.cst (.slice none 0 0),.cst (.slice none 0 0),.cst (.slice none 0 0),.bool false,.bool false,.int .i64 0] .nil):=by rw [← hK]; simp
 have kt : Top K1 (n + 1):=fun c hc => by
  have e1 : ¬ c = n:=by omega
  have e2 : ¬ c = p:=by omega
  have e3 : ¬ c = o:=by omega
  rw [← hK]; simp [e1,e2,e3,htop c (by omega)]
 clear hK
 generalize keep err 200 (!tt.2) = e1 at *
 simp only [R20_2,vc_drw]
 refine DrwV.of (ceT_ok (l:=[(21,[eSch.av s,.str x.name],fun H n => .mk (.tup [eIxd.av (s.index x.name).1,.bool (s.index x.name).2]) H n)]) ?_) ?_
 ·
  intro y hy
  simp only [List.mem_cons,List.not_mem_nil,or_false] at hy
  subst hy
  exact ceT_pure hix
 have kp1 : K1.get p = some (.cells 3 [] [eTbl.ds s.tables,eIxd.ds s.indexes,.int .i64 e1] .nil):=kp
 have hsv : eSch.av s = .agg [eTbl.ds s.tables,eIxd.ds s.indexes] 2:=Eq.trans rfl rfl
 simp [clearF_get,hF,kp1,kn,Stm.c2,hsv]
 rw [ceT_hd]
 generalize s.index x.name = ii at *
 have kt1:=kt (n + 1) (Nat.le_refl _)
 simp [Enc.av,noneAt_cons,noneAt_nil,kt1]
 simp [R20_3,clearF_get,hF]
 refine CalV.ok (failB p s e1 202 ii.2 _ _ (by omega) (by simp [neC (show p < n + 1 by omega),kp])) ?_
 simp only [R20_4,seqV_normal,vc_seq,vc_drw,vcO_nil]
 refine DrwV.of (ce0_ok (P:=Try.prog)) ?_
 simp [clearF_get,hF,ko,kn,op,r,q',Stm.c2,Stm.c5]
 generalize hK : Tr.put _ o _ = K2
 have j0 : ∀ c,c < n → c ≠ p → c ≠ o → K2.get c = H0.get c:=fun c h1 h2 h3 => by rw [← hK]; simp [h2,h3,neC (show c < n + 1 by omega),k0 c h1 h2 h3]
 have jp : K2.get p = some (bdS s (keep e1 202 ii.2)):=by rw [← hK]; simp [po]
 have jn : K2.get n = some (.cells 31 [] x.cells .nil):=by rw [← hK]; simp [q',r',kn]
 have jo : K2.get o = some (.cells 25 [] (outI x.kind tt.1 x.name x.uniq (.cst (.slice none 0 0))) .nil):=by rw [← hK]; simp [outI]
 have jt : Top K2 (n + 2):=fun c hc => by
  have e1 : ¬ c = n + 1:=by omega
  have e2 : ¬ c = p:=by omega
  have e3 : ¬ c = o:=by omega
  rw [← hK]; simp [e1,e2,e3,kt c (by omega)]
 clear hK k0 kp kn ko kt kp1 kt1
 generalize keep e1 202 ii.2 = e2 at *
 unfold lim at hx
 simp [R20_5,clearF_get,jn,Stm.c4,Enc.len_ds]
 refine LoopV.of (fun t F K m ms => ∃ (i : Nat) (va : AV),t = x.on.length - i ∧ IxI H0 n p o s tt.1 x e2 i va F K m ∧ ms = []) x.on.length ⟨0,.cst (.slice none 0 0),by simp,⟨by simp,by simp [clearF_get,hF],by simp [clearF_get,hF],by simp [clearF_get],by simp,by simp,by simp,by omega,jt,j0,jp,jn,jo,by simpa using OwnS.nil _ _ 1,by simp⟩,rfl⟩ ?_
 clear hF F K2 j0 jp jn jo jt
 rintro t F K m ms ⟨i,va,rfl,I,rfl⟩
 have f0:=I.f0
 have f2:=I.f2
 have f4:=I.f4
 have f45:=I.f45
 have f46:=I.f46
 have f47:=I.f47
 have hm:=I.hm
 by_cases hlt : i < x.on.length
 ·
  have hxx:=eStr.ix (ik:=.i64) hlt
  rw [eStr_c] at hxx
  have om:=neC (show o < m by omega)
  have ko:=I.ko
  simp only [outI] at ko
  simp [L20_0,R20_6,R20_7,R20_8,f2,f45,f46,f47,hlt,hxx,om,ko]
  generalize hK1 : Tr.put _ m _ = K1
  have g1 : ∀ c,c < m → K1.get c = K.get c:=fun c hc => by rw [← hK1]; simp [neC hc]
  have x1 : K1.get m = some (.cells 1 [] [.str x.on[i]] .nil):=by rw [← hK1]; simp
  have t1 : Top K1 (m + 1):=fun c hc => by
   have e1 : ¬ c = m:=by omega
   rw [← hK1]; simp [e1,I.tp c (by omega)]
  clear hK1
  refine CalV.same (idxCol (p:=fun c => decide (c.name = x.on[i])) (first:=[]) (cap:=[.ptr m 0]) tt.1.cols htc fun d _ => col62 d _ m K1 (m + 1) x1 t1) ?_
  have hk : idxI (fun c : Col => decide (c.name = x.on[i])) tt.1.cols = colIx tt.1 x.on[i]:=rfl
  rw [hk]
  generalize hkk : colIx tt.1 x.on[i] = k
  simp [R20_9,f0]
  refine CalV.ok (failB p s _ 201 (decide (k < 0)) _ _ (by omega) ((g1 p (by omega)).trans I.kp)) ?_
  simp only [R20_10,seqV_normal,vc_seq,vc_drw,vcO_nil]
  generalize hE : keep (onE tt.1 x.on i e2) 201 (decide (k < 0)) = e3
  have j2 : ∀ c,c ≠ p → (K1.put p (some (bdS s e3))).get c = K1.get c:=fun c hc => by simp [hc]
  have jp : (K1.put p (some (bdS s e3))).get p = some (bdS s e3):=by simp
  generalize K1.put p (some (bdS s e3)) = K2 at j2 jp ⊢
  have x2:=(j2 m (by omega)).trans x1
  have n2:=(j2 n (by omega)).trans ((g1 n (by omega)).trans I.kn)
  have o2:=(j2 o (by omega)).trans ((g1 o (by omega)).trans I.ko)
  have t2 : Top K2 (m + 1):=fun c hc => (j2 c (by omega)).trans (t1 c hc)
  have hct:=contains63 (x.on.take i) x.on[i] (by simp; unfold lim; omega)
  have hsl:=eStr.slHi (show i ≤ x.on.length by omega)
  have hfl:=failB p s e3 205 (decide (x.on[i] ∈ x.on.take i)) K2 (m + 1) (by omega) jp
  refine DrwV.of (ceL_ok (l:=[⟨63,[eStr.ds (x.on.take i),.str x.on[i]],K2,m + 1,.bool (decide (x.on[i] ∈ x.on.take i)),K2,m + 1⟩,⟨22,[.ptr p 0,.int .i64 205,.bool (decide (x.on[i] ∈ x.on.take i))],K2,m + 1,.tup [],K2.put p (some (bdS s (keep e3 205 (decide (x.on[i] ∈ x.on.take i))))),m + 1⟩]) ?_) ?_
  ·
   simp only [List.mem_cons,List.not_mem_nil,or_false]
   rintro c (rfl | rfl)
   · exact hct.callOk _ _
   · exact hfl
  have e2' : ∀ l v c1 c2,(ceL [⟨63,l,K2,m + 1,v,K2,m + 1⟩,⟨22,[.ptr p 0,.int .i64 205,.bool (decide (x.on[i] ∈ x.on.take i))],K2,m + 1,.tup [],K2.put p (some (bdS s (keep e3 205 (decide (x.on[i] ∈ x.on.take i))))),m + 1⟩]).call 22 c1 K2 c2 = (ceL [⟨22,[.ptr p 0,.int .i64 205,.bool (decide (x.on[i] ∈ x.on.take i))],K2,m + 1,.tup [],K2.put p (some (bdS s (keep e3 205 (decide (x.on[i] ∈ x.on.take i))))),m + 1⟩]).call 22 c1 K2 c2:=fun l v c1 c2 => ceL_tl (by decide)
  simp [clearF_get,f0,f4,n2,x2,Stm.c4,hsl,ceL_hd,e2']
  have hon2 : onE tt.1 x.on (i + 1) e2 = keep e3 205 (decide (x.on[i] ∈ x.on.take i)):=by
   simp only [onE,List.getD,List.getElem?_eq_getElem hlt,Option.getD_some,hkk,hE]
  rw [← hon2]
  have j3 : ∀ c,c ≠ p → (K2.put p (some (bdS s (onE tt.1 x.on (i + 1) e2)))).get c = K2.get c:=fun c hc => by simp [hc]
  have jp3 : (K2.put p (some (bdS s (onE tt.1 x.on (i + 1) e2)))).get p = some (bdS s (onE tt.1 x.on (i + 1) e2)):=by simp
  generalize K2.put p (some (bdS s (onE tt.1 x.on (i + 1) e2))) = K3 at j3 jp3 ⊢
  have o3:=(j3 o (by omega)).trans o2
  simp only [outI] at o3
  simp [R20_11,clearF_get,f2,o3]
  generalize hK4 : Tr.put _ (m + 1) _ = K4
  have g4 : ∀ c,c < m + 1 → K4.get c = K3.get c:=fun c hc => by rw [← hK4]; simp [neC hc]
  have x4 : K4.get (m + 1) = some (.cells 1 [] [.int .i64 k] .nil):=by rw [← hK4]; simp
  have t4 : Top K4 (m + 1 + 1):=fun c hc => by
   have e1 : ¬ c = m + 1:=by omega
   rw [← hK4]; simp [e1,j3 c (by omega),t2 c (by omega)]
  clear hK4
  have back : ∀ c,c < m → c ≠ p → K4.get c = K.get c:=fun c h1 h2 => (g4 c (by omega)).trans ((j3 c h2).trans ((j2 c h2).trans (g1 c h1)))
  have oa4 : OwnS K4 (m + 1 + 1) va (eInt.l ((x.on.take i).map (colIx tt.1))) i 1:=I.oa.frame (by omega) fun c hc => back c (I.oa.blkLt hc) (by have:=I.da c hc; omega)
  have o4:=(g4 o (by omega)).trans o3
  refine OwnS.appA (k:=1) (new:=[.int .i64 k]) oa4 (sliceCells_one x4) (by simp) (by simp) (by omega) (by omega) (by unfold big; omega) (by omega) (by simp) fun K5 o5 g5 => ?_
  have na : ∀ c,c ≤ n → blk va ≠ some c:=fun c h1 h2 => by have:=I.da c h2; omega
  have ob:=(g5 o (by omega) (na o (by omega))).trans o4
  simp [ob,clearF_get,R20_12,f47,wrap_nat i (by omega)]
  generalize hK6 : Tr.put K5 o _ = K6
  have g6 : ∀ c,c ≠ o → K6.get c = K5.get c:=fun c hc => by rw [← hK6]; simp [hc]
  have ko6 : K6.get o = some (.cells 25 [] (outI x.kind tt.1 x.name x.uniq (.sl (m + 1 + 1) 0 (i + 1) 1)) .nil):=by rw [← hK6]; simp [outI]
  clear hK6
  have bk : ∀ c,c < m → c ≠ p → c ≠ o → blk va ≠ some c → K6.get c = K.get c:=fun c h1 h2 h3 h4 => (g6 c h3).trans ((g5 c (by omega) h4).trans (back c h1 h2))
  refine ⟨_,by omega,i + 1,rfl,.sl (m + 1 + 1) 0 (i + 1) 1,hlt,by simp [clearF_get,f0],by simp [clearF_get,f2],by simp [clearF_get,f4],by simp [clearF_get,f45],by simp [clearF_get,f46],by simp,by omega,fun c hc => ?_,fun c h1 h2 h3 => ?_,?_,?_,ko6,?_,fun c hc => ?_⟩
  · exact (g6 c (by omega)).trans ((g5 c (by omega) fun h => by have:=I.oa.blkLt h; omega).trans (t4 c (by omega)))
  · exact (bk c (by omega) h2 h3 (na c (by omega))).trans (I.kf c h1 h2 h3)
  · exact (g6 p (by omega)).trans ((g5 p (by omega) (na p (by omega))).trans ((g4 p (by omega)).trans jp3))
  · exact (bk n (by omega) (by omega) (by omega) (na n (by omega))).trans I.kn
  ·
   have h7:=o5.frame (H':=K6) (Nat.le_refl _) fun c hc => g6 c (by simp at hc; omega)
   have e5 : (x.on.take (i + 1)).map (colIx tt.1) = (x.on.take i).map (colIx tt.1) ++ [k]:=by
    rw [List.take_add_one,List.getElem?_eq_getElem hlt,List.map_append]
    simp only [Option.toList,List.map_cons,List.map_nil,hkk]
   rw [e5,Enc.l_append,Enc.l_one]
   exact h7
  · simp at hc; omega
 ·
  have hie : i = x.on.length:=by have:=I.hi; omega
  subst hie
  have oa:=I.oa
  rw [List.take_length] at oa
  simp [L20_0,R20_6,f46,f47]
  refine ⟨.pure _ (by simp),fun c h1 h2 h3 => I.kf c h1 h2 h3,I.kp,_,I.ko,rfl,?_⟩
  have hz : Frz (above n K) va (eInt.ds (x.on.map (colIx tt.1))):=by
   rw [Enc.ds,List.length_map]
   exact oa.frzA (fun c hc => by have:=I.da c hc; omega) (FrzL.pure (by simp)) (by omega)
  simp [outI,Bnd.cells]
  exact .inr hz
theorem CallOk.conv {P : Program} {g : FuncId} {args args' : List AV} {H H' : Hp} {n n' : Nat} {v : AV} (h : CallOk P g args' H n v H' n') (hc : ∀ φ D xs,VRs φ D args xs → VRs φ D args' xs) : CallOk P g args H n v H' n' :=
 ⟨h.1,h.2.1,fun φ D w xs hr hv => h.2.2 φ D w xs hr (hc φ D xs hv)⟩
theorem VR.nilE {φ : Ph} {D : Da} {x : Value} {α : Type} {k : Nat} (E : Enc α (k + 1)) (h : VR φ D (.cst (.slice none 0 0)) x) : VR φ D (E.ds []) x:=by
 cases h; exact .dsn _
noncomputable def pickF (F : Fr) : List Nat → Fr
 | [] => .nil
 | b :: r => (pickF F r).put b (F.get b)
theorem pickF_get (F : Fr) (L : List Nat) (c : Nat) : (pickF F L).get c = if c ∈ L then F.get c else none:=by
 induction L with
 | nil => simp [pickF]
 | cons b r ih =>
  simp only [pickF,Tr.get_put,ih,List.mem_cons]
  by_cases h : c = b
  · subst h; simp
  · simp [h]
theorem pickF_in {F : Fr} {L : List Nat} {c : Nat} (h : c ∈ L) : (pickF F L).get c = F.get c:=by rw [pickF_get,if_pos h]
theorem pickF_sub {F : Fr} {L : List Nat} {c : Nat} {v : AV} (h : (pickF F L).get c = some v) : F.get c = some v:=by
 rw [pickF_get] at h
 split at h
 · exact h
 · cases h
theorem shutLast {F F2 : Fr} {K : Hp} {m : Nat} {va x : AV} {l cs : List AV} {len k sz : Nat} (hF : ∀ (t : Nat) v,F2.get t = some v → F.get t = some v) (ha : OwnS K m va (l ++ [x]) (len + 1) 1) (hx : OwnS K m x cs k sz) (hz : 0 < sz) (hcs : PureL cs) (hd : ∀ c,blk va = some c → blk x ≠ some c) :
  ∃ h K2,Shuts h F K F2 K2 ∧ OwnS K2 m va (l ++ [.ds cs k sz]) (len + 1) 1 ∧ ∀ c,blk va ≠ some c → blk x ≠ some c → K2.get c = K.get c:=by
 have hfz : ∀ h : Hf,(∀ c,blk x = some c → h c = K.get c) → Frz h x (.ds cs k sz):=by
  intro h hh
  obtain ⟨s',rfl⟩ : ∃ s',sz = s' + 1:=⟨sz - 1,by omega⟩
  obtain ⟨h0,⟨rfl,rfl⟩ | ⟨b,kk,rfl,hb,hk,ho⟩⟩:=hx
  ·
   have : cs = []:=by simpa using h0
   subst this
   exact .nil _
  ·
   obtain ⟨u,z,bs,t,rfl,hg⟩:=ho.grab (o:=0) (c:=k * (s' + 1)) (by omega)
   refine .sl _ _ _ _ _ _ _ _ _ _ ((hh b rfl).trans hk) hg ?_
   rw [List.drop_zero,List.take_of_length_le (by omega)]
   exact FrzL.pure hcs
 obtain ⟨h0,⟨_,h1⟩ | ⟨b,kb,rfl,hb,hk,ho⟩⟩:=ha
 · omega
 have hxb : blk x ≠ some b:=hd b rfl
 obtain ⟨u,z,bs,t,rfl,hu,hg,hi⟩:=ho
 refine ⟨fun c => if blk x = some c then K.get c else none,(match blk x with
  | some c => K.put c none
  | none => K).put b (some (.cells u [] (l ++ [AV.ds cs k sz]) .nil)),⟨fun c y hc => ?_,fun c hc => ?_,fun t v hv => ⟨v,hF t v hv,.inl rfl⟩,fun c y hc => ?_⟩,⟨by simpa using h0,.inr ⟨b,.cells u [] (l ++ [AV.ds cs k sz]) .nil,rfl,hb,by simp,OwnB.list (by simpa using hu)⟩⟩,fun c h3 h4 => ?_⟩
 ·
  split at hc
  · exact hc
  · cases hc
 ·
  have hc : (if blk x = some c then K.get c else none) ≠ none:=hc
  by_cases he : blk x = some c
  ·
   have hcb : c ≠ b:=fun e => hxb (by rw [he,e])
   rw [he]
   simp [hcb]
  · simp [he] at hc
 ·
  by_cases hcb : c = b
  ·
   subst hcb
   simp at hc
   subst hc
   refine ⟨_,hk,.inr ⟨u,z,bs,t,_,rfl,rfl,by simpa using hu.symm,fun i v' hv => ?_⟩⟩
   by_cases hil : i < l.length
   ·
    rw [List.getElem?_append_left hil] at hv
    exact ⟨v',by rw [hg,List.getElem?_append_left hil]; exact hv,.inl rfl⟩
   ·
    rw [List.getElem?_append_right (by omega)] at hv
    have : i = l.length:=by
     have:=(List.getElem?_eq_some_iff.1 hv).1
     simp at this; omega
    subst this
    simp at hv
    subst hv
    refine ⟨x,by rw [hg]; simp,.inr (hfz _ fun c hc => if_pos hc)⟩
  ·
   rw [Tr.get_put,if_neg hcb] at hc
   refine ⟨y,?_,.inl rfl⟩
   cases hbx : blk x with
   | none => rw [hbx] at hc; exact hc
   | some d =>
    rw [hbx] at hc
    simp only [Tr.get_put] at hc
    split at hc
    · cases hc
    · exact hc
 ·
  have h5 : c ≠ b:=fun e => h3 (by rw [e]; rfl)
  rw [Tr.get_put,if_neg h5]
  cases hbx : blk x with
  | none => rfl
  | some d =>
   have : c ≠ d:=fun e => h4 (by rw [hbx,e])
   simp [this]
theorem OwnS.len1 {H : Hp} {n : Nat} {v : AV} {l : List AV} {len sz : Nat} (h : OwnS H n v l len sz) : v.len = 1 ∧ v.cells = [v]:=by
 obtain ⟨_,⟨rfl,_⟩ | ⟨b,k,rfl,_⟩⟩:=h <;> exact ⟨rfl,rfl⟩
noncomputable def fitS (ns : List (List Nat)) (ts : List Tbl) (e : Ex) (kind err : Int) : Ex × Int:=((e.bd ns ts err).1,keep (e.bd ns ts err).2.2 203 (decide ((e.bd ns ts err).2.1 ≠ 0) && decide ((e.bd ns ts err).2.1 ≠ kind)))
def exAt (l : List Ex) (i : Nat) : Ex:=l.getD i (.mk 0 ⟨0,0,[]⟩ [] [] 0 [])
theorem exAt_lt {l : List Ex} {i : Nat} (h : i < l.length) : exAt l i = l[i]:=by simp [exAt,h]
noncomputable def rowL (cols : List Col) (r : List Ex) : Nat → Int → List Ex × Int
 | 0,err => ([],err)
 | i + 1,err => ((rowL cols r i err).1 ++ [(fitS [] [] (exAt r i) (colAt cols i).kind (rowL cols r i err).2).1],(fitS [] [] (exAt r i) (colAt cols i).kind (rowL cols r i err).2).2)
theorem rowL_len (cols : List Col) (r : List Ex) (err : Int) : ∀ i,(rowL cols r i err).1.length = i
 | 0 => rfl
 | i + 1 => by simp [rowL,rowL_len cols r err i]
noncomputable def insR (t : Tbl) : List (List Ex) → Int → List (List Ex) × Int
 | [],err => ([],err)
 | r :: rs,err => if keep err 204 (!decide (r.length = t.cols.length)) ≠ 0 then ([],keep err 204 (!decide (r.length = t.cols.length)))
  else ((rowL t.cols r r.length (keep err 204 (!decide (r.length = t.cols.length)))).1 :: (insR t rs (rowL t.cols r r.length (keep err 204 (!decide (r.length = t.cols.length)))).2).1,(insR t rs (rowL t.cols r r.length (keep err 204 (!decide (r.length = t.cols.length)))).2).2)
noncomputable def insertB (s : Sch) (x : Stm) (err : Int) : Bnd × Int :=
 ({ kind:=x.kind,table:=(s.named x.table).1,rows:=(insR (s.named x.table).1 x.rows (keep err 200 (!(s.named x.table).2))).1 },(insR (s.named x.table).1 x.rows (keep err 200 (!(s.named x.table).2))).2)
def outR (kind : Int) (t : Tbl) (va : AV) : List AV:=[.int .i64 kind,.str [],.int .u32 t.id,.str t.name,eCol.ds t.cols,.int .u32 t.head,.int .u32 0,.int .u32 0,.str [],.cst (.slice none 0 0),.bool false,.int .u32 0,
 .cst (.slice none 0 0),va,.cst (.slice none 0 0),.cst (.slice none 0 0),.cst (.slice none 0 0),.cst (.slice none 0 0),.cst (.slice none 0 0),.cst (.slice none 0 0),.cst (.slice none 0 0),.cst (.slice none 0 0),.bool false,.bool false,.int .i64 0]
theorem insert_end {h : Hf} {kind : Int} {t : Tbl} {va : AV} {L : List (List Ex)} (hz : Frz h va (eRow.ds L)) : (outR kind t va).length = 25 ∧ FIL h (outR kind t va) (Bnd.cells { kind:=kind,table:=t,rows:=L }):=by
 refine ⟨rfl,?_⟩
 simp [outR,Bnd.cells,Ixd.zero]
 exact .inr hz
structure InI (H0 : Hp) (n p o : Nat) (s : Sch) (t : Tbl) (x : Stm) (e0 : Int) (i : Nat) (L : List (List Ex)) (e : Int) (va : AV) (F : Fr) (K : Hp) (m : Nat) : Prop where
 hi : i ≤ x.rows.length
 hL : L.length = i
 f0 : F.get 0 = some (.ptr p 0)
 f2 : F.get 2 = some (.ptr o 0)
 f4 : F.get 4 = some (.ptr n 0)
 f19 : F.get 19 = some (eRow.ds x.rows)
 f20 : F.get 20 = some (.int .i64 (x.rows.length : Int))
 f21 : F.get 21 = some (.int .i64 (i : Int))
 hm : n < m
 tp : Top K m
 kf : ∀ c,c < n → c ≠ p → c ≠ o → K.get c = H0.get c
 kp : K.get p = some (bdS s e)
 kn : K.get n = some (.cells 31 [] x.cells .nil)
 ko : K.get o = some (.cells 25 [] (outR x.kind t va) .nil)
 oa : OwnS K m va (eRow.l L) i 1
 da : ∀ c,blk va = some c → n < c
 he : insR t x.rows e0 = (L ++ (insR t (x.rows.drop i) e).1,(insR t (x.rows.drop i) e).2)
structure InJ (K0 : Hp) (m0 n p o : Nat) (s : Sch) (t : Tbl) (x : Stm) (r : List Ex) (e1 : Int) (i j : Nat) (vl : AV) (F : Fr) (K : Hp) (m : Nat) : Prop where
 hj : j ≤ r.length
 f0 : F.get 0 = some (.ptr p 0)
 f2 : F.get 2 = some (.ptr o 0)
 f4 : F.get 4 = some (.ptr n 0)
 f8 : F.get 8 = some vl
 f19 : F.get 19 = some (eRow.ds x.rows)
 f20 : F.get 20 = some (.int .i64 (x.rows.length : Int))
 f21 : F.get 21 = some (.int .i64 (i : Int))
 f41 : F.get 41 = some (eEx.ds r)
 f42 : F.get 42 = some (.int .i64 (r.length : Int))
 f43 : F.get 43 = some (.int .i64 (j : Int))
 hm : m0 ≤ m
 tp : Top K m
 kf : ∀ c,c < m0 → c ≠ p → K.get c = K0.get c
 kp : K.get p = some (bdS s (rowL t.cols r j e1).2)
 ol : OwnS K m vl (eEx.l (rowL t.cols r j e1).1) j 8
 dl : ∀ c,blk vl = some c → m0 ≤ c
theorem keep_ne {err e : Int} {b : Bool} (he : e ≠ 0) (h : keep err e b = 0) : err = 0 ∧ b = false:=by
 unfold keep at h
 split at h
 · exact absurd h he
 ·
  rename_i hc
  cases b
  · exact ⟨h,rfl⟩
  · exact absurd ⟨rfl,h⟩ hc
theorem insert24 (s : Sch) (hs : s.fine) (x : Stm) (hx : x.rows.length ≤ lim) (hr : ∀ r ∈ x.rows,r.length ≤ lim ∧ ∀ e ∈ r,e.sz ≤ lim ∧ e.may = true) (p o : Nat) (err : Int) (H : Hp) (n : Nat) (hpn : p < n) (hon : o < n) (hpo : p ≠ o) (hp : H.get p = some (bdS s err)) (ho : H.get o = some (.cells 25 [] (outZ x.kind) .nil)) :
  CallOk Try.prog 24 [.ptr p 0,x.av,.ptr o 0] H n (.tup []) ((H.put p (some (bdS s (insertB s x err).2))).put o (some (.cells 25 [] (insertB s x err).1.cells .nil))) n:=by
 refine binO (args:=[x.av]) c24 (by simp [A24]) (by simp) hpn hon hpo hp ho (PureL.rlt (by simp [outZ])) (PureL.rlt (by simp)) fun F H0 hF htop hp0 ho0 => ?_
 have hcr : insertB s x err = ({ kind:=x.kind,table:=(s.named x.table).1,rows:=(insR (s.named x.table).1 x.rows (keep err 200 (!(s.named x.table).2))).1 },(insR (s.named x.table).1 x.rows (keep err 200 (!(s.named x.table).2))).2):=rfl
 rw [hcr]
 have q:=neC hpn
 have q':=neD hpn
 have r:=neC hon
 have r':=neD hon
 have po : (p = o) = False:=by simp [hpo]
 have op : (o = p) = False:=by simp [hpo,eq_comm]
 have htc : (s.named x.table).1.cols.length ≤ lim:=firstD_len (Q:=fun t : Tbl => t.cols.length ≤ lim) (by simp [Tbl.zero]) hs.tc
 simp [A24,B24,R24_0,R24_1,hF,Stm.av,Stm.c1]
 refine CalV.ok (table19 s hs x.table p err _ _ (by omega) (by simp [q,hp0])) ?_
 generalize s.named x.table = tt at *
 obtain ⟨t,tb⟩:=tt
 simp only at htc ⊢
 generalize keep err 200 (!tb) = e0 at *
 simp only [outZ] at ho0
 simp [r,op,ho0,Enc.av,eTbl_c,R24_2,q',r',Stm.c6,Enc.len_ds]
 generalize hK : Tr.put _ o _ = K1
 have k0 : ∀ c,c < n → c ≠ p → c ≠ o → K1.get c = H0.get c:=fun c h1 h2 h3 => by rw [← hK]; simp [h2,h3,neC h1]
 have kp : K1.get p = some (bdS s e0):=by rw [← hK]; simp [po]
 have kn : K1.get n = some (.cells 31 [] x.cells .nil):=by rw [← hK]; simp [q',r']
 have ko : K1.get o = some (.cells 25 [] (outR x.kind t (.cst (.slice none 0 0))) .nil):=by rw [← hK]; simp [outR]
 have kt : Top K1 (n + 1):=fun c hc => by
  have e1 : ¬ c = n:=by omega
  have e2 : ¬ c = p:=by omega
  have e3 : ¬ c = o:=by omega
  rw [← hK]; simp [e1,e2,e3,htop c (by omega)]
 clear hK
 unfold lim at hx
 refine LoopV.ofZ (fun q F K m ms => ∃ (i : Nat) (L : List (List Ex)) (e : Int) (va : AV),q = x.rows.length - i ∧ InI H0 n p o s t x e0 i L e va F K m ∧ ms = []) x.rows.length (Zs.refl ⟨0,[],e0,.cst (.slice none 0 0),by simp,⟨by simp,by simp,by simp [hF],by simp [hF],by simp,by simp,by simp,by simp,by omega,kt,k0,kp,kn,ko,by simpa using OwnS.nil _ _ 1,by simp,by simp⟩,rfl⟩) ?_
 clear hF F K1 k0 kp kn ko kt
 rintro q1 F K m ms ⟨i,L,e,va,rfl,I,rfl⟩
 have f0:=I.f0
 have f2:=I.f2
 have f4:=I.f4
 have f19:=I.f19
 have f20:=I.f20
 have f21:=I.f21
 have hm:=I.hm
 by_cases hlt : i < x.rows.length
 ·
  have hxx:=eRow.ix (ik:=.i64) hlt
  rw [eRow_c] at hxx
  obtain ⟨hr1,hr2⟩:=hr _ (List.getElem_mem hlt)
  have ko:=I.ko
  simp only [outR] at ko
  have hdr:=List.drop_eq_getElem_cons hlt
  have he:=I.he
  rw [hdr,insR] at he
  generalize x.rows[i] = rw at *
  simp [L24_1,R24_3,R24_4,R24_5,f0,f2,f19,f20,f21,hlt,hxx,ko,Enc.len_ds]
  refine CalV.ok (failB p s e 204 (!decide (rw.length = t.cols.length)) K m (by omega) I.kp) ?_
  generalize hE : keep e 204 (!decide (rw.length = t.cols.length)) = e1 at he
  have j2 : ∀ c,c ≠ p → (K.put p (some (bdS s e1))).get c = K.get c:=fun c hc => by simp [hc]
  have jp : (K.put p (some (bdS s e1))).get p = some (bdS s e1):=by simp
  generalize K.put p (some (bdS s e1)) = K0 at j2 jp ⊢
  have jp' : K0.get p = some (.cells 3 [] [eTbl.ds s.tables,eIxd.ds s.indexes,.int .i64 e1] .nil):=jp
  have t0 : Top K0 m:=fun c hc => (j2 c (by omega)).trans (I.tp c hc)
  have o0:=(j2 o (by omega)).trans I.ko
  have oa0 : OwnS K0 m va (eRow.l L) i 1:=I.oa.frame (Nat.le_refl _) fun c hc => j2 c (by have:=I.da c hc; omega)
  by_cases h1 : e1 = 0
  ·
   have hlen : rw.length = t.cols.length:=by simpa using (keep_ne (by omega) (hE.trans h1)).2
   simp [h1] at he
   subst h1
   simp [R24_6,R24_7,R24_8,f0,jp',Enc.len_ds]
   refine LoopV.of (fun q F K m' ms => ∃ (j : Nat) (vl : AV),q = rw.length - j ∧ InJ K0 m n p o s t x rw 0 i j vl F K m' ∧ ms = []) rw.length ⟨0,.cst (.slice none 0 0),by simp,⟨by simp,by simp [f0],by simp [f2],by simp [f4],by simp,by simp [f19],by simp [f20],by simp [f21],by simp,by simp,by simp,by omega,t0,fun c _ _ => rfl,by simpa [rowL] using jp,by simpa [rowL] using OwnS.nil _ _ 8,by simp⟩,rfl⟩ ?_
   clear f0 f2 f4 f19 f20 f21
   have hda:=I.da
   have hkf:=I.kf
   have hkn:=I.kn
   clear hxx ko
   rintro q2 F K2 m2 ms ⟨j,vl,rfl,J,rfl⟩
   have f0:=J.f0
   have f2:=J.f2
   have f4:=J.f4
   have f8:=J.f8
   have f19:=J.f19
   have f20:=J.f20
   have f21:=J.f21
   have f41:=J.f41
   have f42:=J.f42
   have f43:=J.f43
   have hmm:=J.hm
   have ko2:=(J.kf o (by omega) (by omega)).trans o0
   by_cases hlt2 : j < rw.length
   ·
    have hxx:=eEx.ix (ik:=.i64) hlt2
    have hld:=fun H => eEx.ldN rw[j] (eEx.l (rw.drop (j + 1))) H
    have hcx:=eCol.ix (ik:=.i64) (show j < t.cols.length by omega)
    obtain ⟨hz,hm2⟩:=hr2 _ (List.getElem_mem hlt2)
    simp [L24_0,R24_9,R24_10,f41,f42,f43,hlt2,hxx,eEx_c]
    generalize hK1 : Tr.put _ m2 (some (ABlk.cells 8 [] rw[j].cells .nil)) = K3
    have g3 : ∀ c,c < m2 → K3.get c = K2.get c:=fun c hc => by rw [← hK1]; simp [neC hc]
    have x3 : K3.get m2 = some (.cells 8 [] rw[j].cells .nil):=by rw [← hK1]; simp
    have t3 : Top K3 (m2 + 1):=fun c hc => by
     have e1 : ¬ c = m2:=by omega
     rw [← hK1]; simp [e1,J.tp c (by omega)]
    clear hK1
    simp only [R24_11,vc_drw]
    have p3:=(g3 p (by omega)).trans J.kp
    have o3:=(g3 o (by omega)).trans ko2
    simp only [outR] at o3
    have hft:=fit70 [] [] rfl (by simp [kindsS,lim]) (by simp [lim]) (by simp) s rw[j] hz hm2 t.cols[j].kind p _ K3 (m2 + 1) (by omega) p3
    have hfit : fitS [] [] (exAt rw j) (colAt t.cols j).kind (rowL t.cols rw j 0).2 = ((rw[j].bd [] [] (rowL t.cols rw j 0).2).1,keep (rw[j].bd [] [] (rowL t.cols rw j 0).2).2.2 203 (decide ((rw[j].bd [] [] (rowL t.cols rw j 0).2).2.1 ≠ 0) && decide ((rw[j].bd [] [] (rowL t.cols rw j 0).2).2.1 ≠ t.cols[j].kind))):=by
     rw [exAt_lt hlt2,colAt_lt (show j < t.cols.length by omega)]; rfl
    have hrl : rowL t.cols rw (j + 1) 0 = ((rowL t.cols rw j 0).1 ++ [(fitS [] [] (exAt rw j) (colAt t.cols j).kind (rowL t.cols rw j 0).2).1],(fitS [] [] (exAt rw j) (colAt t.cols j).kind (rowL t.cols rw j 0).2).2):=rfl
    rw [hfit] at hrl
    generalize rw[j].bd [] [] (rowL t.cols rw j 0).2 = X at hft hrl
    obtain ⟨x1,kd,er⟩:=X
    simp only at hft hrl
    generalize keep er 203 (decide (kd ≠ 0) && decide (kd ≠ t.cols[j].kind)) = er2 at hft hrl
    have hcv : CallOk Try.prog 70 [.ptr p 0,.agg [.cst (.slice none 0 0),.cst (.slice none 0 0)] 2,.agg rw[j].cells 8,.int .i64 t.cols[j].kind] K3 (m2 + 1) (.agg x1.cells 8) (K3.put p (some (bdS s er2))) (m2 + 1):=by
     refine CallOk.conv hft fun φ D xs hv => ?_
     cases hv with
     | cons _ y0 _ ys h0 hv =>
     cases hv with
     | cons _ y1 _ ys h1 hv =>
     refine .cons _ _ _ _ h0 (.cons _ _ _ _ ?_ hv)
     cases h1 with
     | agg _ l _ a b =>
     cases a with
     | cons _ z0 _ zs a0 a =>
     cases a with
     | cons _ z1 _ zs a1 a =>
     cases a
     exact .agg _ _ _ (.cons _ _ _ _ (VR.nilE eStr a0) (.cons _ _ _ _ (VR.nilE eTbl a1) .nil)) rfl
    refine DrwV.of (ceL_ok (l:=[⟨70,[.ptr p 0,.agg [.cst (.slice none 0 0),.cst (.slice none 0 0)] 2,.agg rw[j].cells 8,.int .i64 t.cols[j].kind],K3,m2 + 1,.agg x1.cells 8,K3.put p (some (bdS s er2)),m2 + 1⟩]) ?_) ?_
    ·
     simp only [List.mem_cons,List.not_mem_nil,or_false]
     rintro c rfl
     exact hcv
    have n3 : K3.get (m2 + 1) = none:=t3 _ (Nat.le_refl _)
    have n4 : (K3.put p (some (bdS s er2))).get (m2 + 1) = none:=by simp [show ¬ m2 + 1 = p by omega,n3]
    have j4 : ∀ c,c ≠ p → (K3.put p (some (bdS s er2))).get c = K3.get c:=fun c hc => by simp [hc]
    have p4 : (K3.put p (some (bdS s er2))).get p = some (bdS s er2):=by simp
    simp [clearF_get,f0,f2,f8,o3,x3,hcx,eCol_c,ceL_hd]
    generalize K3.put p (some (bdS s er2)) = K4 at j4 p4 n4 ⊢
    simp [noneAt_cons,noneAt_nil,n3,n4]
    generalize hK5 : Tr.put K4 (m2 + 1) _ = K5
    have g5 : ∀ c,c < m2 + 1 → K5.get c = K4.get c:=fun c hc => by rw [← hK5]; simp [neC hc]
    have x5 : K5.get (m2 + 1) = some (.cells 8 [] x1.cells .nil):=by rw [← hK5]; simp
    have t5 : Top K5 (m2 + 1 + 1):=fun c hc => by
     have e1 : ¬ c = m2 + 1:=by omega
     rw [← hK5]; simp [e1,j4 c (by omega),t3 c (by omega)]
    clear hK5
    have bk : ∀ c,c < m2 → c ≠ p → K5.get c = K2.get c:=fun c h1 h2 => (g5 c (by omega)).trans ((j4 c h2).trans (g3 c h1))
    have ol5 : OwnS K5 (m2 + 1 + 1) vl (eEx.l (rowL t.cols rw j 0).1) j 8:=J.ol.frame (by omega) fun c hc => bk c (J.ol.blkLt hc) (by have:=J.dl c hc; omega)
    unfold lim at hr1
    refine OwnS.appK (k:=1) (new:=x1.cells) ol5 (sliceCells_one x5) (by simp) (by simp) (by omega) (by omega) (by unfold big; omega) (by omega) (by simp) fun K6 o6 g6 => ?_
    simp [clearF_get,R24_12,f43,wrap_nat j (by omega)]
    have g6' : ∀ c,c ≠ m2 + 1 + 1 → blk vl ≠ some c → K6.get c = K5.get c:=fun c h1 h2 => g6 c h1 fun e => h2 (by rw [e]; rfl)
    have nl : ∀ c,c < m → blk vl ≠ some c:=fun c h1 h2 => by have:=J.dl c h2; omega
    refine ⟨_,by omega,j + 1,rfl,.sl (m2 + 1 + 1) 0 (j + 1) 8,hlt2,by simp [clearF_get,f0],by simp [clearF_get,f2],by simp [clearF_get,f4],by simp,by simp [clearF_get,f19],by simp [clearF_get,f20],by simp [clearF_get,f21],by simp [clearF_get,f41],by simp [clearF_get,f42],by simp,by omega,fun c hc => ?_,fun c h1 h2 => ?_,?_,?_,fun c hc => by simp at hc; omega⟩
    · exact (g6' c (by omega) fun h => by have:=J.ol.blkLt h; omega).trans (t5 c (by omega))
    · exact (g6' c (by omega) (nl c h1)).trans ((bk c (by omega) h2).trans (J.kf c h1 h2))
    ·
     rw [hrl]
     exact (g6' p (by omega) (nl p (by omega))).trans ((g5 p (by omega)).trans p4)
    ·
     rw [hrl,Enc.l_append,Enc.l_one]
     exact o6
   ·
    have hje : j = rw.length:=by have:=J.hj; omega
    subst hje
    have tp2:=J.tp
    have kp2:=J.kp
    have kn2:=(J.kf n hm (by omega)).trans ((j2 n (by omega)).trans hkn)
    have ol2:=J.ol
    have dl2:=J.dl
    have kf2 : ∀ c,c < n → c ≠ p → c ≠ o → K2.get c = H0.get c:=fun c h1 h2 h3 => (J.kf c (by omega) h2).trans ((j2 c h2).trans (hkf c h1 h2 h3))
    have oa2 : OwnS K2 m2 va (eRow.l L) i 1:=oa0.frame (by omega) fun c hc => J.kf c (oa0.blkLt hc) (by have:=hda c hc; omega)
    have hle:=I.hL
    simp only [outR] at ko2
    have hone:=ol2.isOne
    obtain ⟨hl1,hl2⟩:=ol2.len1
    simp [L24_0,R24_9,R24_13,f42,f43,f2,f8,ko2,hl1,hl2]
    generalize hK3 : Tr.put K2 m2 _ = K3
    have g3 : ∀ c,c < m2 → K3.get c = K2.get c:=fun c hc => by rw [← hK3]; simp [neC hc]
    have x3 : K3.get m2 = some (.cells 1 [] [vl] .nil):=by rw [← hK3]; simp
    have t3 : Top K3 (m2 + 1):=fun c hc => by
     have e1 : ¬ c = m2:=by omega
     rw [← hK3]; simp [e1,tp2 c (by omega)]
    clear hK3
    have oa3 : OwnS K3 (m2 + 1) va (eRow.l L) i 1:=oa2.frame (by omega) fun c hc => g3 c (oa2.blkLt hc)
    refine OwnS.appA (k:=1) (new:=[vl]) oa3 (sliceCells_one x3) (by simp) (by simp) (by omega) (by omega) (by unfold big; omega) (by omega) (by simp [hone]) fun K4 o4 g4 => ?_
    have na : ∀ c,c ≤ n → blk va ≠ some c:=fun c h1 h2 => by have:=hda c h2; omega
    have ob:=(g4 o (by omega) (na o (by omega))).trans ((g3 o (by omega)).trans ko2)
    simp [ob,R24_14,f21,wrap_nat i (by omega)]
    generalize hK5 : Tr.put K4 o _ = K5
    have g5 : ∀ c,c ≠ o → K5.get c = K4.get c:=fun c hc => by rw [← hK5]; simp [hc]
    have ko5 : K5.get o = some (.cells 25 [] (outR x.kind t (.sl (m2 + 1) 0 (i + 1) 1)) .nil):=by rw [← hK5]; simp [outR]
    clear hK5
    have bk : ∀ c,c < m2 → c ≠ o → blk va ≠ some c → K5.get c = K2.get c:=fun c h1 h3 h4 => (g5 c h3).trans ((g4 c (by omega) h4).trans (g3 c h1))
    have oa5 : OwnS K5 (m2 + 1 + 1) (.sl (m2 + 1) 0 (i + 1) 1) (eRow.l L ++ [vl]) (i + 1) 1:=o4.frame (by omega) fun c hc => g5 c (by simp at hc; omega)
    have ol5 : OwnS K5 (m2 + 1 + 1) vl (eEx.l (rowL t.cols rw rw.length 0).1) rw.length 8:=ol2.frame (by omega) fun c hc => bk c (ol2.blkLt hc) (by have:=dl2 c hc; omega) fun h => by have h1:=oa0.blkLt h; have h2:=dl2 c hc; omega
    generalize hF2 : (Fp 21 _ _ : Fr) = F2
    have w0 : F2.get 0 = some (.ptr p 0):=by rw [← hF2]; simp [f0]
    have w2 : F2.get 2 = some (.ptr o 0):=by rw [← hF2]; simp [f2]
    have w4 : F2.get 4 = some (.ptr n 0):=by rw [← hF2]; simp [f4]
    have w19 : F2.get 19 = some (eRow.ds x.rows):=by rw [← hF2]; simp [f19]
    have w20 : F2.get 20 = some (.int .i64 (x.rows.length : Int)):=by rw [← hF2]; simp [f20]
    have w21 : F2.get 21 = some (.int .i64 ((i + 1 : Nat) : Int)):=by rw [← hF2]; simp
    clear hF2
    obtain ⟨hh,K6,hsh,oa6,g6⟩:=shutLast (F:=F2) (F2:=pickF F2 [0,2,4,19,20,21]) (fun t v hv => pickF_sub hv) oa5 ol5 (by omega) (by simp) (fun c hc hc2 => by
     have:=ol2.blkLt hc2
     simp at hc
     omega)
    have nb : ∀ c,c < m → blk (AV.sl (m2 + 1) 0 (i + 1) 1) ≠ some c:=fun c h1 h2 => by simp at h2; omega
    have nl : ∀ c,c < m → blk vl ≠ some c:=fun c h1 h2 => by have:=dl2 c h2; omega
    refine ⟨x.rows.length - (i + 1),by omega,hh,_,K6,hsh,i + 1,rfl,⟨L ++ [(rowL t.cols rw rw.length 0).1],(rowL t.cols rw rw.length 0).2,.sl (m2 + 1) 0 (i + 1) 1,hlt,by simp [hle],(pickF_in (by simp)).trans w0,(pickF_in (by simp)).trans w2,(pickF_in (by simp)).trans w4,(pickF_in (by simp)).trans w19,(pickF_in (by simp)).trans w20,(pickF_in (by simp)).trans w21,by omega,fun c hc => ?_,fun c h1 h2 h3 => ?_,?_,?_,?_,?_,fun c hc => by simp at hc; omega,?_⟩,rfl⟩
    ·
     have e1 : blk (AV.sl (m2 + 1) 0 (i + 1) 1) ≠ some c:=fun h => by simp at h; omega
     have e2 : blk vl ≠ some c:=fun h => by have:=ol2.blkLt h; omega
     exact (g6 c e1 e2).trans ((g5 c (by omega)).trans ((g4 c (by omega) fun h => by have:=oa0.blkLt h; omega).trans (t3 c (by omega))))
    · exact (g6 c (nb c (by omega)) (nl c (by omega))).trans ((bk c (by omega) h3 (na c (by omega))).trans (kf2 c h1 h2 h3))
    · exact (g6 p (nb p (by omega)) (nl p (by omega))).trans ((bk p (by omega) (by omega) (na p (by omega))).trans kp2)
    · exact (g6 n (nb n (by omega)) (nl n (by omega))).trans ((bk n (by omega) (by omega) (na n (by omega))).trans kn2)
    · exact (g6 o (nb o (by omega)) (nl o (by omega))).trans ko5
    ·
     rw [Enc.l_append,Enc.l_one,eRow_c,Enc.ds,rowL_len]
     exact oa6
    · rw [he]; simp
  ·
   simp [h1] at he
   have hz : Frz (above n K0) va (eRow.ds L):=by
    have:=oa0.frzA (n0:=n) (fun c hc => by have:=I.da c hc; omega) (FrzL.pure (eRow.l_pure L)) (by omega)
    rw [Enc.ds,I.hL]; exact this
   have hkf:=I.kf
   rw [he]
   simp [R24_6,f0,jp',h1]
   refine ⟨.pure _ (by simp),fun c h1 h2 h3 => (j2 c h2).trans (hkf c h1 h2 h3),rfl,_,o0,insert_end hz⟩
 ·
  have hie : i = x.rows.length:=by have:=I.hi; omega
  subst hie
  have he:=I.he
  rw [List.drop_length,insR,List.append_nil] at he
  rw [he]
  simp [L24_1,R24_3,f20,f21]
  refine ⟨.pure _ (by simp),fun c h1 h2 h3 => I.kf c h1 h2 h3,I.kp,_,I.ko,insert_end ?_⟩
  have:=I.oa.frzA (n0:=n) (fun c hc => by have:=I.da c hc; omega) (FrzL.pure (by simp)) (by omega)
  rw [Enc.ds,I.hL]; exact this
def splice (l vs : List AV) (o : Nat) : List AV:=l.take o ++ (vs ++ l.drop (o + vs.length))
theorem splice_len {l vs : List AV} {o : Nat} (ho : o + vs.length ≤ l.length) : (splice l vs o).length = l.length:=by
 simp [splice]; omega
theorem splice_get {l vs : List AV} {o : Nat} (ho : o + vs.length ≤ l.length) (j : Nat) : (splice l vs o)[j]? = if o ≤ j ∧ j < o + vs.length then vs[j - o]? else l[j]?:=by
 unfold splice
 by_cases h1 : j < o
 · rw [List.getElem?_append_left (by simp; omega),List.getElem?_take,if_pos h1,if_neg (by omega)]
 ·
  rw [List.getElem?_append_right (by simp; omega)]
  have e : (l.take o).length = o:=by simp; omega
  rw [e]
  by_cases h2 : j < o + vs.length
  · rw [List.getElem?_append_left (by omega),if_pos ⟨by omega,h2⟩]
  ·
   rw [List.getElem?_append_right (by omega),List.getElem?_drop,if_neg (by omega)]
   congr 1; omega
theorem OwnB.stN {u : Nat} {z bs : List AV} {t : Ov AV} {l vs : List AV} (h : OwnB (.cells u z bs t) l) {o : Nat} (hv : vs ≠ []) (ho : o + vs.length ≤ l.length) : OwnB (stBlk u z bs t vs o) (splice l vs o):=by
 obtain ⟨u',z',bs',t',e,hu,hg,hl⟩:=h
 injection e with e1 e2 e3 e4
 subst e1 e2 e3 e4
 have hput : ∀ t : Ov AV,(Ov.putAll vs o t) ≠ .nil:=by
  intro t e
  have:=Ov.get_putAll vs o t o
  have hp : 0 < vs.length:=List.length_pos_iff.2 hv
  rw [e,if_pos ⟨by omega,by omega⟩,Nat.sub_self,List.getElem?_eq_getElem hp] at this
  simp at this
 have hgen : OwnB (.cells u z bs (Ov.putAll vs o t)) (splice l vs o):=by
  refine ⟨u,z,bs,_,rfl,by rw [splice_len ho,hu],fun j => ?_,fun e => absurd e (hput t)⟩
  have hj:=hg j
  rw [getc_eq] at hj ⊢
  rw [splice_get ho,Ov.get_putAll]
  by_cases hju : j < u
  ·
   rw [if_pos hju] at hj ⊢
   by_cases hin : o ≤ j ∧ j < o + vs.length
   · rw [if_pos hin,if_pos hin,List.getElem?_eq_getElem (by omega)]
   ·
    rw [if_neg hin,if_neg hin]
    exact hj
  ·
   rw [if_neg hju] at hj ⊢
   rw [if_neg (by omega)]
   exact hj
 unfold stBlk
 split
 ·
  split
  ·
   split
   ·
    split
    ·
     rename_i bs' hp
     have hb:=hl rfl rfl
     obtain ⟨p1,_,p3⟩:=patch_spec hp
     have : bs' = splice l vs o:=by
      apply List.ext_getElem?
      intro j
      rw [p3,splice_get ho]
      have hj:=hg j
      rw [getc_list'] at hj
      by_cases hin : o ≤ j ∧ j < o + vs.length
      · rw [if_pos hin,if_pos hin]
      ·
       rw [if_neg hin,if_neg hin,← hj]
       split
       · rfl
       · rw [List.getElem?_eq_none (by omega)]
     rw [this]
     exact .list (by rw [splice_len ho,hu])
    · exact hgen
   · exact hgen
  · exact hgen
 · exact hgen
 · exact hgen
theorem own_stE {b o k : Nat} {kb : ABlk} {L : List AV} {v : AV} (ho : OwnB kb L) (hk : v.len = k) (hc : v.cells.length = k) (h0 : 0 < k) (h1 : allOne v.cells = true) (hl : o + k ≤ L.length) : ∃ y,stE k v (some kb) b o = .upd (.tup []) b y ∧ OwnB y (splice L v.cells o):=by
 have ho':=ho
 obtain ⟨u,z,bs,t,rfl,h3,h4,_⟩:=ho
 refine ⟨stBlk u z bs t v.cells o,?_,ho'.stN (by intro e; rw [e] at hc; simp at hc; omega) (by omega)⟩
 have hu : o + k ≤ u:=by omega
 simp [hu,hk,h1]
theorem Enc.l_set {α : Type} {k : Nat} (E : Enc α k) {l : List α} {i : Nat} (h : i < l.length) (a : α) : splice (E.l l) (E.cells a) (i * k) = E.l (l.set i a):=by
 unfold splice
 have e1 : i * k + (E.cells a).length = (i + 1) * k:=by rw [E.len,Nat.add_mul]; omega
 rw [E.l_take,e1,E.l_dropA,← E.l_cons,← E.l_append,List.set_eq_take_append_cons_drop,if_pos h]
theorem Enc.l_last {α : Type} {k : Nat} (E : Enc α k) (l : List α) (z : List AV) (hz : z.length = k) (a : α) : splice (E.l l ++ z) (E.cells a) (l.length * k) = E.l (l ++ [a]):=by
 unfold splice
 rw [List.take_append_of_le_length (by simp),List.take_of_length_le (by simp),List.drop_eq_nil_of_le (by simp [hz]),List.append_nil,E.l_append,E.l_one]
theorem FrzL.take {h : Hf} : ∀ {a b : List AV} (i : Nat),FrzL h a b → FrzL h (a.take i) (b.take i)
 | _,_,0,_ => by simpa using FrzL.nil
 | _,_,i + 1,.nil => by simpa using FrzL.nil
 | _,_,i + 1,.cons _ _ _ _ x y => by simpa using FrzL.cons _ _ _ _ x (FrzL.take i y)
theorem FrzL.drop {h : Hf} : ∀ {a b : List AV} (i : Nat),FrzL h a b → FrzL h (a.drop i) (b.drop i)
 | _,_,0,k => by simpa using k
 | _,_,i + 1,.nil => by simpa using FrzL.nil
 | _,_,i + 1,.cons _ _ _ _ x y => by simpa using FrzL.drop i y
theorem FrzL.splice {h : Hf} {a b c d : List AV} (o : Nat) (x : FrzL h a b) (y : FrzL h c d) : FrzL h (Go.Abs.splice a c o) (Go.Abs.splice b d o):=by
 unfold Go.Abs.splice
 rw [← y.length]
 exact (x.take o).append (y.append (x.drop _))
theorem OwnS.cLen {H : Hp} {n : Nat} {v : AV} {l : List AV} {len sz : Nat} (h : OwnS H n v l len sz) : cLenL v = .val (.int .i64 (len : Int)):=by
 obtain ⟨_,⟨rfl,rfl⟩ | ⟨b,k,rfl,_⟩⟩:=h <;> simp
def colX (i : Nat) : Ex:=.mk 3 ⟨0,0,[]⟩ [] [] (i : Int) []
def colC (i : Nat) : List AV:=[.int .i64 3,.int .i64 0,.int .i64 0,.str [],.str [],.str [],.int .i64 (i : Int),.cst (.slice none 0 0)]
theorem colC_frz (h : Hf) (i : Nat) : FrzL h (colC i) (eEx.cells (colX i)):=Ex.frz (v:=⟨0,0,[]⟩) (.nil 7)
def colsX (k : Nat) : List Ex:=(List.range k).map colX
theorem colsX_succ (k : Nat) : colsX (k + 1) = colsX k ++ [colX k]:=by simp [colsX,List.range_succ]
@[simp] theorem colsX_len (k : Nat) : (colsX k).length = k:=by simp [colsX]
noncomputable def updR (t : Tbl) : List St1 → List St1 → List Ex → Int → List Ex × Int × Bool
 | _,[],new,err => (new,err,true)
 | done,x :: r,new,err =>
  if keep (keep err 201 (decide (colIx t x.name < 0))) 205 (done.any fun y => decide (y.name = x.name)) ≠ 0 then (new,keep (keep err 201 (decide (colIx t x.name < 0))) 205 (done.any fun y => decide (y.name = x.name)),false)
  else updR t (done ++ [x]) r (new.set (colIx t x.name).toNat (fitS [t.name] [t] x.e (colAt t.cols (colIx t x.name).toNat).kind (keep (keep err 201 (decide (colIx t x.name < 0))) 205 (done.any fun y => decide (y.name = x.name)))).1) (fitS [t.name] [t] x.e (colAt t.cols (colIx t x.name).toNat).kind (keep (keep err 201 (decide (colIx t x.name < 0))) 205 (done.any fun y => decide (y.name = x.name)))).2
noncomputable def updT (kind : Int) (t : Tbl) (cond : Ex) (r : List Ex × Int × Bool) : Bnd × Int :=
 if r.2.2 = true then ({ kind:=kind,table:=t,new:=r.1,cond:=(condB [t.name] [t] cond r.2.1).1 },(condB [t.name] [t] cond r.2.1).2) else ({ kind:=kind,table:=t,new:=r.1 },r.2.1)
noncomputable def updateB (s : Sch) (x : Stm) (err : Int) : Bnd × Int :=
 if keep err 200 (!(s.named x.table).2) ≠ 0 then ({ kind:=x.kind,table:=(s.named x.table).1 },keep err 200 (!(s.named x.table).2))
 else updT x.kind (s.named x.table).1 x.cond (updR (s.named x.table).1 [] x.sets (colsX (s.named x.table).1.cols.length) (keep err 200 (!(s.named x.table).2)))
def outU (kind : Int) (t : Tbl) (va w : AV) : List AV:=[.int .i64 kind,.str [],.int .u32 t.id,.str t.name,eCol.ds t.cols,.int .u32 t.head,.int .u32 0,.int .u32 0,.str [],.cst (.slice none 0 0),.bool false,.int .u32 0,
 .cst (.slice none 0 0),.cst (.slice none 0 0),va,.cst (.slice none 0 0),.cst (.slice none 0 0),w,.cst (.slice none 0 0),.cst (.slice none 0 0),.cst (.slice none 0 0),.cst (.slice none 0 0),.bool false,.bool false,.int .i64 0]
theorem update_end {h : Hf} {kind : Int} {t : Tbl} {va w : AV} {L C : List Ex} (hz : Frz h va (eEx.ds L)) (hw : FI h w (eEx.ds C)) : (outU kind t va w).length = 25 ∧ FIL h (outU kind t va w) (Bnd.cells { kind:=kind,table:=t,new:=L,cond:=C }):=by
 refine ⟨rfl,?_⟩
 simp [outU,Bnd.cells,Ixd.zero]
 exact ⟨.inr hz,hw⟩
structure UpA (H0 : Hp) (n p o : Nat) (s : Sch) (t : Tbl) (x : Stm) (i : Nat) (va : AV) (R : List AV) (F : Fr) (K : Hp) (m : Nat) : Prop where
 hi : i ≤ t.cols.length
 f0 : F.get 0 = some (.ptr p 0)
 f2 : F.get 2 = some (.ptr o 0)
 f4 : F.get 4 = some (.ptr n 0)
 f6 : F.get 6 = some (.ptr (n + 1) 0)
 f33 : F.get 33 = some (.int .i64 (t.cols.length : Int))
 f34 : F.get 34 = some (.int .i64 (i : Int))
 hm : n + 2 ≤ m
 tp : Top K m
 kf : ∀ c,c < n → c ≠ p → c ≠ o → K.get c = H0.get c
 kp : K.get p = some (bdS s 0)
 kn : K.get n = some (.cells 31 [] x.cells .nil)
 ks : K.get (n + 1) = some (.cells 2 [] (scC [t.name] [t]) .nil)
 ko : K.get o = some (.cells 25 [] (outU x.kind t va (.cst (.slice none 0 0))) .nil)
 oa : OwnS K m va R i 8
 da : ∀ c,blk va = some c → n + 2 ≤ c
 fz : ∀ h,FrzL h R (eEx.l (colsX i))
theorem update27a (s : Sch) (_hs : s.fine) (x : Stm) (p o : Nat) (n : Nat) (hpn : p < n) (hon : o < n) (hpo : p ≠ o) (H0 : Hp) (t : Tbl) (htc : t.cols.length ≤ lim) (F : Fr) (K : Hp) (m : Nat) (Q : QA) (va : AV) (R : List AV) (I : UpA H0 n p o s t x 0 va R F K m)
  (hQ : ∀ va R F K m,UpA H0 n p o s t x t.cols.length va R F K m → Q .normal F K m []) : LoopV L27_0 Try.prog F K m [] (BlkQ 0 Q):=by
 unfold lim at htc
 refine LoopV.of (fun q F K m ms => ∃ (i : Nat) (va : AV) (R : List AV),q = t.cols.length - i ∧ UpA H0 n p o s t x i va R F K m ∧ ms = []) t.cols.length ⟨0,va,R,by simp,I,rfl⟩ ?_
 clear I F K m va R
 rintro q1 F K m ms ⟨i,va,R,rfl,I,rfl⟩
 have f0:=I.f0
 have f2:=I.f2
 have f4:=I.f4
 have f6:=I.f6
 have f33:=I.f33
 have f34:=I.f34
 have hm:=I.hm
 by_cases hlt : i < t.cols.length
 ·
  have ko:=I.ko
  simp only [outU] at ko
  have hlv:=I.oa.cLen
  simp [L27_0,R27_5,R27_6,f33,f34,hlt]
  simp only [R27_7,vc_drw]
  refine DrwV.of (ce0_ok (P:=Try.prog)) ?_
  have tm:=I.tp m (Nat.le_refl _)
  simp [clearF_get,f2,ko,hlv,noneAt_cons,noneAt_nil,tm]
  generalize hK1 : Tr.put K m _ = K1
  have g1 : ∀ c,c < m → K1.get c = K.get c:=fun c hc => by rw [← hK1]; simp [neC hc]
  have x1 : K1.get m = some (.cells 8 [] [.int .i64 0,.int .i64 0,.int .i64 0,.str [],.str [],.str [],.int .i64 0,.cst (.slice none 0 0)] .nil):=by rw [← hK1]; simp
  have t1 : Top K1 (m + 1):=fun c hc => by
   have e1 : ¬ c = m:=by omega
   rw [← hK1]; simp [e1,I.tp c (by omega)]
  clear hK1
  have oa1 : OwnS K1 (m + 1) va R i 8:=I.oa.frame (by omega) fun c hc => g1 c (I.oa.blkLt hc)
  refine OwnS.appK (k:=1) (new:=[.int .i64 0,.int .i64 0,.int .i64 0,.str [],.str [],.str [],.int .i64 0,.cst (.slice none 0 0)]) oa1 (sliceCells_one x1) (by simp) (by simp) (by omega) (by omega) (by unfold big; omega) (by omega) (by simp) fun K2 o2 g2 => ?_
  have g2' : ∀ c,c ≠ m + 1 → blk va ≠ some c → K2.get c = K1.get c:=fun c h1 h2 => g2 c h1 fun e => h2 (by rw [e]; rfl)
  have na : ∀ c,c < n + 2 → blk va ≠ some c:=fun c h1 h2 => by have:=I.da c h2; omega
  obtain ⟨hRl,⟨e,_⟩ | ⟨b,kb,hb,_,hkb,hob⟩⟩:=o2
  · cases e
  injection hb with hb
  subst hb
  have hRl0 : R.length = i * 8:=I.oa.1
  have hix:=cIxa_sl (b:=m + 1) (o:=0) (len:=i + 1) (sz:=8) (i:=i) (k:=.i64) (by omega)
  rw [Nat.zero_add] at hix
  obtain ⟨y,hst,hoy⟩:=own_stE (b:=m + 1) (k:=8) (o:=i * 8) (v:=.agg (colC i) 8) hob rfl rfl (by omega) (by simp [colC]) (by simp [hRl0])
  simp only [colC] at hst
  have ob:=(g2' o (by omega) (na o (by omega))).trans ((g1 o (by omega)).trans ko)
  have om : (o = m + 1) = False:=by simp only [eq_iff_iff,iff_false]; omega
  simp [hix]
  simp [hst,hkb,om,ob]
  have k3 : ∀ c,c ≠ o → c ≠ m + 1 → ((Tr.put K2 (m + 1) (some y)).put o (some (.cells 25 [] (outU x.kind t (.sl (m + 1) 0 (i + 1) 8) (.cst (.slice none 0 0))) .nil))).get c = K2.get c:=fun c h1 h2 => by simp [h1,h2]
  have o3 : ((Tr.put K2 (m + 1) (some y)).put o (some (.cells 25 [] (outU x.kind t (.sl (m + 1) 0 (i + 1) 8) (.cst (.slice none 0 0))) .nil))).get o = some (.cells 25 [] (outU x.kind t (.sl (m + 1) 0 (i + 1) 8) (.cst (.slice none 0 0))) .nil):=by simp
  have y3 : ((Tr.put K2 (m + 1) (some y)).put o (some (.cells 25 [] (outU x.kind t (.sl (m + 1) 0 (i + 1) 8) (.cst (.slice none 0 0))) .nil))).get (m + 1) = some y:=by simp [show ¬ m + 1 = o by omega]
  simp only [outU] at k3 o3 y3
  generalize Tr.put (Tr.put K2 (m + 1) (some y)) o _ = K3 at k3 o3 y3 ⊢
  simp [R27_8,clearF_get,f34,wrap_nat i (by omega)]
  have bk : ∀ c,c < m → c ≠ o → blk va ≠ some c → K3.get c = K.get c:=fun c h1 h2 h3 => (k3 c h2 (by omega)).trans ((g2' c (by omega) h3).trans (g1 c h1))
  have tp2 : Top K2 (m + 1 + 1):=fun c hc => (g2' c (by omega) fun h => by have:=I.oa.blkLt h; omega).trans (t1 c (by omega))
  refine ⟨_,by omega,i + 1,rfl,.sl (m + 1) 0 (i + 1) 8,splice (R ++ [.int .i64 0,.int .i64 0,.int .i64 0,.str [],.str [],.str [],.int .i64 0,.cst (.slice none 0 0)]) (colC i) (i * 8),hlt,by simp [clearF_get,f0],by simp [clearF_get,f2],by simp [clearF_get,f4],by simp [clearF_get,f6],by simp [clearF_get,f33],by simp,by omega,fun c hc => (k3 c (by omega) (by omega)).trans (tp2 c hc),fun c h1 h2 h3 => (bk c (by omega) h3 (na c (by omega))).trans (I.kf c h1 h2 h3),(bk p (by omega) (by omega) (na p (by omega))).trans I.kp,(bk n (by omega) (by omega) (na n (by omega))).trans I.kn,(bk (n + 1) (by omega) (by omega) (na (n + 1) (by omega))).trans I.ks,o3,⟨?_,.inr ⟨m + 1,y,rfl,by omega,y3,hoy⟩⟩,fun c hc => by simp at hc; omega,fun h => ?_⟩
  · rw [splice_len (by simp [hRl0,colC])]; simp [hRl0]; omega
  ·
   have e:=Enc.l_last eEx (colsX i) [.int .i64 0,.int .i64 0,.int .i64 0,.str [],.str [],.str [],.int .i64 0,.cst (.slice none 0 0)] rfl (colX i)
   rw [colsX_succ,← e,colsX_len]
   exact ((I.fz h).append (FrzL.pure (by simp))).splice _ (colC_frz h i)
 ·
  have hie : i = t.cols.length:=by have:=I.hi; omega
  subst hie
  simp [L27_0,R27_5,f33,f34]
  exact hQ va R _ K m ⟨I.hi,by simp [f0],by simp [f2],by simp [f4],by simp [f6],by simp [f33],by simp [f34],I.hm,I.tp,I.kf,I.kp,I.kn,I.ks,I.ko,I.oa,I.da,I.fz⟩
end Go.Abs
