/- Bind, its kinds that drop and delete. -/
import Derived.Test.YtfdoeenlgkkaiaaBt10
namespace Go.Abs
open Go.Proofs
open Classical
set_option maxRecDepth 100000
theorem outZ_def (k : Int) : outZ k = [.int .i64 k,.str [],.int .u32 0,.str [],.cst (.slice none 0 0),.int .u32 0,.int .u32 0,.int .u32 0,.str [],.cst (.slice none 0 0),.bool false,.int .u32 0,
 .cst (.slice none 0 0),.cst (.slice none 0 0),.cst (.slice none 0 0),.cst (.slice none 0 0),.cst (.slice none 0 0),.cst (.slice none 0 0),.cst (.slice none 0 0),.cst (.slice none 0 0),.cst (.slice none 0 0),.cst (.slice none 0 0),.bool false,.bool false,.int .i64 0]:=rfl
theorem bind5k2 (s : Sch) (hs : s.fine) (x : Stm) (hk : x.kind = 2) (F : Fr) (K : Hp) (Q : QA) (E : E5 s x F K) (hQ : Fin5 s x Q) : VC Try.prog C5 F K 5 [] Q:=by
 obtain ⟨f2,f3,f4,f6,f7,f26,k0,k1,k2,k3,k4,top⟩:=E
 have hc:=table19 s hs x.table 3 0 K 5 (by omega) k3
 have hb : bodyB s x = ({ kind:=x.kind,table:=(s.named x.table).1 },keep 0 200 (!(s.named x.table).2)):=by simp [bodyB,hk]
 have x1:=x.g1
 rw [hk] at f26
 rw [outZ_def] at k4
 generalize hxs : x.cells = xs at *
 simp [C5,R5_6,R5_8,R5_9,f26,f3,f6,k1,x1]
 refine CalV.ok hc ?_
 generalize s.named x.table = T at *
 obtain ⟨t,ok⟩:=T
 simp [k4,f7,Enc.av,eTbl_c]
 refine hQ _ _ _ ?_ ?_ ?_ ?_
 · simp [f4]
 · simp [f6]
 · simp [f7]
 ·
  rw [hb]
  exact ⟨by simp [k2],by simp,_,(Tr.get_put _ _ _ _).trans (if_pos rfl),rfl,by simp [Enc.ds],fun h => by simp [Bnd.cells,Ixd.zero]⟩
theorem bind5k4 (s : Sch) (hs : s.fine) (x : Stm) (hk : x.kind = 4) (F : Fr) (K : Hp) (Q : QA) (E : E5 s x F K) (hQ : Fin5 s x Q) : VC Try.prog C5 F K 5 [] Q:=by
 obtain ⟨f2,f3,f4,f6,f7,f26,k0,k1,k2,k3,k4,top⟩:=E
 have hi:=index21 s hs x.name
 have hb : bodyB s x = unindexB s x 0:=by simp [bodyB,hk]
 unfold unindexB at hb
 have x2:=x.g2
 have ht:=table23 s hs (s.index x.name).1.table
 have hav : eSch.av s = .agg [eTbl.ds s.tables,eIxd.ds s.indexes] 2:=rfl
 rw [hav] at hi ht
 rw [eSch_c] at k0
 rw [hk] at f26
 rw [outZ_def] at k4
 generalize hxs : x.cells = xs at *
 simp [C5,R5_6,R5_8,R5_10,R5_12,R5_13,f26,f2,f3,k0,k1,x2]
 refine CalV.pure hi ?_
 generalize s.index x.name = I at *
 obtain ⟨ix,ok⟩:=I
 generalize s.table ix.table = T at *
 obtain ⟨t,ok2⟩:=T
 simp [f6,Enc.av,eIxd_c,R5_14]
 generalize hK1 : Tr.put (Tr.put K 5 _) 5 _ = K1
 have g1 : ∀ b,b < 5 → K1.get b = K.get b:=fun b hb => by rw [← hK1]; simp [show ¬ b = 5 by omega]
 have g5 : K1.get 5 = some (.cells 6 [] [.int .u32 ix.id,.int .u32 ix.table,.str ix.name,eInt.ds ix.cols,.bool ix.uniq,.int .u32 ix.root] .nil):=by rw [← hK1]; simp
 clear hK1
 refine CalV.ok (failB 3 s 0 202 (!ok) K1 6 (by omega) ((g1 3 (by omega)).trans k3)) ?_
 have w0:=(g1 0 (by omega)).trans k0
 have w2:=(g1 2 (by omega)).trans k2
 have w4:=(g1 4 (by omega)).trans k4
 simp [R5_15,R5_16,f2,f7,g5,w0,w4]
 refine CalV.pure ht ?_
 simp [Enc.av,eTbl_c,f7]
 refine hQ _ _ _ ?_ ?_ ?_ ?_
 · simp [f4]
 · simp [f6]
 · simp [f7]
 ·
  rw [hb]
  exact ⟨by simp [w2],by simp,_,(Tr.get_put _ _ _ _).trans (if_pos rfl),rfl,by simp [Enc.ds],fun h => by simp [Bnd.cells]⟩
theorem bind5k6 (s : Sch) (hs : s.fine) (x : Stm) (hz : x.cond.sz ≤ lim) (hm : x.cond.maybe = true) (hk : x.kind = 6) (F : Fr) (K : Hp) (Q : QA) (E : E5 s x F K) (hQ : Fin5 s x Q) : VC Try.prog C5 F K 5 [] Q:=by
 obtain ⟨f2,f3,f4,f6,f7,f26,k0,k1,k2,k3,k4,top⟩:=E
 have hc:=table19 s hs x.table 3 0 K 5 (by omega) k3
 have hb : bodyB s x = deleteB s x 0:=by simp [bodyB,hk]
 unfold deleteB at hb
 have hcl : (s.named x.table).1.cols.length ≤ lim:=firstD_len (Q:=fun t : Tbl => t.cols.length ≤ lim) (by simp [Tbl.zero,lim]) hs.tc
 have x1:=x.g1
 have xl:=x.cells_len
 have xc:=x.cc
 rw [hk] at f26
 rw [outZ_def] at k4
 generalize hxs : x.cells = xs at *
 have hg : grab 31 [] xs .nil 8 8 = some x.cond.cells:=by simp [xl,xc]
 clear xl xc
 simp [C5,R5_6,R5_8,R5_10,R5_12,R5_17,R5_19,R5_20,f26,f3,f6,k1,x1]
 refine CalV.ok hc ?_
 generalize s.named x.table = T at *
 obtain ⟨t,ok⟩:=T
 simp [k4,f6,f7,Enc.av,eTbl_c,R5_21]
 generalize hK1 : Tr.put _ 4 _ = K1
 have g1 : ∀ b,b ≠ 3 → b ≠ 4 → K1.get b = K.get b:=fun b h1 h2 => by rw [← hK1]; simp [h1,h2]
 have g3 : K1.get 3 = some (bdS s (keep 0 200 !ok)):=by rw [← hK1]; simp
 have g4 : ∃ l,K1.get 4 = some (.cells 25 [] l .nil) ∧ l = [.int .i64 6,.str [],.int .u32 t.id,.str t.name,eCol.ds t.cols,.int .u32 t.head,.int .u32 0,.int .u32 0,.str [],.cst (.slice none 0 0),.bool false,.int .u32 0,.cst (.slice none 0 0),.cst (.slice none 0 0),.cst (.slice none 0 0),.cst (.slice none 0 0),.cst (.slice none 0 0),.cst (.slice none 0 0),.cst (.slice none 0 0),.cst (.slice none 0 0),.cst (.slice none 0 0),.cst (.slice none 0 0),.bool false,.bool false,.int .i64 0]:=by
  rw [← hK1,← hk]; exact ⟨_,(Tr.get_put _ _ _ _).trans (if_pos rfl),rfl⟩
 clear hK1
 obtain ⟨l,g4,hl⟩:=g4
 have w2:=(g1 2 (by omega) (by omega)).trans k2
 have w1:=(g1 1 (by omega) (by omega)).trans k1
 generalize hF2 : (Fp 81 _ _ : Fr) = F2
 have v3 : F2.get 3 = some (.ptr 1 0):=by rw [← hF2]; simp [f3]
 have v4 : F2.get 4 = some (.ptr 2 0):=by rw [← hF2]; simp [f4]
 have v6 : F2.get 6 = some (.ptr 3 0):=by rw [← hF2]; simp [f6]
 have v7 : F2.get 7 = some (.ptr 4 0):=by rw [← hF2]; simp [f7]
 clear hF2
 cases ok with
 | false =>
  have hke : keep 0 200 (!false) = 200:=rfl
  simp only [hke] at g3 hb ⊢
  simp [bdS,bdr]
  refine hQ _ _ _ ?_ ?_ ?_ ?_
  · simp [v4]
  · simp [v6]
  · simp [v7]
  ·
   rw [hb]
   exact ⟨w2,g3,l,g4,by simp [hl],by simp [hl,Enc.ds],fun h => by simp [hl,Bnd.cells,Ixd.zero,hk]⟩
 | true =>
  have hke : keep 0 200 (!true) = 0:=rfl
  simp only [hke] at g3 hb ⊢
  have ha:=alone26 t
  have hkd : (kindsS [t]).length ≤ lim:=by simpa [kindsS,Tbl.kinds] using hcl
  have hcd:=cond25 [t.name] [t] rfl hkd (by simp [lim]) (by simpa using hcl) s x.cond hz hm 3 0 K1 5 (by omega) g3
  have hav : x.cond.av = .agg x.cond.cells 8:=Eq.trans rfl rfl
  rw [hav] at hcd
  generalize condB [t.name] [t] x.cond 0 = cd at *
  obtain ⟨cl,ce⟩:=cd
  simp only [scC] at hcd ha
  have hat : eTbl.av t = .agg [.int .u32 t.id,.str t.name,eCol.ds t.cols,.int .u32 t.head] 4:=rfl
  rw [hat] at ha
  have ha':=ha.callOk K1 5
  generalize x.cond.cells = cs at *
  simp [bdS,bdr]
  simp only [R5_22,vc_drw]
  refine DrwV.of (ceL_ok (l:=[⟨26,[.agg [.int .u32 t.id,.str t.name,eCol.ds t.cols,.int .u32 t.head] 4],K1,5,.agg [eStr.ds [t.name],eTbl.ds [t]] 2,K1,5⟩,⟨25,[.ptr 3 0,.agg [eStr.ds [t.name],eTbl.ds [t]] 2,.agg cs 8],K1,5,eEx.ds cl,K1.put 3 (some (bdS s ce)),5⟩]) ?_) ?_
  ·
   simp only [List.mem_cons,List.not_mem_nil,or_false]
   rintro c (rfl | rfl)
   · exact ha'
   · exact hcd
  have e2 : ∀ c1,(ceL [⟨26,[.agg [.int .u32 t.id,.str t.name,eCol.ds t.cols,.int .u32 t.head] 4],K1,5,.agg [eStr.ds [t.name],eTbl.ds [t]] 2,K1,5⟩,⟨25,[.ptr 3 0,.agg [eStr.ds [t.name],eTbl.ds [t]] 2,.agg cs 8],K1,5,eEx.ds cl,K1.put 3 (some (bdS s ce)),5⟩]).call 25 c1 K1 5 = (ceL [⟨25,[.ptr 3 0,.agg [eStr.ds [t.name],eTbl.ds [t]] 2,.agg cs 8],K1,5,eEx.ds cl,K1.put 3 (some (bdS s ce)),5⟩]).call 25 c1 K1 5:=fun c1 => ceL_tl (by decide)
  simp [clearF_get,v3,v6,v7,g4,hl,w1,hg,ceL_hd,e2]
  refine hQ _ _ _ ?_ ?_ ?_ ?_
  · simp [clearF_get,v4]
  · simp [clearF_get,v6]
  · simp [clearF_get,v7]
  ·
   rw [hb]
   refine ⟨by simp [w2],by simp,_,(Tr.get_put _ _ _ _).trans (if_pos rfl),rfl,?_,fun h => ?_⟩
   · simp [Enc.ds]
   · simp [Bnd.cells,Ixd.zero,hk]
theorem Stm.okOf {x : Stm} (h : x.may = true) : x.ok = true:=by
 unfold Stm.may at h
 rw [Bool.and_eq_true] at h
 exact h.1
theorem Qry.fine_of {s : Sch} (ho : SchOk s) {x : Stm} (hx : x.sm) (h : x.q.may = true) : x.q.fine s:=by
 have hm : x.q.cond.maybe = true ∧ x.q.srcs.length ≤ 4 ∧ (x.q.star = true → x.q.items.length = 0) ∧ (x.q.star = false → x.q.items.length ≤ 16) ∧ (∀ y ∈ x.q.items,y.e.may = true) ∧ srcsOk x.q.srcs = true:=by
  simp only [Qry.may,Bool.and_eq_true,List.all_eq_true,decide_eq_true_eq] at h
  obtain ⟨⟨⟨⟨⟨⟨⟨⟨h1,h2⟩,h3⟩,h4⟩,h5⟩,h6⟩,h7⟩,h8⟩,h9⟩:=h
  refine ⟨h1,h2,fun e => ?_,fun e => ?_,fun y hy => ?_,h8⟩
  · rw [e] at h6; simpa using h6
  · rw [e] at h6; simp at h6; exact h6.2
  ·
   have:=h7 y hy
   simp only [Itm.ok,Bool.and_eq_true] at this
   exact this.1
 obtain ⟨h1,h2,h3,h4,h5,h6⟩:=hm
 have hcols : ∀ y : Src,(s.tb y).cols.length ≤ 16:=fun y => firstD_len (Q:=fun t : Tbl => t.cols.length ≤ 16) (by simp [Tbl.zero]) fun t ht => by
  obtain ⟨i,hi,rfl⟩:=List.getElem_of_mem ht
  exact (ho.tabs i hi).cols.2.1
 have hk : ∀ l : List Src,(kindsS (l.map s.tb)).length ≤ 16 * l.length:=by
  intro l
  induction l with
  | nil => simp [kindsS]
  | cons y l ih =>
   have:=hcols y
   simp only [kindsS,List.map_cons,List.flatMap_cons,List.length_append,List.length_cons] at ih ⊢
   simp only [Tbl.kinds,List.length_map] at ih ⊢
   omega
 refine ⟨?_,hx.srcs,hx.order,fun y hy => ⟨hx.item y hy,h5 y hy⟩,fun y hy => ⟨hx.src y hy,?_⟩,hx.qc,h1⟩
 ·
  have:=hk x.q.srcs
  have : x.q.items.length ≤ 16:=by
   cases e : x.q.star with
   | true => have:=h3 e; omega
   | false => exact h4 e
  unfold lim; omega
 ·
  cases hs : x.q.srcs with
  | nil => rw [hs] at hy; cases hy
  | cons z r =>
   rw [hs] at h6 hy
   simp only [srcsOk,Bool.and_eq_true,List.all_eq_true] at h6
   simp only [Ex.maybe,Bool.or_eq_true]
   rcases List.mem_cons.1 hy with rfl | hy
   ·
    have:=h6.1
    simp only [Src.ok,if_true,Bool.and_eq_true] at this
    exact .inl this.2.2
   ·
    have:=h6.2 y hy
    simp only [Src.ok,Bool.and_eq_true] at this
    exact .inr this.2.2
theorem bind5 (s : Sch) (hs : s.fine) (x : Stm) (hx : x.sm) : FnPure Try.prog 5 [eSch.av s,x.av] (.tup [.agg (bindB s x).1.cells 25,.int .i64 (bindB s x).2]):=by
 refine pureV c5 (by simp) (by simp) (by simp [A5]) fun F hF => ?_
 have h16:=may16 s hs
 have h17:=may17 x hx
 have hav : x.av = .agg x.cells 31:=Eq.trans rfl rfl
 have hsv : eSch.av s = .agg [eTbl.ds s.tables,eIxd.ds s.indexes] 2:=rfl
 have x0:=x.g0
 have xl:=x.cells_len
 have xp:=x.pure
 rw [hav] at hF h17
 rw [hsv] at hF h16
 have body : SchOk s ∧ x.may = true → ∀ (F : Fr) (K : Hp),E5 s x F K → VC Try.prog C5 F K 5 [] (BlkQ 0 (SeqV Try.prog M5 (RetQ [rCelN 4 25,rTmp 5] fun v1 H' _ => Frz H'.get v1 (.tup [.agg (bindB s x).1.cells 25,.int .i64 (bindB s x).2])))):=by
  rintro ⟨ho,hm⟩ F K E
  have hb : bindB s x = finB (bodyB s x):=by simp [bindB,ho,hm]
  have ok:=Stm.okOf hm
  have fin : Fin5 s x (BlkQ 0 (SeqV Try.prog M5 (RetQ [rCelN 4 25,rTmp 5] fun v1 H' _ => Frz H'.get v1 (.tup [.agg (bindB s x).1.cells 25,.int .i64 (bindB s x).2])))):=by
   intro F' K' n' g4 g6 g7 O
   rw [hb]
   exact bind5_end s _ _ F' K' n' g4 g6 g7 O
  by_cases h1 : x.kind = 1
  · exact bind5k1 s hs x hx h1 F K _ E fin
  by_cases h2 : x.kind = 2
  · exact bind5k2 s hs x h2 F K _ E fin
  by_cases h3 : x.kind = 3
  · exact bind5k3 s hs x hx h3 F K _ E fin
  by_cases h4 : x.kind = 4
  · exact bind5k4 s hs x h4 F K _ E fin
  by_cases h5 : x.kind = 5
  ·
   refine bind5k5 s hs x hx (fun r hr => ⟨(hx.row r hr).1,fun e he => ⟨(hx.row r hr).2 e he,?_⟩⟩) h5 F K _ E fin
   simp [Stm.ok,h5] at ok
   have:=ok.2 r hr
   simp only [rowOk,Bool.and_eq_true,List.all_eq_true] at this
   exact this.2 e he
  by_cases h6 : x.kind = 6
  ·
   refine bind5k6 s hs x hx.cond ?_ h6 F K _ E fin
   simp [Stm.ok,h6] at ok
   exact ok.2
  by_cases h7 : x.kind = 7
  ·
   simp [Stm.ok,h7] at ok
   refine bind5k7 s hs x hx (fun y hy => ⟨hx.set y hy,?_⟩) ok.1.2 h7 F K _ E fin
   have:=ok.2 y hy
   simp only [St1.ok,Bool.and_eq_true] at this
   exact this.2
  by_cases h8 : x.kind = 8
  ·
   simp [Stm.ok,h8] at ok
   exact bind5k8 s hs x (Qry.fine_of ho hx ok) h8 F K _ E fin
  exact bind5k9 s x h1 h2 h3 h4 h5 h6 h7 h8 F K _ E fin
 have hz0:=outZ_def 0
 have hzk:=outZ_def x.kind
 clear hs hx hav
 have hA : A5.code = B5:=rfl
 have hR : A5.res = [rCelN 4 25,rTmp 5]:=rfl
 simp only [hA,hR,b5]
 by_cases ho : SchOk s
 ·
  by_cases hm : x.may = true
  ·
   have body:=body ⟨ho,hm⟩
   generalize bindB s x = R at *
   generalize hxs : x.cells = xs at *
   simp only [ho,decide_true] at h16
   simp only [hm] at h17
   simp [R5_0,hF]
   simp [R5_1]
   refine CalV.pure h16 ?_
   simp
   refine CalV.pure h17 ?_
   simp [R5_3,R5_4,R5_5,x0]
   rw [← hz0,← hzk]
   refine body _ _ ⟨?_,?_,?_,?_,?_,?_,?_,?_,?_,?_,?_,fun b hb => ?_⟩
   · simp
   · simp
   · simp
   · simp
   · simp
   · simp
   · simp [eSch_c]
   · simp [hxs]
   · simp
   · simp [bdS,bdr]
   · simp
   · simp [show ¬ b = 0 by omega,show ¬ b = 1 by omega,show ¬ b = 2 by omega,show ¬ b = 3 by omega,show ¬ b = 4 by omega]
  ·
   have hb : bindB s x = (bndZ,1):=by simp [bindB,hm]
   have hm' : x.may = false:=by simpa using hm
   rw [hb]
   clear body
   generalize hxs : x.cells = xs at *
   simp only [ho,decide_true] at h16
   simp only [hm'] at h17
   simp [R5_0,hF]
   simp [R5_1]
   refine CalV.pure h16 ?_
   simp
   refine CalV.pure h17 ?_
   simp [R5_2]
   exact .tup _ _ (.cons _ _ _ _ (.agg _ _ _ ((outZ_fil 0 _).frzL (by simp))) (.cons _ _ _ _ (.pure _ (by simp)) .nil))
 ·
  have hb : bindB s x = (bndZ,1):=by simp [bindB,ho]
  rw [hb]
  clear body h17
  generalize hxs : x.cells = xs at *
  simp only [ho,decide_false] at h16
  simp [R5_0,hF]
  simp [R5_1]
  refine CalV.pure h16 ?_
  simp [R5_2]
  exact .tup _ _ (.cons _ _ _ _ (.agg _ _ _ ((outZ_fil 0 _).frzL (by simp))) (.cons _ _ _ _ (.pure _ (by simp)) .nil))
end Go.Abs
namespace Go.Abs
open Go.Proofs
set_option maxRecDepth 100000
mutual
def Ex.kind (ks : List Int) : Ex → Int × Int
 | .mk op v _ _ col args => if op = 1 then (v.kind,0) else if op = 3 then (ks.getD col.toNat 0,0) else
  if (Ex.kindL ks args).2 ≠ 0 then (0,(Ex.kindL ks args).2) else if (wantE op).1.fits (Ex.kindL ks args).1 = true then ((wantE op).1.kind,0) else (0,203)
def Ex.kindL (ks : List Int) : List Ex → List Int × Int
 | [] => ([],0)
 | e :: r => if (e.kind ks).2 ≠ 0 then ([],(e.kind ks).2) else if (Ex.kindL ks r).2 ≠ 0 then ([],(Ex.kindL ks r).2) else ((e.kind ks).1 :: (Ex.kindL ks r).1,0)
end
end Go.Abs
namespace Go.Abs
open Go.Proofs
open Classical
set_option maxRecDepth 100000
theorem shutMid {F F2 : Fr} {K : Hp} {m : Nat} {va x : AV} {l r cs : List AV} {len sa k sz : Nat} (hF : ∀ (t : Nat) v,F2.get t = some v → F.get t = some v) (ha : OwnS K m va (l ++ x :: r) len sa) (h1 : 0 < len) (hx : OwnS K m x cs k sz) (hz : 0 < sz) (hcs : PureL cs) (hd : ∀ c,blk va = some c → blk x ≠ some c) :
  ∃ h K2,Shuts h F K F2 K2 ∧ OwnS K2 m va (l ++ .ds cs k sz :: r) len sa ∧ ∀ c,blk va ≠ some c → blk x ≠ some c → K2.get c = K.get c:=by
 have hfz : ∀ h : Hf,(∀ c,blk x = some c → h c = K.get c) → Frz h x (.ds cs k sz):=by
  intro h hh
  obtain ⟨s',rfl⟩ : ∃ s',sz = s' + 1:=⟨sz - 1,by omega⟩
  obtain ⟨h0,⟨rfl,rfl⟩ | ⟨b,kk,rfl,hb,hk,ho⟩⟩:=hx
  ·
   have : cs = []:=by simpa using h0
   subst this
   exact .nil _
  ·
   obtain ⟨u,z,bs,t,rfl,hg⟩:=ho.grab (o:=0) (c:=k * (s' + 1)) (by omega)
   refine .sl _ _ _ _ _ _ _ _ _ _ ((hh b rfl).trans hk) hg ?_
   rw [List.drop_zero,List.take_of_length_le (by omega)]
   exact FrzL.pure hcs
 obtain ⟨h0,⟨_,h1⟩ | ⟨b,kb,rfl,hb,hk,ho⟩⟩:=ha
 · omega
 have hxb : blk x ≠ some b:=hd b rfl
 obtain ⟨u,z,bs,t,rfl,hu,hg,hi⟩:=ho
 refine ⟨fun c => if blk x = some c then K.get c else none,(match blk x with
  | some c => K.put c none
  | none => K).put b (some (.cells u [] (l ++ AV.ds cs k sz :: r) .nil)),⟨fun c y hc => ?_,fun c hc => ?_,fun t v hv => ⟨v,hF t v hv,.inl rfl⟩,fun c y hc => ?_⟩,⟨by simpa using h0,.inr ⟨b,.cells u [] (l ++ AV.ds cs k sz :: r) .nil,rfl,hb,by simp,OwnB.list (by simpa using hu)⟩⟩,fun c h3 h4 => ?_⟩
 ·
  split at hc
  · exact hc
  · cases hc
 ·
  have hc : (if blk x = some c then K.get c else none) ≠ none:=hc
  by_cases he : blk x = some c
  ·
   have hcb : c ≠ b:=fun e => hxb (by rw [he,e])
   rw [he]
   simp [hcb]
  · simp [he] at hc
 ·
  by_cases hcb : c = b
  ·
   subst hcb
   simp at hc
   subst hc
   refine ⟨_,hk,.inr ⟨u,z,bs,t,_,rfl,rfl,by simpa using hu.symm,fun i v' hv => ?_⟩⟩
   by_cases hil : i < l.length
   ·
    rw [List.getElem?_append_left hil] at hv
    exact ⟨v',by rw [hg,List.getElem?_append_left hil]; exact hv,.inl rfl⟩
   ·
    rw [List.getElem?_append_right (by omega)] at hv
    rcases Nat.eq_zero_or_pos (i - l.length) with e | e
    ·
     rw [e] at hv
     simp at hv
     subst hv
     refine ⟨x,by rw [hg,List.getElem?_append_right (by omega),e]; simp,.inr (hfz _ fun c hc => if_pos hc)⟩
    ·
     obtain ⟨j,hj⟩ : ∃ j,i - l.length = j + 1:=⟨i - l.length - 1,by omega⟩
     rw [hj] at hv
     simp at hv
     exact ⟨v',by rw [hg,List.getElem?_append_right (by omega),hj]; simpa using hv,.inl rfl⟩
  ·
   rw [Tr.get_put,if_neg hcb] at hc
   refine ⟨y,?_,.inl rfl⟩
   cases hbx : blk x with
   | none => rw [hbx] at hc; exact hc
   | some d =>
    rw [hbx] at hc
    simp only [Tr.get_put] at hc
    split at hc
    · cases hc
    · exact hc
 ·
  have hc : c ≠ b:=fun e => h3 (by rw [e]; rfl)
  rw [Tr.get_put,if_neg hc]
  cases hbx : blk x with
  | none => rfl
  | some d =>
   have : c ≠ d:=fun e => h4 (by rw [hbx,e])
   simp [this]
theorem app0 {α : Type} {s' : Nat} (E : Enc α (s' + 1)) (l : List α) (hl : l.length ≤ lim) {P : Program} {K : Hp} {b by_ : Nat} {F : Fr} {Q : QA} {pd : Pd} {r : List (Option GO)} (hby : by_ ≤ 4096)
  (hgo : ∀ v H' n',b + 1 ≤ n' → OwnS H' n' v (E.l l) l.length (s' + 1) → (∀ c,blk v = some c → b ≤ c) → (∀ c,c < b → H'.get c = K.get c) → VCO P r (pd.f v F) H' n' [] Q) :
  OpV (cApp (s' + 1) by_ (b + 1) (.sl b 0 0 (s' + 1)) (E.ds l) (K.put b (some (.cells 0 [] [] .nil)))) pd r P F (K.put b (some (.cells 0 [] [] .nil))) (b + 1) [] Q:=by
 unfold lim at hl
 have ho : OwnS (K.put b (some (.cells 0 [] [] .nil))) (b + 1) (.sl b 0 0 (s' + 1)) [] 0 (s' + 1):=⟨by simp,.inr ⟨b,_,rfl,by omega,(Tr.get_put _ _ _ _).trans (if_pos rfl),OwnB.list rfl⟩⟩
 by_cases h0 : l.length = 0
 ·
  have hn : l = []:=List.length_eq_zero_iff.1 h0
  subst hn
  have e2 : cApp (s' + 1) by_ (b + 1) (.sl b 0 0 (s' + 1)) (E.ds []) (K.put b (some (.cells 0 [] [] .nil))) = .val (.sl b 0 0 (s' + 1)):=by
   unfold Go.Abs.cApp
   simp [Enc.ds,cApp1]
  rw [e2]
  simp
  refine hgo _ _ _ (Nat.le_refl _) ho (fun c hc => by simp at hc; omega) fun c hc => ?_
  simp [show ¬ c = b by omega]
 ·
  refine OwnS.appA (k:=l.length) (new:=E.l l) ho (by simp [Enc.ds]) (by simp [Enc.ds]) (by simp [Enc.l_len]) (by omega) (by omega) (by unfold big; omega) hby (by simp) fun H' o' g => ?_
  rw [Nat.zero_add] at o' ⊢
  refine hgo _ _ _ (by omega) (by simpa using o') (fun c hc => by simp at hc; omega) fun c hc => ?_
  rw [g c (by omega) (by simp; omega)]
  simp [show ¬ c = b by omega]
structure CpF (F : Fr) : Prop where
 f1 : F.get 1 = some (.ptr 0 0)
 f2 : F.get 2 = some (.ptr 1 0)
 f3 : F.get 3 = some (.ptr 2 0)
structure CpM (s : Sch) (i j : Nat) (vt vi : AV) (K : Hp) (m : Nat) : Prop where
 hm : 3 ≤ m
 k0 : K.get 0 = some (.cells 2 [] (eSch.cells s) .nil)
 k1 : K.get 1 = some (.cells 2 [] [.cst (.slice none 0 0),.cst (.slice none 0 0)] .nil)
 k2 : K.get 2 = some (.cells 2 [] [vt,vi] .nil)
 ot : OwnS K m vt (eTbl.l (s.tables.take i)) i 4
 oi : OwnS K m vi (eIxd.l (s.indexes.take j)) j 6
 dt : ∀ c,blk vt = some c → 3 ≤ c
 di : ∀ c,blk vi = some c → 3 ≤ c ∧ blk vt ≠ some c
theorem copy6a (s : Sch) (hs : s.fine) (F : Fr) (K : Hp) (m : Nat) (Q : QA) (hF : CpF F) (f4 : F.get 4 = some (.int .i64 0)) (M : CpM s 0 0 (.cst (.slice none 0 0)) (.cst (.slice none 0 0)) K m)
  (hQ : ∀ vt F K m,CpF F → CpM s s.tables.length 0 vt (.cst (.slice none 0 0)) K m → Q .normal F K m []) : LoopV L6_0 Try.prog F K m [] (BlkQ 0 Q):=by
 have ht:=hs.t
 unfold lim at ht
 refine LoopV.ofZ (fun q F K m ms => ∃ (i : Nat) (vt : AV),q = s.tables.length - i ∧ i ≤ s.tables.length ∧ CpF F ∧ F.get 4 = some (.int .i64 (i : Int)) ∧ CpM s i 0 vt (.cst (.slice none 0 0)) K m ∧ ms = []) s.tables.length (Zs.refl ⟨0,_,by simp,by simp,hF,f4,M,rfl⟩) ?_
 clear hF f4 M F K m
 rintro q1 F K m ms ⟨i,vt,rfl,hi,⟨f1,f2,f3⟩,f4,M,rfl⟩
 have k0:=M.k0
 rw [eSch_c] at k0
 by_cases hlt : i < s.tables.length
 ·
  have hxx:=eTbl.ix (ik:=.i64) hlt
  have hld:=fun H => eTbl.ldN s.tables[i] (eTbl.l (s.tables.drop (i + 1))) H
  have htc:=hs.tc _ (List.getElem_mem hlt)
  unfold lim at htc
  simp [L6_0,R6_3,R6_4,f1,f4,k0,Enc.len_ds,hlt,hxx,hld,Enc.av]
  generalize hK1 : Tr.put (Tr.put K m _) m _ = K1
  have g1 : ∀ c,c < m → K1.get c = K.get c:=fun c hc => by rw [← hK1]; simp [neC hc]
  have x1 : K1.get m = some (.cells 4 [] (eTbl.cells s.tables[i]) .nil):=by rw [← hK1]; simp
  clear hK1
  rw [eTbl_c] at x1
  simp [R6_5,x1]
  refine app0 eCol _ (by unfold lim; omega) (by omega) fun v K2 m2 hm2 hv dv g2 => ?_
  have x2:=(g2 m (by omega)).trans x1
  have hone:=hv.isOne
  obtain ⟨hl1,hl2⟩:=hv.len1
  have b2 : ∀ c,c < m → K2.get c = K.get c:=fun c hc => (g2 c (by omega)).trans (g1 c hc)
  have hm:=M.hm
  have k22:=(b2 2 (by omega)).trans M.k2
  have hto:=M.ot.isOne
  have hta:=fun c h => M.ot.blkLt (c:=c) h
  simp [x2,hone,hl1,hl2,R6_6,f3,show ¬ 2 = m by omega,k22]
  generalize hK3 : Tr.put (Tr.put K2 m _) m2 _ = K3
  have g3 : ∀ c,c ≠ m → c < m2 → K3.get c = K2.get c:=fun c h1 h2 => by rw [← hK3]; simp [h1,neC h2]
  have x3 : K3.get m2 = some (.cells 4 [] [.int .u32 s.tables[i].id,.str s.tables[i].name,v,.int .u32 s.tables[i].head] .nil):=by rw [← hK3]; simp
  clear hK3
  have ot3 : OwnS K3 (m2 + 1) vt (eTbl.l (s.tables.take i)) i 4:=M.ot.frame (by omega) fun c hc => (g3 c (by have:=hta c hc; omega) (by have:=hta c hc; omega)).trans (b2 c (hta c hc))
  refine OwnS.appA (k:=1) (new:=[.int .u32 s.tables[i].id,.str s.tables[i].name,v,.int .u32 s.tables[i].head]) ot3 (sliceCells_one x3) (by simp) (by simp) (by omega) (by omega) (by unfold big; omega) (by omega) (by simp [hone]) fun K4 o4 g4 => ?_
  have k24:=(g4 2 (by omega) fun h => by have:=M.dt 2 h; omega).trans ((g3 2 (by omega) (by omega)).trans k22)
  simp [f3,k24,R6_7,f4,wrap_nat i (by omega)]
  generalize hK5 : Tr.put K4 2 _ = K5
  have g5 : ∀ c,c ≠ 2 → K5.get c = K4.get c:=fun c hc => by rw [← hK5]; simp [hc]
  have x5 : K5.get 2 = some (.cells 2 [] [.sl (m2 + 1) 0 (i + 1) 4,.cst (.slice none 0 0)] .nil):=by rw [← hK5]; simp
  clear hK5
  generalize hF2 : (Fp 4 _ _ : Fr) = F2
  have w1 : F2.get 1 = some (.ptr 0 0):=by rw [← hF2]; simp [f1]
  have w2 : F2.get 2 = some (.ptr 1 0):=by rw [← hF2]; simp [f2]
  have w3 : F2.get 3 = some (.ptr 2 0):=by rw [← hF2]; simp [f3]
  have w4 : F2.get 4 = some (.int .i64 ((i + 1 : Nat) : Int)):=by rw [← hF2]; simp
  clear hF2
  have bk : ∀ c,c < m → c ≠ 2 → blk vt ≠ some c → K5.get c = K.get c:=fun c h1 h2 h3 => (g5 c h2).trans ((g4 c (by omega) h3).trans ((g3 c (by omega) (by omega)).trans (b2 c h1)))
  have oa5 : OwnS K5 (m2 + 1 + 1) (.sl (m2 + 1) 0 (i + 1) 4) ((eTbl.l (s.tables.take i) ++ [.int .u32 s.tables[i].id,.str s.tables[i].name]) ++ v :: [.int .u32 s.tables[i].head]) (i + 1) 4:=by
   have:=o4.frame (H':=K5) (n':=m2 + 1 + 1) (by omega) fun c hc => g5 c (by simp at hc; omega)
   simpa using this
  have ov5 : OwnS K5 (m2 + 1 + 1) v (eCol.l s.tables[i].cols) s.tables[i].cols.length 3:=hv.frame (by omega) fun c hc => by
   have h1:=dv c hc
   have h2:=hv.blkLt hc
   exact (g5 c (by omega)).trans ((g4 c (by omega) fun h => by have:=hta c h; omega).trans (g3 c (by omega) h2))
  have nv : ∀ c,c < m → blk v ≠ some c:=fun c h1 h2 => by have:=dv c h2; omega
  obtain ⟨hh,K6,hsh,oa6,g6⟩:=shutMid (F:=F2) (F2:=F2) (fun t v hv => hv) oa5 (by omega) ov5 (by omega) (by simp) (fun c hc hc2 => by
   have:=hv.blkLt hc2
   simp at hc
   omega)
  have na : ∀ c,c < m → blk (AV.sl (m2 + 1) 0 (i + 1) 4) ≠ some c:=fun c h1 h2 => by simp at h2; omega
  have nt : ∀ c,c < 3 → blk vt ≠ some c:=fun c h1 h2 => by have:=M.dt c h2; omega
  refine ⟨s.tables.length - (i + 1),by omega,hh,F2,K6,hsh,i + 1,rfl,hlt,⟨w1,w2,w3⟩,w4,⟨.sl (m2 + 1) 0 (i + 1) 4,by omega,?_,?_,?_,?_,by simpa using OwnS.nil _ _ 6,fun c hc => by simp at hc; omega,by simp⟩,rfl⟩
  · exact (g6 0 (na 0 (by omega)) (nv 0 (by omega))).trans ((bk 0 (by omega) (by omega) (nt 0 (by omega))).trans M.k0)
  · exact (g6 1 (na 1 (by omega)) (nv 1 (by omega))).trans ((bk 1 (by omega) (by omega) (nt 1 (by omega))).trans M.k1)
  · exact (g6 2 (na 2 (by omega)) (nv 2 (by omega))).trans x5
  ·
   have e : eTbl.l (s.tables.take (i + 1)) = (eTbl.l (s.tables.take i) ++ [.int .u32 s.tables[i].id,.str s.tables[i].name]) ++ .ds (eCol.l s.tables[i].cols) s.tables[i].cols.length 3 :: [.int .u32 s.tables[i].head]:=by
    rw [List.take_add_one,List.getElem?_eq_getElem hlt,Option.toList,Enc.l_append,Enc.l_one,eTbl_c]; simp [Enc.ds]
   rw [e]
   exact oa6
 ·
  obtain rfl : i = s.tables.length:=by omega
  simp [L6_0,R6_3,f1,f4,k0,Enc.len_ds]
  exact hQ vt _ K m ⟨by simp [f1],by simp [f2],by simp [f3]⟩ M
theorem copy6b (s : Sch) (hs : s.fine) (vt : AV) (F : Fr) (K : Hp) (m : Nat) (Q : QA) (hF : CpF F) (f6 : F.get 6 = some (.int .i64 0)) (M : CpM s s.tables.length 0 vt (.cst (.slice none 0 0)) K m)
  (hQ : ∀ vi F K m,CpF F → CpM s s.tables.length s.indexes.length vt vi K m → Q .normal F K m []) : LoopV L6_1 Try.prog F K m [] (BlkQ 2 Q):=by
 have ht:=hs.i
 unfold lim at ht
 refine LoopV.ofZ (fun q F K m ms => ∃ (i : Nat) (vi : AV),q = s.indexes.length - i ∧ i ≤ s.indexes.length ∧ CpF F ∧ F.get 6 = some (.int .i64 (i : Int)) ∧ CpM s s.tables.length i vt vi K m ∧ ms = []) s.indexes.length (Zs.refl ⟨0,_,by simp,by simp,hF,f6,M,rfl⟩) ?_
 clear hF f6 M F K m
 rintro q1 F K m ms ⟨i,vi,rfl,hi,⟨f1,f2,f3⟩,f6,M,rfl⟩
 have k0:=M.k0
 rw [eSch_c] at k0
 by_cases hlt : i < s.indexes.length
 ·
  have hxx:=eIxd.ix (ik:=.i64) hlt
  have hld:=fun H => eIxd.ldN s.indexes[i] (eIxd.l (s.indexes.drop (i + 1))) H
  have htc:=hs.ic _ (List.getElem_mem hlt)
  unfold lim at htc
  simp [L6_1,R6_9,R6_10,f1,f6,k0,Enc.len_ds,hlt,hxx,hld,Enc.av]
  generalize hK1 : Tr.put (Tr.put K m _) m _ = K1
  have g1 : ∀ c,c < m → K1.get c = K.get c:=fun c hc => by rw [← hK1]; simp [neC hc]
  have x1 : K1.get m = some (.cells 6 [] (eIxd.cells s.indexes[i]) .nil):=by rw [← hK1]; simp
  clear hK1
  rw [eIxd_c] at x1
  simp [R6_11,x1]
  refine app0 eInt _ (by unfold lim; omega) (by omega) fun v K2 m2 hm2 hv dv g2 => ?_
  have x2:=(g2 m (by omega)).trans x1
  have hone:=hv.isOne
  obtain ⟨hl1,hl2⟩:=hv.len1
  have b2 : ∀ c,c < m → K2.get c = K.get c:=fun c hc => (g2 c (by omega)).trans (g1 c hc)
  have hm:=M.hm
  have k22:=(b2 2 (by omega)).trans M.k2
  have hto:=M.oi.isOne
  have htv:=M.ot.isOne
  have hta:=fun c h => M.oi.blkLt (c:=c) h
  have htb:=fun c h => M.ot.blkLt (c:=c) h
  simp [x2,hone,hl1,hl2,R6_12,f3,show ¬ 2 = m by omega,k22]
  generalize hK3 : Tr.put (Tr.put K2 m _) m2 _ = K3
  have g3 : ∀ c,c ≠ m → c < m2 → K3.get c = K2.get c:=fun c h1 h2 => by rw [← hK3]; simp [h1,neC h2]
  have x3 : K3.get m2 = some (.cells 6 [] [.int .u32 s.indexes[i].id,.int .u32 s.indexes[i].table,.str s.indexes[i].name,v,.bool s.indexes[i].uniq,.int .u32 s.indexes[i].root] .nil):=by rw [← hK3]; simp
  clear hK3
  have ot3 : OwnS K3 (m2 + 1) vi (eIxd.l (s.indexes.take i)) i 6:=M.oi.frame (by omega) fun c hc => (g3 c (by have:=hta c hc; omega) (by have:=hta c hc; omega)).trans (b2 c (hta c hc))
  refine OwnS.appA (k:=1) (new:=[.int .u32 s.indexes[i].id,.int .u32 s.indexes[i].table,.str s.indexes[i].name,v,.bool s.indexes[i].uniq,.int .u32 s.indexes[i].root]) ot3 (sliceCells_one x3) (by simp) (by simp) (by omega) (by omega) (by unfold big; omega) (by omega) (by simp [hone]) fun K4 o4 g4 => ?_
  have k24:=(g4 2 (by omega) fun h => by have:=(M.di 2 h).1; omega).trans ((g3 2 (by omega) (by omega)).trans k22)
  simp [f3,k24,R6_13,f6,wrap_nat i (by omega)]
  generalize hK5 : Tr.put K4 2 _ = K5
  have g5 : ∀ c,c ≠ 2 → K5.get c = K4.get c:=fun c hc => by rw [← hK5]; simp [hc]
  have x5 : K5.get 2 = some (.cells 2 [] [vt,.sl (m2 + 1) 0 (i + 1) 6] .nil):=by rw [← hK5]; simp
  clear hK5
  generalize hF2 : (Fp 6 _ _ : Fr) = F2
  have w1 : F2.get 1 = some (.ptr 0 0):=by rw [← hF2]; simp [f1]
  have w2 : F2.get 2 = some (.ptr 1 0):=by rw [← hF2]; simp [f2]
  have w3 : F2.get 3 = some (.ptr 2 0):=by rw [← hF2]; simp [f3]
  have w4 : F2.get 6 = some (.int .i64 ((i + 1 : Nat) : Int)):=by rw [← hF2]; simp
  clear hF2
  have bk : ∀ c,c < m → c ≠ 2 → blk vi ≠ some c → K5.get c = K.get c:=fun c h1 h2 h3 => (g5 c h2).trans ((g4 c (by omega) h3).trans ((g3 c (by omega) (by omega)).trans (b2 c h1)))
  have oa5 : OwnS K5 (m2 + 1 + 1) (.sl (m2 + 1) 0 (i + 1) 6) ((eIxd.l (s.indexes.take i) ++ [.int .u32 s.indexes[i].id,.int .u32 s.indexes[i].table,.str s.indexes[i].name]) ++ v :: [.bool s.indexes[i].uniq,.int .u32 s.indexes[i].root]) (i + 1) 6:=by
   have:=o4.frame (H':=K5) (n':=m2 + 1 + 1) (by omega) fun c hc => g5 c (by simp at hc; omega)
   simpa using this
  have ov5 : OwnS K5 (m2 + 1 + 1) v (eInt.l s.indexes[i].cols) s.indexes[i].cols.length 1:=hv.frame (by omega) fun c hc => by
   have h1:=dv c hc
   have h2:=hv.blkLt hc
   exact (g5 c (by omega)).trans ((g4 c (by omega) fun h => by have:=hta c h; omega).trans (g3 c (by omega) h2))
  have nv : ∀ c,c < m → blk v ≠ some c:=fun c h1 h2 => by have:=dv c h2; omega
  obtain ⟨hh,K6,hsh,oa6,g6⟩:=shutMid (F:=F2) (F2:=F2) (fun t v hv => hv) oa5 (by omega) ov5 (by omega) (by simp) (fun c hc hc2 => by
   have:=hv.blkLt hc2
   simp at hc
   omega)
  have na : ∀ c,c < m → blk (AV.sl (m2 + 1) 0 (i + 1) 6) ≠ some c:=fun c h1 h2 => by simp at h2; omega
  have nt : ∀ c,c < 3 → blk vi ≠ some c:=fun c h1 h2 => by have:=(M.di c h2).1; omega
  refine ⟨s.indexes.length - (i + 1),by omega,hh,F2,K6,hsh,i + 1,rfl,hlt,⟨w1,w2,w3⟩,w4,⟨.sl (m2 + 1) 0 (i + 1) 6,by omega,?_,?_,?_,?_,?_,M.dt,fun c hc => ⟨by simp at hc; omega,fun h => by have:=htb c h; simp at hc; omega⟩⟩,rfl⟩
  · exact (g6 0 (na 0 (by omega)) (nv 0 (by omega))).trans ((bk 0 (by omega) (by omega) (nt 0 (by omega))).trans M.k0)
  · exact (g6 1 (na 1 (by omega)) (nv 1 (by omega))).trans ((bk 1 (by omega) (by omega) (nt 1 (by omega))).trans M.k1)
  · exact (g6 2 (na 2 (by omega)) (nv 2 (by omega))).trans x5
  ·
   exact M.ot.frame (by omega) fun c hc => by
    have h1:=htb c hc
    have h2:=M.dt c hc
    exact (g6 c (na c h1) (nv c h1)).trans (bk c h1 (by omega) fun h => (M.di c h).2 hc)
  ·
   have e : eIxd.l (s.indexes.take (i + 1)) = (eIxd.l (s.indexes.take i) ++ [.int .u32 s.indexes[i].id,.int .u32 s.indexes[i].table,.str s.indexes[i].name]) ++ .ds (eInt.l s.indexes[i].cols) s.indexes[i].cols.length 1 :: [.bool s.indexes[i].uniq,.int .u32 s.indexes[i].root]:=by
    rw [List.take_add_one,List.getElem?_eq_getElem hlt,Option.toList,Enc.l_append,Enc.l_one,eIxd_c]; simp [Enc.ds]
   rw [e]
   exact oa6
 ·
  obtain rfl : i = s.indexes.length:=by omega
  simp [L6_1,R6_9,f1,f6,k0,Enc.len_ds]
  exact hQ vi _ K m ⟨by simp [f1],by simp [f2],by simp [f3]⟩ M
theorem copy6 (s : Sch) (hs : s.fine) : FnPure Try.prog 6 [eSch.av s] (eSch.av s):=by
 refine pureV c6 (by simp) (by simp) (by simp [A6]) fun F hF => ?_
 have ht:=hs.t
 have hi:=hs.i
 unfold lim at ht hi
 simp [A6,B6,R6_0,R6_1,R6_2,hF,Enc.av]
 refine copy6a s hs _ _ _ _ ⟨by simp,by simp,by simp⟩ (by simp) ⟨by omega,by simp,by simp,by simp,by simpa using OwnS.nil _ _ 4,by simpa using OwnS.nil _ _ 6,by simp,by simp⟩ fun vt F K m ⟨f1,f2,f3⟩ M => ?_
 simp [R6_8]
 refine copy6b s hs vt _ _ _ _ ⟨by simp [f1],by simp [f2],by simp [f3]⟩ (by simp) M fun vi F K m ⟨f1,f2,f3⟩ M => ?_
 have k1:=M.k1
 have k2:=M.k2
 have ot:=M.ot
 have oi:=M.oi
 have h1:=ot.isOne
 have h2:=oi.isOne
 rw [List.take_length] at ot oi
 have dt:=M.dt
 have di:=M.di
 simp [R6_14,f2,f3,k1,k2,h1,h2]
 refine .agg _ _ _ ?_
 rw [eSch_c]
 refine .cons _ _ _ _ ?_ (.cons _ _ _ _ ?_ .nil)
 ·
  exact (ot.frame (Nat.le_refl _) fun c hc => by
   have:=dt c hc
   simp [show ¬ c = 1 by omega]).frz (FrzL.pure (by simp)) (by omega)
 ·
  exact (oi.frame (Nat.le_refl _) fun c hc => by
   have:=(di c hc).1
   simp [show ¬ c = 1 by omega]).frz (FrzL.pure (by simp)) (by omega)
end Go.Abs
