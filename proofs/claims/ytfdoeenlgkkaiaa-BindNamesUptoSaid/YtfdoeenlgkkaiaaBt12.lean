/- The law, BindNames: what is shut in the midst of its run; a query bound. -/
import Derived.Test.YtfdoeenlgkkaiaaBt9
import Derived.Test.YtfdoeenlgkkaiaaBdA
namespace Go.Abs
open Go.Proofs
open Classical
set_option maxRecDepth 100000
theorem shutBlk {F : Fr} {K : Hp} {m b u : Nat} {x : AV} {l r R cs : List AV} {k sz : Nat} (hb : K.get b = some (.cells u [] (l ++ x :: r) .nil)) (hu : u = (l ++ x :: r).length) (hx : OwnS K m x R k sz) (hz : 0 < sz) (hR : ∀ h,FrzL h R cs) (hd : blk x ≠ some b) :
  ∃ h K2,Shuts h F K F K2 ∧ K2.get b = some (.cells u [] (l ++ AV.ds cs k sz :: r) .nil) ∧ (∀ c,c ≠ b → blk x ≠ some c → K2.get c = K.get c) ∧ ∀ c,blk x = some c → K2.get c = none:=by
 have hfz : ∀ h : Hf,(∀ c,blk x = some c → h c = K.get c) → Frz h x (.ds cs k sz):=by
  intro h hh
  obtain ⟨s',rfl⟩ : ∃ s',sz = s' + 1:=⟨sz - 1,by omega⟩
  obtain ⟨h0,⟨rfl,rfl⟩ | ⟨b,kk,rfl,hb,hk,ho⟩⟩:=hx
  ·
   have : R = []:=by simpa using h0
   subst this
   have h1:=hR h
   cases h1
   exact .nil _
  ·
   obtain ⟨u,z,bs,t,rfl,hg⟩:=ho.grab (o:=0) (c:=k * (s' + 1)) (by omega)
   refine .sl _ _ _ _ _ _ _ _ _ _ ((hh b rfl).trans hk) hg ?_
   rw [List.drop_zero,List.take_of_length_le (by omega)]
   exact hR h
 refine ⟨fun c => if blk x = some c then K.get c else none,(match blk x with
  | some c => K.put c none
  | none => K).put b (some (.cells u [] (l ++ AV.ds cs k sz :: r) .nil)),⟨fun c y hc => ?_,fun c hc => ?_,fun t v hv => ⟨v,hv,.inl rfl⟩,fun c y hc => ?_⟩,by simp,fun c h3 h4 => ?_,fun c hc => ?_⟩
 ·
  split at hc
  · exact hc
  · cases hc
 ·
  have hc : (if blk x = some c then K.get c else none) ≠ none:=hc
  by_cases he : blk x = some c
  ·
   have hcb : c ≠ b:=fun e => hd (by rw [he,e])
   rw [he]
   simp [hcb]
  · simp [he] at hc
 ·
  by_cases hcb : c = b
  ·
   subst hcb
   simp at hc
   subst hc
   refine ⟨_,hb,.inr ⟨u,[],_,.nil,_,rfl,rfl,by simpa using hu.symm,fun i v' hv => ?_⟩⟩
   have hil : i < u:=by
    have:=(List.getElem?_eq_some_iff.1 hv).1
    simpa [hu] using this
   rw [getc_list,if_pos hil]
   by_cases hil : i < l.length
   ·
    rw [List.getElem?_append_left hil] at hv
    exact ⟨v',by rw [List.getElem?_append_left hil]; exact hv,.inl rfl⟩
   ·
    rw [List.getElem?_append_right (by omega)] at hv
    rcases Nat.eq_zero_or_pos (i - l.length) with e | e
    ·
     rw [e] at hv
     simp at hv
     subst hv
     refine ⟨x,by rw [List.getElem?_append_right (by omega),e]; simp,.inr (hfz _ fun c hc => if_pos hc)⟩
    ·
     obtain ⟨j,hj⟩ : ∃ j,i - l.length = j + 1:=⟨i - l.length - 1,by omega⟩
     rw [hj] at hv
     simp at hv
     exact ⟨v',by rw [List.getElem?_append_right (by omega),hj]; simpa using hv,.inl rfl⟩
  ·
   rw [Tr.get_put,if_neg hcb] at hc
   refine ⟨y,?_,.inl rfl⟩
   cases hbx : blk x with
   | none => rw [hbx] at hc; exact hc
   | some d =>
    rw [hbx] at hc
    simp only [Tr.get_put] at hc
    split at hc
    · cases hc
    · exact hc
 ·
  rw [Tr.get_put,if_neg h3]
  cases hbx : blk x with
  | none => rfl
  | some d =>
   have : c ≠ d:=fun e => h4 (by rw [hbx,e])
   simp [this]
 ·
  have hcb : c ≠ b:=fun e => hd (by rw [hc,e])
  rw [Tr.get_put,if_neg hcb,hc]
  simp
def selS (q : Qry) : Stm:={ Stm.z 8 with q:=q }
theorem selS_may (q : Qry) : (selS q).may = q.may:=by
 have hc : (selS q).cut = selS q:=rfl
 unfold Stm.may
 rw [hc]
 have ho : (selS q).ok = q.may:=rfl
 rw [ho]
 cases hm : q.may with
 | false => rfl
 | true =>
  have hcd:=(QmF.of hm).c
  have h1 : condR q.cond q.cond = true:=by
   unfold condR
   simp
   rcases hcd with h | h
   · exact .inr h
   · exact .inl (sz_op h)
  have h2 : condR exZ exZ = true:=by
   unfold condR
   simp
   exact .inr bare_z
  simp [restB,selS,Stm.z,h1,h2]
def selV (qc : List AV) : List AV:=.int .i64 8 :: .str [] :: .str [] :: .cst (.slice none 0 0) :: .cst (.slice none 0 0) :: .bool false :: .cst (.slice none 0 0) :: .cst (.slice none 0 0) :: .int .i64 0 :: .int .i64 0 :: .int .i64 0 :: .str [] :: .str [] :: .str [] :: .int .i64 0 :: .cst (.slice none 0 0) :: qc
theorem selV_nl {qc : List AV} {q : Qry} (h : NL qc q.cells) : NL (selV qc) (selS q).cells:=by
 have : (selS q).cells = .int .i64 8 :: .str [] :: .str [] :: eCol.ds [] :: eStr.ds [] :: .bool false :: eRow.ds [] :: eSet.ds [] :: .int .i64 0 :: .int .i64 0 :: .int .i64 0 :: .str [] :: .str [] :: .str [] :: .int .i64 0 :: .ds (Ex.cellsL []) 0 8 :: q.cells:=rfl
 rw [this]
 simp [selV,nvEx,h]
theorem NL.refl : ∀ l : List AV,NL l l
 | [] => by simp
 | v :: l => by simp [NL.refl l]
theorem bindSel (s : Sch) (hs : s.fine) (q : Qry) (hx : (selS q).sm) {qc : List AV} (h : NL qc q.cells) (hp : PureL qc) :
  FnPure Try.prog 5 [.agg (eSch.cells s) 2,.agg (selV qc) 31] (.tup [.agg (bindB s (selS q)).1.cells 25,.int .i64 (bindB s (selS q)).2]):=by
 refine (bind5 s hs (selS q) hx).conv (by simp [selV,hp]) fun D xs hv => ?_
 cases hv with
 | cons _ y0 _ ys h0 hv =>
 cases hv with
 | cons _ y1 _ ys h1 hv =>
 refine .cons _ _ _ _ h0 (.cons _ _ _ _ ?_ hv)
 cases h1 with
 | agg _ l _ a b => exact .agg _ _ _ ((selV_nl h).vrs a) (by simp)
theorem bindSel_eq (s : Sch) (q : Qry) : bindB s (selS q) = if SchOk s ∧ q.may = true then finB (queryB s q 8 0) else (bndZ,1):=by
 unfold bindB
 rw [selS_may]
 rfl
def exV : List AV:=[.int .i64 0,.int .i64 0,.int .i64 0,.str [],.str [],.str [],.int .i64 0,.cst (.slice none 0 0)]
def Qry.pc (q : Qry) (vi vs : AV) (c : List AV) : List AV:=.bool q.dist :: .bool q.star :: vi :: vs :: (c ++ [.cst (.slice none 0 0),.bool q.limited,.int .i64 q.limit])
theorem exV_frz (h : Hf) : FrzL h exV Ex.z.cells:=by
 simp only [exV,Ex.z,Ex.cells,Ex.cellsL]
 exact FrzL.snoc [_,_,_,_,_,_,_] (by simp) (.nil 7)
theorem exV_nl : NL exV Ex.z.cells:=by simp [exV,Ex.z,Ex.cells,nvEx]
theorem exV_one : allOne exV = true:=by simp [exV]
theorem patch_at (c : List AV) : ∀ (a b vs : List AV),vs.length = b.length → patch (a ++ (b ++ c)) a.length vs = some (a ++ (vs ++ c))
 | [],[],[],_ => by simp
 | [],[],_ :: _,h => by simp at h
 | [],_ :: _,[],h => by simp at h
 | [],y :: b,v :: vs,h => by
  have:=patch_at c [] b vs (by simpa using h)
  simp only [List.nil_append,List.length_nil] at this
  simp [this]
 | x :: a,b,[],h => by
  have : b = []:=by cases b with
   | nil => rfl
   | cons => simp at h
  subst this; simp
 | x :: a,b,v :: vs,h => by
  have:=patch_at c a b (v :: vs) h
  simp [this]
structure N4F (l : List (List Nat × Tbl)) (F : Fr) : Prop where
 f2 : F.get 2 = some (.ptr 0 0)
 f3 : F.get 3 = some (.ptr 1 0)
 f5 : F.get 5 = some (.ptr 2 0)
 f7 : F.get 7 = some (eSo.ds l)
 f9 : F.get 9 = some (.ptr 3 0)
 f10 : F.get 10 = some (.bool true)
structure N4K (s : Sch) (q : Qry) (A : List AV) (vi vs : AV) (c : List AV) (K : Hp) (m : Nat) : Prop where
 hm : 4 ≤ m
 tp : Top K m
 k0 : K.get 0 = some (.cells 2 [] (eSch.cells s) .nil)
 k1 : K.get 1 = some (.cells 15 [] q.cells .nil)
 k2 : K.get 2 = some (.cells 25 [] A .nil)
 k3 : K.get 3 = some (.cells 15 [] (q.pc vi vs c) .nil)
theorem N4K.next {s : Sch} {q : Qry} {A c : List AV} {vi vs : AV} {K K' : Hp} {m m' : Nat} (M : N4K s q A vi vs c K m) (hm : m ≤ m') (t : Top K' m') (g : ∀ b,b < 4 → K'.get b = K.get b) : N4K s q A vi vs c K' m' :=
 ⟨Nat.le_trans M.hm hm,t,(g 0 (by omega)).trans M.k0,(g 1 (by omega)).trans M.k1,(g 2 (by omega)).trans M.k2,(g 3 (by omega)).trans M.k3⟩
structure N4S (s : Sch) (q : Qry) (i : Nat) (vs : AV) (K : Hp) (m : Nat) : Prop where
 ow : ∃ R,OwnS K m vs R i 10 ∧ ∀ h,FrzL h R (eSrc.l (renS s q i))
 dx : ∀ b,blk vs = some b → 4 ≤ b
theorem names4b (s : Sch) (q : Qry) (A : List AV) (i : Nat) (hl : q.srcs.length ≤ 4) (hlt : i < q.srcs.length) (vs : AV) (F : Fr) (K : Hp) (m a : Nat) (Q : QA) (xc : List AV) (hF : N4F (q.srcs.map s.so) F) (f11 : F.get 11 = some (.int .i64 (i : Int))) (f12 : F.get 12 = some (.ptr a 0)) (ha : K.get a = some (.cells 10 [] xc .nil)) (hxl : xc.length = 10) (hx1 : allOne xc = true) (hxf : ∀ h,FrzL h xc (eSrc.cells (renA s q i))) (M : N4K s q A (.cst (.slice none 0 0)) vs exV K m) (S : N4S s q i vs K m)
  (hQ : ∀ F K m vs,N4F (q.srcs.map s.so) F → F.get 11 = some (.int .i64 (i : Int)) → N4K s q A (.cst (.slice none 0 0)) vs exV K m → N4S s q (i + 1) vs K m → Q .normal F K m []) : VC Try.prog R4_16 F K m [] Q:=by
 obtain ⟨f2,f3,f5,f7,f9,f10⟩:=hF
 obtain ⟨⟨R,ow,hR⟩,dx⟩:=S
 have hm:=M.hm
 have tp:=M.tp
 have k3:=M.k3
 simp only [Qry.pc,exV,List.cons_append,List.nil_append] at k3
 simp [R4_16,f9,f12,k3,ha,hxl]
 generalize hK1 : Tr.put K m _ = K1
 have g1 : ∀ b,b < m → K1.get b = K.get b:=fun b hb => by rw [← hK1]; simp [neC hb]
 have x1 : K1.get m = some (.cells 10 [] xc .nil):=by rw [← hK1]; simp
 have t1 : Top K1 (m + 1):=fun b hb => by
  have e1 : ¬ b = m:=by omega
  rw [← hK1]; simp [e1,tp b (by omega)]
 clear hK1
 have hvl : ∀ b,blk vs = some b → b < m:=fun b h => ow.blkLt h
 have nx : ∀ b,b < 4 → blk vs ≠ some b:=fun b h1 h2 => by have:=dx b h2; omega
 refine OwnS.appA (k:=1) (new:=xc) (ow.frame (H':=K1) (n':=m + 1) (by omega) fun b hb => g1 b (hvl b hb)) (sliceCells_one x1) (by simp) (by simp [hxl]) (by omega) (by omega) (by unfold big; omega) (by omega) hx1 fun K2 o2 g2 => ?_
 have bk : ∀ b,b < 4 → K2.get b = K.get b:=fun b hb => (g2 b (by omega) (nx b hb)).trans (g1 b (by omega))
 have k32:=(bk 3 (by omega)).trans k3
 simp [f9,k32]
 generalize hK3 : Tr.put K2 3 _ = K3
 have g3 : ∀ b,b ≠ 3 → K3.get b = K2.get b:=fun b hb => by rw [← hK3]; simp [hb]
 have x3 : K3.get 3 = some (.cells 15 [] (q.pc (.cst (.slice none 0 0)) (.sl (m + 1) 0 (i + 1) 10) exV) .nil):=by rw [← hK3]; simp [Qry.pc,exV]
 have t3 : Top K3 (m + 1 + 1):=fun b hb => (g3 b (by omega)).trans ((g2 b (by omega) fun h => by have:=hvl b h; omega).trans (t1 b (by omega)))
 clear hK3
 refine hQ _ K3 _ (.sl (m + 1) 0 (i + 1) 10) ⟨by simp [f2],by simp [f3],by simp [f5],by simp [f7],by simp [f9],by simp [f10]⟩ (by simp [f11])
  ⟨by omega,t3,(g3 0 (by omega)).trans ((bk 0 (by omega)).trans M.k0),(g3 1 (by omega)).trans ((bk 1 (by omega)).trans M.k1),(g3 2 (by omega)).trans ((bk 2 (by omega)).trans M.k2),x3⟩ ⟨⟨R ++ xc,?_,fun h => ?_⟩,fun b hb => by simp at hb; omega⟩
 · exact o2.frame (by omega) fun b hb => g3 b (by simp at hb; omega)
 ·
  have : renS s q (i + 1) = renS s q i ++ [renA s q i]:=by simp [renS,List.range_succ]
  rw [this,Enc.l_append,Enc.l_one]
  exact (hR h).append (hxf h)
theorem names4a (s : Sch) (q : Qry) (hq : (selS q).sm) (A : List AV) (hl : q.srcs.length ≤ 4) (hk : (kindsS (q.srcs.map s.tb)).length ≤ lim) (hc : ∀ t ∈ q.srcs.map s.tb,t.cols.length ≤ lim) (O : ∀ k,0 < k → k < q.srcs.length → ((srcAt q.srcs k).cond.full ((q.srcs.map s.so).take (k + 1))).2 = true) (F : Fr) (K : Hp) (m : Nat) (Q : QA) (hF : N4F (q.srcs.map s.so) F) (f11 : F.get 11 = some (.int .i64 0))
  (M : N4K s q A (.cst (.slice none 0 0)) (.cst (.slice none 0 0)) exV K m)
  (hQ : ∀ F K m vs,N4F (q.srcs.map s.so) F → N4K s q A (.cst (.slice none 0 0)) vs exV K m → N4S s q q.srcs.length vs K m → Q .normal F K m []) : LoopV L4_0 Try.prog F K m [] (BlkQ 0 Q):=by
 refine LoopV.of (fun g F K m ms => ∃ (i : Nat) (vs : AV),g = q.srcs.length - i ∧ i ≤ q.srcs.length ∧ N4F (q.srcs.map s.so) F ∧ F.get 11 = some (.int .i64 (i : Int)) ∧ N4K s q A (.cst (.slice none 0 0)) vs exV K m ∧ N4S s q i vs K m ∧ ms = []) q.srcs.length ⟨0,_,by simp,by omega,hF,by simpa using f11,M,⟨⟨[],by simpa using OwnS.nil _ _ 10,fun h => by simpa [renS] using FrzL.nil⟩,by simp⟩,rfl⟩ ?_
 clear hF f11 M F K m
 rintro g F K m ms ⟨i,vs,rfl,hi,hF,f11,M,S,rfl⟩
 obtain ⟨f2,f3,f5,f7,f9,f10⟩:=id hF
 have k1:=M.k1
 have tp:=M.tp
 have hm:=M.hm
 by_cases hlt : i < q.srcs.length
 ·
  have hx:=eSrc.ix (ik:=.i64) hlt
  rw [eSrc_c] at hx
  have h13:=letters13 i (by omega)
  have tm:=tp m (Nat.le_refl _)
  have hat:=srcAt_lt hlt
  simp only [L4_0,R4_10,R4_11]
  simp [f3,f11,k1,Qry.c3,Enc.len_ds,hlt]
  refine DrwV.of (ceL_ok (l:=[⟨13,[.int .i64 (i : Int)],K,m,.str (zz i),K,m⟩]) ?_) ?_
  · simp only [List.mem_singleton]; rintro c rfl; exact h13.callOk K m
  simp [clearF_get,f3,f11,k1,Qry.c3,hx,ceL_hd,noneAt_cons,noneAt_nil,tm]
  generalize hK1 : Tr.put (Tr.put K m _) m _ = K1
  have g1 : ∀ b,b < m → K1.get b = K.get b:=fun b hb => by rw [← hK1]; simp [neC hb]
  have x1 : K1.get m = some (.cells 10 [] (.str q.srcs[i].table :: .str (zz i) :: exV) .nil):=by rw [← hK1]; simp [exV]
  have t1 : Top K1 (m + 1):=fun b hb => by
   have e1 : ¬ b = m:=by omega
   rw [← hK1]; simp [e1,tp b (by omega)]
  clear hK1
  generalize hF2 : (Fp 12 _ _ : Fr) = F2
  have hF' : N4F (q.srcs.map s.so) F2:=⟨by rw [← hF2]; simp [clearF_get,f2],by rw [← hF2]; simp [clearF_get,f3],by rw [← hF2]; simp [clearF_get,f5],by rw [← hF2]; simp [clearF_get,f7],by rw [← hF2]; simp [clearF_get,f9],by rw [← hF2]; simp [clearF_get,f10]⟩
  have w11 : F2.get 11 = some (.int .i64 (i : Int)):=by rw [← hF2]; simp [clearF_get,f11]
  have w12 : F2.get 12 = some (.ptr m 0):=by rw [← hF2]; simp
  clear hF2
  have M1:=M.next (K':=K1) (m':=m + 1) (by omega) t1 fun b hb => g1 b (by omega)
  have S1 : N4S s q i vs K1 (m + 1):=by
   obtain ⟨⟨R,ow,hR⟩,dx⟩:=S
   exact ⟨⟨R,ow.frame (by omega) fun b hb => g1 b (ow.blkLt hb),hR⟩,dx⟩
  have hw:=wrap_nat i (by omega)
  obtain ⟨f2,f3,f5,f7,f9,f10⟩:=id hF'
  by_cases h0 : i = 0
  ·
   simp [R4_12,w11,h0,R4_14,f10]
   refine names4b s q A i hl hlt vs _ K1 (m + 1) m _ _ ⟨by simp [f2],by simp [f3],by simp [f5],by simp [f7],by simp [f9],by simp [f10]⟩ (by simp [w11]) (by simp [w12]) x1 (by simp [exV]) (by simp [exV]) (fun h => ?_) M1 S1 fun F3 K3 m3 vs3 ⟨f2,f3,f5,f7,f9,f10⟩ f11 M3 S3 => ?_
   ·
    have : renA s q i = ⟨q.srcs[i].table,zz i,Ex.z⟩:=by unfold renA; rw [hat,if_pos h0]
    rw [this,eSrc_c]
    exact .cons _ _ _ _ (.pure _ (by simp)) (.cons _ _ _ _ (.pure _ (by simp)) (exV_frz h))
   ·
    simp [R4_17,f11,hw]
    exact ⟨_,by omega,i + 1,rfl,hlt,⟨by simp [f2],by simp [f3],by simp [f5],by simp [f7],by simp [f9],by simp [f10]⟩,rfl,vs3,M3,S3⟩
  ·
   have hi0 : 0 < i:=by omega
   have hO:=O i (by omega) hlt
   rw [hat] at hO
   have hlt2 : ((q.srcs.map s.so).take (i + 1)).map (·.2) = (q.srcs.map s.tb).take (i + 1):=by rw [List.map_take,List.map_map]; rfl
   have h14:=full14 ((q.srcs.map s.so).take (i + 1)) (by simp; omega) (by rw [hlt2]; exact Nat.le_trans (kindsS_le _ _) hk) (fun x hx => by
    obtain ⟨y,hy,rfl⟩:=List.mem_map.1 (List.mem_of_mem_take hx)
    exact hc _ (List.mem_map_of_mem hy)) q.srcs[i].cond (hq.src _ (List.getElem_mem hlt))
   have hrA : renA s q i = ⟨q.srcs[i].table,zz i,(q.srcs[i].cond.full ((q.srcs.map s.so).take (i + 1))).1⟩:=by unfold renA; rw [hat,if_neg h0]
   generalize hr : (q.srcs[i].cond.full ((q.srcs.map s.so).take (i + 1))).1 = r at *
   rw [hO] at h14
   have h14' : FnPure Try.prog 14 [eSo.ds ((q.srcs.map s.so).take (i + 1)),.agg q.srcs[i].cond.cells 8] (.tup [.agg r.cells 8,.bool true]):=h14
   have hsl : cSlc 5 none (some (.int .i64 ((i : Int) + 1))) none (eSo.ds (q.srcs.map s.so)) = .val (eSo.ds ((q.srcs.map s.so).take (i + 1))):=by
    have:=eSo.slHi (l:=q.srcs.map s.so) (i:=i + 1) (by simp; omega)
    simpa using this
   generalize (q.srcs.map s.so).take (i + 1) = lt at *
   have hld:=fun r H => eEx.ldN q.srcs[i].cond r H
   simp only [eEx_c,Enc.av] at hld
   have k11:=M1.k1
   have tm1:=t1 (m + 1) (Nat.le_refl _)
   simp only [R4_12,R4_13]
   simp [w11,hi0]
   refine DrwV.of (ceL_ok (l:=[⟨14,[eSo.ds lt,.agg q.srcs[i].cond.cells 8],K1,m + 1,.tup [.agg r.cells 8,.bool true],K1,m + 1⟩]) ?_) ?_
   · simp only [List.mem_singleton]; rintro c rfl; exact h14'.callOk K1 (m + 1)
   simp only [exV] at x1
   have hpt : patch [.str q.srcs[i].table,.str (zz i),.int .i64 0,.int .i64 0,.int .i64 0,.str [],.str [],.str [],.int .i64 0,.cst (.slice none 0 0)] 2 r.cells = some (.str q.srcs[i].table :: .str (zz i) :: r.cells):=by
    simpa [exV] using patch_at [] [.str q.srcs[i].table,.str (zz i)] exV r.cells (by simp [exV])
   simp [clearF_get,f3,f7,w11,w12,k11,Qry.c3,hx,hld,x1,hw,hsl,eSl,oev,ceL_hd,hpt]
   generalize hK2 : Tr.put K1 m _ = K2
   have g2 : ∀ b,b ≠ m → K2.get b = K1.get b:=fun b hb => by rw [← hK2]; simp [hb]
   have x2 : K2.get m = some (.cells 10 [] (.str q.srcs[i].table :: .str (zz i) :: r.cells) .nil):=by rw [← hK2]; simp
   have t2 : Top K2 (m + 1):=fun b hb => (g2 b (by omega)).trans (t1 b hb)
   clear hK2
   have M2:=M1.next (K':=K2) (m':=m + 1) (Nat.le_refl _) t2 fun b hb => g2 b (by omega)
   have S2 : N4S s q i vs K2 (m + 1):=by
    obtain ⟨⟨R,ow,hR⟩,dx⟩:=S
    have hbl:=fun b hb => ow.blkLt (c:=b) hb
    exact ⟨⟨R,ow.frame (by omega) fun b hb => (g2 b (by have:=hbl b hb; omega)).trans (g1 b (hbl b hb)),hR⟩,dx⟩
   simp [R4_14]
   refine names4b s q A i hl hlt vs _ K2 (m + 1) m _ _ ⟨by simp [clearF_get,f2],by simp [clearF_get,f3],by simp [clearF_get,f5],by simp [clearF_get,f7],by simp [clearF_get,f9],by simp⟩ (by simp [clearF_get,w11]) (by simp [clearF_get,w12]) x2 (by simp) (by simp) (fun h => ?_) M2 S2 fun F3 K3 m3 vs3 ⟨f2,f3,f5,f7,f9,f10⟩ f11 M3 S3 => ?_
   ·
    rw [hrA,eSrc_c]
    exact FrzL.pure (by simp)
   ·
    simp [R4_17,f11,hw]
    exact ⟨_,by omega,i + 1,rfl,hlt,⟨by simp [f2],by simp [f3],by simp [f5],by simp [f7],by simp [f9],by simp [f10]⟩,rfl,vs3,M3,S3⟩
 ·
  obtain rfl : i = q.srcs.length:=by omega
  simp [L4_0,R4_10,f3,f11,k1,Qry.c3,Enc.len_ds]
  exact hQ _ K m vs ⟨by simp [f2],by simp [f3],by simp [f5],by simp [f7],by simp [f9],by simp [f10]⟩ M S
structure N4I (s : Sch) (q : Qry) (j : Nat) (vi : AV) (K : Hp) (m : Nat) : Prop where
 ow : OwnS K m vi (eItm.l ((q.items.take j).map (Itm.ren (q.srcs.map s.so)))) j 9
 dx : ∀ b,blk vi = some b → 4 ≤ b
theorem names4d (s : Sch) (q : Qry) (A : List AV) (j : Nat) (hl : q.items.length ≤ lim) (hlt : j < q.items.length) (vi vs : AV) (hvs : vs.one = true ∧ vs.len = 1 ∧ vs.cells = [vs]) (F : Fr) (K : Hp) (m a : Nat) (Q : QA) (hF : N4F (q.srcs.map s.so) F) (f13 : F.get 13 = some (.int .i64 (j : Int))) (f14 : F.get 14 = some (.ptr a 0)) (ha : K.get a = some (.cells 8 [] (q.items[j].e.full (q.srcs.map s.so)).1.cells .nil)) (M : N4K s q A vi vs exV K m) (S : N4I s q j vi K m)
  (hQ : ∀ F K m vi,N4F (q.srcs.map s.so) F → F.get 13 = some (.int .i64 (j : Int)) → N4K s q A vi vs exV K m → N4I s q (j + 1) vi K m → Q .normal F K m []) : VC Try.prog R4_23 F K m [] Q:=by
 unfold lim at hl
 obtain ⟨f2,f3,f5,f7,f9,f10⟩:=hF
 obtain ⟨ow,dx⟩:=S
 have hm:=M.hm
 have tp:=M.tp
 have k3:=M.k3
 simp only [Qry.pc,exV,List.cons_append,List.nil_append] at k3
 generalize hr : (q.items[j].e.full (q.srcs.map s.so)).1 = r at *
 have hpt2 : patch [.int .i64 0,.int .i64 0,.int .i64 0,.str [],.str [],.str [],.int .i64 0,.cst (.slice none 0 0),.str []] 0 r.cells = some (r.cells ++ [.str []]):=by
  simpa [exV] using patch_at [.str []] [] exV r.cells (by simp [exV])
 have hpt3 : patch (r.cells ++ [.str []]) 8 [.str [97]] = some (r.cells ++ [.str [97]]):=by
  have:=patch_at [] r.cells [.str []] [.str [97]] rfl
  rw [Ex.cells_len] at this
  simpa using this
 simp [R4_23,f9,f14,k3,ha,hpt2,hpt3]
 generalize hK1 : Tr.put K m _ = K1
 have g1 : ∀ b,b < m → K1.get b = K.get b:=fun b hb => by rw [← hK1]; simp [neC hb]
 have x1 : K1.get m = some (.cells 9 [] (r.cells ++ [.str [97]]) .nil):=by rw [← hK1]; simp
 have t1 : Top K1 (m + 1):=fun b hb => by
  have e1 : ¬ b = m:=by omega
  rw [← hK1]; simp [e1,tp b (by omega)]
 clear hK1
 have hvl : ∀ b,blk vi = some b → b < m:=fun b h => ow.blkLt h
 have nx : ∀ b,b < 4 → blk vi ≠ some b:=fun b h1 h2 => by have:=dx b h2; omega
 refine OwnS.appA (k:=1) (new:=r.cells ++ [.str [97]]) (ow.frame (H':=K1) (n':=m + 1) (by omega) fun b hb => g1 b (hvl b hb)) (sliceCells_one x1) (by simp) (by simp) (by omega) (by omega) (by unfold big; omega) (by omega) (by simp) fun K2 o2 g2 => ?_
 have bk : ∀ b,b < 4 → K2.get b = K.get b:=fun b hb => (g2 b (by omega) (nx b hb)).trans (g1 b (by omega))
 have k32:=(bk 3 (by omega)).trans k3
 obtain ⟨v1,v2,v3⟩:=hvs
 simp [f9,k32]
 generalize hK3 : Tr.put K2 3 _ = K3
 have g3 : ∀ b,b ≠ 3 → K3.get b = K2.get b:=fun b hb => by rw [← hK3]; simp [hb]
 have x3 : K3.get 3 = some (.cells 15 [] (q.pc (.sl (m + 1) 0 (j + 1) 9) vs exV) .nil):=by rw [← hK3]; simp [Qry.pc,exV]
 have t3 : Top K3 (m + 1 + 1):=fun b hb => (g3 b (by omega)).trans ((g2 b (by omega) fun h => by have:=hvl b h; omega).trans (t1 b (by omega)))
 clear hK3
 refine hQ _ K3 _ (.sl (m + 1) 0 (j + 1) 9) ⟨by simp [f2],by simp [f3],by simp [f5],by simp [f7],by simp [f9],by simp [f10]⟩ (by simp [f13])
  ⟨by omega,t3,(g3 0 (by omega)).trans ((bk 0 (by omega)).trans M.k0),(g3 1 (by omega)).trans ((bk 1 (by omega)).trans M.k1),(g3 2 (by omega)).trans ((bk 2 (by omega)).trans M.k2),x3⟩ ⟨?_,fun b hb => by simp at hb; omega⟩
 rw [take_snoc hlt,List.map_append,Enc.l_append]
 have he : eItm.l ([q.items[j]].map (Itm.ren (q.srcs.map s.so))) = r.cells ++ [.str [97]]:=by rw [List.map_cons,List.map_nil,Enc.l_one,eItm_c]; simp [Itm.ren,hr]
 rw [he]
 exact o2.frame (by omega) fun b hb => g3 b (by simp at hb; omega)
theorem names4c (s : Sch) (q : Qry) (hq : (selS q).sm) (A : List AV) (hl : q.srcs.length ≤ 4) (hk : (kindsS (q.srcs.map s.tb)).length ≤ lim) (hc : ∀ t ∈ q.srcs.map s.tb,t.cols.length ≤ lim) (O : ∀ x ∈ q.items,(x.e.full (q.srcs.map s.so)).2 = true) (vs : AV) (F : Fr) (K : Hp) (m : Nat) (Q : QA) (hF : N4F (q.srcs.map s.so) F) (f13 : F.get 13 = some (.int .i64 0))
  (M : N4K s q A (.cst (.slice none 0 0)) vs exV K m) (S : N4S s q q.srcs.length vs K m)
  (hQ : ∀ F K m vi,N4F (q.srcs.map s.so) F → N4K s q A vi (eSrc.ds (renS s q q.srcs.length)) exV K m → N4I s q q.items.length vi K m → Q .normal F K m []) : LoopV L4_1 Try.prog F K m [] (BlkQ 2 Q):=by
 have hil : q.items.length ≤ lim:=hq.items
 have hil':=hil
 unfold lim at hil'
 obtain ⟨⟨R,ow,hR⟩,dx⟩:=S
 obtain ⟨h0,K0,sh,x0,g0,n0⟩:=shutBlk (F:=F) (l:=[.bool q.dist,.bool q.star,.cst (.slice none 0 0)]) (r:=exV ++ [.cst (.slice none 0 0),.bool q.limited,.int .i64 q.limit]) M.k3 (by simp [exV]) ow (by omega) hR (fun h => by have:=dx 3 h; omega)
 have nx : ∀ b,b < 4 → blk vs ≠ some b:=fun b h1 h2 => by have:=dx b h2; omega
 have M0 : N4K s q A (.cst (.slice none 0 0)) (eSrc.ds (renS s q q.srcs.length)) exV K0 m:=⟨M.hm,fun b hb => by
   by_cases hbv : blk vs = some b
   · exact n0 b hbv
   · exact (g0 b (by have:=M.hm; omega) hbv).trans (M.tp b hb),
  (g0 0 (by omega) (nx 0 (by omega))).trans M.k0,(g0 1 (by omega) (nx 1 (by omega))).trans M.k1,(g0 2 (by omega) (nx 2 (by omega))).trans M.k2,by rw [x0]; simp only [Qry.pc,Enc.ds,renS_len]; rfl⟩
 refine LoopV.ofZ (fun g F K m ms => ∃ (j : Nat) (vi : AV),g = q.items.length - j ∧ j ≤ q.items.length ∧ N4F (q.srcs.map s.so) F ∧ F.get 13 = some (.int .i64 (j : Int)) ∧ N4K s q A vi (eSrc.ds (renS s q q.srcs.length)) exV K m ∧ N4I s q j vi K m ∧ ms = []) q.items.length ⟨h0,F,K0,sh,0,.cst (.slice none 0 0),by simp,by omega,hF,by simpa using f13,M0,⟨by simpa using OwnS.nil _ _ 9,by simp⟩,rfl⟩ ?_
 clear hF f13 M M0 F K K0 m sh x0 g0 n0 ow h0 hR dx nx
 rintro g F K m ms ⟨j,vi,rfl,hj,hF,f13,M,S,rfl⟩
 obtain ⟨f2,f3,f5,f7,f9,f10⟩:=id hF
 have k1:=M.k1
 have tp:=M.tp
 have hm:=M.hm
 by_cases hlt : j < q.items.length
 ·
  have hx:=eItm.ix (ik:=.i64) hlt
  rw [eItm_c,List.append_assoc] at hx
  have hld:=fun r H => eEx.ldN q.items[j].e r H
  simp only [eEx_c,Enc.av] at hld
  have hO:=O _ (List.getElem_mem hlt)
  have hlt2 : (q.srcs.map s.so).map (·.2) = q.srcs.map s.tb:=by rw [List.map_map]; rfl
  have h14:=full14 (q.srcs.map s.so) (by simpa using hl) (by rw [hlt2]; exact hk) (fun x hx => by
    obtain ⟨y,hy,rfl⟩:=List.mem_map.1 hx
    exact hc _ (List.mem_map_of_mem hy)) q.items[j].e (hq.item _ (List.getElem_mem hlt))
  rw [hO] at h14
  have h14' : FnPure Try.prog 14 [eSo.ds (q.srcs.map s.so),.agg q.items[j].e.cells 8] (.tup [.agg (q.items[j].e.full (q.srcs.map s.so)).1.cells 8,.bool true]):=h14
  simp [L4_1,R4_19,R4_20,f3,f7,f13,k1,Qry.c2,Enc.len_ds,hlt,hx,hld]
  refine CalV.pure h14' ?_
  simp [R4_21]
  generalize hK1 : Tr.put (Tr.put K m _) m _ = K1
  have g1 : ∀ b,b < m → K1.get b = K.get b:=fun b hb => by rw [← hK1]; simp [neC hb]
  have x1 : K1.get m = some (.cells 8 [] (q.items[j].e.full (q.srcs.map s.so)).1.cells .nil):=by rw [← hK1]; simp
  have t1 : Top K1 (m + 1):=fun b hb => by
   have e1 : ¬ b = m:=by omega
   rw [← hK1]; simp [e1,tp b (by omega)]
  clear hK1
  have M1:=M.next (K':=K1) (m':=m + 1) (by omega) t1 fun b hb => g1 b (by omega)
  have S1 : N4I s q j vi K1 (m + 1):=⟨S.ow.frame (by omega) fun b hb => g1 b (S.ow.blkLt hb),S.dx⟩
  refine names4d s q A j hil hlt vi _ ⟨by simp,by simp,by simp⟩ _ K1 (m + 1) m _ ⟨by simp [f2],by simp [f3],by simp [f5],by simp [f7],by simp [f9],by simp [f10]⟩ (by simp [f13]) (by simp) x1 M1 S1 fun F3 K3 m3 vi3 ⟨f2,f3,f5,f7,f9,f10⟩ f13 M3 S3 => ?_
  simp [R4_24,f13,wrap_nat j (by omega)]
  exact ⟨q.items.length - (j + 1),by omega,Zs.refl ⟨j + 1,rfl,hlt,⟨by simp [f2],by simp [f3],by simp [f5],by simp [f7],by simp [f9],by simp [f10]⟩,by simp,vi3,M3,S3,rfl⟩⟩
 ·
  obtain rfl : j = q.items.length:=by omega
  simp [L4_1,R4_19,f3,f13,k1,Qry.c2,Enc.len_ds]
  exact hQ _ K m vi ⟨by simp [f2],by simp [f3],by simp [f5],by simp [f7],by simp [f9],by simp [f10]⟩ M S
noncomputable def M4b : CT:=(.seq (.seq R4_25 (.cond (slotG 123) R4_26 .skip)) (.seq R4_27 (.seq (.seq R4_28 (.cond (slotG 154) (.seq R4_29 .ret) .skip)) (.seq R4_30 (.seq R4_31 .ret)))))
noncomputable def M4 : CT:=(.seq R4_4 (.seq (.seq R4_5 (.cond (slotG 42) (.seq R4_6 .ret) .skip)) (.seq R4_7 (.seq R4_8 (.seq (.seq R4_9 (.block 0 (.loop L4_0))) (.seq (.seq R4_18 (.block 2 (.loop L4_1))) M4b))))))
theorem b4 : B4 = (.seq R4_0 (.seq R4_1 (.seq (.seq R4_2 (.cond (slotG 33) (.seq R4_3 .ret) .skip)) M4))):=rfl
theorem Qry.c4 (q : Qry) (h : 4 < q.cells.length) : q.cells[4] = .int .i64 q.cond.op:=by
 have e : q.cells[4] = q.cond.cells[0]'(by simp):=by
  simp [Qry.cells]
 rw [e]
 cases q.cond; simp [Ex.cells,Ex.op]
theorem Qry.ren_nl (s : Sch) (q : Qry) {c : List AV} (hc : NL c (q.ren s).cond.cells) : NL (q.pc (eItm.ds (q.items.map (Itm.ren (q.srcs.map s.so)))) (eSrc.ds (renS s q q.srcs.length)) c) (q.ren s).cells:=by
 have e : (q.ren s).cells = .bool q.dist :: .bool q.star :: eItm.ds (q.items.map (Itm.ren (q.srcs.map s.so))) :: eSrc.ds (renS s q q.srcs.length) :: ((q.ren s).cond.cells ++ [eOrd.ds [],.bool q.limited,.int .i64 q.limit]):=by simp [Qry.cells,Qry.ren]
 rw [e,Qry.pc]
 simp only [nlCons,nvRfl,true_and]
 have app : ∀ {a a' b b' : List AV},NL a a' → NL b b' → NL (a ++ b) (a' ++ b'):=by
  intro a
  induction a with
  | nil => intro a' b b' h1 h2; cases a' with
   | nil => exact h2
   | cons => simp [NL] at h1
  | cons v r ih => intro a' b b' h1 h2; cases a' with
   | nil => simp [NL] at h1
   | cons => simp only [List.cons_append,nlCons] at h1 ⊢; exact ⟨h1.1,ih h1.2 h2⟩
 exact app hc (by simp)
theorem names4g (s : Sch) (hs : s.fine) (q : Qry) (hq' : (selS (q.ren s)).sm) (b b' : Bnd) (hb : b.sm) (hB' : bindB s (selS (q.ren s)) = (b',0)) (hnm : b.names.length = b'.names.length) (hbb : { b' with names:=b.names } = b) (c : List AV) (hcl : c.length = 8) (hcp : PureL c) (hc1 : allOne c = true) (hcn : NL c (q.ren s).cond.cells)
  (F : Fr) (K : Hp) (m : Nat) (vi : AV) (hF : N4F (q.srcs.map s.so) F) (M : N4K s q b.cells vi (eSrc.ds (renS s q q.srcs.length)) c K m) (S : N4I s q q.items.length vi K m) :
  VC Try.prog (.seq R4_27 (.seq (.seq R4_28 (.cond (slotG 154) (.seq R4_29 .ret) .skip)) (.seq R4_30 (.seq R4_31 .ret)))) F K m [] (RetQ [rTmp 4] fun v1 H' _ => Frz H'.get v1 (.bool true)):=by
 obtain ⟨f2,f3,f5,f7,f9,f10⟩:=hF
 obtain ⟨ow,dx⟩:=S
 rw [List.take_length] at ow
 obtain ⟨h0,K0,sh,x0,g0,n0⟩:=shutBlk (F:=F) (l:=[.bool q.dist,.bool q.star]) (r:=eSrc.ds (renS s q q.srcs.length) :: (c ++ [.cst (.slice none 0 0),.bool q.limited,.int .i64 q.limit])) M.k3 (by simp [hcl]) ow (by omega) (fun h => FrzL.pure (by simp)) (fun h => by have:=dx 3 h; omega)
 have nx : ∀ b,b < 4 → blk vi ≠ some b:=fun b h1 h2 => by have:=dx b h2; omega
 have hm:=M.hm
 have tp0 : Top K0 m:=fun b hb => by
  by_cases hbv : blk vi = some b
  · exact n0 b hbv
  · exact (g0 b (by omega) hbv).trans (M.tp b hb)
 have k0:=(g0 0 (by omega) (nx 0 (by omega))).trans M.k0
 have k2:=(g0 2 (by omega) (nx 2 (by omega))).trans M.k2
 have k3 : K0.get 3 = some (.cells 15 [] (q.pc (eItm.ds (q.items.map (Itm.ren (q.srcs.map s.so)))) (eSrc.ds (renS s q q.srcs.length)) c) .nil):=by
  rw [x0]; simp only [Qry.pc,Enc.ds,List.length_map]; rfl
 have hnl:=q.ren_nl s hcn
 have hpl : (q.pc (eItm.ds (q.items.map (Itm.ren (q.srcs.map s.so)))) (eSrc.ds (renS s q q.srcs.length)) c).length = 15:=by simp [Qry.pc,hcl]
 have hpp : PureL (q.pc (eItm.ds (q.items.map (Itm.ren (q.srcs.map s.so)))) (eSrc.ds (renS s q q.srcs.length)) c):=by simp [Qry.pc,hcp]
 have hp1 : allOne (q.pc (eItm.ds (q.items.map (Itm.ren (q.srcs.map s.so)))) (eSrc.ds (renS s q q.srcs.length)) c) = true:=by simp [Qry.pc,hc1]
 generalize q.pc (eItm.ds (q.items.map (Itm.ren (q.srcs.map s.so)))) (eSrc.ds (renS s q q.srcs.length)) c = qc at *
 have h5:=bindSel s hs (q.ren s) hq' hnl hpp
 rw [hB'] at h5
 simp only at h5
 have h6 : FnPure Try.prog 6 [.agg (eSch.cells s) 2] (.agg (eSch.cells s) 2):=copy6 s hs
 have hsl : (eSch.cells s).length = 2:=eSch.cells_len s
 have tm:=tp0 m (Nat.le_refl _)
 have hpt : patch [.int .i64 8,.str [],.str [],.cst (.slice none 0 0),.cst (.slice none 0 0),.bool false,.cst (.slice none 0 0),.cst (.slice none 0 0),.int .i64 0,.int .i64 0,.int .i64 0,.str [],.str [],.str [],.int .i64 0,.cst (.slice none 0 0),.bool false,.bool false,.cst (.slice none 0 0),.cst (.slice none 0 0),.int .i64 0,.int .i64 0,.int .i64 0,.str [],.str [],.str [],.int .i64 0,.cst (.slice none 0 0),.cst (.slice none 0 0),.bool false,.int .i64 0] 16 qc = some (selV qc):=by
  have:=patch_at [] [.int .i64 8,.str [],.str [],.cst (.slice none 0 0),.cst (.slice none 0 0),.bool false,.cst (.slice none 0 0),.cst (.slice none 0 0),.int .i64 0,.int .i64 0,.int .i64 0,.str [],.str [],.str [],.int .i64 0,.cst (.slice none 0 0)] [.bool false,.bool false,.cst (.slice none 0 0),.cst (.slice none 0 0),.int .i64 0,.int .i64 0,.int .i64 0,.str [],.str [],.str [],.int .i64 0,.cst (.slice none 0 0),.cst (.slice none 0 0),.bool false,.int .i64 0] qc (by simp [hpl])
  simpa [selV] using this
 have hbl : b.cells.length = 25:=rfl
 have hbl' : b'.cells.length = 25:=rfl
 have hpz : patch [.int .i64 0,.str [],.int .u32 0,.str [],.cst (.slice none 0 0),.int .u32 0,.int .u32 0,.int .u32 0,.str [],.cst (.slice none 0 0),.bool false,.int .u32 0,.cst (.slice none 0 0),.cst (.slice none 0 0),.cst (.slice none 0 0),.cst (.slice none 0 0),.cst (.slice none 0 0),.cst (.slice none 0 0),.cst (.slice none 0 0),.cst (.slice none 0 0),.cst (.slice none 0 0),.cst (.slice none 0 0),.bool false,.bool false,.int .i64 0] 0 b'.cells = some b'.cells:=patch_all (by simp [hbl'])
 have hb19 : ∀ h,b.cells[19]'h = eStr.ds b.names:=fun h => by simp [Bnd.cells]
 have hb19' : ∀ h,b'.cells[19]'h = eStr.ds b'.names:=fun h => by simp [Bnd.cells]
 have hp19 : patch b'.cells 19 [eStr.ds b.names] = some b.cells:=by
  rw [← hbb]; simp [Bnd.cells]
 have hone':=Bnd.one b'
 have hone:=Bnd.one b
 have h15:=same15 b hb
 clear hbb hB' x0 g0 n0 hnl hb ow
 generalize b.cells = bc at *
 generalize b'.cells = bc' at *
 have e2 : ∀ c1,(ceL [⟨6,[.agg (eSch.cells s) 2],K0,m,.agg (eSch.cells s) 2,K0,m⟩,⟨5,[.agg (eSch.cells s) 2,.agg (selV qc) 31],K0,m,.tup [.agg bc' 25,.int .i64 0],K0,m⟩]).call 5 c1 K0 m = (ceL [⟨5,[.agg (eSch.cells s) 2,.agg (selV qc) 31],K0,m,.tup [.agg bc' 25,.int .i64 0],K0,m⟩]).call 5 c1 K0 m:=fun c1 => ceL_tl (by decide)
 simp only [R4_27]
 simp
 refine DrwV.ofZ (ceL_ok (l:=[⟨6,[.agg (eSch.cells s) 2],K0,m,.agg (eSch.cells s) 2,K0,m⟩,⟨5,[.agg (eSch.cells s) 2,.agg (selV qc) 31],K0,m,.tup [.agg bc' 25,.int .i64 0],K0,m⟩]) ?_) sh ?_
 ·
  simp only [List.mem_cons,List.not_mem_nil,or_false]
  rintro c (rfl | rfl)
  · exact h6.callOk K0 m
  · exact h5.callOk K0 m
 simp [clearF_get,f2,f9,k0,k3,hpt,ceL_hd,e2,noneAt_cons,noneAt_nil,tm,hpz,hone']
 generalize hK1 : Tr.put (Tr.put K0 m _) m _ = K1
 have g1 : ∀ c,c < m → K1.get c = K0.get c:=fun c hc => by rw [← hK1]; simp [neC hc]
 have x1 : K1.get m = some (.cells 25 [] bc' .nil):=by rw [← hK1]; simp
 clear hK1
 have x2:=(g1 2 (by omega)).trans k2
 generalize hF2 : (Fp 17 _ _ : Fr) = F2
 have w5 : F2.get 5 = some (.ptr 2 0):=by rw [← hF2]; simp [clearF_get,f5]
 have w10 : F2.get 10 = some (.bool true):=by rw [← hF2]; simp [clearF_get,f10]
 have w16 : F2.get 16 = some (.ptr m 0):=by rw [← hF2]; simp
 have w17 : F2.get 17 = some (.int .i64 0):=by rw [← hF2]; simp
 clear hF2 f2 f3 f5 f7 f9 f10
 have hlen : (b.names.length : Int) = (b'.names.length : Int):=by omega
 simp [R4_28,w5,w10,w16,w17,x1,x2,hb19,hb19',hbl,hbl',Enc.len_ds,hlen]
 simp [R4_30,w5,w16,x1,x2,hb19,hbl,hp19]
 simp [R4_31,w5,w16,x2,show ¬ 2 = m by omega]
 refine CalV.pure h15 ?_
 simp
 refine CalV.pure awake7 ?_
 simp
 exact .bool rfl
theorem names4f (s : Sch) (hs : s.fine) (q : Qry) (hq : (selS q).sm) (hq' : (selS (q.ren s)).sm) (b b' : Bnd) (hb : b.sm) (hB' : bindB s (selS (q.ren s)) = (b',0)) (hnm : b.names.length = b'.names.length) (hbb : { b' with names:=b.names } = b) (O : RenOk s q) (hl : q.srcs.length ≤ 4) (hk : (kindsS (q.srcs.map s.tb)).length ≤ lim) (hc : ∀ t ∈ q.srcs.map s.tb,t.cols.length ≤ lim)
  (F : Fr) (K : Hp) (m : Nat) (vi : AV) (hF : N4F (q.srcs.map s.so) F) (M : N4K s q b.cells vi (eSrc.ds (renS s q q.srcs.length)) exV K m) (S : N4I s q q.items.length vi K m) :
  VC Try.prog M4b F K m [] (RetQ [rTmp 4] fun v1 H' _ => Frz H'.get v1 (.bool true)):=by
 obtain ⟨f2,f3,f5,f7,f9,f10⟩:=id hF
 have k1:=M.k1
 have hcc:=Qry.cc q
 have hql : q.cells.length = 15:=q.cells_len
 by_cases h0 : q.cond.op = 0
 ·
  have hrc : (q.ren s).cond = Ex.z:=by simp [Qry.ren,h0]
  simp [M4b,R4_25,f3,k1,Qry.c4,h0]
  rw [← vc_seq]
  refine names4g s hs q hq' b b' hb hB' hnm hbb exV rfl (by simp [exV]) exV_one (by rw [hrc]; exact exV_nl) _ K m vi ⟨by simp [f2],by simp [f3],by simp [f5],by simp [f7],by simp [f9],by simp [f10]⟩ M S
 ·
  have hO:=O.c h0
  have hrc : (q.ren s).cond = (q.cond.full (q.srcs.map s.so)).1:=by simp [Qry.ren,h0]
  have hlt2 : (q.srcs.map s.so).map (·.2) = q.srcs.map s.tb:=by rw [List.map_map]; rfl
  have h14:=full14 (q.srcs.map s.so) (by simpa using hl) (by rw [hlt2]; exact hk) (fun x hx => by
    obtain ⟨y,hy,rfl⟩:=List.mem_map.1 hx
    exact hc _ (List.mem_map_of_mem hy)) q.cond hq.qc
  generalize hr : (q.cond.full (q.srcs.map s.so)).1 = r at *
  rw [hO] at h14
  have h14' : FnPure Try.prog 14 [eSo.ds (q.srcs.map s.so),.agg q.cond.cells 8] (.tup [.agg r.cells 8,.bool true]):=h14
  have k3:=M.k3
  simp only [Qry.pc,exV,List.cons_append,List.nil_append] at k3
  have hpt : ∀ x y : AV,patch [.bool q.dist,.bool q.star,x,y,.int .i64 0,.int .i64 0,.int .i64 0,.str [],.str [],.str [],.int .i64 0,.cst (.slice none 0 0),.cst (.slice none 0 0),.bool q.limited,.int .i64 q.limit] 4 r.cells = some (q.pc x y r.cells):=fun x y => by
   simpa [exV,Qry.pc] using patch_at [.cst (.slice none 0 0),.bool q.limited,.int .i64 q.limit] [.bool q.dist,.bool q.star,x,y] exV r.cells (by simp [exV])
  simp [M4b,R4_25,f3,k1,Qry.c4,h0,R4_26,f7,hcc]
  refine CalV.pure h14' ?_
  simp [f9,k3,hpt]
  rw [← vc_seq]
  have hm:=M.hm
  generalize hK2 : Tr.put K 3 _ = K2
  have g2 : ∀ b,b ≠ 3 → K2.get b = K.get b:=fun b hb => by rw [← hK2]; simp [hb]
  have x2 : K2.get 3 = some (.cells 15 [] (q.pc vi (eSrc.ds (renS s q q.srcs.length)) r.cells) .nil):=by rw [← hK2]; simp
  clear hK2
  refine names4g s hs q hq' b b' hb hB' hnm hbb r.cells (by simp) (Ex.pureC r) (by simp) (by rw [hrc]; exact NL.refl _) _ K2 m vi ⟨by simp [f2],by simp [f3],by simp [f5],by simp [f7],by simp [f9],by simp⟩ ⟨hm,fun b hb => (g2 b (by omega)).trans (M.tp b hb),(g2 0 (by omega)).trans M.k0,(g2 1 (by omega)).trans M.k1,(g2 2 (by omega)).trans M.k2,x2⟩ ⟨S.ow.frame (Nat.le_refl _) fun b hb => g2 b (by have:=S.dx b hb; omega),S.dx⟩
theorem names4e (s : Sch) (hs : s.fine) (q : Qry) (hq : (selS q).sm) (hq' : (selS (q.ren s)).sm) (b b' : Bnd) (hb : b.sm) (hB' : bindB s (selS (q.ren s)) = (b',0)) (hnm : b.names.length = b'.names.length) (hbb : { b' with names:=b.names } = b) (O : RenOk s q) (hl : q.srcs.length ≤ 4) (hk : (kindsS (q.srcs.map s.tb)).length ≤ lim) (hc : ∀ t ∈ q.srcs.map s.tb,t.cols.length ≤ lim)
  (F : Fr) (K : Hp) (f2 : F.get 2 = some (.ptr 0 0)) (f3 : F.get 3 = some (.ptr 1 0)) (f5 : F.get 5 = some (.ptr 2 0)) (tp : Top K 3) (k0 : K.get 0 = some (.cells 2 [] (eSch.cells s) .nil)) (k1 : K.get 1 = some (.cells 15 [] q.cells .nil)) (k2 : K.get 2 = some (.cells 25 [] b.cells .nil)) :
  VC Try.prog M4 F K 3 [] (RetQ [rTmp 4] fun v1 H' _ => Frz H'.get v1 (.bool true)):=by
 have h12:=sources12 s hs q (by unfold lim; omega)
 rw [O.src,if_pos rfl] at h12
 have h12' : FnPure Try.prog 12 [.agg (eSch.cells s) 2,.agg q.cells 15] (.tup [eSo.ds (q.srcs.map s.so),.int .i64 0]):=h12
 have hsl : (eSch.cells s).length = 2:=eSch.cells_len s
 have hql : q.cells.length = 15:=q.cells_len
 simp [M4,R4_4,f2,f3,k0,k1]
 refine CalV.pure h12' ?_
 simp [R4_5,R4_7,R4_8,R4_9,f3,k1,Qry.c0,Qry.c1,Qry.c13,Qry.c14]
 generalize hK1 : Tr.put (Tr.put K 3 _) 3 _ = K1
 have g1 : ∀ c,c < 3 → K1.get c = K.get c:=fun c hc => by rw [← hK1]; simp [neC hc]
 have x1 : K1.get 3 = some (.cells 15 [] (q.pc (.cst (.slice none 0 0)) (.cst (.slice none 0 0)) exV) .nil):=by rw [← hK1]; simp [Qry.pc,exV]
 have t1 : Top K1 4:=fun c hc => by
  have e1 : ¬ c = 3:=by omega
  rw [← hK1]; simp [e1,tp c (by omega)]
 clear hK1
 refine names4a s q hq b.cells hl hk hc O.on _ K1 4 _ ⟨by simp [f2],by simp [f3],by simp [f5],by simp,by simp,by simp⟩ (by simp) ⟨by omega,t1,(g1 0 (by omega)).trans k0,(g1 1 (by omega)).trans k1,(g1 2 (by omega)).trans k2,x1⟩ fun F3 K3 m3 vs ⟨f2,f3,f5,f7,f9,f10⟩ M3 S3 => ?_
 simp [R4_18]
 refine names4c s q hq b.cells hl hk hc O.it vs _ K3 m3 _ ⟨by simp [f2],by simp [f3],by simp [f5],by simp [f7],by simp [f9],by simp [f10]⟩ (by simp) M3 S3 fun F4 K4 m4 vi hF4 M4 S4 => ?_
 exact names4f s hs q hq hq' b b' hb hB' hnm hbb O hl hk hc F4 K4 m4 vi hF4 M4 S4
theorem condB_sz (ns : List (List Nat)) (ts : List Tbl) {e : Ex} (err : Int) (h : e.sz ≤ lim) : (condB ns ts e err).1.length ≤ lim ∧ ∀ y ∈ (condB ns ts e err).1,y.sz ≤ lim:=by
 unfold condB
 split
 · simp
 ·
  have h1:=Ex.bd_sz ns ts e err
  have h2:=(Ex.split_sz _ (e.bd ns ts err).1 (Nat.le_refl _)).1
  have h3:=Ex.sz_len (e.bd ns ts err).1.split
  exact ⟨by simp only; omega,fun y hy => by have hy' : y ∈ (e.bd ns ts err).1.split:=hy; have:=Ex.sz_mem hy'; omega⟩
theorem onR_sz (ns : List (List Nat)) (ts : List Tbl) (l : List Src) (h : ∀ x ∈ l,x.cond.sz ≤ lim) (err : Int) : ∀ i,i ≤ l.length → (onR ns ts l i err).1.length = i ∧ ∀ r ∈ (onR ns ts l i err).1,r.length ≤ lim ∧ ∀ y ∈ r,y.sz ≤ lim
 | 0,_ => by simp [onR]
 | i + 1,hi => by
  obtain ⟨a1,a2⟩:=onR_sz ns ts l h err i (by omega)
  rw [onR]
  refine ⟨by simp [a1],fun r hr => ?_⟩
  rcases List.mem_append.1 hr with hr | hr
  · exact a2 r hr
  ·
   rw [List.mem_singleton] at hr
   rw [hr]
   exact condB_sz _ _ _ (by rw [srcAt_lt (by omega)]; exact h _ (List.getElem_mem (by omega)))
theorem itR_sz (ns : List (List Nat)) (ts : List Tbl) : ∀ (l : List Itm) (err : Int),(∀ x ∈ l,x.e.sz ≤ lim) → ∀ y ∈ (itR ns ts l err).1,y.sz ≤ lim
 | [],_,_ => by simp [itR]
 | x :: r,err,h => by
  intro y hy
  rw [itR] at hy
  rcases List.mem_cons.1 hy with rfl | hy
  · exact Nat.le_trans (Ex.bd_sz ns ts x.e err) (h x (by simp))
  · exact itR_sz ns ts r _ (fun z hz => h z (by simp [hz])) y hy
theorem itemsB_sz (ns : List (List Nat)) (ts : List Tbl) (q : Qry) (err : Int) (h : ∀ x ∈ q.items,x.e.sz ≤ lim) (hk : (kindsS ts).length + q.items.length ≤ lim) : (itemsB ns ts q err).1.length ≤ lim ∧ (∀ y ∈ (itemsB ns ts q err).1,y.sz ≤ lim) ∧ (itemsB ns ts q err).2.2.1.length ≤ lim:=by
 unfold itemsB
 split
 ·
  have h1:=itR_len ns ts q.items (keep (keep err 200 (decide (ts = []))) 3 (decide ((16 : Int) < ((kindsS ts).length : Int))))
  refine ⟨by simp [h1]; omega,fun y hy => ?_,by simp [h1]; omega⟩
  rcases List.mem_append.1 hy with hy | hy
  ·
   obtain ⟨k,_,rfl⟩:=List.mem_map.1 hy
   simp [colX,Ex.sz,Ex.szL,lim]
  · exact itR_sz ns ts q.items _ h y hy
 ·
  have h1:=itR_len ns ts q.items err
  exact ⟨by simp [h1]; omega,fun y hy => itR_sz ns ts q.items _ h y hy,by simp [h1]; omega⟩
theorem queryB_sm (s : Sch) (hs : s.fine) (q : Qry) (qf : q.fine s) : (queryB s q 8 0).1.sm:=by
 have hz : ∀ k : Int,Bnd.sm { kind:=k }:=fun k => ⟨by simp [Tbl.zero],by simp [Ixd.zero],by simp,by simp,by simp,by simp,by simp,by simp,by simp,by simp,by simp,by simp,by simp,by simp,by simp⟩
 unfold queryB
 split
 · exact hz 8
 ·
  have ho:=onR_sz (q.srcs.map Src.nm) (q.srcs.map s.tb) q.srcs (fun x hx => (qf.sr x hx).1) 0 q.srcs.length (Nat.le_refl _)
  generalize onR (q.srcs.map Src.nm) (q.srcs.map s.tb) q.srcs q.srcs.length 0 = O at *
  have hi:=itemsB_sz (q.srcs.map Src.nm) (q.srcs.map s.tb) q O.2 (fun x hx => (qf.it x hx).1) qf.k
  have hn:=itemsB_len (q.srcs.map Src.nm) (q.srcs.map s.tb) q O.2
  have hk:=qf.k
  generalize itemsB (q.srcs.map Src.nm) (q.srcs.map s.tb) q O.2 = I at *
  have hc:=condB_sz (q.srcs.map Src.nm) (q.srcs.map s.tb) I.2.2.2 qf.cz
  have hl:=qf.s
  refine ⟨by simp [Tbl.zero],by simp [Ixd.zero],by simp,by simp,by simp,by simp,by simp only; omega,ho.2,hc,⟨hi.1,hi.2.1⟩,by simp only; omega,hi.2.2,?_,by simpa using hl,fun t ht => ?_⟩
  · simp only [ordR_len]; exact qf.o
  ·
   obtain ⟨x,_,rfl⟩:=List.mem_map.1 ht
   exact firstD_len (Q:=fun t : Tbl => t.cols.length ≤ lim) (by simp [Tbl.zero]) hs.tc
theorem ren_sm (s : Sch) (q : Qry) (h : (selS q).sm) : (selS (q.ren s)).sm:=by
 have h1 : ∀ x ∈ q.items,x.e.sz ≤ lim:=h.item
 have h2 : ∀ x ∈ q.srcs,x.cond.sz ≤ lim:=h.src
 have h3 : q.cond.sz ≤ lim:=h.qc
 have h4 : q.items.length ≤ lim:=h.items
 have h5 : q.srcs.length ≤ lim:=h.srcs
 have hz : Ex.z.sz ≤ lim:=by simp [Ex.z,Ex.sz,Ex.szL,lim]
 refine ⟨by simp [selS,Stm.z],by simp [selS,Stm.z],by simp [selS,Stm.z],by simp [selS,Stm.z],by simp [selS,Stm.z],by simp [selS,Stm.z],hz,?_,?_,?_,?_,?_,?_⟩
 · simpa [selS,Qry.ren] using h4
 ·
  intro y hy
  obtain ⟨x,hx,rfl⟩:=List.mem_map.1 hy
  exact Nat.le_trans (Ex.full_sz _ x.e) (h1 x hx)
 · simpa [selS,Qry.ren,renS] using h5
 ·
  intro y hy
  obtain ⟨k,hk,rfl⟩:=List.mem_map.1 hy
  rw [List.mem_range] at hk
  unfold renA
  simp only
  split
  · exact hz
  ·
   rw [srcAt_lt hk]
   exact Nat.le_trans (Ex.full_sz _ _) (h2 _ (List.getElem_mem hk))
 · simp [selS,Qry.ren]
 ·
  simp only [selS,Qry.ren]
  split
  · exact hz
  · exact Nat.le_trans (Ex.full_sz _ _) h3
theorem names4 (s : Sch) (hs : s.fine) (q : Qry) (hq : (selS q).sm) : FnPure Try.prog 4 [eSch.av s,q.av] (.bool true):=by
 have h5:=bindSel s hs q hq (NL.refl _) q.pure
 have h6 : FnPure Try.prog 6 [.agg (eSch.cells s) 2] (.agg (eSch.cells s) 2):=copy6 s hs
 refine pureV c4 (by simp [Qry.av,Qry.pure]) (by simp) (by simp [A4]) fun F hF => ?_
 have hbB:=bindSel_eq s q
 generalize hR : bindB s (selS q) = R at h5 hbB
 obtain ⟨b,e⟩:=R
 simp only at h5
 have hsl : (eSch.cells s).length = 2:=eSch.cells_len s
 have hql : q.cells.length = 15:=q.cells_len
 have hcode : A4.code = B4:=rfl
 rw [hcode,b4]
 simp [R4_0,hF,Enc.av,Qry.av]
 generalize hK0 : Tr.put (Tr.put Tr.nil 0 _) 1 _ = K0
 have k0 : K0.get 0 = some (.cells 2 [] (eSch.cells s) .nil):=by rw [← hK0]; simp
 have k1 : K0.get 1 = some (.cells 15 [] q.cells .nil):=by rw [← hK0]; simp
 have tp0 : Top K0 2:=fun c hc => by rw [← hK0]; simp [show ¬ c = 0 by omega,show ¬ c = 1 by omega]
 clear hK0
 have tm:=tp0 2 (Nat.le_refl _)
 have hbl : b.cells.length = 25:=rfl
 have hone:=Bnd.one b
 have hpz : patch [.int .i64 0,.str [],.int .u32 0,.str [],.cst (.slice none 0 0),.int .u32 0,.int .u32 0,.int .u32 0,.str [],.cst (.slice none 0 0),.bool false,.int .u32 0,.cst (.slice none 0 0),.cst (.slice none 0 0),.cst (.slice none 0 0),.cst (.slice none 0 0),.cst (.slice none 0 0),.cst (.slice none 0 0),.cst (.slice none 0 0),.cst (.slice none 0 0),.cst (.slice none 0 0),.cst (.slice none 0 0),.bool false,.bool false,.int .i64 0] 0 b.cells = some b.cells:=patch_all (by simp [hbl])
 have h12 : ∀ h,q.cells[12]'h = eOrd.ds q.order:=fun h => Qry.c12 q h
 have hpp:=q.pure
 have hp1 : allOne q.cells = true:=by simp [Qry.cells]
 have hpt : patch [.int .i64 8,.str [],.str [],.cst (.slice none 0 0),.cst (.slice none 0 0),.bool false,.cst (.slice none 0 0),.cst (.slice none 0 0),.int .i64 0,.int .i64 0,.int .i64 0,.str [],.str [],.str [],.int .i64 0,.cst (.slice none 0 0),.bool false,.bool false,.cst (.slice none 0 0),.cst (.slice none 0 0),.int .i64 0,.int .i64 0,.int .i64 0,.str [],.str [],.str [],.int .i64 0,.cst (.slice none 0 0),.cst (.slice none 0 0),.bool false,.int .i64 0] 16 q.cells = some (selV q.cells):=by
  have:=patch_at [] [.int .i64 8,.str [],.str [],.cst (.slice none 0 0),.cst (.slice none 0 0),.bool false,.cst (.slice none 0 0),.cst (.slice none 0 0),.int .i64 0,.int .i64 0,.int .i64 0,.str [],.str [],.str [],.int .i64 0,.cst (.slice none 0 0)] [.bool false,.bool false,.cst (.slice none 0 0),.cst (.slice none 0 0),.int .i64 0,.int .i64 0,.int .i64 0,.str [],.str [],.str [],.int .i64 0,.cst (.slice none 0 0),.cst (.slice none 0 0),.bool false,.int .i64 0] q.cells (by simp [hql])
  simpa [selV] using this
 generalize hbc : b.cells = bc at *
 generalize hqc : q.cells = qc at *
 have e2 : ∀ c1,(ceL [⟨6,[.agg (eSch.cells s) 2],K0,2,.agg (eSch.cells s) 2,K0,2⟩,⟨5,[.agg (eSch.cells s) 2,.agg (selV qc) 31],K0,2,.tup [.agg bc 25,.int .i64 e],K0,2⟩]).call 5 c1 K0 2 = (ceL [⟨5,[.agg (eSch.cells s) 2,.agg (selV qc) 31],K0,2,.tup [.agg bc 25,.int .i64 e],K0,2⟩]).call 5 c1 K0 2:=fun c1 => ceL_tl (by decide)
 simp only [R4_1]
 simp
 refine DrwV.of (ceL_ok (l:=[⟨6,[.agg (eSch.cells s) 2],K0,2,.agg (eSch.cells s) 2,K0,2⟩,⟨5,[.agg (eSch.cells s) 2,.agg (selV qc) 31],K0,2,.tup [.agg bc 25,.int .i64 e],K0,2⟩]) ?_) ?_
 ·
  simp only [List.mem_cons,List.not_mem_nil,or_false]
  rintro c (rfl | rfl)
  · exact h6.callOk K0 2
  · exact h5.callOk K0 2
 simp [clearF_get,k0,k1,hpt,ceL_hd,e2,noneAt_cons,noneAt_nil,tm,hpz,hone]
 generalize hK1 : Tr.put (Tr.put K0 2 _) 2 _ = K1
 have g1 : ∀ c,c < 2 → K1.get c = K0.get c:=fun c hc => by rw [← hK1]; simp [neC hc]
 have x1 : K1.get 2 = some (.cells 25 [] bc .nil):=by rw [← hK1]; simp
 have t1 : Top K1 3:=fun c hc => by
  have e1 : ¬ c = 2:=by omega
  rw [← hK1]; simp [e1,tp0 c (by omega)]
 clear hK1
 generalize hF2 : (Fp 6 _ _ : Fr) = F2
 have w2 : F2.get 2 = some (.ptr 0 0):=by rw [← hF2]; simp [clearF_get]
 have w3 : F2.get 3 = some (.ptr 1 0):=by rw [← hF2]; simp [clearF_get]
 have w5 : F2.get 5 = some (.ptr 2 0):=by rw [← hF2]; simp
 have w6 : F2.get 6 = some (.int .i64 e):=by rw [← hF2]; simp
 clear hF2
 have k10:=(g1 0 (by omega)).trans k0
 have k11:=(g1 1 (by omega)).trans k1
 have hA : A4.res = [rTmp 4]:=rfl
 rw [hA]
 by_cases he : e = 0
 ·
  by_cases ho : q.order = []
  ·
   subst he
   split at hbB
   ·
    rename_i hm
    obtain ⟨hm1,hm2⟩:=hm
    have hB : (queryB s q 8 0).2 = 0 ∧ b = (queryB s q 8 0).1:=by
     unfold finB at hbB
     split at hbB
     · rename_i h; exact ⟨h,by rw [← hbB]⟩
     ·
      rename_i h
      have:=congrArg Prod.snd hbB
      simp at this
      exact absurd this.symm h
    obtain ⟨hB1,rfl⟩:=hB
    have O:=ren_ok s q hm2 ho hB1
    have qf : q.fine s:=Qry.fine_of (x:=selS q) hm1 hq hm2
    have hB' : bindB s (selS (q.ren s)) = ((queryB s (q.ren s) 8 0).1,0):=by
     rw [bindSel_eq,if_pos ⟨hm1,O.may⟩,finB,if_pos O.err]; exact Prod.ext rfl O.err
    have hk:=qf.k
    have hlo : ¬ 0 < q.order.length:=by rw [ho]; simp
    simp [R4_2,w3,w6,k11,hql,h12,Enc.len_ds,hlo]
    subst hbc hqc
    exact names4e s hs q hq (ren_sm s q hq) _ _ (queryB_sm s hs q qf) hB' O.nm O.eq O (QmF.of hm2).s4 (by omega) (fun t ht => by
     obtain ⟨x,_,rfl⟩:=List.mem_map.1 ht
     exact firstD_len (Q:=fun t : Tbl => t.cols.length ≤ lim) (by simp [Tbl.zero]) hs.tc) _ K1 (by simp [w2]) (by simp [w3]) (by simp [w5]) t1 k10 k11 x1
   ·
    have:=congrArg Prod.snd hbB
    simp at this
  ·
   have hlo : 0 < q.order.length:=by
    cases hq : q.order with
    | nil => exact absurd hq ho
    | cons => simp
   simp [R4_2,w3,w6,he,k11,hql,h12,Enc.len_ds,hlo,R4_3]
   refine CalV.pure awake7 ?_
   simp
   exact .bool rfl
 ·
  simp [R4_2,w6,he,R4_3]
  refine CalV.pure awake7 ?_
  simp
  exact .bool rfl
end Go.Abs
