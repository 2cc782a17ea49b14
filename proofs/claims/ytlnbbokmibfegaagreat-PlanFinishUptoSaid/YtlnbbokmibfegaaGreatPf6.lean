/- plan.Finish: what it makes of rows. -/
import Derived.Test.YtlnbbokmibfegaaGreatPf5
namespace Go.Abs
open Go.Proofs
open Classical
set_option maxRecDepth 100000

theorem sl_hm {b len k : Nat} (h : k ≤ len) : cSlc 1 none (some (.int .i64 (k : Int))) (some (.int .i64 (k : Int))) (.sl b 0 len 1) = .val (.sl b 0 k 1) := by
  unfold cSlc
  have : bnds len none (some (.int .i64 (k : Int))) (some (.int .i64 (k : Int))) = some (0, k) := by
    simp [bnds, show bnd len (some (.int .i64 (k : Int))) = some k from rfl, show bnd 0 none = some 0 from rfl, h]
  simp only [this]
  simp [forceN_eq]
/-- the box of a bound query -/
def Bn.blk (B : Bn) : ABlk := .cells 25 [] B.cells .nil
theorem Bn.frz {B : Bn} (hB : B.Ok) {h : Hf} {bb : Nat} (hb : h bb = some B.blk) : Frz h (.ptr bb 0) (.dp B.cells) := by
  have hO : OwnB (.cells 25 [] B.cells .nil) B.cells := .list (Bn.cells_len hB).symm
  obtain ⟨u, z, bs, t, e, hg⟩ := hO.grab (o := 0) (c := 25) (by rw [Bn.cells_len hB]; omega)
  injection e with e1 e2 e3 e4
  subst e1 e2 e3 e4
  rw [List.drop_zero, List.take_of_length_le (by rw [Bn.cells_len hB]; omega)] at hg
  exact .ptr _ _ _ _ _ _ _ _ _ hb hg (FrzL.pure (Bn.pureL hB))
theorem Bn.at_ {B : Bn} (hB : B.Ok) (i : Nat) : B.cells[21 + i]? = [kAV B.ks, .bool B.d, .bool B.lim, .int .i64 B.k][i]? := by
  rw [← Bn.drop hB, List.getElem?_drop]
theorem Bn.ld {B : Bn} (hB : B.Ok) {K : Hp} {bb : Nat} (hb : K.get bb = some B.blk) {i : Nat} {v : AV} (hi : [kAV B.ks, .bool B.d, .bool B.lim, .int .i64 B.k][i]? = some v) : cLoad1 (.ptr bb (21 + i)) K = .val v := by
  have h2 : getc 25 [] B.cells .nil (21 + i) = some v := by
    rw [getc_list']
    have hi4 : i < 4 := by
      have := (List.getElem?_eq_some_iff.1 hi).1
      simpa using this
    rw [if_pos (by omega), Bn.at_ hB, hi]
  simp [hb, Bn.blk, h2]

/-- rows in a heap, compared by keys -/
def cmKy (B : Bn) (bb : Nat) (L : List (List Val)) (vs : List AV) (n0 n b : Nat) : Cm Nat := { g := 21, first := [], cap := [.ptr bb 0], av := vsf vs, c := fun x y => kcs B.ks (rowf L x) (rowf L y), El := fun x => x < vs.length, J := fun K => RowsAt K n0 n b vs L ∧ K.get bb = some B.blk, bk := b }
theorem cmKy_ok {B : Bn} (hB : B.Ok) {bb : Nat} {L : List (List Val)} {vs : List AV} {n0 n b : Nat} {K : Hp} (hl : ∀ l ∈ L, l.length ≤ 1048576) (hks : B.ks.length ≤ 1048576) (hky : ∀ r ∈ L, KyS B.ks r) (hvs : vs.length = L.length) (hbb : bb ≠ b) (hK : RowsAt K n0 n b vs L) : (cmKy B bb L vs n0 n b).Ok Tryz.prog := by
  have hin : ∀ x, x < vs.length → KyS B.ks (rowf L x) := fun x hx => by
    unfold rowf
    rw [getD_lt (by omega)]
    exact hky _ (List.getElem_mem _)
  refine ⟨fun x y hx hy H k hJ => ?_, fun H K hJ hk => ⟨hJ.1.mv (Nat.le_refl _) (fun c _ hc => hk c hc) (.inl rfl), by rw [hk bb hbb]; exact hJ.2⟩, fun x => hK.one x⟩
  exact (keys21 B hB (rowf L x) (rowf L y) (rowf_le hl x) (rowf_le hl y) (hin x hx).1 (hin y hy).1 hks (hin x hx).2 (hin y hy).2).callFOk (by simp) k (.cons _ _ _ _ ((hJ.1 x hx).1.frz (FrzL.pure (by simp))) (.cons _ _ _ _ ((hJ.1 y hy).1.frz (FrzL.pure (by simp))) (.cons _ _ _ _ (Bn.frz hB hJ.2) .nil)))
theorem cmKy_ord {B : Bn} {bb : Nat} {L : List (List Val)} {vs : List AV} {n0 n b : Nat} : Srt.Ord (cmKy B bb L vs n0 n b).c (fun j => KyS B.ks (rowf L j)) := by
  refine ⟨fun x y hx hy => ?_, fun x y z hx hy hz => kcs_trans hx hy hz fun _ h => h⟩
  have := kcs_neg hx hy (ks := B.ks) fun _ h => h
  simp only [cmKy]
  omega
/-- the first rows, shut -/
theorem frz_rows {K : Hp} {n0 n b : Nat} {vs : List AV} {L : List (List Val)} {T s : List Nat} {y : ABlk} (hR : RowsAt K n0 n b vs L) (hy : K.get b = some y) (ho : OwnB y ((T ++ s).map (vsf vs))) (hT : ∀ j ∈ T, j < vs.length) {k : Nat} (hk : k ≤ T.length) : Frz K.get (.sl b 0 k 1) (.ds (rowsC ((T.map (rowf L)).take k)) k 1) := by
  obtain ⟨u, z, bs, t, rfl, hg⟩ := ho.grab (o := 0) (c := k * 1) (by simp; omega)
  refine .sl _ _ _ _ _ _ _ _ _ _ hy hg ?_
  have e : (((T ++ s).map (vsf vs)).drop 0).take (k * 1) = (T.take k).map (vsf vs) := by
    rw [List.drop_zero, Nat.mul_one, ← List.map_take, List.take_append_of_le_length hk]
  rw [e, ← List.map_take]
  have hm : ∀ j ∈ T.take k, j < vs.length := fun j hj => hT j (List.mem_of_mem_take hj)
  generalize T.take k = A at hm
  clear e hg hT hk
  unfold rowsC
  rw [List.map_map]
  induction A with
  | nil => exact .nil
  | cons j r ih => exact .cons _ _ _ _ ((hR j (hm j (by simp))).1.frz (FrzL.pure (by simp))) (ih fun k hk => hm k (by simp [hk]))
theorem vsf_lt {vs : List AV} {j : Nat} (h : j < vs.length) : vsf vs j = vs[j] := getD_lt h
theorem rowf_lt {L : List (List Val)} {j : Nat} (h : j < L.length) : rowf L j = L[j] := getD_lt h
/-- some of the rows, by new places -/
theorem RowsAt.sub {K : Hp} {n0 n b : Nat} {vs : List AV} {L : List (List Val)} (h : RowsAt K n0 n b vs L) {U : List Nat} (hU : ∀ j ∈ U, j < vs.length) : RowsAt K n0 n b (U.map (vsf vs)) (U.map (rowf L)) := by
  intro j hj
  have hj' : j < U.length := by simpa using hj
  have e1 : vsf (U.map (vsf vs)) j = vsf vs U[j] := by
    rw [vsf_lt hj]; simp
  have e2 : rowf (U.map (rowf L)) j = rowf L U[j] := by
    rw [rowf_lt (by simpa using hj')]; simp
  rw [e1, e2]
  exact h _ (hU _ (List.getElem_mem _))
/-- the first ones -/
def cutL (lim : Bool) (k : Int) (M : List (List Val)) : List (List Val) := if lim = true ∧ k < (M.length : Int) then M.take k.toNat else M
theorem map_rowf {L : List (List Val)} : (List.range L.length).map (rowf L) = L := by
  apply List.ext_getElem
  · simp
  · intro i h1 h2
    simp only [List.getElem_map, List.getElem_range, rowf]
    exact getD_lt h2
/-- sorted by keys, in place -/
theorem keyed {B : Bn} {L : List (List Val)} {U T : List Nat} {bb : Nat} {vs : List AV} {n0 n b : Nat} (hky : ∀ r ∈ U.map (rowf L), KyS B.ks r) (hs : (U.map (rowf L)).Pairwise fun a b => rowR a b ≤ 0)
    (h : GoodI (cmKy B bb (U.map (rowf L)) vs n0 n b) id (fun j => KyS B.ks (rowf (U.map (rowf L)) j)) (List.range U.length) T) :
    (T.map (rowf (U.map (rowf L)))).Perm (U.map (rowf L)) ∧ (T.map (rowf (U.map (rowf L)))).Pairwise fun a b => ordK B.ks a b ≤ 0 := by
  obtain ⟨M, hM⟩ : ∃ M, M = U.map (rowf L) := ⟨_, rfl⟩
  rw [← hM] at h hky hs ⊢
  have hMl : U.length = M.length := by rw [hM]; simp
  rw [hMl] at h
  have h1 := h.1.map (rowf M)
  rw [map_rowf] at h1
  have hlt : ∀ x ∈ T, x < M.length := fun x hx => by simpa using h.1.mem_iff.1 hx
  refine ⟨h1, ?_⟩
  have hg := h.2 (fun x hx => by
    have : x < M.length := by simpa using hx
    show KyS B.ks (rowf M x)
    rw [rowf_lt this]; exact hky _ (List.getElem_mem _)) List.pairwise_lt_range
  rw [List.pairwise_map]
  refine hg.imp_of_mem fun {x y} hx hy hxy => ?_
  have hx' := hlt x hx
  have hy' := hlt y hy
  rw [ordK_kcs]
  simp only [Srt.Le, cmKy, id] at hxy
  by_cases h0 : kcs B.ks (rowf M x) (rowf M y) = 0
  · rw [if_neg (by simp [h0])]
    have hlt2 : x < y := by omega
    rw [rowf_lt hx', rowf_lt hy']
    exact (List.pairwise_iff_getElem.1 hs) x y hx' hy' hlt2
  · rw [if_pos h0]; omega

theorem maxR_nat (k : Int) : maxR .i64 k [.int .i64 0] = some (.int .i64 ((k.toNat : Nat) : Int)) := by
  unfold maxR
  simp [maxR]
  omega
theorem tail7 {B : Bn} (hB : B.Ok) {L : List (List Val)} {vs : List AV} {b q n : Nat} {K : Hp} {F : Fr} {U : List Nat} (hl : ∀ l ∈ L, l.length ≤ 1048576) (hks : B.ks.length ≤ 1048576) (hky : ∀ r ∈ L, KyS B.ks r) (hvl : vs.length = L.length) {n' : Nat} (hR : RowsAt K 1 n' b vs L) (hK0 : K.get 0 = some B.blk) (hb0 : b ≠ 0)
    (hU : ∀ j ∈ U, j < vs.length) (hUl : U.length ≤ 500) (hD : Dt (cmOf L vs 1 n' b) K (U ++ List.replicate q vs.length)) (hs : (U.map (rowf L)).Pairwise fun a b => rowR a b ≤ 0)
    (hfin : ∀ T, T.Perm (U.map (rowf L)) → (T.Pairwise fun a b => ordK B.ks a b ≤ 0) → T = finL B.ks B.d L) (f2 : F.get 2 = some (.ptr 0 0)) (f5 : F.get 5 = some (.sl b 0 U.length 1)) :
    VC Tryz.prog (.seq R7_4 (.seq (.seq R7_5 (.cond (slotG 24) (.seq R7_6 R7_7) .skip)) (.seq R7_8 .ret))) F K n [] (RetQ [rTmp 4] fun v1 H' _ => Frz H'.get v1 (.ds (rowsC (cutL B.lim B.k (finL B.ks B.d L))) (cutL B.lim B.k (finL B.ks B.d L)).length 1)) := by
  have hkU : ∀ r ∈ U.map (rowf L), r ∈ L := fun r hr => by
    obtain ⟨j, hj, rfl⟩ := List.mem_map.1 hr
    rw [rowf_lt (by have := hU j hj; omega)]
    exact List.getElem_mem _
  have hR' := hR.sub hU
  have hok := cmKy_ok hB (bb := 0) (vs := U.map (vsf vs)) (L := U.map (rowf L)) (fun l h => hl l (hkU l h)) hks (fun r h => hky r (hkU r h)) (by simp) (fun e => hb0 e.symm) hR'
  have hD' : Dt (cmKy B 0 (U.map (rowf L)) (U.map (vsf vs)) 1 n' b) K (List.range U.length ++ List.replicate q U.length) := by
    obtain ⟨y, hy, ho⟩ := hD
    refine ⟨y, hy, ?_⟩
    have e : (List.range U.length ++ List.replicate q U.length).map (cmKy B 0 (U.map (rowf L)) (U.map (vsf vs)) 1 n' b).av = (U ++ List.replicate q vs.length).map (cmOf L vs 1 n' b).av := by
      simp only [cmKy, cmOf]
      rw [List.map_append, List.map_append, List.map_replicate, List.map_replicate]
      congr 1
      · have := vsf_take (vs := U.map (vsf vs))
        rw [List.length_map] at this
        exact this
      · rw [show vsf (U.map (vsf vs)) U.length = .cst (.slice none 0 0) from getD_ge (by simp), show vsf vs vs.length = .cst (.slice none 0 0) from getD_ge (Nat.le_refl _)]
    rw [e]; exact ho
  simp [R7_4, f5, f2, eMkfn]
  refine CalV.of (sort16 (C := cmKy B 0 (U.map (rowf L)) (U.map (vsf vs)) 1 n' b) (tg := id) (Pd := fun j => KyS B.ks (rowf (U.map (rowf L)) j)) (n := n) hok cmKy_ord hD' (by simp) ⟨hR', hK0⟩ (fun z hz => by simpa [cmKy] using hz) (by omega)) fun w K2 n2 ⟨q1, ⟨T, hg, hT, hKK⟩, q3⟩ => ?_
  subst q1 q3
  obtain ⟨k1, k2⟩ := keyed (fun r h => hky r (hkU r h)) hs hg
  have hF := hfin _ k1 k2
  have hTl : T.length = U.length := by simpa using hg.1.length_eq
  have hK02 : K2.get 0 = some B.blk := by rw [hKK 0 (fun e => hb0 e.symm)]; exact hK0
  have hR2 : RowsAt K2 1 n' b (U.map (vsf vs)) (U.map (rowf L)) := hR'.mv (Nat.le_refl _) (fun c _ hc => hKK c hc) (.inl rfl)
  have ld2 := Bn.ld hB hK02 (i := 2) rfl
  have ld3 := Bn.ld hB hK02 (i := 3) rfl
  simp at ld2 ld3
  obtain ⟨y, hy, ho⟩ := hT
  simp only [cmKy] at hy ho
  have hm : ∀ j ∈ T, j < (U.map (vsf vs)).length := fun j hj => by simpa using hg.1.mem_iff.1 hj
  have hlen : (finL B.ks B.d L).length = U.length := by rw [← hF]; simp [hTl]
  have fz : ∀ k, k ≤ U.length → Frz K2.get (.sl b 0 k 1) (.ds (rowsC ((finL B.ks B.d L).take k)) k 1) := fun k hk => by
    have := frz_rows hR2 hy ho hm (k := k) (by omega)
    rwa [hF] at this
  cases hlim : B.lim with
  | false =>
    rw [hlim] at ld2
    simp [R7_5, f2, ld2, R7_8, f5, cutL]
    have := fz U.length (Nat.le_refl _)
    rw [List.take_of_length_le (by omega)] at this
    rw [hlen]
    exact this
  | true =>
    rw [hlim] at ld2
    by_cases hk : B.k < (U.length : Int)
    · have hkn : B.k.toNat ≤ U.length := by omega
      have e : cutL true B.k (finL B.ks B.d L) = (finL B.ks B.d L).take B.k.toNat := by
        unfold cutL; rw [hlen, if_pos ⟨rfl, hk⟩]
      have el : ((finL B.ks B.d L).take B.k.toNat).length = B.k.toNat := by rw [List.length_take, hlen]; omega
      rw [e, el]
      have sl := sl_hm (b := b) hkn
      rw [show ((B.k.toNat : Nat) : Int) = max B.k 0 by omega] at sl
      simp [R7_5, f2, ld2, ld3, f5, hk, R7_6, eMnx, maxI, maxR_nat, R7_7, eSl, oev, sl, R7_8]
      exact fz _ hkn
    · have e : cutL true B.k (finL B.ks B.d L) = finL B.ks B.d L := by
        unfold cutL; rw [hlen, if_neg fun h => hk h.2]
      rw [e]
      simp [R7_5, f2, ld2, ld3, f5, hk, R7_8]
      have := fz U.length (Nat.le_refl _)
      rw [List.take_of_length_le (by omega)] at this
      rw [hlen]
      exact this
theorem finish7 (B : Bn) (hB : B.Ok) (L : List (List Val)) (hL : L.length ≤ 500) (hl : ∀ l ∈ L, l.length ≤ 1048576) (hks : B.ks.length ≤ 1048576) (hky : ∀ r ∈ L, KyS B.ks r) :
    FnPure Tryz.prog 7 [B.av, .ds (rowsC L) L.length 1] (.ds (rowsC (cutL B.lim B.k (finL B.ks B.d L))) (cutL B.lim B.k (finL B.ks B.d L)).length 1) := by
  refine pureV c7 (by simp [Bn.pure hB]) (by simp) (by simp [A7]) fun F hF => ?_
  have hlen := Bn.cells_len hB
  simp [A7, B7, R7_0, hF, Bn.av, R7_1]
  have hH0 : ((Tr.nil : Hp).put 0 (some (.cells 25 [] B.cells .nil))).get 0 = some B.blk := by simp [Bn.blk]
  generalize ((Tr.nil : Hp).put 0 (some (.cells 25 [] B.cells .nil))) = H0 at hH0
  refine CalV.of (sorted6 L hL hl H0 1) fun v K n' ⟨g1, gk, b, vs, T, hv, hbn, hnb, ⟨y, hy, hyo⟩, hvl, hR, hp, hs⟩ => ?_
  subst hv
  have hK0 : K.get 0 = some B.blk := by rw [gk 0 (by omega)]; exact hH0
  have hb0 : b ≠ 0 := by omega
  have ld1 := Bn.ld hB hK0 (i := 1) rfl
  simp at ld1
  have hTl : T.length = L.length := by simpa using hp.length_eq
  have hTm : ∀ j ∈ T, j < vs.length := fun j hj => by rw [hvl]; simpa using hp.mem_iff.1 hj
  have hTr : ∀ j ∈ T, rMay (rowf L j) := fun j hj => by
    rw [rowf_lt (by have := hTm j hj; omega)]
    exact (hky _ (List.getElem_mem _)).1
  have hTp : (T.map (rowf L)).Perm L := by have := hp.map (rowf L); rwa [map_rowf] at this
  have hTs : (T.map (rowf L)).Pairwise fun a b => rowR a b ≤ 0 := by
    rw [List.pairwise_map]
    refine (hs fun j hj => by rw [rowf_lt hj]; exact (hky _ (List.getElem_mem _)).1).imp_of_mem fun {x y} hx hy h => ?_
    exact (rowR_le (hTr x hx) (hTr y hy)).2 h
  have hT0 : T.map (rowf L) = srtL rowR L := by
    refine sorted_uni rowR_anti (hTp.trans (srtL_perm _ L).symm) (fun r hr => (hky r (hTp.mem_iff.1 hr)).1) hTs (srtL_srt (S := rMay) ⟨fun a b ha hb h => by have := rowR_neg ha hb; omega, fun a b c ha hb hc h k => rowR_trans ha hb hc h k⟩ fun r hr => (hky r hr).1)
  have hD : Dt (cmOf L vs 1 n' b) K T := ⟨y, hy, hyo⟩
  simp [R7_2, ld1]
  cases hd : B.d with
  | false =>
    simp only [condV_false, vc_skip, seqV_normal]
    have := tail7 (B := B) (q := 0) (n := n') (F := Fp 10 (AV.bool false) (Fp 9 (AV.ptr 0 22) (Fp 5 (AV.sl b 0 L.length 1) (Fp 8 (AV.sl b 0 L.length 1) (Fp 7 (AV.ds (rowsC L) L.length 1) (Fp 4 (AV.cst (Value.slice none 0 0)) (Fp 2 (AV.ptr 0 0) F))))))) hB hl hks hky hvl hR hK0 hb0 hTm (by omega) (by simpa using hD) hTs (fun T' hp' hs' => by rw [hd]; exact finL_all hky (hp'.trans hTp) hs') (by simp) (by simp [hTl])
    rw [hd] at this
    exact this
  | true =>
    simp [R7_3]
    rw [← hTl]
    refine CalV.of (compact18 hl hvl hR hTm hD (by omega)) fun w K2 n2 ⟨q, e1, e2, e3⟩ => ?_
    subst e1
    have hok := cmOf_ok hl hvl hR
    have hsub := onceTo_sub (rowf L) T T.length
    have hon : (onceTo (rowf L) T T.length).map (rowf L) = once (srtL rowR L) := by
      rw [onceTo_map, hT0, once, hTl, (srtL_perm rowR L).length_eq]
    have hR2 : RowsAt K2 1 n' b vs L := hok.stay _ _ hR e2.2
    have hK2 : K2.get 0 = some B.blk := by rw [e2.2 0 (fun e => hb0 e.symm)]; exact hK0
    have hol := onceTo_len (rowf L) T T.length
    simp
    have := tail7 (B := B) (q := q) (n := n2) (F := Fp 5 (AV.sl b 0 (onceTo (rowf L) T T.length).length 1) (Fp 12 (AV.sl b 0 (onceTo (rowf L) T T.length).length 1) (Fp 11 (AV.sl b 0 T.length 1) (Fp 10 (AV.bool true) (Fp 9 (AV.ptr 0 22) (Fp 5 (AV.sl b 0 T.length 1) (Fp 8 (AV.sl b 0 T.length 1) (Fp 7 (AV.ds (rowsC L) T.length 1) (Fp 4 (AV.cst (Value.slice none 0 0)) (Fp 2 (AV.ptr 0 0) F)))))))))) hB hl hks hky hvl hR2 hK2 hb0 (fun j hj => hTm j (by have := hsub.mem hj; simpa using this)) (by omega) e2.1 (by rw [hon, ← hT0]; exact once_srt hTs) (fun T' hp' hs' => by rw [hd]; exact finL_once hky (by rw [← hon]; exact hp') hs') (by simp) (by simp)
    rw [hd] at this
    exact this
end Go.Abs
