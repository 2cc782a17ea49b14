/- model.Sorted. -/
import Derived.Test.YtlnbbokmibfegaaGreatMs6
namespace Go.Abs
open Go.Proofs
set_option maxRecDepth 100000

def SrtR (H : Hp) (n : Nat) (L : List (List Val)) (v : AV) (K : Hp) (n' : Nat) : Prop := n ≤ n' ∧ (∀ c, c < n → K.get c = H.get c) ∧
  ∃ (b : Nat) (vs : List AV) (T : List Nat), v = .sl b 0 L.length 1 ∧ b < n' ∧ n ≤ b ∧ (∃ y, K.get b = some y ∧ OwnB y (T.map (vsf vs))) ∧ vs.length = L.length ∧ RowsAt K n n' b vs L ∧ T.Perm (List.range L.length) ∧
    ((∀ j, j < L.length → rMay (rowf L j)) → T.Pairwise fun x y => rowO (rowf L x) (rowf L y) ≤ 0)

theorem vsf_take {vs : List AV} : (List.range vs.length).map (vsf vs) = vs := by
  apply List.ext_getElem
  · simp
  · intro i h1 h2
    simp only [List.getElem_map, List.getElem_range, vsf]
    exact getD_lt h2

theorem sorted6 (L : List (List Val)) (hL : L.length ≤ 500) (hl : ∀ l ∈ L, l.length ≤ 1048576) (H : Hp) (n : Nat) : CallR Tryz.prog 17 [.ds (rowsC L) L.length 1] H n (SrtR H n L) := by
  refine CallR.of c17 (by simp [A17]) fun F hF => ?_
  have hbt : Nat.ble L.length big = true := by rw [Nat.ble_eq]; unfold big; omega
  have hbt2 : Nat.ble (24 * L.length) 281474976710656 = true := by rw [Nat.ble_eq]; omega
  simp [A17, B17, R17_0, R17_1, hF, R17_2]
  have e0 : cMksl [.cst (.slice none 0 0)] 1 24 n (.int .i64 0) (.int .i64 (L.length : Int)) = .new (.sl n 0 0 1) (.cells (L.length * 1) [.cst (.slice none 0 0)] [] .nil) := by
    show (match Nat.ble 0 L.length && Nat.ble L.length big && Nat.ble (24 * L.length) 281474976710656 with | true => _ | false => _) = _
    rw [hbt, hbt2, Nat.ble_eq_true_of_le (Nat.zero_le _)]
    rfl
  simp [eMksl, e0, hF]
  refine LoopV.of (fun k F K n' ms => ∃ (i b : Nat) (vs : List AV), k = L.length - i ∧ i ≤ L.length ∧ vs.length = i ∧ F.get 9 = some (.ds (rowsC L) L.length 1) ∧ F.get 10 = some (.int .i64 (L.length : Int)) ∧ F.get 11 = some (.int .i64 (i : Int)) ∧ F.get 3 = some (.sl b 0 i 1) ∧ ms = [] ∧
    n ≤ n' ∧ n ≤ b ∧ b < n' ∧ (∀ c, c < n → K.get c = H.get c) ∧ OutAt K b L.length vs ∧ RowsAt K n n' b vs L) L.length ⟨0, n, [], by omega, by omega, rfl, by simp, by simp, by simp, by simp, rfl, by omega, Nat.le_refl _, by omega, fun c hc => by simp [show ¬ c = n by omega], ⟨.cells L.length [.cst (.slice none 0 0)] [] .nil, by simp, .inl ⟨rfl, rfl⟩⟩, fun j hj => by simp at hj⟩ ?_
  rintro k F K n1 ms ⟨i, b, vs, rfl, hi, hvl, f9, f10, f11, f3, rfl, g1, g2, g3, hK, hO, hR⟩
  clear hF e0
  by_cases hlt : i < L.length
  · have hx := ixa_row (k := .i64) hlt
    simp [L17_0, R17_3, f11, f10, hlt, R17_4, f9, hx, R17_5, f3]
    refine CalV.of (clone15 L[i] (hl _ (List.getElem_mem _)) K n1) fun w K2 n2 ⟨q1, q2, q3, q4⟩ => ?_
    have hw1 : w.one = true := by obtain ⟨_, ⟨e, _⟩ | ⟨c, _, e, _⟩⟩ := q2 <;> rw [e] <;> rfl
    obtain ⟨o1, o2⟩ := one_len hw1
    simp [o1, o2]
    refine OutAt.app (vs := vs) (v := w) (N := L.length) ?_ hvl.symm (by omega) (by simp) hw1 (by omega) fun H' y hy ho hk => ?_
    · obtain ⟨y, hy, h⟩ := hO
      exact ⟨y, by simp [show ¬ b = n2 by omega, q4 b (by omega), hy], h⟩
    have hk' : ∀ c, c < n2 → c ≠ b → H'.get c = K2.get c := fun c hc hcb => by rw [hk c (by omega) hcb]; simp [show ¬ c = n2 by omega]
    simp [R17_6, f11, wrap_nat i (by omega), f9, f10]
    refine ⟨L.length - (i + 1), by omega, i + 1, rfl, hlt, n2 + 1, vs ++ [w], by simp [hvl], rfl, ⟨rfl, rfl⟩, by omega, by omega, by omega, fun c hc => ?_, ⟨y, hy, .inr ho⟩, ?_⟩
    · rw [hk' c (by omega) (by omega), q4 c (by omega), hK c hc]
    · have hR' := hR.mv (K' := H') (n' := n2 + 1 + 1) (b' := n2 + 1) (by omega) (fun c hc hcb => by rw [hk' c (by omega) hcb, q4 c hc]) (.inr (by omega))
      intro j hj
      simp [hvl] at hj
      by_cases hji : j < i
      · have e : vsf (vs ++ [w]) j = vsf vs j := by
          unfold vsf
          rw [getD_lt (by simp; omega), getD_lt (by omega), List.getElem_append_left (by omega)]
        rw [e]
        exact hR' j (by omega)
      · obtain rfl : j = i := by omega
        have e : vsf (vs ++ [w]) j = w := by
          unfold vsf
          rw [getD_lt (by simp; omega), List.getElem_append_right (by omega)]
          simp [hvl]
        have e2 : rowf L j = L[j] := getD_lt hlt
        rw [e, e2]
        have hbk : ∀ c, w = .sl c 0 L[j].length 3 → n1 ≤ c ∧ c < n2 := by
          intro c e
          obtain ⟨_, ⟨e', _⟩ | ⟨c', k', e', hc, hk2, _⟩⟩ := q2
          · rw [e'] at e; cases e
          · rw [e'] at e; injection e with e; subst e
            exact ⟨q3 _ _ e' hk2, hc⟩
        refine ⟨q2.mv (by omega) fun c hc e => hk' c hc (by have := (hbk c e).1; omega), fun c e => ?_⟩
        have := hbk c e
        omega
  · obtain rfl : i = L.length := by omega
    simp [L17_0, R17_3, f11, f10, R17_7, f3]
    have hD : Dt (cmOf L vs n n1 b) K (List.range L.length ++ []) := by
      obtain ⟨y, hy, h⟩ := hO
      refine ⟨y, hy, ?_⟩
      rw [List.append_nil, show (List.range L.length).map (cmOf L vs n n1 b).av = vs by rw [← hvl]; exact vsf_take]
      rcases h with ⟨rfl, rfl⟩ | h
      · have h0 : L.length = 0 := by simpa using hvl.symm
        rw [h0]
        refine ⟨0, _, _, _, rfl, rfl, fun i => ?_, fun _ e => by cases e⟩
        rw [getc_eq]; simp
      · exact h
    have hok := cmOf_ok hl hvl hR
    refine CalV.of (sort16 (C := cmOf L vs n n1 b) (tg := id) (n := n1) hok cmOf_ord hD (by simp) hR (fun z hz => by simpa [cmOf, hvl] using hz) (by omega)) fun w K2 n2 ⟨q1, ⟨T, ⟨hp, hs⟩, hT, hKK⟩, q3⟩ => ?_
    subst q3
    simp [R17_8, f3]
    rw [List.append_nil] at hT
    refine ⟨g1, fun c hc => ?_, b, vs, T, rfl, g3, g2, hT, hvl, hok.stay _ _ hR hKK, hp, fun hm => ?_⟩
    · rw [hKK c (show c ≠ b by omega), hK c hc]
    · exact (hs (fun x hx => hm x (by simpa using hx)) (List.pairwise_lt_range)).imp fun h => h.le
/-- the rows, shut -/
theorem SrtR.frz {H : Hp} {n n' : Nat} {L : List (List Val)} {v : AV} {K : Hp} (h : SrtR H n L v K n') {K' : Hp} (hk : ∀ c, c < n' → K'.get c = K.get c) : ∃ L', L'.Perm L ∧ ((∀ r ∈ L, rMay r) → L'.Pairwise fun a b => rowO a b ≤ 0) ∧ Frz K'.get v (.ds (rowsC L') L.length 1) := by
  obtain ⟨_, _, b, vs, T, rfl, hb, _, ⟨y, hy, ho⟩, hvl, hR, hp, hs⟩ := h
  have hR' := hR.mv (K' := K') (Nat.le_refl n') (fun c hc _ => hk c hc) (.inl rfl)
  have hL : (List.range L.length).map (rowf L) = L := by
    apply List.ext_getElem
    · simp
    · intro i h1 h2
      simp only [List.getElem_map, List.getElem_range, rowf]
      exact getD_lt h2
  have hTl : T.length = L.length := by simpa using hp.length_eq
  refine ⟨T.map (rowf L), by have := hp.map (rowf L); rwa [hL] at this, fun hm => ?_, ?_⟩
  · rw [List.pairwise_map]
    exact hs fun j hj => by
      have e : rowf L j = L[j] := getD_lt hj
      rw [e]; exact hm _ (List.getElem_mem _)
  · have hO : OwnS K' n' (.sl b 0 L.length 1) (T.map (vsf vs)) L.length 1 := ⟨by simp [hTl], .inr ⟨b, y, rfl, hb, by rw [hk b hb]; exact hy, ho⟩⟩
    refine hO.frz ?_
    have hm : ∀ j ∈ T, j < vs.length := fun j hj => by rw [hvl]; simpa using hp.mem_iff.1 hj
    clear hO ho hy hp hs hTl
    unfold rowsC
    rw [List.map_map]
    induction T with
    | nil => exact .nil
    | cons j r ih => exact .cons _ _ _ _ ((hR' j (hm j (by simp))).1.frz (FrzL.pure (by simp))) (ih fun k hk => hm k (by simp [hk]))
end Go.Abs
