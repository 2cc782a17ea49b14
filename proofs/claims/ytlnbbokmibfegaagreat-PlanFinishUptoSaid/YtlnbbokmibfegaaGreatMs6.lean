/- Rows, copied and sorted. -/
import Derived.Test.YtlnbbokmibfegaaGreatMs5
import Derived.Test.YtlnbbokmibfegaaGreatSr11
namespace Go.Abs
open Go.Proofs
set_option maxRecDepth 100000
section
variable {F : Fr} {H : Hp} {n : Nat} {m : List Dm} {Q : QA}

theorem OwnS.mv {H H' : Hp} {n n' : Nat} {v : AV} {l : List AV} {len sz : Nat} (h : OwnS H n v l len sz) (hn : n ≤ n') (hk : ∀ c, c < n → v = .sl c 0 len sz → H'.get c = H.get c) : OwnS H' n' v l len sz := by
  obtain ⟨h0, h1 | ⟨b, k, rfl, hb, hk', ho⟩⟩ := h
  · exact ⟨h0, .inl h1⟩
  · exact ⟨h0, .inr ⟨b, k, rfl, by omega, by rw [hk b hb rfl, hk'], ho⟩⟩
/-- what is made: room alone, or elements -/
def OutAt (K : Hp) (b N : Nat) (vs : List AV) : Prop := ∃ y, K.get b = some y ∧ ((vs = [] ∧ y = .cells N [.cst (.slice none 0 0)] [] .nil) ∨ OwnB y vs)
theorem OutAt.app {P : Program} {b N nx i : Nat} {vs : List AV} {v : AV} {pd : Pd} {r : List (Option GO)} (h : OutAt H b N vs) (hi : i = vs.length) (hb : b < n) (hx : H.get nx = some (.cells 1 [] [v] .nil)) (hv : v.one = true) (hbig : i < 1000000)
    (hgo : ∀ H' y, H'.get n = some y → OwnB y (vs ++ [v]) → (∀ c, c < n → c ≠ b → H'.get c = H.get c) → VCO P r (pd.f (.sl n 0 (i + 1) 1) F) H' (n + 1) m Q) : OpV (Go.Abs.cApp 1 24 n (.sl b 0 i 1) (.sl nx 0 1 1) H) pd r P F H n m Q := by
  have hsc : sliceCells H 1 (.sl nx 0 1 1) = some [v] := by
    rw [sliceCells_sl (l := [v]) hx (.list (by simp)) (by simp)]; simp
  have h1 : allOne [v] = true := by rw [allOne_cons, hv]; rfl
  obtain ⟨y, hy, ⟨rfl, rfl⟩ | ho⟩ := h
  · obtain rfl : i = 0 := by simpa using hi
    have e : Go.Abs.cApp 1 24 n (.sl b 0 0 1) (.sl nx 0 1 1) H = .mv (.sl n 0 1 1) b (.cells 1 [.cst (.slice none 0 0)] [] (Ov.putAll [v] 0 .nil)) := by
      unfold Go.Abs.cApp
      rw [hsc]
      simp [sliceLen, cApp1, h1, hy, cApp2, big, forceN_eq]
    unfold OpV
    rw [e]
    refine hgo _ (.cells 1 [.cst (.slice none 0 0)] [] (Ov.putAll [v] 0 .nil)) (by simp) ?_ fun c hc hcb => by simp [show ¬ c = n by omega, hcb]
    refine ⟨1, _, _, _, rfl, rfl, fun j => ?_, fun e => ?_⟩
    · rw [getc_eq, Ov.get_putAll]
      by_cases hj : j = 0
      · subst hj; simp
      · rw [if_neg (by omega), List.getElem?_eq_none (by simp; omega)]
    · have := Ov.get_putAll [v] 0 .nil 0
      rw [e, if_pos (by simp)] at this
      simp at this
  · have hne : b ≠ n := by omega
    have hs : OwnS H n (.sl b 0 i 1) vs i 1 := ⟨by omega, .inr ⟨b, y, rfl, hb, hy, ho⟩⟩
    refine hs.app hsc rfl (by simp) (by omega) (by omega) (by unfold big; omega) (by omega) h1 fun H' ho hk => ?_
    obtain ⟨_, ⟨e, _⟩ | ⟨b', y', e, _, hy', ho'⟩⟩ := ho
    · cases e
    · injection e with e; subst e
      exact hgo H' y' hy' ho' fun c hc hcb => hk c hc (by intro e; injection e with e; exact hcb e.symm)
end

theorem getD_lt {α : Type} {l : List α} {j : Nat} {d : α} (h : j < l.length) : l.getD j d = l[j] := by simp [List.getD, h]
theorem getD_ge {α : Type} {l : List α} {j : Nat} {d : α} (h : l.length ≤ j) : l.getD j d = d := by simp [List.getD, List.getElem?_eq_none h]
def vsf (vs : List AV) (j : Nat) : AV := vs.getD j (.cst (.slice none 0 0))
def rowf (L : List (List Val)) (j : Nat) : List Val := L.getD j []
def RowsAt (K : Hp) (n0 n b : Nat) (vs : List AV) (L : List (List Val)) : Prop := ∀ j, j < vs.length → OwnS K n (vsf vs j) (valsC (rowf L j)) (rowf L j).length 3 ∧ (∀ c, vsf vs j = .sl c 0 (rowf L j).length 3 → c ≠ b ∧ n0 ≤ c)
theorem RowsAt.mv {K K' : Hp} {n0 n n' b b' : Nat} {vs : List AV} {L : List (List Val)} (h : RowsAt K n0 n b vs L) (hn : n ≤ n') (hk : ∀ c, c < n → c ≠ b → K'.get c = K.get c) (hb : b' = b ∨ n ≤ b') : RowsAt K' n0 n' b' vs L := by
  intro j hj
  obtain ⟨h1, h2⟩ := h j hj
  refine ⟨h1.mv hn fun c hc e => hk c hc (h2 c e).1, fun c e => ⟨?_, (h2 c e).2⟩⟩
  obtain ⟨_, ⟨e', _⟩ | ⟨c', _, e', hc, _⟩⟩ := h1
  · rw [e'] at e; cases e
  · have e2 := e
    rw [e'] at e2; injection e2 with e2
    have := (h2 c e).1
    omega
theorem RowsAt.one {K : Hp} {n0 n b : Nat} {vs : List AV} {L : List (List Val)} (h : RowsAt K n0 n b vs L) (j : Nat) : (vsf vs j).one = true := by
  by_cases hj : j < vs.length
  · obtain ⟨⟨_, ⟨e, _⟩ | ⟨c, _, e, _⟩⟩, _⟩ := h j hj <;> rw [e] <;> rfl
  · unfold vsf; rw [getD_ge (by omega)]; rfl
/-- rows in a heap, by their places -/
def cmOf (L : List (List Val)) (vs : List AV) (n0 n b : Nat) : Cm Nat := { g := 41, first := [], cap := [], av := vsf vs, c := fun x y => rowO (rowf L x) (rowf L y), El := fun x => x < vs.length, J := fun K => RowsAt K n0 n b vs L, bk := b }
theorem cmOf_ok {L : List (List Val)} {vs : List AV} {n0 n b : Nat} {K : Hp} (hl : ∀ l ∈ L, l.length ≤ 1048576) (_hvs : vs.length = L.length) (hK : RowsAt K n0 n b vs L) : (cmOf L vs n0 n b).Ok Tryz.prog := by
  have hlen : ∀ x, (rowf L x).length ≤ 1048576 := by
    intro x
    unfold rowf
    by_cases hx : x < L.length
    · rw [getD_lt hx]; exact hl _ (List.getElem_mem _)
    · rw [getD_ge (by omega)]; simp
  refine ⟨fun x y hx hy H k hJ => ?_, fun H K hJ hk => hJ.mv (Nat.le_refl _) (fun c _ hc => hk c hc) (.inl rfl), fun x => hK.one x⟩
  exact (order17 (rowf L x) (rowf L y) (hlen x) (hlen y)).callFOk (by simp) k (.cons _ _ _ _ ((hJ x hx).1.frz (FrzL.pure (by simp))) (.cons _ _ _ _ ((hJ y hy).1.frz (FrzL.pure (by simp))) .nil))
theorem cmOf_ord {L : List (List Val)} {vs : List AV} {n0 n b : Nat} : Srt.Ord (cmOf L vs n0 n b).c (fun j => rMay (rowf L j)) := by
  refine ⟨fun x y hx hy => ?_, fun x y z hx hy hz => rowO_trans hx hy hz⟩
  have := rowO_neg hx hy
  simp only [cmOf]
  omega
end Go.Abs
