/- Stable sorting, in plain lists: what merging comes to, what inserting comes to. -/
namespace Go.Abs.Srt
variable {α : Type}
/-- an order with ties, of those that satisfy Pd -/
structure Ord (c : α → α → Int) (Pd : α → Prop) : Prop where
  anti : ∀ x y, Pd x → Pd y → (c x y < 0 ↔ 0 < c y x)
  trans : ∀ x y z, Pd x → Pd y → Pd z → c x y ≤ 0 → c y z ≤ 0 → c x z ≤ 0
variable {c : α → α → Int} {tg : α → Nat} {Pd : α → Prop}
def Le (c : α → α → Int) (tg : α → Nat) (x y : α) : Prop := c x y < 0 ∨ (c x y = 0 ∧ tg x < tg y)
theorem Le.le {x y : α} (h : Le c tg x y) : c x y ≤ 0 := by unfold Le at h; omega
/-- what a merge of L and R comes to -/
def Good (c : α → α → Int) (tg : α → Nat) (Pd : α → Prop) (L R M : List α) : Prop :=
  M.Perm (L ++ R) ∧ ((∀ x ∈ L ++ R, Pd x) → L.Pairwise (Le c tg) → R.Pairwise (Le c tg) → (∀ x ∈ L, ∀ y ∈ R, tg x < tg y) → M.Pairwise (Le c tg))
theorem Good.nilL (R : List α) : Good c tg Pd [] R R := ⟨by simp, fun _ _ h _ => h⟩
theorem Good.nilR (L : List α) : Good c tg Pd L [] L := ⟨by simp, fun _ h _ _ => h⟩
theorem le_last {l : List α} {x z : α} (_hc : Ord c Pd) (hp : ∀ x ∈ l, Pd x) (h : l.Pairwise (Le c tg)) (hx : x ∈ l) (hz : l.getLast? = some z) : x = z ∨ c x z ≤ 0 := by
  obtain ⟨a, rfl⟩ := List.getLast?_eq_some_iff.1 hz
  rcases List.mem_append.1 hx with h1 | h1
  · rw [List.pairwise_append] at h
    exact .inr (h.2.2 x h1 z (by simp)).le
  · simp at h1; exact .inl h1
theorem head_le {l : List α} {x z : α} (h : l.Pairwise (Le c tg)) (hx : x ∈ l) (hz : l.head? = some z) : x = z ∨ c z x ≤ 0 := by
  obtain ⟨a, rfl⟩ := List.head?_eq_some_iff.1 hz
  rcases List.mem_cons.1 hx with h1 | h1
  · exact .inl h1
  · rw [List.pairwise_cons] at h
    exact .inr (h.1 x h1).le
theorem Ord.refl (hc : Ord c Pd) {x : α} (h : Pd x) : c x x = 0 := by
  have := hc.anti x x h h
  omega
theorem Good.split (hc : Ord c Pd) {L1 L2 R1 R2 M1 M2 : List α} (h1 : Good c tg Pd L1 R1 M1) (h2 : Good c tg Pd L2 R2 M2)
    (e1 : ∀ x y, L1.getLast? = some x → R2.head? = some y → ¬ c y x < 0) (e2 : ∀ x y, R1.getLast? = some x → L2.head? = some y → c x y < 0) : Good c tg Pd (L1 ++ L2) (R1 ++ R2) (M1 ++ M2) := by
  constructor
  · refine (List.Perm.append h1.1 h2.1).trans ?_
    rw [List.append_assoc, List.append_assoc]
    refine List.Perm.append_left L1 ?_
    rw [← List.append_assoc, ← List.append_assoc]
    exact List.Perm.append_right R2 List.perm_append_comm
  · intro hp hL hR ht
    rw [List.pairwise_append] at hL hR
    have pL1 : ∀ x ∈ L1, Pd x := fun x hx => hp x (by simp [hx])
    have pL2 : ∀ x ∈ L2, Pd x := fun x hx => hp x (by simp [hx])
    have pR1 : ∀ x ∈ R1, Pd x := fun x hx => hp x (by simp [hx])
    have pR2 : ∀ x ∈ R2, Pd x := fun x hx => hp x (by simp [hx])
    rw [List.pairwise_append]
    refine ⟨h1.2 (fun x hx => ?_) hL.1 hR.1 (fun x hx y hy => ht x (by simp [hx]) y (by simp [hy])), h2.2 (fun x hx => ?_) hL.2.1 hR.2.1 (fun x hx y hy => ht x (by simp [hx]) y (by simp [hy])), fun x hx y hy => ?_⟩
    · rcases List.mem_append.1 hx with h | h
      · exact pL1 x h
      · exact pR1 x h
    · rcases List.mem_append.1 hx with h | h
      · exact pL2 x h
      · exact pR2 x h
    · rcases List.mem_append.1 (h1.1.mem_iff.1 hx) with hx | hx
      · rcases List.mem_append.1 (h2.1.mem_iff.1 hy) with hy | hy
        · exact hL.2.2 x hx y hy
        · -- from the left's first, from the right's last
          have htt := ht x (by simp [hx]) y (by simp [hy])
          cases hl : L1.getLast? with
          | none => rw [List.getLast?_eq_none_iff] at hl; subst hl; simp at hx
          | some u =>
            cases hr : R2.head? with
            | none => rw [List.head?_eq_none_iff] at hr; subst hr; simp at hy
            | some v =>
              have pu := pL1 u (List.mem_of_getLast? hl)
              have pv := pR2 v (List.mem_of_head? hr)
              have huv : c u v ≤ 0 := by
                have := e1 u v hl hr
                have := hc.anti v u pv pu
                omega
              have hxv : c x v ≤ 0 := by
                rcases le_last hc pL1 hL.1 hx hl with rfl | h
                · exact huv
                · exact hc.trans x u v (pL1 x hx) pu pv h huv
              have hxy : c x y ≤ 0 := by
                rcases head_le hR.2.1 hy hr with rfl | h
                · exact hxv
                · exact hc.trans x v y (pL1 x hx) pv (pR2 y hy) hxv h
              unfold Le; omega
      · rcases List.mem_append.1 (h2.1.mem_iff.1 hy) with hy | hy
        · cases hl : R1.getLast? with
          | none => rw [List.getLast?_eq_none_iff] at hl; subst hl; simp at hx
          | some u =>
            cases hr : L2.head? with
            | none => rw [List.head?_eq_none_iff] at hr; subst hr; simp at hy
            | some v =>
              have pu := pR1 u (List.mem_of_getLast? hl)
              have pv := pL2 v (List.mem_of_head? hr)
              have huv := e2 u v hl hr
              refine .inl ?_
              have hxy : ¬ 0 ≤ c x y := by
                intro hge
                have hyx : c y x ≤ 0 := by
                  have := hc.anti y x (pL2 y hy) (pR1 x hx)
                  have := hc.anti x y (pR1 x hx) (pL2 y hy)
                  omega
                have hvx : c v x ≤ 0 := by
                  rcases head_le hL.2.1 hy hr with rfl | h
                  · exact hyx
                  · exact hc.trans v y x pv (pL2 y hy) (pR1 x hx) h hyx
                have hvu : c v u ≤ 0 := by
                  rcases le_last hc pR1 hR.1 hx hl with rfl | h
                  · exact hvx
                  · exact hc.trans v x u pv (pR1 x hx) pu hvx h
                have := hc.anti u v pu pv
                omega
              omega
        · exact hR.2.2 x hx y hy
theorem Good.cons (hc : Ord c Pd) {x : α} {R : List α} (h : ∀ y, R.head? = some y → ¬ c y x < 0) : Good c tg Pd [x] R (x :: R) := by
  have := Good.split (c := c) (tg := tg) (Pd := Pd) hc (L1 := [x]) (R1 := []) (L2 := []) (R2 := R) (Good.nilR [x]) (Good.nilL R) (fun u v hu hv => by simp at hu; subst hu; exact h v hv) (fun u v hu _ => by simp at hu)
  simpa using this
/-- one before others -/
theorem Good.one (hc : Ord c Pd) {x : α} {R1 R2 : List α} (h1 : ∀ y, R2.head? = some y → ¬ c y x < 0) (h2 : ∀ y, R1.getLast? = some y → c y x < 0) : Good c tg Pd [x] (R1 ++ R2) (R1 ++ x :: R2) :=
  Good.split hc (L1 := []) (L2 := [x]) (Good.nilL R1) (Good.cons hc h1) (fun u v hu _ => by simp at hu) (fun u v hu hv => by simp at hv; subst hv; exact h2 u hu)
/-- one behind others -/
theorem Good.snoc (hc : Ord c Pd) {x : α} {L1 L2 : List α} (h1 : ∀ y, L1.getLast? = some y → ¬ c x y < 0) (h2 : ∀ y, L2.head? = some y → c x y < 0) : Good c tg Pd (L1 ++ L2) [x] (L1 ++ x :: L2) := by
  have h3 : Good c tg Pd L2 [x] (x :: L2) := by
    have := Good.split (c := c) (tg := tg) (Pd := Pd) hc (L1 := []) (L2 := L2) (R1 := [x]) (R2 := []) (Good.nilL [x]) (Good.nilR L2) (fun u v hu _ => by simp at hu) (fun u v hu hv => by simp at hu; subst hu; exact h2 v hv)
    simpa using this
  exact Good.split hc (L1 := L1) (R1 := []) (R2 := [x]) (Good.nilR L1) h3 (fun u v hu hv => by simp at hv; subst hv; exact h1 u hu) (fun u v hu _ => by simp at hu)
end Go.Abs.Srt
