/- The abstract machine: a range over a map: whichever entry comes next; what is the same whichever came. -/
import Derived.Test.YtfjkegbmlagleaaGreatAbsDb
import Derived.LoopNIn
namespace Go.Abs

theorem eqVs_ok {f : AV → AV → Bool} (h : ∀ a b, f a b = true → a = b) : ∀ {a b : List AV}, eqVs f a b = true → a = b
  | [], [], _ => rfl
  | [], _ :: _, e => by simp [eqVs] at e
  | _ :: _, [], e => by simp [eqVs] at e
  | x :: a, y :: b, e => by
    simp only [eqVs] at e
    split at e
    · rename_i hxy; rw [h _ _ hxy, eqVs_ok h e]
    · cases e
theorem eqV_ok : ∀ (k : Nat) (a b : AV), eqV k a b = true → a = b
  | 0, _, _, h => by simp [eqV] at h
  | k + 1, a, b, h => by
    have ih := eqV_ok k
    unfold eqV at h
    split at h
    · simp only [Bool.and_eq_true] at h; rw [Nat.eq_of_beq_eq_true h.1, eqVs_ok ih h.2]
    · rw [eqVs_ok ih h]
    · simp only [Bool.and_eq_true] at h; rw [Nat.eq_of_beq_eq_true h.1, ih _ _ h.2]
    · simp only [Bool.and_eq_true] at h; rw [Nat.eq_of_beq_eq_true h.1.1, eqVs_ok ih h.1.2, eqVs_ok ih h.2]
    · rw [Nat.eq_of_beq_eq_true h]
    · simp only [Bool.and_eq_true] at h; rw [Nat.eq_of_beq_eq_true h.1.1, Nat.eq_of_beq_eq_true h.1.2, eqVs_ok ih h.2]
    · rw [eqVs_ok ih h]
    · exact avEq0_ok h
theorem eqO_ok {α : Type} {eq : α → α → Bool} (h : ∀ a b, eq a b = true → a = b) {a b : Option α} (e : eqO eq a b = true) : a = b := by
  unfold eqO at e
  split at e
  · rfl
  · rw [h _ _ e]
  · cases e
theorem eqT_ok {α : Type} {eq : α → α → Bool} (h : ∀ a b, eq a b = true → a = b) : ∀ (t u : Tr α), eqT eq t u = true → t = u := by
  intro t
  induction t with
  | nil => intro u e; cases u with
    | nil => rfl
    | node => cases e
  | node v l r il ir =>
    intro u e
    cases u with
    | nil => cases e
    | node v' l' r' =>
      have e : (match eqO eq v v' with
        | true => match eqT eq l l' with
          | true => eqT eq r r'
          | false => false
        | false => false) = true := e
      split at e
      · rename_i h1
        split at e
        · rename_i h2
          rw [eqO_ok h h1, il _ h2, ir _ e]
        · cases e
      · cases e
theorem eqOv_ok (a b : Ov AV) (h : eqOv a b = true) : a = b := by
  unfold eqOv at h
  split at h
  · rfl
  · have := eqT_ok (eqV_ok 4) _ _ h
    injection this with e1 e2 e3
    rw [e1, e2, e3]
  · simp only [Bool.and_eq_true] at h
    rw [Nat.eq_of_beq_eq_true h.1.1, eqT_ok (fun a b => eqVs_ok (eqV_ok 4)) _ _ h.1.2, eqT_ok (eqV_ok 4) _ _ h.2]
  · cases h
theorem esEq_ok : ∀ {a b : List (AV × AV × Nat)}, esEq a b = true → a = b
  | [], [], _ => rfl
  | [], _ :: _, h => by simp [esEq] at h
  | _ :: _, [], h => by simp [esEq] at h
  | ⟨k, v, b⟩ :: x, ⟨k', v', b'⟩ :: y, h => by
    simp only [esEq, Bool.and_eq_true] at h
    rw [eqV_ok _ _ _ h.1.1.1, eqV_ok _ _ _ h.1.1.2, Nat.eq_of_beq_eq_true h.1.2, esEq_ok h.2]
theorem blkEq_ok (a b : ABlk) (h : blkEq a b = true) : a = b := by
  unfold blkEq at h
  split at h
  · simp only [Bool.and_eq_true] at h
    rw [Nat.eq_of_beq_eq_true h.1.1.1, eqVs_ok (eqV_ok 4) h.1.1.2, eqVs_ok (eqV_ok 4) h.1.2, eqOv_ok _ _ h.2]
  · simp only [Bool.and_eq_true] at h
    rw [Nat.eq_of_beq_eq_true h.1, esEq_ok h.2]
  · rfl
  · cases h
theorem meetO_ok {α : Type} {eq : α → α → Bool} (h : ∀ a b, eq a b = true → a = b) {a b : Option α} {v : α} (e : meetO eq a b = some v) : a = some v ∧ b = some v := by
  unfold meetO at e
  split at e
  · split at e
    · rename_i h1; rw [← h _ _ h1]; exact ⟨e, e⟩
    · cases e
  · cases e
theorem meetT_ok {α : Type} {eq : α → α → Bool} (h : ∀ a b, eq a b = true → a = b) : ∀ (t u : Tr α) (i : Nat) (v : α), (meetT eq t u).get i = some v → t.get i = some v ∧ u.get i = some v := by
  intro t
  induction t with
  | nil => intro u i v e; have e : (Tr.nil : Tr α).get i = some v := e; simp at e
  | node x l r il ir =>
    intro u i v e
    cases u with
    | nil => have e : (Tr.nil : Tr α).get i = some v := e; simp at e
    | node x' l' r' =>
      have e : (Tr.node (meetO eq x x') (meetT eq l l') (meetT eq r r')).get i = some v := e
      rw [Tr.get_node] at e ⊢
      rw [Tr.get_node]
      by_cases h0 : i = 0
      · simp only [h0, if_true] at e ⊢; exact meetO_ok h e
      · simp only [h0, if_false] at e ⊢
        by_cases h1 : (i - 1) % 2 = 0
        · simp only [h1, if_true] at e ⊢; exact il _ _ _ e
        · simp only [h1, if_false] at e ⊢; exact ir _ _ _ e
theorem outEq_ok {a b : AOut} (h : outEq a b = true) : a = b := by
  unfold outEq at h
  split at h
  · rfl
  · rw [Nat.eq_of_beq_eq_true h]
  · rfl
  · cases h

theorem St.less {nt : Nat} {φ : Ph} {D : Da} {F F' : Fr} {H H' : Hp} {m : List Nat} {a : Act} {w : World} (h : St nt φ D F H m a w) (hF : ∀ t v, F'.get t = some v → F.get t = some v) (hH : ∀ b k, H'.get b = some k → H.get b = some k) : St nt φ D F' H' m a w :=
  ⟨rel_sub h.rel hH, fun t v hv => h.fr t v (hF t v hv), h.sz, h.mar⟩
theorem Ext.less {φ : Ph} {D : Da} {h : Hf} {w : World} {n : Nat} {φ' : Ph} {D' : Da} {h1 h2 : Hf} {w' : World} {n1 n2 : Nat} (e : Ext φ D h w n φ' D' h1 w' n1) (hh : ∀ b, h2 b ≠ none → h1 b ≠ none) (hn : n1 ≤ n2) : Ext φ D h w n φ' D' h2 w' n2 :=
  ⟨Nat.le_trans e.le hn, e.phi, fun b h1 h2 => let ⟨a, c⟩ := e.new b h1 h2; ⟨a, by omega⟩, e.dat, e.size, e.keep, fun b p hb hp => e.live b p (hh b hb) hp, e.dnew, fun b hb => (e.hid b (hh b hb)).imp id fun ⟨a, c⟩ => ⟨a, by omega⟩, e.os, e.out⟩

/-- of several ends, what they have in common -/
theorem meetAll_spec : ∀ (rs : List Res) (r : Res) (o : AOut) (F : Fr) (H : Hp) (n : Nat) (m : List Nat), meetAll r rs = .mk o F H n m →
    ∀ x ∈ r :: rs, ∃ F' H' n', x = .mk o F' H' n' m ∧ n' ≤ n ∧ (∀ t v, F.get t = some v → F'.get t = some v) ∧ (∀ b k, H.get b = some k → H'.get b = some k)
  | [], r, o, F, H, n, m, h, x, hx => by
    simp only [List.mem_singleton] at hx
    subst hx
    have h : x = .mk o F H n m := by
      cases x with
      | fail => exact h
      | mk _ _ _ _ _ => exact h
    exact ⟨F, H, n, h, Nat.le_refl _, fun _ _ h => h, fun _ _ h => h⟩
  | .fail :: rs, r, o, F, H, n, m, h, x, hx => by cases r <;> simp [meetAll] at h
  | .mk o' F' H' n' m' :: rs, .fail, o, F, H, n, m, h, x, hx => by simp [meetAll] at h
  | .mk o' F' H' n' m' :: rs, .mk o0 F0 H0 n0 m0, o, F, H, n, m, h, x, hx => by
    simp only [meetAll] at h
    split at h
    · rename_i hc
      simp only [Bool.and_eq_true] at hc
      have ho := outEq_ok hc.1
      have hm := eqNats_ok hc.2
      subst ho hm
      split at h
      · rename_i o2 F2 H2 n2 m2 hm2
        injection h with e1 e2 e3 e4 e5
        subst e1 e2 e3 e4 e5
        have ih := meetAll_spec rs _ _ _ _ _ _ hm2
        have hfst := ih _ (List.mem_cons_self ..)
        obtain ⟨_, _, _, hf1, _⟩ := hfst
        injection hf1 with a1 _ _ _ a5
        subst a1 a5
        rcases List.mem_cons.1 hx with rfl | hx
        · exact ⟨F0, H0, n0, rfl, Nat.le_max_left _ _, fun t v hv => (meetT_ok (eqV_ok 4) _ _ _ _ hv).1, fun b k hb => (meetT_ok blkEq_ok _ _ _ _ hb).1⟩
        · obtain ⟨F', H', n', e, h1, h2, h3⟩ := ih x hx
          exact ⟨F', H', n', e, Nat.le_trans h1 (Nat.le_max_right _ _), fun t v hv => h2 t v (meetT_ok (eqV_ok 4) _ _ _ _ hv).2, fun b k hb => h3 b k (meetT_ok blkEq_ok _ _ _ _ hb).2⟩
      · cases h
    · cases h
theorem altsM_spec {step : Nat → Option (List Res)} : ∀ (c : Nat) (acc l : List Res), altsM step c acc = some l → (∀ x ∈ acc, x ∈ l) ∧ ∀ i, i < c → ∃ li, step i = some li ∧ ∀ x ∈ li, x ∈ l
  | 0, acc, l, h => by
    simp only [altsM] at h; injection h with h; subst h
    exact ⟨fun _ h => h, fun i hi => by omega⟩
  | c + 1, acc, l, h => by
    simp only [altsM] at h
    split at h
    · rename_i li hli
      obtain ⟨h1, h2⟩ := altsM_spec c _ l h
      refine ⟨fun x hx => h1 x (List.mem_append_right _ hx), fun i hi => ?_⟩
      by_cases e : i = c
      · subst e; exact ⟨li, hli, fun x hx => h1 x (List.mem_append_left _ hx)⟩
      · exact h2 i (by omega)
    · cases h
end Go.Abs
