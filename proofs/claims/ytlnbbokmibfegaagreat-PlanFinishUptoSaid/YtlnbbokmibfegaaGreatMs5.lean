/- The order of rows: a plain law. -/
import Derived.Test.YtlnbbokmibfegaaGreatMs4
import Derived.Test.YtlnbbokmibfegaaGreatSrt
namespace Go.Abs
set_option maxRecDepth 100000

theorem cmpL_cons (a b : Nat) (x y : List Nat) : cmpL (a :: x) (b :: y) = if a = b then cmpL x y else if a < b then -1 else 1 := by
  simp only [cmpL]
  by_cases e : a = b
  · subst e; simp
  · rw [show Nat.beq a b = false by simpa using e, if_neg e]
    dsimp only
    by_cases h : a < b
    · rw [show Nat.blt a b = true by rw [Nat.blt_eq]; exact h, if_pos h]
    · rw [show Nat.blt a b = false by cases q : Nat.blt a b with
        | false => rfl
        | true => rw [Nat.blt_eq] at q; exact absurd q h, if_neg h]
theorem cmpL_neg : ∀ a b : List Nat, cmpL b a = - cmpL a b
  | [], [] => rfl
  | [], _ :: _ => rfl
  | _ :: _, [] => rfl
  | a :: x, b :: y => by
    rw [cmpL_cons, cmpL_cons]
    by_cases e : a = b
    · subst e; simp [cmpL_neg x y]
    · rw [if_neg e, if_neg (Ne.symm e)]
      by_cases h : a < b
      · rw [if_pos h, if_neg (by omega)]; rfl
      · rw [if_neg h, if_pos (by omega)]
theorem cmpL_zero : ∀ {a b : List Nat}, cmpL a b = 0 → a = b
  | [], [], _ => rfl
  | [], _ :: _, h => by simp [cmpL] at h
  | _ :: _, [], h => by simp [cmpL] at h
  | a :: x, b :: y, h => by
    rw [cmpL_cons] at h
    by_cases e : a = b
    · subst e
      rw [if_pos rfl] at h
      rw [cmpL_zero h]
    · rw [if_neg e] at h
      split at h <;> omega
theorem cmpL_self (a : List Nat) : cmpL a a = 0 := by have := cmpL_neg a a; omega
theorem cmpL_trans : ∀ {a b c : List Nat}, cmpL a b ≤ 0 → cmpL b c ≤ 0 → cmpL a c ≤ 0
  | [], b, [], _, _ => by simp [cmpL]
  | [], b, _ :: _, _, _ => by simp [cmpL]
  | _ :: _, [], c, h, _ => by simp [cmpL] at h
  | _ :: _, _ :: _, [], _, h => by simp [cmpL] at h
  | a :: x, b :: y, c :: z, h, k => by
    rw [cmpL_cons] at h k ⊢
    by_cases e : a = b
    · subst e
      rw [if_pos rfl] at h
      by_cases e : a = c
      · subst e
        rw [if_pos rfl] at k ⊢
        exact cmpL_trans h k
      · rw [if_neg e] at k ⊢; exact k
    · rw [if_neg e] at h
      have h1 : a < b := by
        by_cases q : a < b
        · exact q
        · rw [if_neg q] at h; omega
      by_cases e2 : b = c
      · subst e2
        rw [if_neg e, if_pos h1]; omega
      · rw [if_neg e2] at k
        have h2 : b < c := by
          by_cases q : b < c
          · exact q
          · rw [if_neg q] at k; omega
        rw [if_neg (by omega), if_pos (by omega)]; omega

theorem rk_inj {k q : Int} (hk : k = 0 ∨ k = 1 ∨ k = 2 ∨ k = 3) (hq : q = 0 ∨ q = 1 ∨ q = 2 ∨ q = 3) : rk k = rk q ↔ k = q := by
  rcases hk with rfl | rfl | rfl | rfl <;> rcases hq with rfl | rfl | rfl | rfl <;> decide
theorem ord_neg {a b : Val} (ha : a.may = true) (hb : b.may = true) : b.ord a = - a.ord b := by
  have hi := rk_inj (Val.may_kind ha) (Val.may_kind hb)
  unfold Val.ord
  by_cases e : a.kind = b.kind
  · rw [if_pos e, if_pos e.symm]
    by_cases e2 : a.kind = 2
    · rw [if_pos e2, if_pos (by omega), cmpL_neg]
    · rw [if_neg e2, if_neg (by omega)]
      repeat' split
      all_goals omega
  · rw [if_neg e, if_neg (Ne.symm e)]
    have : rk a.kind ≠ rk b.kind := fun h => e (hi.1 h)
    repeat' split
    all_goals omega
theorem ord_zero {a b : Val} (ha : a.may = true) (hb : b.may = true) (h : a.ord b = 0) : a = b := by
  unfold Val.ord at h
  obtain ⟨k, n, s⟩ := a
  obtain ⟨q, m, t⟩ := b
  simp only at h
  by_cases e : k = q
  · subst e
    rw [if_pos rfl] at h
    unfold Val.may at ha hb
    simp only at ha hb
    by_cases e2 : k = 2
    · subst e2
      rw [if_pos rfl] at h
      simp at ha hb
      rw [ha.1, hb.1, cmpL_zero h]
    · rw [if_neg e2] at h
      have hn : n = m := by
        split at h
        · omega
        · split at h <;> omega
      subst hn
      have : s = [] ∧ t = [] := by
        by_cases c0 : k = 0
        · simp [c0] at ha hb; exact ⟨ha.2, hb.2⟩
        · by_cases c1 : k = 1
          · simp [c1] at ha hb; exact ⟨ha, hb⟩
          · by_cases c9003 : k = 3
            · simp [c9003] at ha hb; exact ⟨ha.1, hb.1⟩
            · simp [c0, c1, c9003, e2] at ha
      rw [this.1, this.2]
  · rw [if_neg e] at h
    split at h <;> omega
theorem ord_self (a : Val) : a.ord a = 0 := by
  unfold Val.ord
  simp [cmpL_self]
theorem ord_trans {a b c : Val} (h : a.ord b ≤ 0) (k : b.ord c ≤ 0) : a.ord c ≤ 0 := by
  unfold Val.ord at h k ⊢
  by_cases e : a.kind = b.kind
  · rw [if_pos e] at h
    rw [e] at h ⊢
    by_cases e2 : b.kind = c.kind
    · rw [if_pos e2] at k ⊢
      by_cases e3 : b.kind = 2
      · rw [if_pos e3] at h k ⊢; exact cmpL_trans h k
      · rw [if_neg e3] at h k ⊢
        repeat' split at h
        all_goals repeat' split at k
        all_goals repeat' split
        all_goals omega
    · rw [if_neg e2] at k ⊢; exact k
  · rw [if_neg e] at h
    have h1 : rk a.kind < rk b.kind := by
      by_cases q : rk a.kind < rk b.kind
      · exact q
      · rw [if_neg q] at h; omega
    by_cases e2 : b.kind = c.kind
    · rw [e2] at h1
      rw [if_neg (by intro q; rw [q] at h1; omega), if_pos h1]; omega
    · rw [if_neg e2] at k
      have h2 : rk b.kind < rk c.kind := by
        by_cases q : rk b.kind < rk c.kind
        · exact q
        · rw [if_neg q] at k; omega
      rw [if_neg (by intro q; rw [q] at h1; omega), if_pos (by omega)]; omega

def rMay (r : List Val) : Prop := ∀ v ∈ r, v.may = true
theorem cV_may {a b : Val} (ha : a.may = true) (hb : b.may = true) : cV a b = a.ord b := by simp [cV, ha, hb]
theorem rowO_neg : ∀ {l m : List Val}, rMay l → rMay m → rowO m l = - rowO l m
  | [], [], _, _ => by simp [rowO]
  | [], _ :: _, _, _ => by simp [rowO]
  | _ :: _, [], _, _ => by simp [rowO]
  | a :: l, b :: m, hl, hm => by
    have ha := hl a (by simp)
    have hb := hm b (by simp)
    have ih := rowO_neg (l := l) (m := m) (fun v hv => hl v (by simp [hv])) (fun v hv => hm v (by simp [hv]))
    rw [rowO, rowO, cV_may ha hb, cV_may hb ha, ord_neg ha hb, ih]
    by_cases e : a.ord b = 0
    · simp [e]
    · simp [e]
theorem rowO_zero : ∀ {l m : List Val}, rMay l → rMay m → rowO l m = 0 → l = m
  | [], [], _, _, _ => rfl
  | [], _ :: _, _, _, h => by simp [rowO] at h; omega
  | _ :: _, [], _, _, h => by simp [rowO] at h; omega
  | a :: l, b :: m, hl, hm, h => by
    have ha := hl a (by simp)
    have hb := hm b (by simp)
    rw [rowO, cV_may ha hb] at h
    by_cases e : a.ord b = 0
    · rw [if_neg (by simp [e])] at h
      rw [ord_zero ha hb e, rowO_zero (fun v hv => hl v (by simp [hv])) (fun v hv => hm v (by simp [hv])) h]
    · rw [if_pos e] at h; exact absurd h e
theorem rowO_trans : ∀ {l m n : List Val}, rMay l → rMay m → rMay n → rowO l m ≤ 0 → rowO m n ≤ 0 → rowO l n ≤ 0
  | [], m, n, _, _, _, _, _ => by
    cases n <;> simp [rowO]
    omega
  | _ :: _, [], _, _, _, _, h, _ => by simp [rowO] at h; omega
  | _ :: _, _ :: _, [], _, _, _, _, h => by simp [rowO] at h; omega
  | a :: l, b :: m, c :: n, hl, hm, hn, h, k => by
    have ha := hl a (by simp)
    have hb := hm b (by simp)
    have hc := hn c (by simp)
    have ih := rowO_trans (l := l) (m := m) (n := n) (fun v hv => hl v (by simp [hv])) (fun v hv => hm v (by simp [hv])) (fun v hv => hn v (by simp [hv]))
    rw [rowO, cV_may ha hb] at h
    rw [rowO, cV_may hb hc] at k
    rw [rowO, cV_may ha hc]
    have h1 : a.ord b ≤ 0 := by by_cases e : a.ord b = 0 <;> simp [e] at h ⊢; omega
    have k1 : b.ord c ≤ 0 := by by_cases e : b.ord c = 0 <;> simp [e] at k ⊢; omega
    have t := ord_trans h1 k1
    by_cases e : a.ord c = 0
    · rw [if_neg (by simp [e])]
      have hac := ord_zero ha hc e
      subst hac
      have := ord_neg ha hb
      have e1 : a.ord b = 0 := by omega
      have e2 : b.ord a = 0 := by omega
      rw [if_neg (by simp [e1])] at h
      rw [if_neg (by simp [e2])] at k
      exact ih h k
    · rw [if_pos e]; exact t
/-- the document's order and the model's -/
theorem rowR_le : ∀ {l m : List Val}, rMay l → rMay m → (rowR l m ≤ 0 ↔ rowO l m ≤ 0)
  | [], [], _, _ => by simp [rowR, rowO]
  | [], _ :: _, _, _ => by simp [rowR, rowO]; omega
  | _ :: _, [], _, _ => by simp [rowR, rowO]
  | a :: l, b :: m, hl, hm => by
    have ha := hl a (by simp)
    have hb := hm b (by simp)
    have ih := rowR_le (l := l) (m := m) (fun v hv => hl v (by simp [hv])) (fun v hv => hm v (by simp [hv]))
    rw [rowR, rowO, cV_may ha hb]
    by_cases e : a.ord b = 0
    · simp [e, ih]
    · simp [e]
/-- what is sorted is one alone -/
theorem sorted_one {L M : List (List Val)} (h : L.Perm M) (hm : ∀ r ∈ L, rMay r) (hL : L.Pairwise fun a b => rowO a b ≤ 0) (hM : M.Pairwise fun a b => rowO a b ≤ 0) : L = M := by
  refine List.Perm.eq_of_pairwise (le := fun a b => rowO a b ≤ 0) (fun a b ha hb h1 h2 => ?_) hL hM h
  have hb := h.mem_iff.2 hb
  have := rowO_neg (hm a ha) (hm b hb)
  exact rowO_zero (hm a ha) (hm b hb) (by omega)
end Go.Abs
