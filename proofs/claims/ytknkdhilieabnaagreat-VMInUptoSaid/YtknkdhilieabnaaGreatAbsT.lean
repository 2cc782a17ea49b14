/- The abstract machine: its trees and lists. -/
import Derived.Test.YtknkdhilieabnaaGreatAbsR
namespace Go.Abs
theorem forceN_eq {α : Type} (n : Nat) (k : Nat → α) : forceN n k = k n := by cases n <;> rfl
theorem forceI_eq {α : Type} (n : Int) (k : Int → α) : forceI n k = k n := by
  cases n with
  | ofNat m => exact forceN_eq m (fun m => k (.ofNat m))
  | negSucc m => exact forceN_eq m (fun m => k (.negSucc m))
@[simp] theorem bsel_true {α : Type} (a b : α) : bsel true a b = a := rfl
@[simp] theorem bsel_false {α : Type} (a b : α) : bsel false a b = b := rfl
@[simp] theorem osel_some {α β : Type} (x : α) (d : β) (k : α → β) : osel (some x) d k = k x := rfl
@[simp] theorem osel_none {α β : Type} (d : β) (k : α → β) : osel none d k = d := rfl

namespace Tr
variable {α : Type}
@[simp] theorem get_nil (n : Nat) : (Tr.nil : Tr α).get n = none := rfl
theorem get_node (v : Option α) (l r : Tr α) (n : Nat) : (Tr.node v l r).get n =
    if n = 0 then v else if (n - 1) % 2 = 0 then l.get ((n - 1) / 2) else r.get ((n - 1) / 2) := by
  show Bool.rec (motive := fun _ => Option α) (Bool.rec (motive := fun _ => Option α) (r.get ((n - 1) / 2)) (l.get ((n - 1) / 2)) (Nat.beq ((n - 1) % 2) 0)) v (Nat.beq n 0) = _
  by_cases h : n = 0
  · subst h; rfl
  · have h1 : Nat.beq n 0 = false := by
      cases hb : Nat.beq n 0 with
      | false => rfl
      | true => exact absurd (Nat.eq_of_beq_eq_true hb) h
    rw [h1, if_neg h]
    by_cases h2 : (n - 1) % 2 = 0
    · rw [if_pos h2]
      have h3 : Nat.beq ((n - 1) % 2) 0 = true := by rw [h2]; rfl
      rw [h3]
    · rw [if_neg h2]
      have h3 : Nat.beq ((n - 1) % 2) 0 = false := by
        cases hb : Nat.beq ((n - 1) % 2) 0 with
        | false => rfl
        | true => exact absurd (Nat.eq_of_beq_eq_true hb) h2
      rw [h3]
theorem single_succ (f n : Nat) (v : Option α) : single (f + 1) n v =
    if n = 0 then .node v .nil .nil else if (n - 1) % 2 = 0 then .node none (single f ((n - 1) / 2) v) .nil else .node none .nil (single f ((n - 1) / 2) v) := by
  show Bool.rec (motive := fun _ => Tr α) (Bool.rec (motive := fun _ => Tr α) (.node none .nil (single f ((n - 1) / 2) v)) (.node none (single f ((n - 1) / 2) v) .nil) (Nat.beq ((n - 1) % 2) 0)) (.node v .nil .nil) (Nat.beq n 0) = _
  by_cases h : n = 0
  · subst h; rfl
  · have h1 : Nat.beq n 0 = false := by
      cases hb : Nat.beq n 0 with
      | false => rfl
      | true => exact absurd (Nat.eq_of_beq_eq_true hb) h
    rw [h1, if_neg h]
    by_cases h2 : (n - 1) % 2 = 0
    · rw [if_pos h2, show Nat.beq ((n - 1) % 2) 0 = true by rw [h2]; rfl]
    · rw [if_neg h2]
      have h3 : Nat.beq ((n - 1) % 2) 0 = false := by
        cases hb : Nat.beq ((n - 1) % 2) 0 with
        | false => rfl
        | true => exact absurd (Nat.eq_of_beq_eq_true hb) h2
      rw [h3]
theorem put_node (x : Option α) (l r : Tr α) (n : Nat) (v : Option α) : (Tr.node x l r).put n v =
    if n = 0 then .node v l r else if (n - 1) % 2 = 0 then .node x (l.put ((n - 1) / 2) v) r else .node x l (r.put ((n - 1) / 2) v) := by
  show Bool.rec (motive := fun _ => Tr α) (Bool.rec (motive := fun _ => Tr α) (.node x l (r.put ((n - 1) / 2) v)) (.node x (l.put ((n - 1) / 2) v) r) (Nat.beq ((n - 1) % 2) 0)) (.node v l r) (Nat.beq n 0) = _
  by_cases h : n = 0
  · subst h; rfl
  · have h1 : Nat.beq n 0 = false := by
      cases hb : Nat.beq n 0 with
      | false => rfl
      | true => exact absurd (Nat.eq_of_beq_eq_true hb) h
    rw [h1, if_neg h]
    by_cases h2 : (n - 1) % 2 = 0
    · rw [if_pos h2, show Nat.beq ((n - 1) % 2) 0 = true by rw [h2]; rfl]
    · rw [if_neg h2]
      have h3 : Nat.beq ((n - 1) % 2) 0 = false := by
        cases hb : Nat.beq ((n - 1) % 2) 0 with
        | false => rfl
        | true => exact absurd (Nat.eq_of_beq_eq_true hb) h2
      rw [h3]
theorem half_ne {n m : Nat} (hn : n ≠ 0) (hm : m ≠ 0) (h : (n - 1) % 2 = (m - 1) % 2) (e : (n - 1) / 2 = (m - 1) / 2) : n = m := by omega
theorem get_single : ∀ (f n m : Nat) (v : Option α), n < f → (single f n v).get m = if m = n then v else none
  | 0, n, m, v, h => by omega
  | f + 1, n, m, v, h => by
    rw [single_succ]
    by_cases hn : n = 0
    · subst hn
      rw [if_pos rfl, get_node]
      by_cases hm : m = 0
      · simp [hm]
      · simp [hm]
    · rw [if_neg hn]
      have hlt : (n - 1) / 2 < f := by omega
      by_cases h2 : (n - 1) % 2 = 0
      · rw [if_pos h2, get_node]
        by_cases hm : m = 0
        · rw [if_pos hm, if_neg (by omega)]
        · rw [if_neg hm]
          by_cases h3 : (m - 1) % 2 = 0
          · rw [if_pos h3, get_single f _ _ v hlt]
            by_cases e : m = n
            · subst e; simp
            · rw [if_neg e, if_neg (fun e' => e (half_ne hm hn (by omega) e'))]
          · rw [if_neg h3, if_neg (fun e => h3 (by subst e; exact h2))]; rfl
      · rw [if_neg h2, get_node]
        by_cases hm : m = 0
        · rw [if_pos hm, if_neg (by omega)]
        · rw [if_neg hm]
          by_cases h3 : (m - 1) % 2 = 0
          · rw [if_pos h3, if_neg (fun e => h2 (by subst e; exact h3))]; rfl
          · rw [if_neg h3, get_single f _ _ v hlt]
            by_cases e : m = n
            · subst e; simp
            · rw [if_neg e, if_neg (fun e' => e (half_ne hm hn (by omega) e'))]
theorem get_put (t : Tr α) : ∀ (n m : Nat) (v : Option α), (t.put n v).get m = if m = n then v else t.get m := by
  induction t with
  | nil => intro n m v; show (single (n + 1) n v).get m = _; rw [get_single _ _ _ _ (Nat.lt_succ_self n)]; rfl
  | node x l r il ir =>
    intro n m v
    rw [put_node]
    by_cases hn : n = 0
    · subst hn
      rw [if_pos rfl, get_node, get_node]
      by_cases hm : m = 0 <;> simp [hm]
    · rw [if_neg hn]
      by_cases h2 : (n - 1) % 2 = 0
      · rw [if_pos h2, get_node, get_node]
        by_cases hm : m = 0
        · rw [if_pos hm, if_pos hm, if_neg (by omega)]
        · rw [if_neg hm, if_neg hm]
          by_cases h3 : (m - 1) % 2 = 0
          · rw [if_pos h3, if_pos h3, il]
            by_cases e : m = n
            · subst e; simp
            · rw [if_neg e, if_neg (fun e' => e (half_ne hm hn (by omega) e'))]
          · rw [if_neg h3, if_neg h3, if_neg (fun e => h3 (by subst e; exact h2))]
      · rw [if_neg h2, get_node, get_node]
        by_cases hm : m = 0
        · rw [if_pos hm, if_pos hm, if_neg (by omega)]
        · rw [if_neg hm, if_neg hm]
          by_cases h3 : (m - 1) % 2 = 0
          · rw [if_pos h3, if_pos h3, if_neg (fun e => h2 (by subst e; exact h3))]
          · rw [if_neg h3, if_neg h3, ir]
            by_cases e : m = n
            · subst e; simp
            · rw [if_neg e, if_neg (fun e' => e (half_ne hm hn (by omega) e'))]
theorem getK_eq : ∀ (f n : Nat) (t : Tr α), n < f → (getK f n).f t = t.get n
  | 0, n, t, h => by omega
  | f + 1, n, t, h => by
    show (Bool.rec (motive := fun _ => Gt α) (Bool.rec (motive := fun _ => Gt α) ⟨goR (getK f ((n - 1) / 2))⟩ ⟨goL (getK f ((n - 1) / 2))⟩ (Nat.beq ((n - 1) % 2) 0)) ⟨hd⟩ (Nat.beq n 0) : Gt α).f t = _
    by_cases hn : n = 0
    · subst hn
      cases t with
      | nil => rfl
      | node v l r => rfl
    · have h1 : Nat.beq n 0 = false := by
        cases hb : Nat.beq n 0 with
        | false => rfl
        | true => exact absurd (Nat.eq_of_beq_eq_true hb) hn
      rw [h1]
      have hlt : (n - 1) / 2 < f := by omega
      by_cases h2 : (n - 1) % 2 = 0
      · rw [show Nat.beq ((n - 1) % 2) 0 = true by rw [h2]; rfl]
        cases t with
        | nil => rfl
        | node v l r => rw [get_node, if_neg hn, if_pos h2]; exact getK_eq f _ l hlt
      · have h3 : Nat.beq ((n - 1) % 2) 0 = false := by
          cases hb : Nat.beq ((n - 1) % 2) 0 with
          | false => rfl
          | true => exact absurd (Nat.eq_of_beq_eq_true hb) h2
        rw [h3]
        cases t with
        | nil => rfl
        | node v l r => rw [get_node, if_neg hn, if_neg h2]; exact getK_eq f _ r hlt
theorem get_putK : ∀ (f n : Nat) (v : Option α) (t : Tr α) (m : Nat), n < f → ((putK f n).f v t).get m = if m = n then v else t.get m
  | 0, n, v, t, m, h => by omega
  | f + 1, n, v, t, m, h => by
    show ((Bool.rec (motive := fun _ => Pt α) (Bool.rec (motive := fun _ => Pt α) ⟨pR (putK f ((n - 1) / 2))⟩ ⟨pL (putK f ((n - 1) / 2))⟩ (Nat.beq ((n - 1) % 2) 0)) ⟨phd⟩ (Nat.beq n 0) : Pt α).f v t).get m = _
    by_cases hn : n = 0
    · subst hn
      cases t with
      | nil => show (Tr.node v .nil .nil).get m = _; rw [get_node]; by_cases hm : m = 0 <;> simp [hm]
      | node x l r => show (Tr.node v l r).get m = _; rw [get_node, get_node]; by_cases hm : m = 0 <;> simp [hm]
    · have h1 : Nat.beq n 0 = false := by
        cases hb : Nat.beq n 0 with
        | false => rfl
        | true => exact absurd (Nat.eq_of_beq_eq_true hb) hn
      rw [h1]
      have hlt : (n - 1) / 2 < f := by omega
      by_cases h2 : (n - 1) % 2 = 0
      · rw [show Nat.beq ((n - 1) % 2) 0 = true by rw [h2]; rfl]
        have key : ∀ (x : Option α) (l r : Tr α), (Tr.node x ((putK f ((n - 1) / 2)).f v l) r).get m = if m = n then v else (Tr.node x l r).get m := by
          intro x l r
          rw [get_node, get_node]
          by_cases hm : m = 0
          · rw [if_pos hm, if_pos hm, if_neg (by omega)]
          · rw [if_neg hm, if_neg hm]
            by_cases h3 : (m - 1) % 2 = 0
            · rw [if_pos h3, if_pos h3, get_putK f _ _ _ _ hlt]
              by_cases e : m = n
              · subst e; simp
              · rw [if_neg e, if_neg (fun e' => e (half_ne hm hn (by omega) e'))]
            · rw [if_neg h3, if_neg h3, if_neg (fun e => h3 (by subst e; exact h2))]
        cases t with
        | nil =>
          refine (key none .nil .nil).trans ?_
          rw [get_node]
          by_cases e : m = n
          · simp [e]
          · rw [if_neg e, if_neg e]; by_cases hm : m = 0 <;> simp [hm]
        | node x l r => exact key x l r
      · have h3' : Nat.beq ((n - 1) % 2) 0 = false := by
          cases hb : Nat.beq ((n - 1) % 2) 0 with
          | false => rfl
          | true => exact absurd (Nat.eq_of_beq_eq_true hb) h2
        rw [h3']
        have key : ∀ (x : Option α) (l r : Tr α), (Tr.node x l ((putK f ((n - 1) / 2)).f v r)).get m = if m = n then v else (Tr.node x l r).get m := by
          intro x l r
          rw [get_node, get_node]
          by_cases hm : m = 0
          · rw [if_pos hm, if_pos hm, if_neg (by omega)]
          · rw [if_neg hm, if_neg hm]
            by_cases h3 : (m - 1) % 2 = 0
            · rw [if_pos h3, if_pos h3, if_neg (fun e => h2 (by subst e; exact h3))]
            · rw [if_neg h3, if_neg h3, get_putK f _ _ _ _ hlt]
              by_cases e : m = n
              · subst e; simp
              · rw [if_neg e, if_neg (fun e' => e (half_ne hm hn (by omega) e'))]
        cases t with
        | nil =>
          refine (key none .nil .nil).trans ?_
          rw [get_node]
          by_cases e : m = n
          · simp [e]
          · rw [if_neg e, if_neg e]; by_cases hm : m = 0 <;> simp [hm]
        | node x l r => exact key x l r
theorem get_putAll (vs : List α) : ∀ (i : Nat) (t : Tr α) (m : Nat), (putAll vs i t).get m = if i ≤ m ∧ m < i + vs.length then vs[m - i]? else t.get m := by
  induction vs with
  | nil => intro i t m; show t.get m = _; rw [if_neg (by simp)]
  | cons v r ih =>
    intro i t m
    show (putAll r (i + 1) (t.put i (some v))).get m = _
    rw [ih, get_put]
    by_cases h1 : m = i
    · subst h1; rw [if_neg (by omega), if_pos rfl, if_pos (by simp)]; simp
    · by_cases h2 : i + 1 ≤ m ∧ m < i + 1 + r.length
      · rw [if_pos h2, if_pos (by simp; omega)]
        obtain ⟨j, rfl⟩ : ∃ j, m = i + 1 + j := ⟨m - (i + 1), by omega⟩
        rw [show i + 1 + j - i = j + 1 from by omega, show i + 1 + j - (i + 1) = j from by omega]; simp
      · rw [if_neg h2, if_neg h1, if_neg (by simp; omega)]
end Tr

theorem nth_eq {α : Type} (l : List α) : ∀ i, nth l i = l[i]? := by
  induction l with
  | nil => intro i; rfl
  | cons a r ih => intro i; cases i with
    | zero => rfl
    | succ i => exact (ih i).trans (by simp)
theorem lenAcc_eq {α : Type} (l : List α) : ∀ n, lenAcc l n = n + l.length := by
  induction l with
  | nil => intro n; rfl
  | cons a r ih =>
    intro n
    show forceN (n + 1) (lenAcc r) = _
    rw [forceN_eq, ih]; simp; omega
theorem lenAcc_zero {α : Type} (l : List α) : lenAcc l 0 = l.length := by rw [lenAcc_eq]; simp

theorem getc_eq (u : Nat) (z bs : List AV) (t : Tr AV) (i : Nat) : getc u z bs t i =
    if i < u then (match t.get i with | some v => some v | none => match bs[i]? with | some v => some v | none => dflt z i) else none := by
  unfold getc
  by_cases h : i < u
  · have hb : Nat.blt i u = true := Nat.ble_eq_true_of_le h
    rw [hb, if_pos h, nth_eq]
    cases t.get i <;> simp
    cases bs[i]? <;> simp
  · have hb : Nat.blt i u = false := by
      cases hh : Nat.blt i u with
      | false => rfl
      | true => exact absurd (Nat.le_of_ble_eq_true hh) (by omega)
    rw [hb, if_neg h]; rfl
theorem getc_lt {u z bs t i v} (h : getc u z bs t i = some v) : i < u := by
  rw [getc_eq] at h
  by_cases h1 : i < u
  · exact h1
  · rw [if_neg h1] at h; cases h

theorem grabR_spec (u : Nat) (z bs : List AV) (t : Tr AV) (o : Nat) : ∀ (n : Nat) (acc l : List AV), grabR u z bs t o n acc = some l →
    ∃ l0, l = l0 ++ acc ∧ l0.length = n ∧ ∀ i, i < n → getc u z bs t (o + i) = l0[i]?
  | 0, acc, l, h => by
    injection h with h; exact ⟨[], by simp [h], rfl, fun i hi => by omega⟩
  | n + 1, acc, l, h => by
    have h' : osel (getc u z bs t (o + n)) none (fun v => grabR u z bs t o n (v :: acc)) = some l := h
    cases hg : getc u z bs t (o + n) with
    | none => rw [hg] at h'; cases h'
    | some v =>
      rw [hg] at h'
      obtain ⟨l0, h1, h2, h3⟩ := grabR_spec u z bs t o n (v :: acc) l h'
      refine ⟨l0 ++ [v], by simp [h1], by simp [h2], fun i hi => ?_⟩
      by_cases e : i < n
      · rw [List.getElem?_append_left (by omega)]; exact h3 i e
      · have : i = n := by omega
        subst this
        rw [List.getElem?_append_right (by omega)]; simp [h2, hg]
theorem grab_spec {u z bs t o n l} (hinv : t = .nil → z = [] → bs.length = u) (h : grab u z bs t o n = some l) :
    l.length = n ∧ ∀ i, i < n → getc u z bs t (o + i) = l[i]? := by
  have key : ∀ t, grabR u z bs t o n [] = some l → l.length = n ∧ ∀ i, i < n → getc u z bs t (o + i) = l[i]? := by
    intro t h
    obtain ⟨l0, h1, h2, h3⟩ := grabR_spec u z bs t o n [] l h
    simp at h1; subst h1
    exact ⟨h2, h3⟩
  unfold grab at h
  split at h
  · split at h
    · split at h
      · rename_i hb
        simp at hb
        injection h with h
        subst h
        have hl := hinv rfl rfl
        obtain ⟨rfl, rfl⟩ := hb
        refine ⟨hl, fun i hi => ?_⟩
        rw [getc_eq, if_pos (by omega)]
        simp
        rw [List.getElem?_eq_getElem (by omega)]
      · exact key _ h
    · exact key _ h
  · exact key _ h
end Go.Abs
