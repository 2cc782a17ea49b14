/- Rows: what they are compared by. -/
import Derived.Test.YtlnbbokmibfegaaGreatMv3
import Derived.Test.YtlnbbokmibfegaaGreatAbs6
namespace Go.Abs
open Go.Proofs
set_option maxRecDepth 100000

def valsC : List Val → List AV
  | [] => []
  | v :: r => v.cells ++ valsC r
@[simp] theorem Val.cells_len (v : Val) : v.cells.length = 3 := by simp [Val.cells]
@[simp] theorem valsC_len (l : List Val) : (valsC l).length = l.length * 3 := by
  induction l with
  | nil => simp [valsC]
  | cons e r ih => simp [valsC, ih]; omega
theorem valsC_flat (l : List Val) : l.flatMap Val.cells = valsC l := by
  induction l with
  | nil => rfl
  | cons e r ih => simp [valsC, ih]
theorem valsC_drop (l : List Val) (i : Nat) (h : i < l.length) : (valsC l).drop (i * 3) = l[i].cells ++ valsC (l.drop (i + 1)) := by
  induction l generalizing i with
  | nil => simp at h
  | cons e r ih =>
    cases i with
    | zero => simp [valsC]
    | succ i =>
      have : (i + 1) * 3 = e.cells.length + i * 3 := by simp; omega
      rw [valsC, this, ← List.drop_drop, List.drop_left' rfl]
      simpa using ih i (by simpa using h)
@[simp] theorem valsC_pure (l : List Val) : PureL (valsC l) := by
  induction l with
  | nil => simp [valsC]
  | cons e r ih => simp [valsC, Val.cells, ih]
theorem ixa_val {l : List Val} {i : Nat} {k : IntKind} (h : i < l.length) : cIxa 3 (.ds (valsC l) l.length 3) (.int k (i : Int)) = .val (.dp (l[i].cells ++ valsC (l.drop (i + 1)))) := by
  rw [cIxa_ds h, valsC_drop l i h]
theorem ld_val (v : Val) (r : List AV) (H : Hp) : cLoadN 3 (.dp (v.cells ++ r)) H = .val v.av := cLoadN_dp r v.cells_len
instance : DecidableEq Val := fun a b => if h : a.kind = b.kind ∧ a.num = b.num ∧ a.s = b.s then .isTrue (by cases a; cases b; simp at h; obtain ⟨rfl, rfl, rfl⟩ := h; rfl) else .isFalse (by rintro rfl; exact h ⟨rfl, rfl, rfl⟩)
theorem Val.ext_iff (v u : Val) : v = u ↔ v.kind = u.kind ∧ v.num = u.num ∧ v.s = u.s := by
  cases v; cases u; simp
theorem eqA_val (b : Bool) (v u : Val) : cEqA b [.i, .i, .s] v.av u.av = .val (.bool (b != decide (v = u))) := by
  obtain ⟨k, a, s⟩ := v
  obtain ⟨q, c, t⟩ := u
  have he : eqAtoms [.i, .i, .s] [.int .i64 k, .int .i64 a, .str s] [.int .i64 q, .int .i64 c, .str t] = some (decide ((Val.mk k a s) = Val.mk q c t)) := by
    simp only [eqAtoms, eqLeaf, eqNats_eq, if_true]
    by_cases h1 : k = q
    · subst h1
      rw [show (k == k) = true by simp]
      by_cases h2 : a = c
      · subst h2
        rw [show (a == a) = true by simp]
        by_cases h3 : s = t
        · subst h3; simp
        · rw [show (s == t) = false by simpa using h3]; simp [Val.ext_iff, h3]
      · rw [show (a == c) = false by simpa using h2]; simp [Val.ext_iff, h2]
    · rw [show (k == q) = false by simpa using h1]; simp [Val.ext_iff, h1]
  unfold cEqA Val.av
  simp only [he]
  rfl
def rowAV (r : List Val) : AV := .ds (valsC r) r.length 3
@[simp] theorem rowAV_pure (r : List Val) : Pure (rowAV r) := by simp [rowAV]

/-! ### two values of whatever kind -/
def cV (a b : Val) : Int := if a.may && b.may then a.ord b else if a.may then -1 else if b.may then 1 else 0
def rowO : List Val → List Val → Int
  | a :: l, b :: m => if cV a b ≠ 0 then cV a b else rowO l m
  | l, m => (l.length : Int) - (m.length : Int)
def rowR : List Val → List Val → Int
  | a :: l, b :: m => if a.ord b ≠ 0 then a.ord b else rowR l m
  | [], [] => 0
  | [], _ :: _ => -1
  | _ :: _, [] => 1
theorem rowO_drop {l m : List Val} {i : Nat} (hl : i < l.length) (hm : i < m.length) : rowO (l.drop i) (m.drop i) = if cV l[i] m[i] ≠ 0 then cV l[i] m[i] else rowO (l.drop (i + 1)) (m.drop (i + 1)) := by
  rw [List.drop_eq_getElem_cons hl, List.drop_eq_getElem_cons hm, rowO]
theorem rowR_drop {l m : List Val} {i : Nat} (hl : i < l.length) (hm : i < m.length) : rowR (l.drop i) (m.drop i) = if l[i].ord m[i] ≠ 0 then l[i].ord m[i] else rowR (l.drop (i + 1)) (m.drop (i + 1)) := by
  rw [List.drop_eq_getElem_cons hl, List.drop_eq_getElem_cons hm, rowR]
theorem rowO_end {l m : List Val} {i : Nat} (h1 : i ≤ l.length) (h2 : i ≤ m.length) (h : i = l.length ∨ i = m.length) : rowO (l.drop i) (m.drop i) = (l.length : Int) - (m.length : Int) := by
  have : l.drop i = [] ∨ m.drop i = [] := by
    rcases h with rfl | rfl
    · exact .inl (List.drop_length ..)
    · exact .inr (List.drop_length ..)
  rcases this with e | e
  · have h' : l.length - i = 0 := by rw [← List.length_drop, e]; rfl
    rw [e, rowO.eq_2 _ _ (by rintro a l' b m' h; cases h)]
    simp; omega
  · have h' : m.length - i = 0 := by rw [← List.length_drop, e]; rfl
    rw [e, rowO.eq_2 _ _ (by rintro a l' b m' _ h; cases h)]
    simp; omega
theorem rowR_end {l m : List Val} {i : Nat} (h1 : i ≤ l.length) (h2 : i ≤ m.length) (h : i = l.length ∨ i = m.length) : rowR (l.drop i) (m.drop i) = if l.length < m.length then -1 else if m.length < l.length then 1 else 0 := by
  rcases Nat.lt_trichotomy l.length m.length with c | c | c
  · obtain rfl : i = l.length := by omega
    rw [List.drop_length, List.drop_eq_getElem_cons c, if_pos c]; rfl
  · have : i = l.length := by omega
    subst this
    rw [List.drop_length, c, List.drop_length, if_neg (by omega), if_neg (by omega)]; rfl
  · obtain rfl : i = m.length := by omega
    rw [List.drop_length, List.drop_eq_getElem_cons c, if_neg (by omega), if_pos c]; rfl
end Go.Abs
