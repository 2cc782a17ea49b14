/- A part of the proof. -/
import Derived.Test.YtmmgdjecahcemaaGreatBp1
namespace Go.Abs
open Go.Proofs
set_option maxRecDepth 100000

/-! ### expressions -/
structure Val where
  kind : Int
  num : Int
  s : List Nat
def Val.cells (v : Val) : List AV := [.int .i64 v.kind, .int .i64 v.num, .str v.s]
def Val.av (v : Val) : AV := .agg [.int .i64 v.kind, .int .i64 v.num, .str v.s] 3
inductive Ex where
  | mk (op : Int) (v : Val) (t m : List Nat) (col : Int) (args : List Ex)
mutual
def Ex.cells : Ex → List AV
  | .mk op v t m col args => [.int .i64 op, .int .i64 v.kind, .int .i64 v.num, .str v.s, .str t, .str m, .int .i64 col, .ds (Ex.cellsL args) args.length 8]
def Ex.cellsL : List Ex → List AV
  | [] => []
  | e :: r => e.cells ++ Ex.cellsL r
end
def Ex.av (e : Ex) : AV := .agg e.cells 8
@[simp] theorem Ex.av_cells (e : Ex) : e.av.cells = e.cells := Eq.trans rfl rfl
@[simp] theorem Ex.av_len (e : Ex) : e.av.len = 8 := Eq.trans rfl rfl
@[simp] theorem Ex.cells_len (e : Ex) : e.cells.length = 8 := by cases e; simp [Ex.cells]
@[simp] theorem Ex.cellsL_len (l : List Ex) : (Ex.cellsL l).length = l.length * 8 := by
  induction l with
  | nil => simp [Ex.cellsL]
  | cons e r ih => simp [Ex.cellsL, ih]; omega
@[simp] theorem Ex.take8 (e : Ex) : e.cells.take 8 = e.cells := List.take_of_length_le (by simp)
@[simp] theorem Ex.allOne (e : Ex) : Go.Abs.allOne e.cells = true := by cases e; simp [Ex.cells]
@[simp] theorem Ex.allOneL (l : List Ex) : Go.Abs.allOne (Ex.cellsL l) = true := by
  induction l with
  | nil => simp [Ex.cellsL]
  | cons e r ih => simp [Ex.cellsL, ih]
mutual
theorem Ex.pureC : ∀ e : Ex, PureL e.cells
  | .mk op v t m col args => by simp [Ex.cells, Ex.pureLC args]
theorem Ex.pureLC : ∀ l : List Ex, PureL (Ex.cellsL l)
  | [] => by simp [Ex.cellsL]
  | e :: r => by simp [Ex.cellsL, Ex.pureC e, Ex.pureLC r]
end
@[simp] theorem Ex.pure (e : Ex) : Pure e.av := by simp [Ex.av, Ex.pureC]
@[simp] theorem Ex.pureL' (l : List Ex) : PureL (Ex.cellsL l) := Ex.pureLC l
@[simp] theorem Ex.pureC' (e : Ex) : PureL e.cells := Ex.pureC e
theorem Ex.drop (l : List Ex) (i : Nat) (h : i < l.length) : (Ex.cellsL l).drop (i * 8) = l[i].cells ++ Ex.cellsL (l.drop (i + 1)) := by
  induction l generalizing i with
  | nil => simp at h
  | cons e r ih =>
    cases i with
    | zero => simp [Ex.cellsL]
    | succ i =>
      have e1 : (i + 1) * 8 = 8 + i * 8 := by omega
      rw [Ex.cellsL, e1, ← List.drop_drop, List.drop_left' (Ex.cells_len e)]
      simpa using ih i (by simpa using h)
/-- an element of a list of expressions -/
theorem ixa_ex {l : List Ex} {i : Nat} {k : IntKind} (h : i < l.length) : cIxa 8 (.ds (Ex.cellsL l) l.length 8) (.int k (i : Int)) = .val (.dp (l[i].cells ++ Ex.cellsL (l.drop (i + 1)))) := by
  rw [cIxa_ds h, Ex.drop l i h]
@[simp] theorem ld_ex (e : Ex) (r : List AV) (H : Hp) : cLoadN 8 (.dp (e.cells ++ r)) H = .val e.av := cLoadN_dp r (Ex.cells_len e)

/-! ### values that may be -/
def Val.may (v : Val) : Bool :=
  if v.kind = 0 then decide (v.num = 0) && decide (v.s = []) else if v.kind = 1 then decide (v.s = []) else if v.kind = 2 then decide (v.num = 0) && decide (v.s.length ≤ 64)
  else if v.kind = 3 then decide (v.s = []) && (decide (v.num = 0) || decide (v.num = 1)) else false
@[simp] theorem Val.pure (v : Val) : Pure v.av := by simp [Val.av]
theorem may52 (v : Val) : FnPure Tryz.prog 48 [v.av] (.bool v.may) := by
  obtain ⟨k, i, s⟩ := v
  refine pureV c48 (by simp) (by simp) (by simp [A48]) fun F hF => ?_
  simp only [Val.may]
  by_cases h0 : k = 0
  · subst h0
    simp [A48, B48, R48_0, R48_1, R48_2, R48_3, hF, Val.av]
    exact .bool (by simp; try omega)
  by_cases h1 : k = 1
  · subst h1
    simp [A48, B48, R48_0, R48_1, R48_2, R48_4, R48_5, hF, Val.av]
    exact .bool (by simp; try omega)
  by_cases h2 : k = 2
  · subst h2
    by_cases hi : i = 0
    · simp [A48, B48, R48_0, R48_1, R48_2, R48_4, R48_6, R48_7, hF, Val.av, hi]
      exact .bool (by simp; try omega)
    · simp [A48, B48, R48_0, R48_1, R48_2, R48_4, R48_6, R48_7, hF, Val.av, hi]
      exact .bool (by simp; try omega)
  by_cases h3 : k = 3
  · subst h3
    by_cases hs : s = []
    · by_cases hi : i = 0
      · simp [A48, B48, R48_0, R48_1, R48_2, R48_4, R48_6, R48_8, R48_9, hF, Val.av, hi, hs]
        exact .bool (by simp; try omega)
      · simp [A48, B48, R48_0, R48_1, R48_2, R48_4, R48_6, R48_8, R48_9, hF, Val.av, hi, hs]
        exact .bool (by simp; try omega)
    · simp [A48, B48, R48_0, R48_1, R48_2, R48_4, R48_6, R48_8, R48_9, hF, Val.av, hs]
      exact .bool (by simp; try omega)
  simp [A48, B48, R48_0, R48_1, R48_2, R48_4, R48_6, R48_8, R48_10, hF, Val.av, h0, h1, h2, h3]
  exact .bool (by simp; try omega)
end Go.Abs
