/- A part of the proof. -/
import Derived.Test.YtknkdhilieabnaaGreatVmC
namespace Go.Abs
open Go.Proofs
set_option maxRecDepth 100000

structure Val where
  kind : Int
  num : Int
  s : List Nat
def Val.cells (v : Val) : List AV := [.int .i64 v.kind, .int .i64 v.num, .str v.s]
def Val.av (v : Val) : AV := .agg [.int .i64 v.kind, .int .i64 v.num, .str v.s] 3
def Val.may (v : Val) : Bool :=
  if v.kind = 0 then decide (v.num = 0) && decide (v.s = []) else if v.kind = 1 then decide (v.s = []) else if v.kind = 2 then decide (v.num = 0) && decide (v.s.length ≤ 64)
  else if v.kind = 3 then decide (v.s = []) && (decide (v.num = 0) || decide (v.num = 1)) else false
@[simp] theorem Val.pure (v : Val) : Pure v.av := by simp [Val.av]
theorem wrap_nat (i : Nat) (h : i < 2147483648) : IntKind.i64.wrap ((i : Int) + 1) = ((i + 1 : Nat) : Int) := by
  simp [IntKind.wrap, IntKind.signed, IntKind.bits]
  omega
theorem wrap_sm (i : Int) (h1 : -2147483648 ≤ i) (h2 : i < 2147483648) : IntKind.i64.wrap i = i := by
  simp [IntKind.wrap, IntKind.signed, IntKind.bits]
  omega
theorem may20 (v : Val) : FnPure Tryz.prog 20 [v.av] (.bool v.may) := by
  obtain ⟨k, i, s⟩ := v
  refine pureV c20 (by simp) (by simp) (by simp [A20]) fun F hF => ?_
  simp only [Val.may]
  by_cases h0 : k = 0
  · subst h0
    simp [A20, B20, R20_0, R20_1, R20_2, R20_3, hF, Val.av]
    exact .bool (by simp [Int.ofNat_le]; try omega)
  by_cases h1 : k = 1
  · subst h1
    simp [A20, B20, R20_0, R20_1, R20_2, R20_4, R20_5, hF, Val.av]
    exact .bool (by simp [Int.ofNat_le]; try omega)
  by_cases h2 : k = 2
  · subst h2
    by_cases hi : i = 0
    · simp [A20, B20, R20_0, R20_1, R20_2, R20_4, R20_6, R20_7, hF, Val.av, hi]
      exact .bool (by simp [Int.ofNat_le]; try omega)
    · simp [A20, B20, R20_0, R20_1, R20_2, R20_4, R20_6, R20_7, hF, Val.av, hi]
      exact .bool (by simp [Int.ofNat_le]; try omega)
  by_cases h3 : k = 3
  · subst h3
    by_cases hs : s = []
    · by_cases hi : i = 0
      · simp [A20, B20, R20_0, R20_1, R20_2, R20_4, R20_6, R20_8, R20_9, hF, Val.av, hi, hs]
        exact .bool (by simp [Int.ofNat_le]; try omega)
      · simp [A20, B20, R20_0, R20_1, R20_2, R20_4, R20_6, R20_8, R20_9, hF, Val.av, hi, hs]
        exact .bool (by simp [Int.ofNat_le]; try omega)
    · simp [A20, B20, R20_0, R20_1, R20_2, R20_4, R20_6, R20_8, R20_9, hF, Val.av, hs]
      exact .bool (by simp [Int.ofNat_le]; try omega)
  simp [A20, B20, R20_0, R20_1, R20_2, R20_4, R20_6, R20_8, R20_10, hF, Val.av, h0, h1, h2, h3]
  exact .bool (by simp [Int.ofNat_le]; try omega)
theorem may22 (v : Val) : FnPure Tryz.prog 22 [v.av] (.bool v.may) := by
  obtain ⟨k, i, s⟩ := v
  refine pureV c22 (by simp) (by simp) (by simp [A22]) fun F hF => ?_
  simp only [Val.may]
  by_cases h0 : k = 0
  · subst h0
    by_cases hi : i = 0
    · simp [A22, B22, R22_0, R22_1, R22_2, hF, Val.av, hi]
      exact .bool (by simp)
    · simp [A22, B22, R22_0, R22_1, R22_2, hF, Val.av, hi]
      exact .bool (by simp)
  by_cases h1 : k = 1
  · subst h1
    simp [A22, B22, R22_0, R22_1, R22_3, R22_4, hF, Val.av]
    exact .bool (by simp)
  by_cases h2 : k = 2
  · subst h2
    by_cases hi : i = 0
    · simp [A22, B22, R22_0, R22_1, R22_3, R22_5, R22_6, hF, Val.av, hi]
      exact .bool (by simp; omega)
    · simp [A22, B22, R22_0, R22_1, R22_3, R22_5, R22_6, hF, Val.av, hi]
      exact .bool (by simp)
  by_cases h3 : k = 3
  · subst h3
    by_cases hs : s = []
    · by_cases hi : 0 ≤ i
      · simp [A22, B22, R22_0, R22_1, R22_3, R22_5, R22_7, hF, Val.av, hi, hs]
        exact .bool (by rw [Bool.eq_iff_iff]; simp; omega)
      · simp [A22, B22, R22_0, R22_1, R22_3, R22_5, R22_7, hF, Val.av, hi, hs]
        exact .bool (by simp; omega)
    · simp [A22, B22, R22_0, R22_1, R22_3, R22_5, R22_7, hF, Val.av, hs]
      exact .bool (by simp)
  simp [A22, B22, R22_0, R22_1, R22_3, R22_5, R22_7, hF, Val.av, h0, h1, h2, h3]
  exact .bool (by simp)


end Go.Abs
