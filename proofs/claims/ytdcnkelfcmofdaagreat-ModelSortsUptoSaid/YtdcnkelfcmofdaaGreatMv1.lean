/- A part of the proof. -/
import Derived.Test.YtdcnkelfcmofdaaGreatMsC
namespace Go.Abs
open Go.Proofs
set_option maxRecDepth 100000

structure Val where
  kind : Int
  num : Int
  s : List Nat
def Val.cells (v : Val) : List AV := [.int .i64 v.kind, .int .i64 v.num, .str v.s]
def Val.av (v : Val) : AV := .agg [.int .i64 v.kind, .int .i64 v.num, .str v.s] 3
def Val.may (v : Val) : Bool :=
  if v.kind = 0 then decide (v.num = 0) && decide (v.s = []) else if v.kind = 1 then decide (v.s = []) else if v.kind = 2 then decide (v.num = 0) && decide (v.s.length ≤ 64)
  else if v.kind = 3 then decide (v.s = []) && (decide (v.num = 0) || decide (v.num = 1)) else false
@[simp] theorem Val.pure (v : Val) : Pure v.av := by simp [Val.av]
theorem wrap_nat (i : Nat) (h : i < 2147483648) : IntKind.i64.wrap ((i : Int) + 1) = ((i + 1 : Nat) : Int) := by
  simp [IntKind.wrap, IntKind.signed, IntKind.bits]
  omega
theorem wrap_sm (i : Int) (h1 : -2147483648 ≤ i) (h2 : i < 2147483648) : IntKind.i64.wrap i = i := by
  simp [IntKind.wrap, IntKind.signed, IntKind.bits]
  omega
theorem may29 (v : Val) : FnPure Tryz.prog 29 [v.av] (.bool v.may) := by
  obtain ⟨k, i, s⟩ := v
  refine pureV c29 (by simp) (by simp) (by simp [A29]) fun F hF => ?_
  simp only [Val.may]
  by_cases h0 : k = 0
  · subst h0
    simp [A29, B29, R29_0, R29_1, R29_2, R29_3, hF, Val.av]
    exact .bool (by simp; try omega)
  by_cases h1 : k = 1
  · subst h1
    simp [A29, B29, R29_0, R29_1, R29_2, R29_4, R29_5, hF, Val.av]
    exact .bool (by simp; try omega)
  by_cases h2 : k = 2
  · subst h2
    by_cases hi : i = 0
    · simp [A29, B29, R29_0, R29_1, R29_2, R29_4, R29_6, R29_7, hF, Val.av, hi]
      exact .bool (by simp; try omega)
    · simp [A29, B29, R29_0, R29_1, R29_2, R29_4, R29_6, R29_7, hF, Val.av, hi]
      exact .bool (by simp; try omega)
  by_cases h3 : k = 3
  · subst h3
    by_cases hs : s = []
    · by_cases hi : i = 0
      · simp [A29, B29, R29_0, R29_1, R29_2, R29_4, R29_6, R29_8, R29_9, hF, Val.av, hi, hs]
        exact .bool (by simp; try omega)
      · simp [A29, B29, R29_0, R29_1, R29_2, R29_4, R29_6, R29_8, R29_9, hF, Val.av, hi, hs]
        exact .bool (by simp; try omega)
    · simp [A29, B29, R29_0, R29_1, R29_2, R29_4, R29_6, R29_8, R29_9, hF, Val.av, hs]
      exact .bool (by simp; try omega)
  simp [A29, B29, R29_0, R29_1, R29_2, R29_4, R29_6, R29_8, R29_10, hF, Val.av, h0, h1, h2, h3]
  exact .bool (by simp; try omega)
theorem may5 (v : Val) : FnPure Tryz.prog 5 [v.av] (.bool v.may) := by
  obtain ⟨k, i, s⟩ := v
  refine pureV c5 (by simp) (by simp) (by simp [A5]) fun F hF => ?_
  simp only [Val.may]
  by_cases h0 : k = 0
  · subst h0
    by_cases hi : i = 0
    · simp [A5, B5, R5_0, R5_1, R5_2, hF, Val.av, hi]
      exact .bool (by simp)
    · simp [A5, B5, R5_0, R5_1, R5_2, hF, Val.av, hi]
      exact .bool (by simp)
  by_cases h1 : k = 1
  · subst h1
    simp [A5, B5, R5_0, R5_1, R5_3, R5_4, hF, Val.av]
    exact .bool (by simp)
  by_cases h2 : k = 2
  · subst h2
    by_cases hi : i = 0
    · simp [A5, B5, R5_0, R5_1, R5_3, R5_5, R5_6, hF, Val.av, hi]
      exact .bool (by simp; omega)
    · simp [A5, B5, R5_0, R5_1, R5_3, R5_5, R5_6, hF, Val.av, hi]
      exact .bool (by simp)
  by_cases h3 : k = 3
  · subst h3
    by_cases hs : s = []
    · by_cases hi : 0 ≤ i
      · simp [A5, B5, R5_0, R5_1, R5_3, R5_5, R5_7, hF, Val.av, hi, hs]
        exact .bool (by rw [Bool.eq_iff_iff]; simp; omega)
      · simp [A5, B5, R5_0, R5_1, R5_3, R5_5, R5_7, hF, Val.av, hi, hs]
        exact .bool (by simp; omega)
    · simp [A5, B5, R5_0, R5_1, R5_3, R5_5, R5_7, hF, Val.av, hs]
      exact .bool (by simp)
  simp [A5, B5, R5_0, R5_1, R5_3, R5_5, R5_7, hF, Val.av, h0, h1, h2, h3]
  exact .bool (by simp)


end Go.Abs
