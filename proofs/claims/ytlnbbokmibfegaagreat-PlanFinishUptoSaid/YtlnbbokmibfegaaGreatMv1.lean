/- A part of the proof. -/
import Derived.Test.YtlnbbokmibfegaaGreatPfC
namespace Go.Abs
open Go.Proofs
set_option maxRecDepth 100000

structure Val where
  kind : Int
  num : Int
  s : List Nat
def Val.cells (v : Val) : List AV := [.int .i64 v.kind, .int .i64 v.num, .str v.s]
def Val.av (v : Val) : AV := .agg [.int .i64 v.kind, .int .i64 v.num, .str v.s] 3
def Val.may (v : Val) : Bool :=
  if v.kind = 0 then decide (v.num = 0) && decide (v.s = []) else if v.kind = 1 then decide (v.s = []) else if v.kind = 2 then decide (v.num = 0) && decide (v.s.length ≤ 64)
  else if v.kind = 3 then decide (v.s = []) && (decide (v.num = 0) || decide (v.num = 1)) else false
@[simp] theorem Val.pure (v : Val) : Pure v.av := by simp [Val.av]
theorem wrap_nat (i : Nat) (h : i < 2147483648) : IntKind.i64.wrap ((i : Int) + 1) = ((i + 1 : Nat) : Int) := by
  simp [IntKind.wrap, IntKind.signed, IntKind.bits]
  omega
theorem wrap_sm (i : Int) (h1 : -2147483648 ≤ i) (h2 : i < 2147483648) : IntKind.i64.wrap i = i := by
  simp [IntKind.wrap, IntKind.signed, IntKind.bits]
  omega
theorem may29 (v : Val) : FnPure Tryz.prog 43 [v.av] (.bool v.may) := by
  obtain ⟨k, i, s⟩ := v
  refine pureV c43 (by simp) (by simp) (by simp [A43]) fun F hF => ?_
  simp only [Val.may]
  by_cases h0 : k = 0
  · subst h0
    simp [A43, B43, R43_0, R43_1, R43_2, R43_3, hF, Val.av]
    exact .bool (by simp; try omega)
  by_cases h1 : k = 1
  · subst h1
    simp [A43, B43, R43_0, R43_1, R43_2, R43_4, R43_5, hF, Val.av]
    exact .bool (by simp; try omega)
  by_cases h2 : k = 2
  · subst h2
    by_cases hi : i = 0
    · simp [A43, B43, R43_0, R43_1, R43_2, R43_4, R43_6, R43_7, hF, Val.av, hi]
      exact .bool (by simp; try omega)
    · simp [A43, B43, R43_0, R43_1, R43_2, R43_4, R43_6, R43_7, hF, Val.av, hi]
      exact .bool (by simp; try omega)
  by_cases h3 : k = 3
  · subst h3
    by_cases hs : s = []
    · by_cases hi : i = 0
      · simp [A43, B43, R43_0, R43_1, R43_2, R43_4, R43_6, R43_8, R43_9, hF, Val.av, hi, hs]
        exact .bool (by simp; try omega)
      · simp [A43, B43, R43_0, R43_1, R43_2, R43_4, R43_6, R43_8, R43_9, hF, Val.av, hi, hs]
        exact .bool (by simp; try omega)
    · simp [A43, B43, R43_0, R43_1, R43_2, R43_4, R43_6, R43_8, R43_9, hF, Val.av, hs]
      exact .bool (by simp; try omega)
  simp [A43, B43, R43_0, R43_1, R43_2, R43_4, R43_6, R43_8, R43_10, hF, Val.av, h0, h1, h2, h3]
  exact .bool (by simp; try omega)
theorem may5 (v : Val) : FnPure Tryz.prog 74 [v.av] (.bool v.may) := by
  obtain ⟨k, i, s⟩ := v
  refine pureV c74 (by simp) (by simp) (by simp [A74]) fun F hF => ?_
  simp only [Val.may]
  by_cases h0 : k = 0
  · subst h0
    by_cases hi : i = 0
    · simp [A74, B74, R74_0, R74_1, R74_2, hF, Val.av, hi]
      exact .bool (by simp)
    · simp [A74, B74, R74_0, R74_1, R74_2, hF, Val.av, hi]
      exact .bool (by simp)
  by_cases h1 : k = 1
  · subst h1
    simp [A74, B74, R74_0, R74_1, R74_3, R74_4, hF, Val.av]
    exact .bool (by simp)
  by_cases h2 : k = 2
  · subst h2
    by_cases hi : i = 0
    · simp [A74, B74, R74_0, R74_1, R74_3, R74_5, R74_6, hF, Val.av, hi]
      exact .bool (by simp; omega)
    · simp [A74, B74, R74_0, R74_1, R74_3, R74_5, R74_6, hF, Val.av, hi]
      exact .bool (by simp)
  by_cases h3 : k = 3
  · subst h3
    by_cases hs : s = []
    · by_cases hi : 0 ≤ i
      · simp [A74, B74, R74_0, R74_1, R74_3, R74_5, R74_7, hF, Val.av, hi, hs]
        exact .bool (by rw [Bool.eq_iff_iff]; simp; omega)
      · simp [A74, B74, R74_0, R74_1, R74_3, R74_5, R74_7, hF, Val.av, hi, hs]
        exact .bool (by simp; omega)
    · simp [A74, B74, R74_0, R74_1, R74_3, R74_5, R74_7, hF, Val.av, hs]
      exact .bool (by simp)
  simp [A74, B74, R74_0, R74_1, R74_3, R74_5, R74_7, hF, Val.av, h0, h1, h2, h3]
  exact .bool (by simp)


end Go.Abs
