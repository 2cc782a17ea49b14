/- Whether all values of a row may be. -/
import Derived.Test.YtlnbbokmibfegaaGreatPf3
namespace Go.Abs
open Go.Proofs
set_option maxRecDepth 100000

def eCst : AV := .agg [.int .i64 1, .int .i64 0, .int .i64 0, .str [], .str [], .str [], .int .i64 0, .cst (.slice none 0 0)] 8
@[simp] theorem eCst_pure : Pure eCst := by simp [eCst]
theorem may0 : (Val.mk 0 0 []).may = true := rfl
theorem right37 (k : Int) : FnPure Tryz.prog 37 [eCst, .int .i64 k] (.bool true) := by
  refine pureV c37 (by simp) (by simp) (by simp [A37]) fun F hF => ?_
  simp [A37, B37, R37_0, hF, eCst, R37_1, R37_2, R37_3, R37_8, R37_10, R37_11]
  refine CalV.pure (may5 ⟨0, 0, []⟩) ?_
  simp [may0]
  exact .pure _ (by simp)
theorem whole38 (r : List Val) (hr : r.length ≤ 1048576) : FnPure Tryz.prog 38 [rowAV r] (.bool (r.all Val.may)) := by
  refine pureV c38 (by simp) (by simp) (by simp [A38]) fun F hF => ?_
  simp [A38, B38, R38_0, R38_1]
  refine LoopV.of (fun t F K n ms => ∃ i, t = r.length - i ∧ i ≤ r.length ∧ F.get 0 = some (rowAV r) ∧ F.get 3 = some (.int .i64 (i : Int)) ∧ K = .nil ∧ ms = [] ∧ (r.all Val.may = (r.drop i).all Val.may)) r.length ⟨0, by simp [hF]⟩ ?_
  rintro t F K n ms ⟨i, rfl, hi, f0, f3, rfl, rfl, he⟩
  by_cases hlt : i < r.length
  · have hx := ixa_val (k := .i64) hlt
    rw [List.drop_eq_getElem_cons hlt, List.all_cons] at he
    simp [L38_0, R38_2, f0, f3, rowAV, hlt, R38_3, hx, ld_val]
    refine CalV.pure (may5 r[i]) ?_
    cases hm : r[i].may with
    | true =>
      rw [hm, Bool.true_and] at he
      simp [R38_5, f0, f3, rowAV, wrap_nat i (by omega)]
      exact ⟨r.length - (i + 1), by omega, i + 1, rfl, hlt, rfl, he⟩
    | false =>
      rw [hm, Bool.false_and] at he
      simp only [he]
      simp [R38_4]
      exact .pure _ (by simp)
  · obtain rfl : i = r.length := by omega
    rw [List.drop_length, List.all_nil] at he
    simp only [he]
    simp [L38_0, R38_2, f0, f3, rowAV, R38_6]
    exact .pure _ (by simp)
theorem value39 (r : List Val) : FnPure Tryz.prog 39 [eCst, rowAV r] (.tup [.agg [.int .i64 0, .int .i64 0, .str []] 3, .int .i64 0]) := by
  refine pureV c39 (by simp) (by simp) (by simp [A39]) fun F hF => ?_
  simp [A39, B39, R39_0, hF, eCst, R39_1, R39_2]
  exact .pure _ (by simp)
theorem eval15 (r : List Val) (hr : r.length ≤ 1048576) : FnPure Tryz.prog 15 [eCst, rowAV r] (.tup [.agg [.int .i64 0, .int .i64 0, .str []] 3, .int .i64 (bif r.all Val.may then 0 else 5)]) := by
  have hw := whole38 r hr
  generalize r.all Val.may = bb at hw ⊢
  refine pureV c15 (by simp) (by simp) (by simp [A15]) fun F hF => ?_
  simp [A15, B15, R15_0, hF, eCst, R15_1, rowAV]
  refine CalV.pure (right37 _) ?_
  simp [R15_3, hF, rowAV]
  refine CalV.pure hw ?_
  cases bb with
  | true =>
    simp [R15_5, hF, rowAV]
    refine CalV.pure (value39 r) ?_
    simp
    exact .pure _ (by simp)
  | false =>
    simp [R15_4]
    exact .pure _ (by simp)
theorem whole5 (r : List Val) (hr : r.length ≤ 1048576) : FnPure Tryz.prog 5 [rowAV r] (.bool (r.all Val.may)) := by
  have hw := eval15 r hr
  generalize r.all Val.may = bb at hw ⊢
  refine pureV c5 (by simp) (by simp) (by simp [A5]) fun F hF => ?_
  simp [A5, B5, R5_0, R5_1, hF, rowAV]
  refine CalV.pure hw ?_
  cases bb with
  | true =>
    simp [R5_2]
    exact .pure _ (by simp)
  | false =>
    simp [R5_2]
    exact .pure _ (by simp)
end Go.Abs
