/- A part of the proof. -/
import Derived.Test.YtmmgdjecahcemaaGreatBq1
namespace Go.Abs
open Go.Proofs
set_option maxRecDepth 100000

/-! ### lists of numbers -/
def intsC (l : List Int) : List AV := l.map (.int .i64)
@[simp] theorem intsC_len (l : List Int) : (intsC l).length = l.length := by simp [intsC]
@[simp] theorem intsC_pure (l : List Int) : PureL (intsC l) := PureL.of_mem fun v hv => by
  simp only [intsC, List.mem_map] at hv
  obtain ⟨i, _, rfl⟩ := hv
  simp
@[simp] theorem intsC_one (l : List Int) : allOne (intsC l) = true := by
  induction l with
  | nil => rfl
  | cons a r ih => simp only [intsC, List.map_cons, allOne_cons, one_int, Bool.true_and]; exact ih
theorem intsC_append (a b : List Int) : intsC (a ++ b) = intsC a ++ intsC b := by simp [intsC]
theorem intsC_drop (l : List Int) (i : Nat) (h : i < l.length) : (intsC l).drop i = .int .i64 l[i] :: intsC (l.drop (i + 1)) := by
  unfold intsC
  rw [← List.map_drop, List.drop_eq_getElem_cons h]; rfl
theorem ixa_int {l : List Int} {i : Nat} {k : IntKind} (h : i < l.length) : cIxa 1 (.ds (intsC l) l.length 1) (.int k (i : Int)) = .val (.dp (.int .i64 l[i] :: intsC (l.drop (i + 1)))) := by
  rw [cIxa_ds h, Nat.mul_one, intsC_drop l i h]

/-- do parts' kinds fit an operator? -/
def Want.fits (w : Want) (l : List Int) : Bool :=
  if w.any = true then !w.alike || (decide (l.getD 0 0 = l.getD 1 0) || (decide (l.getD 0 0 = 0) || decide (l.getD 1 0 = 0))) else !(l.any fun k => decide (k ≠ 0) && decide (k ≠ w.part))
theorem fits95 {H : Hp} {n b : Nat} (w : Want) (k : Int) (hb : H.get b = some (.cells 5 [] [.int .i64 w.n, .int .i64 w.part, .int .i64 w.kind, .bool w.any, .bool w.alike] .nil)) :
    CallR Tryz.prog 112 [.int .i64 k, .ptr b 0] H n (fun u K j => u = .bool (decide (k ≠ 0) && decide (k ≠ w.part)) ∧ K = H ∧ j = n) := by
  refine CallR.of c112 (by simp [A112]) fun F hF => ?_
  by_cases h0 : k = 0
  · simp [A112, B112, R112_0, R112_1, hF, h0]
  · simp [A112, B112, R112_0, R112_1, hF, hb, h0]
theorem fits56 (w : Want) (l : List Int) (hl : l.length ≤ lim) (h2 : w.any = true → w.alike = true → 2 ≤ l.length) : FnPure Tryz.prog 102 [w.av, .ds (intsC l) l.length 1] (.bool (w.fits l)) := by
  obtain ⟨wn, wp, wk, wa, wl⟩ := w
  refine pureV c102 (by simp) (by simp) (by simp [A102]) fun F hF => ?_
  simp only [Want.fits]
  cases wa with
  | false =>
    simp [A102, B102, R102_0, R102_1, R102_2, hF, Want.av]
    refine CalV.same (con_ok (xs := l) (p := fun k => decide (k ≠ 0) && decide (k ≠ wp)) c111 (idx_ok (el := fun k => .int .i64 k) (first := []) (cap := [.ptr 0 0]) c115 hl (by simp) (fun i h => ⟨_, ixa_int h, fun F H n h14 => by simp [h14]⟩) fun x hx => fits95 ⟨wn, wp, wk, false, wl⟩ x (by simp))) ?_
    simp
    exact .bool (by simp)
  | true =>
    cases wl with
    | false =>
      simp [A102, B102, R102_0, R102_1, R102_3, hF, Want.av]
      refine DrwV.of (ce0_ok (P := Tryz.prog)) ?_
      simp [clearF_get]
      exact .bool (by simp)
    | true =>
      have h2 := h2 rfl rfl
      match l, h2 with
      | a :: b :: r, _ =>
        have x0 : cIxa 1 (.ds (intsC (a :: b :: r)) (r.length + 1 + 1) 1) (.int .i64 0) = .val (.dp (.int .i64 a :: intsC (b :: r))) := by
          have := ixa_int (l := a :: b :: r) (i := 0) (k := .i64) (by simp)
          simpa using this
        have x1 : cIxa 1 (.ds (intsC (a :: b :: r)) (r.length + 1 + 1) 1) (.int .i64 1) = .val (.dp (.int .i64 b :: intsC r)) := by
          have := ixa_int (l := a :: b :: r) (i := 1) (k := .i64) (by simp)
          simpa using this
        simp [A102, B102, R102_0, R102_1, R102_3, hF, Want.av]
        refine DrwV.of (ce0_ok (P := Tryz.prog)) ?_
        by_cases e1 : a = b
        · subst e1
          simp [clearF_get, hF, x0, x1]
          exact .bool (by simp)
        · by_cases e2 : a = 0
          · subst e2
            simp [clearF_get, hF, x0, x1, e1]
            exact .bool (by simp)
          · simp [clearF_get, hF, x0, x1, e1, e2]
            exact .bool (by simp)
end Go.Abs
