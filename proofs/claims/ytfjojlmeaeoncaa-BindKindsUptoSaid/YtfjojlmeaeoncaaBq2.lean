/- A part of the proof. -/
import Derived.Test.YtfjojlmeaeoncaaBq1
namespace Go.Abs
open Go.Proofs
set_option maxRecDepth 100000

mutual
/-- the shape of a bound expression -/
def Ex.right (n : Int) : Ex → Bool
  | .mk op v _ _ col args => if op = 1 then decide (args.length = 0) && v.may else if op = 3 then decide (args.length = 0) && (decide (0 ≤ col) && decide (col < n))
    else (wantE op).2 && (decide ((args.length : Int) = (wantE op).1.n) && Ex.rightL n args)
def Ex.rightL (n : Int) : List Ex → Bool
  | [] => true
  | e :: r => e.right n && Ex.rightL n r
end
theorem Ex.rightL_any (n : Int) (l : List Ex) : (l.any fun e => !e.right n) = !Ex.rightL n l := by
  induction l with
  | nil => rfl
  | cons e r ih => simp [Ex.rightL, ih]
theorem Ex.rightL_get {n : Int} {l : List Ex} (h : Ex.rightL n l = true) : ∀ i (hi : i < l.length), l[i].right n = true := by
  induction l with
  | nil => intro i hi; simp at hi
  | cons e r ih =>
    simp [Ex.rightL] at h
    intro i hi
    cases i with
    | zero => exact h.1
    | succ i => exact ih h.2 i (by simpa using hi)
theorem may57 (v : Val) : FnPure Try.prog 57 [v.av] (.bool v.may) := by
  obtain ⟨k, i, s⟩ := v
  refine pureV c57 (by simp) (by simp) (by simp [A57]) fun F hF => ?_
  simp only [Val.may]
  by_cases h0 : k = 0
  · subst h0
    by_cases hi : i = 0
    · simp [A57, B57, R57_0, R57_1, R57_2, hF, Val.av, hi]
      exact .bool (by simp)
    · simp [A57, B57, R57_0, R57_1, R57_2, hF, Val.av, hi]
      exact .bool (by simp)
  by_cases h1 : k = 1
  · subst h1
    simp [A57, B57, R57_0, R57_1, R57_3, R57_4, hF, Val.av]
    exact .bool (by simp)
  by_cases h2 : k = 2
  · subst h2
    by_cases hi : i = 0
    · simp [A57, B57, R57_0, R57_1, R57_3, R57_5, R57_6, hF, Val.av, hi]
      exact .bool (by simp; omega)
    · simp [A57, B57, R57_0, R57_1, R57_3, R57_5, R57_6, hF, Val.av, hi]
      exact .bool (by simp)
  by_cases h3 : k = 3
  · subst h3
    by_cases hs : s = []
    · by_cases hi : 0 ≤ i
      · simp [A57, B57, R57_0, R57_1, R57_3, R57_5, R57_7, hF, Val.av, hi, hs]
        exact .bool (by rw [Bool.eq_iff_iff]; simp; omega)
      · simp [A57, B57, R57_0, R57_1, R57_3, R57_5, R57_7, hF, Val.av, hi, hs]
        exact .bool (by simp; omega)
    · simp [A57, B57, R57_0, R57_1, R57_3, R57_5, R57_7, hF, Val.av, hs]
      exact .bool (by simp)
  simp [A57, B57, R57_0, R57_1, R57_3, R57_5, R57_7, hF, Val.av, h0, h1, h2, h3]
  exact .bool (by simp)

theorem right22' : ∀ (N : Nat) (e : Ex) (k : Int), e.sz ≤ N → N ≤ lim → FnPure Try.prog 22 [e.av, .int .i64 k] (.bool (e.right k))
  | 0, e, _, h, _ => by have := Ex.sz_pos e; omega
  | N + 1, .mk op v t m col args, k, ha, hN => by
    simp only [Ex.sz] at ha
    have hla := Ex.sz_len args
    refine pureV c22 (by simp) (by simp) (by simp [A22]) fun F hF => ?_
    simp only [Ex.right]
    by_cases h1 : op = 1
    · subst h1
      by_cases h0 : args = []
      · subst h0
        simp [A22, B22, R22_0, R22_1, R22_2, R22_3, hF, Ex.av, Ex.cells]
        refine CalV.pure (may52 v) ?_
        simp
        exact .bool (by simp)
      · simp [A22, B22, R22_0, R22_1, R22_2, R22_3, hF, Ex.av, Ex.cells, h0]
        exact .bool (by simp)
    by_cases h3 : op = 3
    · subst h3
      by_cases h0 : args = []
      · subst h0
        by_cases hc : 0 ≤ col
        · simp [A22, B22, R22_0, R22_1, R22_2, R22_4, R22_5, hF, Ex.av, Ex.cells, hc]
          exact .bool (by simp)
        · simp [A22, B22, R22_0, R22_1, R22_2, R22_4, R22_5, hF, Ex.av, Ex.cells, hc]
          exact .bool (by simp)
      · simp [A22, B22, R22_0, R22_1, R22_2, R22_4, R22_5, hF, Ex.av, Ex.cells, h0]
        exact .bool (by simp)
    rw [if_neg h1, if_neg h3]
    simp [A22, B22, R22_0, R22_1, R22_2, R22_4, R22_6, hF, Ex.av, Ex.cells, h1, h3]
    refine CalV.pure (wanted_pure op) ?_
    generalize wantE op = wo
    obtain ⟨⟨wn, wp, wk, wa, wl⟩, wok⟩ := wo
    cases wok with
    | false =>
      simp [Want.av, R22_7]
      exact .bool (by simp)
    | true =>
      by_cases hlen : (args.length : Int) = wn
      · simp [Want.av, R22_7, hlen]
        refine CalV.same (con_ok (xs := args) (p := fun e => !e.right k) c54 (idx_ok (el := Ex.av) (first := []) (cap := [.ptr 1 0]) c93 (by unfold lim at *; omega) (by simp) (fun i h => ⟨_, ixa_ex h, fun F H n h14 => by simp [h14]⟩) fun x hx => ?_)) ?_
        · refine CallR.forget (by simp) (CallR.of c55 (by simp [A55]) fun F hF => ?_)
          have hsx := Ex.sz_mem hx
          simp [A55, B55, R55_0, R55_1, hF]
          refine CalV.pure (right22' N x k (by omega) (by omega)) ?_
          simp
          intro b h1 h2
          subst h2
          simp at h1
        · simp [Ex.rightL_any]
          exact .bool (by simp)
      · simp [Want.av, R22_7, hlen]
        exact .bool (by simp)
theorem right22 (e : Ex) (k : Int) (h : e.sz ≤ lim) : FnPure Try.prog 22 [e.av, .int .i64 k] (.bool (e.right k)) := right22' lim e k h (Nat.le_refl _)
end Go.Abs
