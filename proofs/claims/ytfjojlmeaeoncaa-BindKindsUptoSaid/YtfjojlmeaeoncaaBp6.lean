/- A part of the proof. -/
import Derived.Test.YtfjojlmeaeoncaaBp5
namespace Go.Abs
open Go.Proofs
set_option maxRecDepth 100000

theorem awake9 : FnPure Try.prog 9 [] (.bool true) := FnPure.byRun 1000 (by simp) (by simp) (by kernel_rfl)

theorem parts4 (e : Ex) (h : e.sz ≤ lim) : FnPure Try.prog 4 [e.av] (.bool true) := by
  obtain ⟨op, v, t, m, col, args⟩ := e
  have hs := Ex.split_sz _ _ (Nat.le_refl (Ex.mk op v t m col args).sz)
  refine pureV c4 (by simp) (by simp) (by simp [A4]) fun F hF => ?_
  simp [A4, B4, R4_0, R4_1, R4_2, hF, Ex.av, Ex.cells]
  refine CalV.own (conj10 (.mk op v t m col args) h) ?_
  simp
  refine CalV.own (split12 (.mk op v t m col args) h) ?_
  simp
  refine CalV.frz (sameL11 (Ex.mk op v t m col args).split (Ex.mk op v t m col args).split (by omega) (by omega)) (by simp) ?_ ?_
  · refine .cons _ _ _ _ ?_ (.cons _ _ _ _ ?_ .nil)
    · exact (OwnS.frz (n := 2) ⟨by simp, .inr ⟨1, _, rfl, by omega, by simp; rfl, .list (by simp)⟩⟩ (.pure (by simp)))
    · exact (OwnS.frz (n := 3) ⟨by simp, .inr ⟨2, _, rfl, by omega, by simp; rfl, .list (by simp)⟩⟩ (.pure (by simp)))
  · simp [Ex.sameL_self]
    refine CalV.pure awake9 ?_
    simp
    exact .bool rfl
end Go.Abs
