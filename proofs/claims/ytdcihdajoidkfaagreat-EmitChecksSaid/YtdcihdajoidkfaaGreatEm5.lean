/- A part of the proof. -/
import Derived.Test.YtdcihdajoidkfaaGreatEm4
namespace Go.Abs
open Go.Proofs
set_option maxRecDepth 100000

theorem awake6 : FnPure Tryz.prog 6 [] (.bool true) := FnPure.byRun 1000 (by simp) (by simp) (by kernel_rfl)

theorem checks3 (c : Cod) : FnPure Tryz.prog 3 [c.av] (.bool true) := by
  refine pureV c3 (by simp) (by simp) (by simp [A3]) fun F hF => ?_
  simp [A3, B3, R3_0, hF, Cod.av, Cod.cells, R3_1]
  refine DrwV.of (ceT_ok (l := [(4, [c.av], fun H n => .mk (.int .i64 c.chk) H n), (5, [c.av], fun H n => .mk (.int .i64 c.chk) H n), (6, [], fun H n => .mk (.bool true) H n)]) ?_) ?_
  · intro x hx
    simp only [List.mem_cons, List.not_mem_nil, or_false] at hx
    rcases hx with rfl | rfl | rfl
    · exact ceT_pure (chk4 c)
    · exact ceT_pure (chk5 c)
    · exact ceT_pure awake6
  · simp [clearF_get, hF]
    rw [show [AV.agg [AV.int IntKind.i64 c.regs, AV.int IntKind.i64 c.cur, AV.ds (insC c.l) c.l.length 15] 3] = [c.av] from rfl, ceT_hd]
    simp [clearF_get, hF]
    rw [show [AV.agg [AV.int IntKind.i64 c.regs, AV.int IntKind.i64 c.cur, AV.ds (insC c.l) c.l.length 15] 3] = [c.av] from rfl, ceT_tl (fun h => absurd h (by decide)), ceT_hd]
    simp [clearF_get, hF]
    rw [ceT_tl (fun h => absurd h (by decide)), ceT_tl (fun h => absurd h (by decide)), ceT_hd]
    simp [clearF_get, hF]
    exact .bool rfl
end Go.Abs
