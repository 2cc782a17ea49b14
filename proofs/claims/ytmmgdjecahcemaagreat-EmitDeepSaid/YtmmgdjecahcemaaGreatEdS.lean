/- Two closed runs. -/
import Derived.Test.YtmmgdjecahcemaaGreatEdC
namespace Go.Abs
open Go.Proofs
set_option maxRecDepth 100000
theorem awake4 : FnPure Tryz.prog 4 [] (.bool true) := FnPure.byRun 1000 (by simp) (by simp) (by kernel_rfl)
theorem may23e : FnPure Tryz.prog 23 [.agg [.cst (.slice none 0 0), .cst (.slice none 0 0)] 2] (.bool true) := FnPure.byRun 1000 (by simp) (by simp) (by kernel_rfl)
end Go.Abs
