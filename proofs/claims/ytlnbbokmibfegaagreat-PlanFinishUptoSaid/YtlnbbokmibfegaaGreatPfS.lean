/- PlanFinish: the chapter's query, its plan and what it comes to, run. No condition. -/
import Derived.Test.YtlnbbokmibfegaaGreatAbs5
import Derived.KernelRfl
import Derived.Test.YtlnbbokmibfegaaGreatProg
namespace Go.Abs
open Go.Proofs
set_option maxRecDepth 100000
theorem awake4 : FnPure Tryz.prog 4 [] (.bool true) := FnPure.byRun 1000 (by simp) (by simp) (by kernel_rfl)
end Go.Abs
