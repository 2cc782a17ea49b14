/- The run, from one written state to the next. -/
import Derived.Test.YtfemcmocaojabaaGreatVn0
namespace Go.Abs
open Go.Proofs Go.Proofs.YtfemcmocaojabaaGreat
set_option maxRecDepth 100000

theorem vmEnd : chEnd Tryz.prog (run Tryz.prog 1000) 6 (vmS 4096) vmOut = true := by kernel_rfl
end Go.Abs
