/- The run, from one written state to the next. -/
import Derived.Test.YtfemcmocaojabaaGreatVn0
namespace Go.Abs
open Go.Proofs Go.Proofs.YtfemcmocaojabaaGreat
set_option maxRecDepth 100000

theorem vmMid14 : chMid Tryz.prog (run Tryz.prog 1000) 6 512 (vmS 3584) (vmS 3840) = true := by kernel_rfl
end Go.Abs
