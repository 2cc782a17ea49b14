/- The examples' run. -/
import Derived.Test.YtfdoeenlgkkaiaaBt11
namespace Go.Abs
open Go.Proofs
set_option maxRecDepth 100000
theorem awake7 : FnPure Try.prog 7 [] (.bool true):=FnPure.byRun 1000 (by simp) (by simp) (by kernel_rfl)
end Go.Abs
