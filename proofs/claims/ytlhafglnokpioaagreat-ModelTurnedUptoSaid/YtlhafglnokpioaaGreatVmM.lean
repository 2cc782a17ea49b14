/- A part. -/
import Derived.Test.YtlhafglnokpioaaGreatVmC
noncomputable section
namespace Go.Abs
open Go.Proofs
set_option maxRecDepth 100000
theorem agi:aj Tryz.prog 13 [] (.bool true):=aj.ar4 1000 ah ah (by kernel_rfl)
end Go.Abs
