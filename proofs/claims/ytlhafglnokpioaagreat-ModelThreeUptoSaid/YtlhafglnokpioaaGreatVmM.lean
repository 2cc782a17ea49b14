/- A part. -/
import Derived.Test.YtlhafglnokpioaaGreatVmC
noncomputable section
namespace Go.Abs
open Go.Proofs
set_option maxRecDepth 100000
theorem agp:aj Tryz.prog 13 [] (.bool true):=aj.asd 1000 ai ai (by kernel_rfl)
end Go.Abs
