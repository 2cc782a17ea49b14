/- A part. -/
import Derived.Test.YtlhafglnokpioaaGreatVmC
noncomputable section
namespace Go.Abs
open Go.Proofs
set_option maxRecDepth 100000
theorem aci:ae Tryz.prog 13 [] (.bool true):=ae.an9 1000 (by simp) (by simp) (by kernel_rfl)
end Go.Abs
