/- A part. -/
import Derived.Test.YtlhafglnokpioaaGreatRows
import Derived.JoinedOf
import Derived.KernelRfl
noncomputable section
namespace Go.Proofs.YtlhafglnokpioaaGreat
set_option maxRecDepth 100000
theorem jWf:Rows.modelThreeUptoRow.wf (OpenSpec.ofChange (Rows.OpenSpec.upto Rows.modelThreeSpec).bare)=true:=by kernel_rfl
theorem aha:laidOutB Tryz.prog=true:=by kernel_rfl
end Go.Proofs.YtlhafglnokpioaaGreat
