/- A part. -/
import Derived.Test.YtlhafglnokpioaaGreatRows
import Derived.JoinedOf
import Derived.KernelRfl
noncomputable section
namespace Go.Proofs.YtlhafglnokpioaaGreat
set_option maxRecDepth 100000
theorem jWf:Rows.modelTurnedUptoRow.wf (OpenSpec.ofChange (Rows.OpenSpec.upto Rows.modelTurnedSpec).bare)=true:=by kernel_rfl
theorem ag7:laidOutB Tryz.prog=true:=by kernel_rfl
end Go.Proofs.YtlhafglnokpioaaGreat
