/- A part. -/
import Derived.Test.YtlhafglnokpioaaGreatRows
import Derived.JoinedOf
import Derived.KernelRfl
noncomputable section
namespace Go.Proofs.YtlhafglnokpioaaGreat
set_option maxRecDepth 100000
theorem av0:(Rows.modelTurnedUptoRow.inPlace == Tryz.prog.inPlace 5)=true:=by kernel_rfl
end Go.Proofs.YtlhafglnokpioaaGreat
