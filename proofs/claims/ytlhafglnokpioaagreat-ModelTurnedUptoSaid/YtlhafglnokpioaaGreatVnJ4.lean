/- A part. -/
import Derived.Test.YtlhafglnokpioaaGreatRows
import Derived.JoinedOf
import Derived.KernelRfl
noncomputable section
namespace Go.Proofs.YtlhafglnokpioaaGreat
set_option maxRecDepth 100000
theorem avX:(Rows.modelTurnedUptoRow.named == Tryz.prog.varsNamed 5)=true:=by kernel_rfl
end Go.Proofs.YtlhafglnokpioaaGreat
