/- A part. -/
import Derived.Test.YtbdgioomddkglaaGreatRows
import Derived.JoinedOf
import Derived.KernelRfl
noncomputable section
namespace Go.Proofs.YtbdgioomddkglaaGreat
set_option maxRecDepth 100000
theorem jWf:Rows.vMStepsUptoRow.wf (OpenSpec.ofChange (Rows.OpenSpec.upto Rows.vMStepsSpec).bare)=true:=by kernel_rfl
theorem jLaid:laidOutB Tryz.prog=true:=by kernel_rfl
end Go.Proofs.YtbdgioomddkglaaGreat
