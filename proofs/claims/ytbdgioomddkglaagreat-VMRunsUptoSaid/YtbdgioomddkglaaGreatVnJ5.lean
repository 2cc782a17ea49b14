/- A part. -/
import Derived.Test.YtbdgioomddkglaaGreatRows
import Derived.JoinedOf
import Derived.KernelRfl
noncomputable section
namespace Go.Proofs.YtbdgioomddkglaaGreat
set_option maxRecDepth 100000
theorem jWf:Rows.vMRunsUptoRow.wf (OpenSpec.ofChange (Rows.OpenSpec.upto Rows.vMRunsSpec).bare)=true:=by kernel_rfl
theorem adq:laidOutB Tryz.prog=true:=by kernel_rfl
end Go.Proofs.YtbdgioomddkglaaGreat
