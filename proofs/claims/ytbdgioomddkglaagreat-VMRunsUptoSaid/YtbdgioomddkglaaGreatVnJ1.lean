/- A part. -/
import Derived.Test.YtbdgioomddkglaaGreatRows
import Derived.JoinedOf
import Derived.KernelRfl
noncomputable section
namespace Go.Proofs.YtbdgioomddkglaaGreat
set_option maxRecDepth 100000
theorem arZ:(Rows.vMRunsUptoRow.inPlace == Tryz.prog.inPlace 4)=true:=by kernel_rfl
end Go.Proofs.YtbdgioomddkglaaGreat
