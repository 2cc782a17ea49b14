/- A part. -/
import Derived.Test.YtfdoeenlgkkaiaaGreatRows
import Derived.JoinedOf
import Derived.KernelRfl
noncomputable section
namespace Go.Proofs.YtfdoeenlgkkaiaaGreat
set_option maxRecDepth 100000
theorem jWf:Rows.bindBindsUptoRow.wf (OpenSpec.ofChange (Rows.OpenSpec.upto Rows.bindBindsSpec).bare)=true:=by kernel_rfl
theorem acE:laidOutB Tryz.prog=true:=by kernel_rfl
end Go.Proofs.YtfdoeenlgkkaiaaGreat
