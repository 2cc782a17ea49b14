/- A part. -/
import Derived.Test.YtfdoeenlgkkaiaaGreatRows
import Derived.JoinedOf
import Derived.KernelRfl
noncomputable section
namespace Go.Proofs.YtfdoeenlgkkaiaaGreat
set_option maxRecDepth 100000
theorem avf:(Rows.bindBindsUptoRow.recurses == Tryz.prog.recurses 3)=true:=by kernel_rfl
end Go.Proofs.YtfdoeenlgkkaiaaGreat
