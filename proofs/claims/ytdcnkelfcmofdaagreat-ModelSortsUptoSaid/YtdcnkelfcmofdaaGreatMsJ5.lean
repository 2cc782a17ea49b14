/- Facts of the law's frame, one by one. No condition. -/
import Derived.Test.YtdcnkelfcmofdaaGreatRows
import Derived.JoinedOf
import Derived.KernelRfl
namespace Go.Proofs.YtdcnkelfcmofdaaGreat
set_option maxRecDepth 100000

theorem jWf : Rows.modelSortsUptoRow.wf (OpenSpec.ofChange (Rows.OpenSpec.upto Rows.modelSortsSpec).bare) = true := by kernel_rfl
theorem jLaid : laidOutB Tryz.prog = true := by kernel_rfl
end Go.Proofs.YtdcnkelfcmofdaaGreat
