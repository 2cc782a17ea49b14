/- Facts of the law's frame, one by one. No condition. -/
import Derived.Test.YtlnbbokmibfegaaGreatRows
import Derived.JoinedOf
import Derived.KernelRfl
namespace Go.Proofs.YtlnbbokmibfegaaGreat
set_option maxRecDepth 100000

theorem jWf : Rows.planFinishUptoRow.wf (OpenSpec.ofChange (Rows.OpenSpec.upto Rows.planFinishSpec).bare) = true := by kernel_rfl
theorem jLaid : laidOutB Tryz.prog = true := by kernel_rfl
end Go.Proofs.YtlnbbokmibfegaaGreat
