/- Facts of the law's frame, one by one. No condition. -/
import Derived.Test.YthmkafloklnghaaGreatRows
import Derived.JoinedOf
import Derived.KernelRfl
namespace Go.Proofs.YthmkafloklnghaaGreat
set_option maxRecDepth 100000

theorem jWf : Rows.kernelPagesRow.wf (OpenSpec.ofChange Rows.kernelPagesSpec) = true := by kernel_rfl
theorem jLaid : laidOutB Tryz.prog = true := by kernel_rfl
end Go.Proofs.YthmkafloklnghaaGreat
