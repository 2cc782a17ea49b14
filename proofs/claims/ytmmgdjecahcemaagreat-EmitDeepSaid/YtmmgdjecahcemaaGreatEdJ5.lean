/- Facts of the law's frame, one by one. No condition. -/
import Derived.Test.YtmmgdjecahcemaaGreatRows
import Derived.JoinedOf
import Derived.KernelRfl
namespace Go.Proofs.YtmmgdjecahcemaaGreat
set_option maxRecDepth 100000

theorem jWf : Rows.emitDeepRow.wf (OpenSpec.ofChange Rows.emitDeepSpec) = true := by kernel_rfl
theorem jLaid : laidOutB Tryz.prog = true := by kernel_rfl
end Go.Proofs.YtmmgdjecahcemaaGreat
