/- Facts of the law's frame, one by one. No condition. -/
import Derived.Test.YtfjkegbmlagleaaGreatRows
import Derived.JoinedOf
import Derived.KernelRfl
namespace Go.Proofs.YtfjkegbmlagleaaGreat
set_option maxRecDepth 100000

theorem jWf : Rows.auditNoneRow.wf (OpenSpec.ofChange Rows.auditNoneSpec) = true := by kernel_rfl
theorem jLaid : laidOutB Tryz.prog = true := by kernel_rfl
end Go.Proofs.YtfjkegbmlagleaaGreat
