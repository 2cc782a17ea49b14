/- A nil store, one that Open did not make, images that are none: AuditNone returns true. No condition. -/
import Derived.Test.YtfjkegbmlagleaaGreatAbsOv
import Derived.Test.YtfjkegbmlagleaaGreatRows
namespace Go.Abs
open Go.Proofs Go.Proofs.YtfjkegbmlagleaaGreat
set_option maxRecDepth 100000

theorem cSum : ctF Tryz.prog 357 = some AS := by kernel_rfl
theorem run3 : FnPure Tryz.prog 3 [] (.bool true) := FnPure.byRunO (ovSum_ok cSum) 1000 (by simp) (by simp) (by kernel_rfl)
end Go.Abs
