/- Facts of the law's frame, one by one. No condition. -/
import Derived.Test.YtfjkegbmlagleaaGreatAuJ1
import Derived.Test.YtfjkegbmlagleaaGreatAuJ2
import Derived.Test.YtfjkegbmlagleaaGreatAuJ3
import Derived.Test.YtfjkegbmlagleaaGreatAuJ4
import Derived.Test.YtfjkegbmlagleaaGreatAuJ5
import Derived.Test.YtfjkegbmlagleaaGreatAuJ6
namespace Go.Proofs.YtfjkegbmlagleaaGreat
set_option maxRecDepth 100000

theorem closed : joinedFacts Tryz.prog 3 Tryz.f3 Rows.auditNoneSpec Rows.auditNoneRow = true := by
  unfold joinedFacts
  rw [jInp, jUnf, jRec, jVar, jWf, jLaid, jMaps, jMk, jKeys, jSt, jEn, jLi]
  kernel_rfl
end Go.Proofs.YtfjkegbmlagleaaGreat
