/- Facts of the law's frame, one by one. No condition. -/
import Derived.Test.YtmmgdjecahcemaaGreatEdJ1
import Derived.Test.YtmmgdjecahcemaaGreatEdJ2
import Derived.Test.YtmmgdjecahcemaaGreatEdJ3
import Derived.Test.YtmmgdjecahcemaaGreatEdJ4
import Derived.Test.YtmmgdjecahcemaaGreatEdJ5
import Derived.Test.YtmmgdjecahcemaaGreatEdJ6
namespace Go.Proofs.YtmmgdjecahcemaaGreat
set_option maxRecDepth 100000

theorem closed : joinedFacts Tryz.prog 3 Tryz.f3 Rows.emitDeepSpec Rows.emitDeepRow = true := by
  unfold joinedFacts
  rw [jInp, jUnf, jRec, jVar, jWf, jLaid, jMaps, jMk, jKeys, jSt, jEn, jLi]
  kernel_rfl
end Go.Proofs.YtmmgdjecahcemaaGreat
