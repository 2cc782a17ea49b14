/- Facts of the law's frame, one by one. No condition. -/
import Derived.Test.YtggnidngekkkpaaGreatSnJ1
import Derived.Test.YtggnidngekkkpaaGreatSnJ2
import Derived.Test.YtggnidngekkkpaaGreatSnJ3
import Derived.Test.YtggnidngekkkpaaGreatSnJ4
import Derived.Test.YtggnidngekkkpaaGreatSnJ5
import Derived.Test.YtggnidngekkkpaaGreatSnJ6
namespace Go.Proofs.YtggnidngekkkpaaGreat
set_option maxRecDepth 100000

theorem closed : joinedFacts Tryz.prog 3 Tryz.f3 Rows.storeNoneSpec Rows.storeNoneRow = true := by
  unfold joinedFacts
  rw [jInp, jUnf, jRec, jVar, jWf, jLaid, jMaps, jMk, jKeys, jSt, jEn, jLi]
  kernel_rfl
end Go.Proofs.YtggnidngekkkpaaGreat
