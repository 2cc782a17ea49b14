/- Facts of the law's frame, one by one. No condition. -/
import Derived.Test.YtggnidngekkkpaaGreatSeJ1
import Derived.Test.YtggnidngekkkpaaGreatSeJ2
import Derived.Test.YtggnidngekkkpaaGreatSeJ3
import Derived.Test.YtggnidngekkkpaaGreatSeJ4
import Derived.Test.YtggnidngekkkpaaGreatSeJ5
import Derived.Test.YtggnidngekkkpaaGreatSeJ6
namespace Go.Proofs.YtggnidngekkkpaaGreat
set_option maxRecDepth 100000

theorem closed : joinedFacts Tryz.prog 4 Tryz.f4 (Rows.OpenSpec.upto Rows.storeEntrySpec).bare Rows.storeEntryUptoRow = true := by
  unfold joinedFacts
  rw [jInp, jUnf, jRec, jVar, jWf, jLaid, jMaps, jMk, jKeys, jSt, jEn, jLi]
  kernel_rfl
end Go.Proofs.YtggnidngekkkpaaGreat
