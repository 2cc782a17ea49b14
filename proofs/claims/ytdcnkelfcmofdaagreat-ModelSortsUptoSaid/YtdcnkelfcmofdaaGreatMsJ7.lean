/- Facts of the law's frame, one by one. No condition. -/
import Derived.Test.YtdcnkelfcmofdaaGreatMsJ1
import Derived.Test.YtdcnkelfcmofdaaGreatMsJ2
import Derived.Test.YtdcnkelfcmofdaaGreatMsJ3
import Derived.Test.YtdcnkelfcmofdaaGreatMsJ4
import Derived.Test.YtdcnkelfcmofdaaGreatMsJ5
import Derived.Test.YtdcnkelfcmofdaaGreatMsJ6
namespace Go.Proofs.YtdcnkelfcmofdaaGreat
set_option maxRecDepth 100000

theorem closed : joinedFacts Tryz.prog 3 Tryz.f3 (Rows.OpenSpec.upto Rows.modelSortsSpec).bare Rows.modelSortsUptoRow = true := by
  unfold joinedFacts
  rw [jInp, jUnf, jRec, jVar, jWf, jLaid, jMaps, jMk, jKeys, jSt, jEn, jLi]
  kernel_rfl
end Go.Proofs.YtdcnkelfcmofdaaGreat
