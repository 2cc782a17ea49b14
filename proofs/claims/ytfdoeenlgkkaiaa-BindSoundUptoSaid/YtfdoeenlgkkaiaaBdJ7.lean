/- Facts of the law's frame, one by one. No condition. -/
import Derived.Test.YtfdoeenlgkkaiaaBdJ1
import Derived.Test.YtfdoeenlgkkaiaaBdJ2
import Derived.Test.YtfdoeenlgkkaiaaBdJ3
import Derived.Test.YtfdoeenlgkkaiaaBdJ4
import Derived.Test.YtfdoeenlgkkaiaaBdJ5
import Derived.Test.YtfdoeenlgkkaiaaBdJ6
namespace Go.Proofs.Ytfdoeenlgkkaiaa
set_option maxRecDepth 100000
theorem closed : joinedFacts Try.prog 3 Try.f3 (Rows.OpenSpec.upto Rows.bindSoundSpec).bare Rows.bindSoundUptoRow = true := by
 unfold joinedFacts
 rw [jInp, jUnf, jRec, jVar, jWf, jLaid, jMaps, jMk, jKeys, jSt, jEn, jLi]
 kernel_rfl
end Go.Proofs.Ytfdoeenlgkkaiaa
