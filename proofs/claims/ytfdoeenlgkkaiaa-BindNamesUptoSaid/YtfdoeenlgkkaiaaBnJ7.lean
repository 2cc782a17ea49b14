/- Facts of the law's frame, one by one. No condition. -/
import Derived.Test.YtfdoeenlgkkaiaaBnJ1
import Derived.Test.YtfdoeenlgkkaiaaBnJ2
import Derived.Test.YtfdoeenlgkkaiaaBnJ3
import Derived.Test.YtfdoeenlgkkaiaaBnJ4
import Derived.Test.YtfdoeenlgkkaiaaBnJ5
import Derived.Test.YtfdoeenlgkkaiaaBnJ6
namespace Go.Proofs.Ytfdoeenlgkkaiaa
set_option maxRecDepth 100000
theorem closed : joinedFacts Try.prog 4 Try.f4 (Rows.OpenSpec.upto Rows.bindNamesSpec).bare Rows.bindNamesUptoRow = true:=by
 unfold joinedFacts
 rw [jInp,jUnf,jRec,jVar,jWf,jLaid,jMaps,jMk,jKeys,jSt,jEn,jLi]
 kernel_rfl
end Go.Proofs.Ytfdoeenlgkkaiaa
