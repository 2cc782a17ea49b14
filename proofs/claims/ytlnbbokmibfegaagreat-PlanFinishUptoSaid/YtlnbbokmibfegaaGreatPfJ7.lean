/- Facts of the law's frame, one by one. No condition. -/
import Derived.Test.YtlnbbokmibfegaaGreatPfJ1
import Derived.Test.YtlnbbokmibfegaaGreatPfJ2
import Derived.Test.YtlnbbokmibfegaaGreatPfJ3
import Derived.Test.YtlnbbokmibfegaaGreatPfJ4
import Derived.Test.YtlnbbokmibfegaaGreatPfJ5
import Derived.Test.YtlnbbokmibfegaaGreatPfJ6
namespace Go.Proofs.YtlnbbokmibfegaaGreat
set_option maxRecDepth 100000

theorem closed : joinedFacts Tryz.prog 3 Tryz.f3 (Rows.OpenSpec.upto Rows.planFinishSpec).bare Rows.planFinishUptoRow = true := by
  unfold joinedFacts
  rw [jInp, jUnf, jRec, jVar, jWf, jLaid, jMaps, jMk, jKeys, jSt, jEn, jLi]
  kernel_rfl
end Go.Proofs.YtlnbbokmibfegaaGreat
