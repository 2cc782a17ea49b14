/- Facts of the law's frame, one by one. No condition. -/
import Derived.Test.YthmkafloklnghaaGreatKnJ1
import Derived.Test.YthmkafloklnghaaGreatKnJ2
import Derived.Test.YthmkafloklnghaaGreatKnJ3
import Derived.Test.YthmkafloklnghaaGreatKnJ4
import Derived.Test.YthmkafloklnghaaGreatKnJ5
import Derived.Test.YthmkafloklnghaaGreatKnJ6
namespace Go.Proofs.YthmkafloklnghaaGreat
set_option maxRecDepth 100000

theorem closed : joinedFacts Tryz.prog 3 Tryz.f3 Rows.kernelPagesSpec Rows.kernelPagesRow = true := by
  unfold joinedFacts
  rw [jInp, jUnf, jRec, jVar, jWf, jLaid, jMaps, jMk, jKeys, jSt, jEn, jLi]
  kernel_rfl
end Go.Proofs.YthmkafloklnghaaGreat
