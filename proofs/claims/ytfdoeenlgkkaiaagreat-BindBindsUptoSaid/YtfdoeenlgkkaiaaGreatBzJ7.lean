/- A part. -/
import Derived.Test.YtfdoeenlgkkaiaaGreatBzJ1
import Derived.Test.YtfdoeenlgkkaiaaGreatBzJ2
import Derived.Test.YtfdoeenlgkkaiaaGreatBzJ3
import Derived.Test.YtfdoeenlgkkaiaaGreatBzJ4
import Derived.Test.YtfdoeenlgkkaiaaGreatBzJ5
import Derived.Test.YtfdoeenlgkkaiaaGreatBzJ6
noncomputable section
namespace Go.Proofs.YtfdoeenlgkkaiaaGreat
set_option maxRecDepth 100000
theorem closed:joinedFacts Tryz.prog 3 Tryz.f3 (Rows.OpenSpec.upto Rows.bindBindsSpec).bare Rows.bindBindsUptoRow=true:=by
 unfold joinedFacts;rw[avg,ave,avf,avd,jWf,acE,an_,jMk,an',jSt,jEn,jLi]
 kernel_rfl
end Go.Proofs.YtfdoeenlgkkaiaaGreat
