/- A part. -/
import Derived.Test.YtlhafglnokpioaaGreatVnJ1
import Derived.Test.YtlhafglnokpioaaGreatVnJ2
import Derived.Test.YtlhafglnokpioaaGreatVnJ3
import Derived.Test.YtlhafglnokpioaaGreatVnJ4
import Derived.Test.YtlhafglnokpioaaGreatVnJ5
import Derived.Test.YtlhafglnokpioaaGreatVnJ6
noncomputable section
namespace Go.Proofs.YtlhafglnokpioaaGreat
set_option maxRecDepth 100000
theorem closed:joinedFacts Tryz.prog 5 Tryz.f5 (Rows.OpenSpec.upto Rows.modelTurnedSpec).bare Rows.modelTurnedUptoRow=true:=by
 unfold joinedFacts;rw[av0,avY,avZ,avX,jWf,ag7,apT,jMk,apU,jSt,jEn,jLi]
 kernel_rfl
end Go.Proofs.YtlhafglnokpioaaGreat
