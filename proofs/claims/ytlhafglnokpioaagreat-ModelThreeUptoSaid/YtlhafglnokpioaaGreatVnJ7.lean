/- A part. -/
import Derived.Test.YtlhafglnokpioaaGreatVnJ1
import Derived.Test.YtlhafglnokpioaaGreatVnJ2
import Derived.Test.YtlhafglnokpioaaGreatVnJ3
import Derived.Test.YtlhafglnokpioaaGreatVnJ4
import Derived.Test.YtlhafglnokpioaaGreatVnJ5
import Derived.Test.YtlhafglnokpioaaGreatVnJ6
noncomputable section
namespace Go.Proofs.YtlhafglnokpioaaGreat
set_option maxRecDepth 100000
theorem closed:joinedFacts Tryz.prog 4 Tryz.f4 (Rows.OpenSpec.upto Rows.modelThreeSpec).bare Rows.modelThreeUptoRow=true:=by
 unfold joinedFacts;rw[awq,awo,awp,awn,jWf,aha,ap1,jMk,ap2,jSt,jEn,jLi]
 kernel_rfl
end Go.Proofs.YtlhafglnokpioaaGreat
