/- A part. -/
import Derived.Test.YtlhafglnokpioaaGreatVnJ1
import Derived.Test.YtlhafglnokpioaaGreatVnJ2
import Derived.Test.YtlhafglnokpioaaGreatVnJ3
import Derived.Test.YtlhafglnokpioaaGreatVnJ4
import Derived.Test.YtlhafglnokpioaaGreatVnJ5
import Derived.Test.YtlhafglnokpioaaGreatVnJ6
noncomputable section
namespace Go.Proofs.YtlhafglnokpioaaGreat
set_option maxRecDepth 100000
theorem closed:joinedFacts Tryz.prog 6 Tryz.f6 (Rows.OpenSpec.upto Rows.modelOneSpec).bare Rows.modelOneUptoRow=true:=by
 unfold joinedFacts;rw[art,arq,ars,arp,jWf,ac',al1,jMk,al2,jSt,jEn,jLi]
 kernel_rfl
end Go.Proofs.YtlhafglnokpioaaGreat
