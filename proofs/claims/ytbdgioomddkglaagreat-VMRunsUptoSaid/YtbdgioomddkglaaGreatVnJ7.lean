/- A part. -/
import Derived.Test.YtbdgioomddkglaaGreatVnJ1
import Derived.Test.YtbdgioomddkglaaGreatVnJ2
import Derived.Test.YtbdgioomddkglaaGreatVnJ3
import Derived.Test.YtbdgioomddkglaaGreatVnJ4
import Derived.Test.YtbdgioomddkglaaGreatVnJ5
import Derived.Test.YtbdgioomddkglaaGreatVnJ6
noncomputable section
namespace Go.Proofs.YtbdgioomddkglaaGreat
set_option maxRecDepth 100000
theorem closed:joinedFacts Tryz.prog 4 Tryz.f4 (Rows.OpenSpec.upto Rows.vMRunsSpec).bare Rows.vMRunsUptoRow=true:=by
 unfold joinedFacts;rw[arZ,arX,arY,arW,jWf,adq,amG,jMk,amH,jSt,jEn,jLi]
 kernel_rfl
end Go.Proofs.YtbdgioomddkglaaGreat
