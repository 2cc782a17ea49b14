/- A part. -/
import Derived.Test.YtbdgioomddkglaaGreatVmJ1
import Derived.Test.YtbdgioomddkglaaGreatVmJ2
import Derived.Test.YtbdgioomddkglaaGreatVmJ3
import Derived.Test.YtbdgioomddkglaaGreatVmJ4
import Derived.Test.YtbdgioomddkglaaGreatVmJ5
import Derived.Test.YtbdgioomddkglaaGreatVmJ6
noncomputable section
namespace Go.Proofs.YtbdgioomddkglaaGreat
set_option maxRecDepth 100000
theorem closed:joinedFacts Tryz.prog 3 Tryz.f3 (Rows.OpenSpec.upto Rows.vMStepsSpec).bare Rows.vMStepsUptoRow=true:=by
 unfold joinedFacts;rw[jInp,jUnf,jRec,jVar,jWf,jLaid,jMaps,jMk,jKeys,jSt,jEn,jLi]
 kernel_rfl
end Go.Proofs.YtbdgioomddkglaaGreat
