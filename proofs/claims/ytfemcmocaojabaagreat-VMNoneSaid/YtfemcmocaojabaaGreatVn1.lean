/- A program that emits without end ends, of too many rows; the other examples of the chapter. -/
import Derived.Test.YtfemcmocaojabaaGreatVnA
import Derived.Test.YtfemcmocaojabaaGreatVnE
import Derived.Test.YtfemcmocaojabaaGreatVnP0
import Derived.Test.YtfemcmocaojabaaGreatVnP1
import Derived.Test.YtfemcmocaojabaaGreatVnP2
import Derived.Test.YtfemcmocaojabaaGreatVnP3
import Derived.Test.YtfemcmocaojabaaGreatVnP4
import Derived.Test.YtfemcmocaojabaaGreatVnP5
import Derived.Test.YtfemcmocaojabaaGreatVnP6
import Derived.Test.YtfemcmocaojabaaGreatVnP7
import Derived.Test.YtfemcmocaojabaaGreatVnP8
import Derived.Test.YtfemcmocaojabaaGreatVnP9
import Derived.Test.YtfemcmocaojabaaGreatVnP10
import Derived.Test.YtfemcmocaojabaaGreatVnP11
import Derived.Test.YtfemcmocaojabaaGreatVnP12
import Derived.Test.YtfemcmocaojabaaGreatVnP13
import Derived.Test.YtfemcmocaojabaaGreatVnP14
import Derived.Test.YtfemcmocaojabaaGreatVnP15
namespace Go.Abs
open Go.Proofs Go.Proofs.YtfemcmocaojabaaGreat
set_option maxRecDepth 100000

theorem vmRun : FnPure Tryz.prog 6 vmArgs vmOut := FnPure.pieces (run_ok (P := Tryz.prog) 1000) (by simp [vmArgs, vmCode, vmC, vmWorld, Pure, atom]) (by simp [vmOut, Pure, atom]) vmPre (.cons _ _ _ _ vmMid0 (.cons _ _ _ _ vmMid1 (.cons _ _ _ _ vmMid2 (.cons _ _ _ _ vmMid3 (.cons _ _ _ _ vmMid4 (.cons _ _ _ _ vmMid5 (.cons _ _ _ _ vmMid6 (.cons _ _ _ _ vmMid7 (.cons _ _ _ _ vmMid8 (.cons _ _ _ _ vmMid9 (.cons _ _ _ _ vmMid10 (.cons _ _ _ _ vmMid11 (.cons _ _ _ _ vmMid12 (.cons _ _ _ _ vmMid13 (.cons _ _ _ _ vmMid14 (.cons _ _ _ _ vmMid15 (.nil _))))))))))))))))) vmEnd
theorem run3 : FnPure Tryz.prog 3 [] (.bool true) := FnPure.byRunO (ovOne_ok vmRun (by simp [Flat, FlatL, vmOut])) 1000 (by simp) (by simp) (by kernel_rfl)
end Go.Abs
