/- A part of the run: a call, from what it needs to what it comes to. -/
import Derived.Test.YtggnidngekkkpaaGreatSpK
import Derived.Test.YtggnidngekkkpaaGreatSpS
import Derived.Test.YtggnidngekkkpaaGreatSp1
import Derived.Test.YtggnidngekkkpaaGreatSp2
import Derived.Test.YtggnidngekkkpaaGreatSp3
namespace Go.Abs
open Go.Proofs Go.Proofs.YtggnidngekkkpaaGreat
set_option maxRecDepth 100000

theorem Sps4_run : sgRes Sps4 (fnCall Tryz.prog (runS Tryz.prog (ovS (ovB (ovSum 469)) [Sps1, Sps2, Sps3]) 1000) Sps4.g Sps4.args Sps4.H Sps4.n) = true := by kernel_rfl
theorem Sps4_ok : Sps4.Ok Tryz.prog := Sg.ofRun (runS_ok (ovS_ok (ovB_ok (ovSum_ok cSum)) (sgs_cons Sps1_ok (sgs_cons Sps2_ok (sgs_cons Sps3_ok sgs_nil)))) 1000) Sps4 Sps4_run
end Go.Abs
