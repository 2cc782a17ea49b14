/- A part of the run: a call, from what it needs to what it comes to. -/
import Derived.Test.YtggnidngekkkpaaGreatSwK
import Derived.Test.YtggnidngekkkpaaGreatSwS
import Derived.Test.YtggnidngekkkpaaGreatSw1
import Derived.Test.YtggnidngekkkpaaGreatSw2
import Derived.Test.YtggnidngekkkpaaGreatSw3
namespace Go.Abs
open Go.Proofs Go.Proofs.YtggnidngekkkpaaGreat
set_option maxRecDepth 100000

theorem Sws4_run : sgRes Sws4 (fnCall Tryz.prog (runS Tryz.prog (ovS (ovB (ovSum 469)) [Sws1, Sws2, Sws3]) 1000) Sws4.g Sws4.args Sws4.H Sws4.n) = true := by kernel_rfl
theorem Sws4_ok : Sws4.Ok Tryz.prog := Sg.ofRun (runS_ok (ovS_ok (ovB_ok (ovSum_ok cSumW)) (sgs_cons Sws1_ok (sgs_cons Sws2_ok (sgs_cons Sws3_ok sgs_nil)))) 1000) Sws4 Sws4_run
end Go.Abs
