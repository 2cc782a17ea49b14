/- A part of the run: a call, from what it needs to what it comes to. -/
import Derived.Test.YtggnidngekkkpaaGreatSpK
import Derived.Test.YtggnidngekkkpaaGreatSpS
namespace Go.Abs
open Go.Proofs Go.Proofs.YtggnidngekkkpaaGreat
set_option maxRecDepth 100000

theorem Sps2_run : sgRes Sps2 (fnCall Tryz.prog (runS Tryz.prog (ovS (ovB (ovSum 469)) []) 1000) Sps2.g Sps2.args Sps2.H Sps2.n) = true := by kernel_rfl
theorem Sps2_ok : Sps2.Ok Tryz.prog := Sg.ofRun (runS_ok (ovS_ok (ovB_ok (ovSum_ok cSum)) sgs_nil) 1000) Sps2 Sps2_run
end Go.Abs
