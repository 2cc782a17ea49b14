/- A part of the run: a call, from what it needs to what it comes to. -/
import Derived.Test.YtggnidngekkkpaaGreatSpK
import Derived.Test.YtggnidngekkkpaaGreatSpS
namespace Go.Abs
open Go.Proofs Go.Proofs.YtggnidngekkkpaaGreat
set_option maxRecDepth 100000

theorem Sps1_run : sgRes Sps1 (fnCall Tryz.prog (runS Tryz.prog (ovS (ovB (ovSum 469)) []) 1000) Sps1.g Sps1.args Sps1.H Sps1.n) = true := by kernel_rfl
theorem Sps1_ok : Sps1.Ok Tryz.prog := Sg.ofRun (runS_ok (ovS_ok (ovB_ok (ovSum_ok cSum)) sgs_nil) 1000) Sps1 Sps1_run
end Go.Abs
