/- A part of the run: a call, from what it needs to what it comes to. -/
import Derived.Test.YtggnidngekkkpaaGreatSpK
import Derived.Test.YtggnidngekkkpaaGreatSpS
namespace Go.Abs
open Go.Proofs Go.Proofs.YtggnidngekkkpaaGreat
set_option maxRecDepth 100000

theorem Sps3_run : sgRes Sps3 (fnCall Tryz.prog (runS Tryz.prog (ovS (ovB (ovSum 469)) []) 1000) Sps3.g Sps3.args Sps3.H Sps3.n) = true := by kernel_rfl
theorem Sps3_ok : Sps3.Ok Tryz.prog := Sg.ofRun (runS_ok (ovS_ok (ovB_ok (ovSum_ok cSum)) sgs_nil) 1000) Sps3 Sps3_run
end Go.Abs
