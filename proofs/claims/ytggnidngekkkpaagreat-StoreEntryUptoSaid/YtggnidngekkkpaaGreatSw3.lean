/- A part of the run: a call, from what it needs to what it comes to. -/
import Derived.Test.YtggnidngekkkpaaGreatSwK
import Derived.Test.YtggnidngekkkpaaGreatSwS
namespace Go.Abs
open Go.Proofs Go.Proofs.YtggnidngekkkpaaGreat
set_option maxRecDepth 100000

theorem Sws3_run : sgRes Sws3 (fnCall Tryz.prog (runS Tryz.prog (ovS (ovB (ovSum 469)) []) 1000) Sws3.g Sws3.args Sws3.H Sws3.n) = true := by kernel_rfl
theorem Sws3_ok : Sws3.Ok Tryz.prog := Sg.ofRun (runS_ok (ovS_ok (ovB_ok (ovSum_ok cSumW)) sgs_nil) 1000) Sws3 Sws3_run
end Go.Abs
