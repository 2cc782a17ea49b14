/- A part of the run: a call, from what it needs to what it comes to. -/
import Derived.Test.YtggnidngekkkpaaGreatSwK
import Derived.Test.YtggnidngekkkpaaGreatSwS
namespace Go.Abs
open Go.Proofs Go.Proofs.YtggnidngekkkpaaGreat
set_option maxRecDepth 100000

theorem Sws1_run : sgRes Sws1 (fnCall Tryz.prog (runS Tryz.prog (ovS (ovB (ovSum 469)) []) 1000) Sws1.g Sws1.args Sws1.H Sws1.n) = true := by kernel_rfl
theorem Sws1_ok : Sws1.Ok Tryz.prog := Sg.ofRun (runS_ok (ovS_ok (ovB_ok (ovSum_ok cSumW)) sgs_nil) 1000) Sws1 Sws1_run
end Go.Abs
