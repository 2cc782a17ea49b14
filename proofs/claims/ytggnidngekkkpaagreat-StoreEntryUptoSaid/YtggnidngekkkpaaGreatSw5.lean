/- A part of the run: a call, from what it needs to what it comes to. -/
import Derived.Test.YtggnidngekkkpaaGreatSwK
import Derived.Test.YtggnidngekkkpaaGreatSwS
namespace Go.Abs
open Go.Proofs Go.Proofs.YtggnidngekkkpaaGreat
set_option maxRecDepth 100000

theorem Sws5_run : sgRes Sws5 (fnCall Tryz.prog (runS Tryz.prog (ovS (ovB (ovSum 469)) []) 1000) Sws5.g Sws5.args Sws5.H Sws5.n) = true := by kernel_rfl
theorem Sws5_ok : Sws5.Ok Tryz.prog := Sg.ofRun (runS_ok (ovS_ok (ovB_ok (ovSum_ok cSumW)) sgs_nil) 1000) Sws5 Sws5_run
end Go.Abs
