/- A part of the run: a call, from what it needs to what it comes to. -/
import Derived.Test.YtggnidngekkkpaaGreatSwK
import Derived.Test.YtggnidngekkkpaaGreatSwS
namespace Go.Abs
open Go.Proofs Go.Proofs.YtggnidngekkkpaaGreat
set_option maxRecDepth 100000

theorem Sws2_run : sgRes Sws2 (fnCall Tryz.prog (runS Tryz.prog (ovS (ovB (ovSum 469)) []) 1000) Sws2.g Sws2.args Sws2.H Sws2.n) = true := by kernel_rfl
theorem Sws2_ok : Sws2.Ok Tryz.prog := Sg.ofRun (runS_ok (ovS_ok (ovB_ok (ovSum_ok cSumW)) sgs_nil) 1000) Sws2 Sws2_run
end Go.Abs
