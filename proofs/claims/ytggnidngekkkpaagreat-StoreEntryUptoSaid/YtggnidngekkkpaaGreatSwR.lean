/- The run, its known calls told. -/
import Derived.Test.YtggnidngekkkpaaGreatSwK
import Derived.Test.YtggnidngekkkpaaGreatSwS
import Derived.Test.YtggnidngekkkpaaGreatSw4
import Derived.Test.YtggnidngekkkpaaGreatSw5
import Derived.Test.YtggnidngekkkpaaGreatSw6
namespace Go.Abs
open Go.Proofs Go.Proofs.YtggnidngekkkpaaGreat
set_option maxRecDepth 100000

theorem run22 : FnPure Tryz.prog 22 [] (.bool true) := FnPure.byRunS (ovS_ok (ovB_ok (ovSum_ok cSumW)) (sgs_cons Sws4_ok (sgs_cons Sws5_ok (sgs_cons Sws6_ok sgs_nil)))) 1000 (by simp) (by simp) (by kernel_rfl)
end Go.Abs
