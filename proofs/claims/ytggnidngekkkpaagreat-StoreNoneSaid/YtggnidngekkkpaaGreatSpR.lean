/- The run, its known calls told. -/
import Derived.Test.YtggnidngekkkpaaGreatSpK
import Derived.Test.YtggnidngekkkpaaGreatSpS
import Derived.Test.YtggnidngekkkpaaGreatSp4
import Derived.Test.YtggnidngekkkpaaGreatSp5
import Derived.Test.YtggnidngekkkpaaGreatSp6
namespace Go.Abs
open Go.Proofs Go.Proofs.YtggnidngekkkpaaGreat
set_option maxRecDepth 100000

theorem run3 : FnPure Tryz.prog 3 [] (.bool true) := FnPure.byRunS (ovS_ok (ovB_ok (ovSum_ok cSum)) (sgs_cons Sps4_ok (sgs_cons Sps5_ok (sgs_cons Sps6_ok sgs_nil)))) 1000 (by simp) (by simp) (by kernel_rfl)
end Go.Abs
