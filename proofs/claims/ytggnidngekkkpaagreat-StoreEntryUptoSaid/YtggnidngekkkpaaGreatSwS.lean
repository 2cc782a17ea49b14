/- The function of the sums. -/
import Derived.Test.YtggnidngekkkpaaGreatAbs6
import Derived.Test.YtggnidngekkkpaaGreatRows
namespace Go.Abs
open Go.Proofs Go.Proofs.YtggnidngekkkpaaGreat
set_option maxRecDepth 100000

theorem cSumW : ctF Tryz.prog 469 = some AS := by kernel_rfl
end Go.Abs
