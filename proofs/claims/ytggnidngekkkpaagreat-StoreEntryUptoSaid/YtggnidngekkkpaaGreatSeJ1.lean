/- Facts of the law's frame, one by one. No condition. -/
import Derived.Test.YtggnidngekkkpaaGreatRows
import Derived.JoinedOf
import Derived.KernelRfl
namespace Go.Proofs.YtggnidngekkkpaaGreat
set_option maxRecDepth 100000

theorem jInp : (Rows.storeEntryUptoRow.inPlace == Tryz.prog.inPlace 4) = true := by kernel_rfl
end Go.Proofs.YtggnidngekkkpaaGreat
