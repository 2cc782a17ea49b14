/- Facts of the law's frame, one by one. No condition. -/
import Derived.Test.YtggnidngekkkpaaGreatRows
import Derived.JoinedOf
import Derived.KernelRfl
namespace Go.Proofs.YtggnidngekkkpaaGreat
set_option maxRecDepth 100000

theorem jWf : Rows.storeEntryUptoRow.wf (OpenSpec.ofChange (Rows.OpenSpec.upto Rows.storeEntrySpec).bare) = true := by kernel_rfl
theorem jLaid : laidOutB Tryz.prog = true := by kernel_rfl
end Go.Proofs.YtggnidngekkkpaaGreat
