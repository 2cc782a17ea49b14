/- Facts of the law's frame, one by one. No condition. -/
import Derived.Test.YtlnbbokmibfegaaGreatRows
import Derived.JoinedOf
import Derived.KernelRfl
namespace Go.Proofs.YtlnbbokmibfegaaGreat
set_option maxRecDepth 100000

theorem jInp : (Rows.planFinishUptoRow.inPlace == Tryz.prog.inPlace 3) = true := by kernel_rfl
end Go.Proofs.YtlnbbokmibfegaaGreat
