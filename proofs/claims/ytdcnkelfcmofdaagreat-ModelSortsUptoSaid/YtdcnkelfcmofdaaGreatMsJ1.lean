/- Facts of the law's frame, one by one. No condition. -/
import Derived.Test.YtdcnkelfcmofdaaGreatRows
import Derived.JoinedOf
import Derived.KernelRfl
namespace Go.Proofs.YtdcnkelfcmofdaaGreat
set_option maxRecDepth 100000

theorem jInp : (Rows.modelSortsUptoRow.inPlace == Tryz.prog.inPlace 3) = true := by kernel_rfl
end Go.Proofs.YtdcnkelfcmofdaaGreat
