/- Facts of the law's frame, one by one. No condition. -/
import Derived.Test.YthmkafloklnghaaGreatRows
import Derived.JoinedOf
import Derived.KernelRfl
namespace Go.Proofs.YthmkafloklnghaaGreat
set_option maxRecDepth 100000

theorem jVar : (Rows.kernelPagesRow.named == Tryz.prog.varsNamed 3) = true := by kernel_rfl
end Go.Proofs.YthmkafloklnghaaGreat
