/- Facts of the law's frame, one by one. No condition. -/
import Derived.Test.YthmkafloklnghaaGreatRows
import Derived.JoinedOf
import Derived.KernelRfl
namespace Go.Proofs.YthmkafloklnghaaGreat
set_option maxRecDepth 100000

theorem jUnf : (Rows.kernelPagesRow.unfollowed == Tryz.prog.unfollowed 3) = true := by kernel_rfl
end Go.Proofs.YthmkafloklnghaaGreat
