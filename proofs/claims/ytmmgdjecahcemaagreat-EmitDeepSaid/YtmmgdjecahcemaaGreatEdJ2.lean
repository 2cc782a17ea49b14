/- Facts of the law's frame, one by one. No condition. -/
import Derived.Test.YtmmgdjecahcemaaGreatRows
import Derived.JoinedOf
import Derived.KernelRfl
namespace Go.Proofs.YtmmgdjecahcemaaGreat
set_option maxRecDepth 100000

theorem jUnf : (Rows.emitDeepRow.unfollowed == Tryz.prog.unfollowed 3) = true := by kernel_rfl
end Go.Proofs.YtmmgdjecahcemaaGreat
