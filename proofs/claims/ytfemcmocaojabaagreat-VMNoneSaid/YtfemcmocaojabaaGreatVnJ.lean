/- Facts of the law's frame. No condition. -/
import Derived.Test.YtfemcmocaojabaaGreatRows
import Derived.JoinedOf
import Derived.KernelRfl
namespace Go.Proofs.YtfemcmocaojabaaGreat
set_option maxRecDepth 100000
theorem jLaid : laidOutB Tryz.prog = true := by kernel_rfl
theorem closed : joinedFacts Tryz.prog 3 Tryz.f3 Rows.vMNoneSpec Rows.vMNoneRow = true := by kernel_rfl
end Go.Proofs.YtfemcmocaojabaaGreat
