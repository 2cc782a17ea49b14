/- Facts of the law's frame, one by one. No condition. -/
import Derived.Test.YtfdoeenlgkkaiaaRows
import Derived.JoinedOf
import Derived.KernelRfl
namespace Go.Proofs.Ytfdoeenlgkkaiaa
set_option maxRecDepth 100000
theorem jWf : Rows.bindNamesUptoRow.wf (OpenSpec.ofChange (Rows.OpenSpec.upto Rows.bindNamesSpec).bare) = true:=by kernel_rfl
theorem jLaid : laidOutB Try.prog = true:=by kernel_rfl
end Go.Proofs.Ytfdoeenlgkkaiaa
