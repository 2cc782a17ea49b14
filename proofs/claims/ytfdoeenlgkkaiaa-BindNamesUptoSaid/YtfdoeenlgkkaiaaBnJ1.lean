/- Facts of the law's frame, one by one. No condition. -/
import Derived.Test.YtfdoeenlgkkaiaaRows
import Derived.JoinedOf
import Derived.KernelRfl
namespace Go.Proofs.Ytfdoeenlgkkaiaa
set_option maxRecDepth 100000
theorem jInp : (Rows.bindNamesUptoRow.inPlace == Try.prog.inPlace 4) = true:=by kernel_rfl
end Go.Proofs.Ytfdoeenlgkkaiaa
