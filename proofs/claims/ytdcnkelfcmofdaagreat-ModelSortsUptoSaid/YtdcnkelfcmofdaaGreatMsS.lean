/- ModelSorts: the chapter's world and answers, run. No condition. -/
import Derived.Test.YtdcnkelfcmofdaaGreatAbs5
import Derived.KernelRfl
import Derived.Test.YtdcnkelfcmofdaaGreatProg
namespace Go.Abs
open Go.Proofs
set_option maxRecDepth 100000
theorem awake4 : FnPure Tryz.prog 4 [] (.bool true) := FnPure.byRun 1000 (by simp) (by simp) (by kernel_rfl)
end Go.Abs
