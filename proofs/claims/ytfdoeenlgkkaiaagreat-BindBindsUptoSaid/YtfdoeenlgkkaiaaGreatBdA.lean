/- A part. -/
import Derived.Test.YtfdoeenlgkkaiaaGreatBdC
noncomputable section
namespace Go.Abs
open List
open Go.Proofs
set_option maxRecDepth 100000
theorem akt:ai Tryz.prog 9 [] (.bool true):=ai.apR 1000 (by simp) (by simp) (by kernel_rfl)
end Go.Abs
