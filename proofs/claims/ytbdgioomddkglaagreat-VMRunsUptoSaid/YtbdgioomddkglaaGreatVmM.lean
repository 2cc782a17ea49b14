/- A part. -/
import Derived.Test.YtbdgioomddkglaaGreatVmC
noncomputable section
namespace Go.Abs
open Go.Proofs
set_option maxRecDepth 100000
theorem amq : wv Go.Proofs.Tryz.prog 71 "Scan" = some 226 := by kernel_rfl
theorem amo : wv Go.Proofs.Tryz.prog 71 "Seek" = some 227 := by kernel_rfl
theorem amr : wv Go.Proofs.Tryz.prog 260 "Next" = some 235 := by kernel_rfl
theorem aw7:ah Go.Proofs.Tryz.prog 7 [] (.bool true):=ah.aoF 1000 (by simp) (by simp) (by kernel_rfl)
end Go.Abs
