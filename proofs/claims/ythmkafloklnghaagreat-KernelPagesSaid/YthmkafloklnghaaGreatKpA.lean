/- KernelPages: the chapter's answers, run; a kernel that is begun. No condition. -/
import Derived.Test.YthmkafloklnghaaGreatAbs6
import Derived.Test.YthmkafloklnghaaGreatKp6
namespace Go.Abs
open Go.Proofs
set_option maxRecDepth 100000
theorem cSum : ctF Tryz.prog 238 = some AS := by kernel_rfl
theorem alive5 : FnPure Tryz.prog 5 [] (.bool true) := FnPure.byRunO (ovSum_ok cSum) 1000 (by simp) (by simp) (by kernel_rfl)
noncomputable def Hb : Hp := (Sm ([], 0)).put 426 (some kPlay)
noncomputable def SgB : Sg := ⟨4, [.int .i64 8], .nil, 0, .tup [.ptr 426 0, .bool true], ((((((Tr.nil : Hp).put 1 (some kDisk)).put 269 (some kLog)).put 290 (some kPool)).put 299 (some kKern)).put 298 (some (.map [] 0))).put 426 (some kPlay), 1453⟩
theorem begun_ok : SgB.Ok Tryz.prog := Sg.ofRun (runO_ok (ovSum_ok cSum) 1000) SgB (by kernel_rfl)
theorem begun4 : CallOk Tryz.prog 4 [.int .i64 8] .nil 0 (.tup [.ptr 426 0, .bool true]) Hb 1453 := begun_ok
end Go.Abs
