/- Facts of the law's frame, one by one. No condition. -/
import Derived.Test.YthmkafloklnghaaGreatRows
import Derived.JoinedOf
import Derived.KernelRfl
namespace Go.Proofs.YthmkafloklnghaaGreat
set_option maxRecDepth 100000

theorem jMaps : mapsRowed Tryz.prog = true := by kernel_rfl
theorem jMk : (Tryz.prog.make == some Rows.kernelPagesRow.make) = true := by kernel_rfl
theorem jKeys : (Rows.kernelPagesRow.plainKeys == Tryz.prog.plainKeys) = true := by kernel_rfl
theorem jSt : Tryz.prog.stopsHeard = true := by kernel_rfl
theorem jEn : Tryz.prog.mayEnter = true := by kernel_rfl
theorem jLi : (Rows.kernelPagesRow.lifted == Tryz.prog.liftsFinal) = true := by kernel_rfl
end Go.Proofs.YthmkafloklnghaaGreat
