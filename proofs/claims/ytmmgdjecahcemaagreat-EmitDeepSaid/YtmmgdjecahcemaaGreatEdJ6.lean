/- Facts of the law's frame, one by one. No condition. -/
import Derived.Test.YtmmgdjecahcemaaGreatRows
import Derived.JoinedOf
import Derived.KernelRfl
namespace Go.Proofs.YtmmgdjecahcemaaGreat
set_option maxRecDepth 100000

theorem jMaps : mapsRowed Tryz.prog = true := by kernel_rfl
theorem jMk : (Tryz.prog.make == some Rows.emitDeepRow.make) = true := by kernel_rfl
theorem jKeys : (Rows.emitDeepRow.plainKeys == Tryz.prog.plainKeys) = true := by kernel_rfl
theorem jSt : Tryz.prog.stopsHeard = true := by kernel_rfl
theorem jEn : Tryz.prog.mayEnter = true := by kernel_rfl
theorem jLi : (Rows.emitDeepRow.lifted == Tryz.prog.liftsFinal) = true := by kernel_rfl
end Go.Proofs.YtmmgdjecahcemaaGreat
