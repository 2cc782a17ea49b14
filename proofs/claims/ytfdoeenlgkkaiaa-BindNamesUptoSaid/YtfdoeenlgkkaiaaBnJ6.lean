/- Facts of the law's frame, one by one. No condition. -/
import Derived.Test.YtfdoeenlgkkaiaaRows
import Derived.JoinedOf
import Derived.KernelRfl
namespace Go.Proofs.Ytfdoeenlgkkaiaa
set_option maxRecDepth 100000
theorem jMaps : mapsRowed Try.prog = true:=by kernel_rfl
theorem jMk : (Try.prog.make == some Rows.bindNamesUptoRow.make) = true:=by kernel_rfl
theorem jKeys : (Rows.bindNamesUptoRow.plainKeys == Try.prog.plainKeys) = true:=by kernel_rfl
theorem jSt : Try.prog.stopsHeard = true:=by kernel_rfl
theorem jEn : Try.prog.mayEnter = true:=by kernel_rfl
theorem jLi : (Rows.bindNamesUptoRow.lifted == Try.prog.liftsFinal) = true:=by kernel_rfl
end Go.Proofs.Ytfdoeenlgkkaiaa
