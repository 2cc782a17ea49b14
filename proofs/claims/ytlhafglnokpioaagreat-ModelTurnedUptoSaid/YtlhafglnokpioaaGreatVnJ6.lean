/- A part. -/
import Derived.Test.YtlhafglnokpioaaGreatRows
import Derived.JoinedOf
import Derived.KernelRfl
noncomputable section
namespace Go.Proofs.YtlhafglnokpioaaGreat
set_option maxRecDepth 100000
theorem apT:mapsRowed Tryz.prog=true:=by kernel_rfl
theorem jMk:(Tryz.prog.make == some Rows.modelTurnedUptoRow.make)=true:=by kernel_rfl
theorem apU:(Rows.modelTurnedUptoRow.plainKeys == Tryz.prog.plainKeys)=true:=by kernel_rfl
theorem jSt:Tryz.prog.stopsHeard=true:=by kernel_rfl
theorem jEn:Tryz.prog.mayEnter=true:=by kernel_rfl
theorem jLi:(Rows.modelTurnedUptoRow.lifted == Tryz.prog.liftsFinal)=true:=by kernel_rfl
end Go.Proofs.YtlhafglnokpioaaGreat
