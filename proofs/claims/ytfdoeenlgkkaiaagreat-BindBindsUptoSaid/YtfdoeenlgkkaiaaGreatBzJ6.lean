/- A part. -/
import Derived.Test.YtfdoeenlgkkaiaaGreatRows
import Derived.JoinedOf
import Derived.KernelRfl
noncomputable section
namespace Go.Proofs.YtfdoeenlgkkaiaaGreat
set_option maxRecDepth 100000
theorem an_:mapsRowed Tryz.prog=true:=by kernel_rfl
theorem jMk:(Tryz.prog.make == some Rows.bindBindsUptoRow.make)=true:=by kernel_rfl
theorem an':(Rows.bindBindsUptoRow.plainKeys == Tryz.prog.plainKeys)=true:=by kernel_rfl
theorem jSt:Tryz.prog.stopsHeard=true:=by kernel_rfl
theorem jEn:Tryz.prog.mayEnter=true:=by kernel_rfl
theorem jLi:(Rows.bindBindsUptoRow.lifted == Tryz.prog.liftsFinal)=true:=by kernel_rfl
end Go.Proofs.YtfdoeenlgkkaiaaGreat
