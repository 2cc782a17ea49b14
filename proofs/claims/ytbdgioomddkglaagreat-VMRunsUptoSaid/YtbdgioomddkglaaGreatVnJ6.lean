/- A part. -/
import Derived.Test.YtbdgioomddkglaaGreatRows
import Derived.JoinedOf
import Derived.KernelRfl
noncomputable section
namespace Go.Proofs.YtbdgioomddkglaaGreat
set_option maxRecDepth 100000
theorem amG:mapsRowed Tryz.prog=true:=by kernel_rfl
theorem jMk:(Tryz.prog.make == some Rows.vMRunsUptoRow.make)=true:=by kernel_rfl
theorem amH:(Rows.vMRunsUptoRow.plainKeys == Tryz.prog.plainKeys)=true:=by kernel_rfl
theorem jSt:Tryz.prog.stopsHeard=true:=by kernel_rfl
theorem jEn:Tryz.prog.mayEnter=true:=by kernel_rfl
theorem jLi:(Rows.vMRunsUptoRow.lifted == Tryz.prog.liftsFinal)=true:=by kernel_rfl
end Go.Proofs.YtbdgioomddkglaaGreat
