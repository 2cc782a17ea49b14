/- A part. -/
import Derived.Test.YtfdoeenlgkkaiaaGreatBt15
import Derived.Test.YtfdoeenlgkkaiaaGreatBdA
noncomputable section
namespace Go.Abs
open List
open Go.Proofs
open Classical
set_option maxRecDepth 100000
theorem aks (s:bD)(hs:s.dE)(hr:s.ZM)(x:aE)(hx:x.sm):ai pG 3 [cw.av s,x.av] (.bool true):=by
 have h4:ai pG 4 [.agg (cw.cells s) 2] (.agg (cw.cells s) 2):=apl s hs;have h5:ai pG 5 [.agg (cw.cells s) 2,.agg x.cells 31] (.bg [.agg (dZ s x).1.cells 25,.int .i64 (dZ s x).2]):=apU s hs x hx;have h6:ai pG 6 [.agg (cw.cells s) 2,.agg x.cells 31] (.bg [.agg (dZ s x).1.cells 25,.int .i64 (dZ s x).2]):=Pw s hs hr x hx;have h7:=aiH (dZ s x).1 (Sg s hs x hx);have h8:ai pG 8 [.agg (cw.cells s) 2,.agg (cw.cells s) 2] (.bool true):=am2 s hs;refine bf c3 (by simp) (by simp) (by simp[A3]) λ F hF=>?_;have hxc:x.av=.agg x.cells 31:=Eq.trans rfl rfl;have hsc:cw.av s=.agg (cw.cells s) 2:=rfl;rw[hxc,hsc]at hF;generalize dZ s x=R at *;obtain⟨b,f⟩:=R;simp only at h5 h6 h7;have r1:=b.one;have r2:b.cells.length=25:=rfl;generalize b.cells=bc at *;simp[A3,B3,arw,arv,hF];refine ao.pure h4 ?_;simp[aru];refine ao.pure h5 ?_;simp[art,r1,r2];refine ao.pure h6 ?_;simp[ars,r1,r2];refine ao.pure h7 ?_;simp;refine ao.pure h8 ?_;simp;refine ao.pure akt ?_;simp;exact .pure _ (by simp)
end Go.Abs
