/- A part. -/
import Derived.Test.YtfdoeenlgkkaiaaGreatBdC
import Derived.Test.YtfdoeenlgkkaiaaGreatBt1
noncomputable section
namespace Go.Abs
open List
open Go.Proofs
set_option maxRecDepth 100000
structure Want where
 n:Int
 part:Int
 kind:Int
 any:Bool
 alike:Bool
def Want.av (w:Want):AV:=.agg [.int .i64 w.n,.int .i64 w.part,.int .i64 w.kind,.bool w.any,.bool w.alike] 5
def dA (op:Int):Want×Bool:=
 if op=4 then (⟨1,1,1,false,false⟩,true)else if op=5 then (⟨1,3,3,false,false⟩,true)else if op=6∨op=7 then (⟨1,0,3,true,false⟩,true)
 else if 8<=op/\op<=12 then (⟨2,1,1,false,false⟩,true)else if op=13 then (⟨2,2,2,false,false⟩,true)else if op=20∨op=21 then (⟨2,3,3,false,false⟩,true)
 else if 14<=op/\op<=19 then (⟨2,0,3,true,true⟩,true)else (⟨0,0,0,false,false⟩,false)
@[simp] theorem Want.pure (w:Want):Pure w.av:=by simp[Want.av]
theorem CZ (op:Int):ai pG 108 [.int .i64 op] (.bg [(dA op).1.av,.bool (dA op).2]):=by
 by_cases h:4<=op/\op<=21
 ·obtain⟨h1,h2⟩:=h;have:op=4∨op=5∨op=6∨op=7∨op=8∨op=9∨op=10∨op=11∨op=12∨op=13∨op=14∨op=15∨op=16∨op=17∨op=18∨op=19∨op=20∨op=21:=by omega
  rcases this with h | h | h | h | h | h | h | h | h | h | h | h | h | h | h | h | h | h<;>subst h<;>exact .lit (by simp) (by simp) (by kernel_rfl)
 have hw:dA op=(⟨0,0,0,false,false⟩,false):=by unfold dA;repeat (rw[if_neg (by omega)])
 rw[hw];refine bf c108 (by simp) (by simp) (by simp[A108]) λ F hF=>?_;have hk:∀k:Int,4<=k/\k<=21->¬op=k:=λ k hk e=>h (e▸hk);simp[A108,B108,YQ,YP,YO,YN,YM,YL,YK,YJ,YI,YH,Md,Mc,Mb,Ma,L',LZ,LY,LX,LW,LV,LU,LS,LR,LQ,LP,LO,LN,LM,hF,hk];exact .pure _ (by simp)
end Go.Abs
