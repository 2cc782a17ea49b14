/- A part. -/
import Derived.Test.YtfdoeenlgkkaiaaGreatBt2
noncomputable section
namespace Go.Abs
open List
open Go.Proofs
set_option maxRecDepth 100000
def amV:iq->Option (Nat×Nat×Nat×Nat×Option bI)
 | .mk (.sl b o n s) H _=>some (b,o,n,s,H.get b)
 | _=>none
theorem O3:ai Tryz.prog 128 [] (bB.ds iW):=by
 refine ai.of (Fy (P:=Tryz.prog) 100) (by simp) ?_;have h:amV (jl Tryz.prog (Go.Abs.run Tryz.prog 100) 128 [] .nil 0)=some (0,0,35,1,some (.cells 35 [] (iW.map .str) .nil)):=by kernel_rfl
 generalize jl Tryz.prog (Go.Abs.run Tryz.prog 100) 128 [] .nil 0=r at *
 cases r with
 | fail=>cases h
 | pE v H n=>cases h
 | mk v H n =>
  cases v with
  | sl b o n s =>
   simp only[amV,Option.some.injEq,Prod.mk.injEq]at h;obtain⟨rfl,rfl,rfl,rfl,h⟩:=h;refine⟨_,_,_,rfl,?_⟩;have hl:bB.ds iW=.ds (iW.map .str) 35 1:=rfl;rw[hl];exact .sl _ _ _ _ 35 [] (iW.map .str) .nil (iW.map .str) _ h (by rfl) (aN.pure (aL.vg λ v hv=>by obtain⟨a,_,rfl⟩:=mem_map.1 hv;simp))
  | _=>cases h
end Go.Abs
