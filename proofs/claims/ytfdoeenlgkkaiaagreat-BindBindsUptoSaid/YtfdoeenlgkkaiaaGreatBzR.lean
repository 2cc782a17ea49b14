/- A part. -/
import Derived.Test.YtfdoeenlgkkaiaaGreatBt16
import Derived.Test.YtfdoeenlgkkaiaaGreatRows
noncomputable section
namespace Go.Abs
open List
open Go.Proofs Go.Proofs.YtfdoeenlgkkaiaaGreat
set_option maxRecDepth 100000
theorem Ss {α H:Type}{Q:α->Nat->Prop}(hQ:∀a n,Q a n->1<=n){l:List α}{ds:List (DataW H)}(h:rI (λ a d=>Q a (Rows.uptoBulk d)) l ds):l.length<=Rows.uptoBulkAll ds:=by
 induction h with
 | nil=>simp[Rows.uptoBulkAll]
 | cons h1 _ ih=>have:=hQ _ _ h1;simp[Rows.uptoBulkAll];omega
theorem Sr {α H:Type}{Q:α->Nat->Prop}(hm:∀a m n,m<=n->Q a m->Q a n){l:List α}{ds:List (DataW H)}(h:rI (λ a d=>Q a (Rows.uptoBulk d)) l ds):∀a∈l,Q a (Rows.uptoBulkAll ds):=by
 induction h with
 | nil=>intro a ha;cases ha
 | cons h1 _ ih =>
  intro a ha
  rcases mem_cons.1 ha with rfl | ha
  ·exact hm _ _ _ (by simp[Rows.uptoBulkAll]) h1
  exact hm _ _ _ (by simp[Rows.uptoBulkAll]) (ih a ha)
section
variable {H:Type}{enc:TypeId×Value->H}{w:World}{base:Nat}{spare:Nat->Bool}{held:Bool}
theorem eC {α:Type}{k:Nat}(E:al α k){Q:α->Nat->Prop}(hk:0<k)(h1:∀a n,Q a n->1<=n)(hm:∀a m n,m<=n->Q a m->Q a n){t e:TypeId}{fuel:Nat}{cs:List Value}{x:DataW H×List MemPlace}(ht:Tryz.prog.underlying t=some (.slice e))(hs:Tryz.prog.cellsOf e=k)
  (hel:∀n cs y,n<fuel->DataW.trod enc Tryz.prog w base spare held n e cs=some y->∃a,bW jW (eV w) (E.cells a) cs/\Q a (Rows.uptoBulk y.1))(h:DataW.trod enc Tryz.prog w base spare held fuel t cs=some x):
  ∃v l,cs=[v]/\VR jW (eV w) (E.ds l) v/\l.length<=Rows.uptoBulk x.1/\1<=Rows.uptoBulk x.1/\∀a∈l,Q a (Rows.uptoBulk x.1):=by
 obtain⟨v,l,e,hv,hr⟩:=uW (α:=α) (av:=E.cells) (R:=λ a d=>Q a (Rows.uptoBulk d)) ht hs hk E.aA hel h;refine⟨v,l,e,hv,?_⟩
 rcases hr with⟨rfl,h2⟩ | ⟨ds,rest,e,ha⟩
 ·rw[h2];simp[Rows.uptoBulk]
 rw[e];have h3:=Ss h1 ha;have h4:=Sr hm ha;simp only[Rows.uptoBulk];exact⟨by omega,by omega,λ a ha=>hm _ _ _ (by omega) (h4 a ha)⟩
theorem cells3:Tryz.prog.cellsOf 3=1:=by kernel_rfl
theorem aki:Tryz.prog.cellsOf 2=1:=by kernel_rfl
theorem wj:Tryz.prog.cellsOf 4=1:=by kernel_rfl
theorem jT:Tryz.prog.cellsOf 9=1:=by kernel_rfl
theorem Kh:Tryz.prog.cellsOf 31=3:=by kernel_rfl
theorem Kg:Tryz.prog.cellsOf 32=1:=by kernel_rfl
theorem kl:Tryz.prog.cellsOf 34=8:=by kernel_rfl
theorem Ep:Tryz.prog.cellsOf 109=3:=by kernel_rfl
theorem Kd:Tryz.prog.cellsOf 45=4:=by kernel_rfl
theorem Kc:Tryz.prog.cellsOf 48=6:=by kernel_rfl
theorem aby:Tryz.prog.cellsOf 22=1:=by kernel_rfl
theorem abx:Tryz.prog.cellsOf 23=1:=by kernel_rfl
theorem Ki:Tryz.prog.cellsOf 26=1:=by kernel_rfl
theorem abw:Tryz.prog.cellsOf 27=1:=by kernel_rfl
theorem abp:Tryz.prog.cellsOf 46=1:=by kernel_rfl
theorem abv:Tryz.prog.cellsOf 28=1:=by kernel_rfl
theorem abu:Tryz.prog.cellsOf 29=1:=by kernel_rfl
theorem abt:Tryz.prog.cellsOf 35=1:=by kernel_rfl
theorem abr:Tryz.prog.cellsOf 36=1:=by kernel_rfl
theorem abq:Tryz.prog.cellsOf 37=1:=by kernel_rfl
theorem Kb:Tryz.prog.cellsOf 88=9:=by kernel_rfl
theorem J':Tryz.prog.cellsOf 90=10:=by kernel_rfl
theorem En:Tryz.prog.cellsOf 133=2:=by kernel_rfl
theorem Eo:Tryz.prog.cellsOf 112=9:=by kernel_rfl
theorem Kf:Tryz.prog.cellsOf 39=15:=by kernel_rfl
theorem Ke:Tryz.prog.cellsOf 43=1:=by kernel_rfl
def Bp {α:Type}(_:α)(n:Nat):Prop:=1<=n
def OX (e:Ex)(n:Nat):Prop:=e.sz<=n
def RqR (r:List Ex)(n:Nat):Prop:=1<=n/\r.length<=n/\∀e∈r,e.sz<=n
def RqT (t:aR)(n:Nat):Prop:=1<=n/\t.ae.length<=n/\0<=t.id
def RqI (t:jb)(n:Nat):Prop:=1<=n/\t.ae.length<=n/\0<=t.id
def RqM (x:fK)(n:Nat):Prop:=x.e.sz<=n
def RqS (x:Src)(n:Nat):Prop:=x.cond.sz<=n
def RqU (x:ku)(n:Nat):Prop:=x.e.sz<=n
theorem aah {α:Type}(a:α)(n:Nat)(h:Bp a n):1<=n:=h
theorem aag {α:Type}(a:α)(m n:Nat)(h:m<=n)(k:Bp a m):Bp a n:=Nat.le_trans k h
theorem auT (a:Ex)(n:Nat)(h:OX a n):1<=n:=Nat.le_trans a.gd h
theorem auS (a:Ex)(m n:Nat)(h:m<=n)(k:OX a m):OX a n:=Nat.le_trans k h
theorem auN (a:List Ex)(n:Nat)(h:RqR a n):1<=n:=h.1
theorem auM (a:List Ex)(m n:Nat)(h:m<=n)(k:RqR a m):RqR a n:=⟨Nat.le_trans k.1 h,Nat.le_trans k.2.1 h,λ e he=>Nat.le_trans (k.2.2 e he) h⟩
theorem auJ (a:aR)(n:Nat)(h:RqT a n):1<=n:=h.1
theorem auI (a:aR)(m n:Nat)(h:m<=n)(k:RqT a m):RqT a n:=⟨Nat.le_trans k.1 h,Nat.le_trans k.2.1 h,k.2.2⟩
theorem auR (a:jb)(n:Nat)(h:RqI a n):1<=n:=h.1
theorem auQ (a:jb)(m n:Nat)(h:m<=n)(k:RqI a m):RqI a n:=⟨Nat.le_trans k.1 h,Nat.le_trans k.2.1 h,k.2.2⟩
theorem auP (a:fK)(n:Nat)(h:RqM a n):1<=n:=Nat.le_trans a.e.gd h
theorem auO (a:fK)(m n:Nat)(h:m<=n)(k:RqM a m):RqM a n:=Nat.le_trans k h
theorem auL (a:Src)(n:Nat)(h:RqS a n):1<=n:=Nat.le_trans a.cond.gd h
theorem auK (a:Src)(m n:Nat)(h:m<=n)(k:RqS a m):RqS a n:=Nat.le_trans k h
theorem auH (a:ku)(n:Nat)(h:RqU a n):1<=n:=Nat.le_trans a.e.gd h
theorem auG (a:ku)(m n:Nat)(h:m<=n)(k:RqU a m):RqU a n:=Nat.le_trans k h
theorem Pz {fuel:Nat}{cs:List Value}{x:DataW H×List MemPlace}(h:DataW.trod enc Tryz.prog w base spare held fuel 9 cs=some x):∃a,bW jW (eV w) (bB.cells a) cs/\Bp a (Rows.uptoBulk x.1):=by
 obtain⟨s,e,ey,_⟩:=DataW.trod_string Tryz.underlying9 h;subst e ey;exact⟨s.data.toList.map UInt8.toNat,.cons _ _ _ _ (.str _ _ rfl) .nil,by simp[Bp,Rows.uptoBulk]⟩
theorem PN {fuel:Nat}{cs:List Value}{x:DataW H×List MemPlace}(h:DataW.trod enc Tryz.prog w base spare held fuel 3 cs=some x):∃a,bW jW (eV w) (bR.cells a) cs/\Bp a (Rows.uptoBulk x.1):=by
 obtain⟨i,e,ey,_⟩:=DataW.trod_int Tryz.underlying3 h;subst e ey;exact⟨i,.cons _ _ _ _ (.int _ _) .nil,by simp[Bp,Rows.uptoBulk]⟩
theorem Px {fuel:Nat}{cs:List Value}{x:DataW H×List MemPlace}(h:DataW.trod enc Tryz.prog w base spare held fuel 31 cs=some x):∃a:Val,bW jW (eV w) (a.cells) cs/\True:=by
 obtain⟨xs,n,rfl,rfl,hl,hx,hf⟩:=DataW.trod_struct Tryz.underlying31 h;rw[Kh]at hl
 match cs,hl with
 | [c0,c1,c2],_ =>
 match xs,hx with
 | [x0,x1,x2],_ =>
 have f0:=hf 0 _ rfl;have f1:=hf 1 _ rfl;have f2:=hf 2 _ rfl;simp[aki,cells3,jT]at f0 f1 f2;obtain⟨i0,e0,w0⟩:=DataW.trod_int Tryz.underlying3 f0;obtain⟨i1,e1,w1⟩:=DataW.trod_int Tryz.underlying2 f1;obtain⟨s2,e2,_⟩:=DataW.trod_string Tryz.underlying9 f2;simp at e0 e1 e2;subst e0 e1 e2;refine⟨⟨i0,i1,(s2.data.toList.map UInt8.toNat)⟩,?_,?_⟩
 ·refine .cons _ _ _ _ (.int _ _) ?_;refine .cons _ _ _ _ (.int _ _) ?_;refine .cons _ _ _ _ (.str _ _ rfl) ?_;exact .nil
 trivial
theorem abR {l:List Ex}{ds:List (DataW H)}(h:rI (λ(e:Ex) d=>e.sz<=Rows.uptoBulk d) l ds):Ex.mB l<=Rows.uptoBulkAll ds:=by
 induction h with
 | nil=>simp[Ex.mB,Rows.uptoBulkAll]
 | cons h1 _ ih=>simp[Ex.mB,Rows.uptoBulkAll];omega
theorem lz:∀(N fuel:Nat) (cs:List Value) (x:DataW H×List MemPlace),fuel<=N->DataW.trod enc Tryz.prog w base spare held fuel 34 cs=some x->∃e:Ex,bW jW (eV w) (dz.cells e) cs/\OX e (Rows.uptoBulk x.1)
 | 0,fuel,cs,x,hN,h=>by
  obtain rfl:fuel=0:=by omega
  simp[DataW.trod]at h
 | N + 1,fuel,cs,x,hN,h=>by
  obtain⟨xs,n,rfl,rfl,hl,hx,hf⟩:=DataW.trod_struct Tryz.underlying34 h;rw[kl]at hl
  match cs,hl with
  | [c0,c1,c2,c3,c4,c5,c6,c7],_ =>
   match xs,hx with
   | [x0,x1,x2,x3,x4,x5],_ =>
    have f0:=hf 0 _ rfl;have f1:=hf 1 _ rfl;have f2:=hf 2 _ rfl;have f3:=hf 3 _ rfl;have f4:=hf 4 _ rfl;have f5:=hf 5 _ rfl;simp[cells3,jT,Kh,Kg]at f0 f1 f2 f3 f4 f5;obtain⟨i0,e0,_⟩:=DataW.trod_int Tryz.underlying3 f0;obtain⟨v1,e1,_⟩:=Px f1;obtain⟨s2,e2,_⟩:=DataW.trod_string Tryz.underlying9 f2;obtain⟨s3,e3,_⟩:=DataW.trod_string Tryz.underlying9 f3;obtain⟨i4,e4,_⟩:=DataW.trod_int Tryz.underlying3 f4;obtain⟨v,l,e5,hv,hr⟩:=uW (α:=Ex) (av:=dz.cells) (R:=λ e d=>e.sz<=Rows.uptoBulk d) Tryz.underlying32 kl (by omega) Ex.aA (λ n' cs' y hn' hy=>lz N n' cs' y (by omega) hy) f5;simp at e0 e2 e3 e4 e5;subst e0 e2 e3 e4 e5;refine⟨.mk i0 v1 (s2.data.toList.map UInt8.toNat) (s3.data.toList.map UInt8.toNat) i4 l,?_,?_⟩
    ·rw[nj];simp only[Ex.cells];refine .cons _ _ _ _ (.int _ _) ?_;refine bW.append (a:=[.int .i64 v1.kind,.int .i64 v1.num,.str v1.s]) (x:=[c1,c2,c3]) e1 ?_;refine .cons _ _ _ _ (.str _ _ rfl) (.cons _ _ _ _ (.str _ _ rfl) (.cons _ _ _ _ (.int _ _) (.cons _ _ _ _ ?_ .nil)));rw[<-RJ];exact hv
    have:Ex.mB l<=Rows.uptoBulk x5.1:=by
     rcases hr with⟨rfl,_⟩ | ⟨ds,rest,e,ha⟩
     ·simp[Ex.mB]
     rw[e];have:=abR ha;simp[Rows.uptoBulk];omega
    simp[OX,Ex.sz,Rows.uptoBulk,Rows.uptoBulkAll];omega
theorem PQ {fuel:Nat}{cs:List Value}{x:DataW H×List MemPlace}(h:DataW.trod enc Tryz.prog w base spare held fuel 109 cs=some x):∃a:eW,bW jW (eV w) (aW.cells a) cs/\Bp a (Rows.uptoBulk x.1):=by
 obtain⟨xs,n,rfl,rfl,hl,hx,hf⟩:=DataW.trod_struct Tryz.underlying109 h;rw[Ep]at hl
 match cs,hl with
 | [c0,c1,c2],_ =>
 match xs,hx with
 | [x0,x1,x2],_ =>
 have f0:=hf 0 _ rfl;have f1:=hf 1 _ rfl;have f2:=hf 2 _ rfl;simp[cells3,wj,jT]at f0 f1 f2;obtain⟨s0,e0,_⟩:=DataW.trod_string Tryz.underlying9 f0;obtain⟨i1,e1,w1⟩:=DataW.trod_int Tryz.underlying3 f1;obtain⟨b2,e2,_⟩:=DataW.trod_bool Tryz.underlying4 f2;simp at e0 e1 e2;subst e0 e1 e2;refine⟨⟨(s0.data.toList.map UInt8.toNat),i1,b2⟩,?_,?_⟩
 ·refine .cons _ _ _ _ (.str _ _ rfl) ?_;refine .cons _ _ _ _ (.int _ _) ?_;refine .cons _ _ _ _ (.bool _) ?_;exact .nil
 simp[Bp,Rows.uptoBulk]
theorem yz {fuel:Nat}{cs:List Value}{x:DataW H×List MemPlace}(h:DataW.trod enc Tryz.prog w base spare held fuel 26 cs=some x):∃v l,cs=[v]/\VR jW (eV w) (aW.ds l) v/\l.length<=Rows.uptoBulk x.1/\1<=Rows.uptoBulk x.1/\∀a∈l,Bp a (Rows.uptoBulk x.1):=
 eC aW (Q:=Bp) (by omega) aah aag Tryz.underlying26 Ep (λ n' cs' y hn' hy=>PQ hy) h
theorem Nx {fuel:Nat}{cs:List Value}{x:DataW H×List MemPlace}(h:DataW.trod enc Tryz.prog w base spare held fuel 46 cs=some x):∃v l,cs=[v]/\VR jW (eV w) (bR.ds l) v/\l.length<=Rows.uptoBulk x.1/\1<=Rows.uptoBulk x.1/\∀a∈l,Bp a (Rows.uptoBulk x.1):=
 eC bR (Q:=Bp) (by omega) aah aag Tryz.underlying46 cells3 (λ n' cs' y hn' hy=>PN hy) h
theorem Nq {fuel:Nat}{cs:List Value}{x:DataW H×List MemPlace}(h:DataW.trod enc Tryz.prog w base spare held fuel 27 cs=some x):∃v l,cs=[v]/\VR jW (eV w) (bB.ds l) v/\l.length<=Rows.uptoBulk x.1/\1<=Rows.uptoBulk x.1/\∀a∈l,Bp a (Rows.uptoBulk x.1):=
 eC bB (Q:=Bp) (by omega) aah aag Tryz.underlying27 jT (λ n' cs' y hn' hy=>Pz hy) h
theorem PO {fuel:Nat}{cs:List Value}{x:DataW H×List MemPlace}(h:DataW.trod enc Tryz.prog w base spare held fuel 32 cs=some x):∃v l,cs=[v]/\VR jW (eV w) (dz.ds l) v/\l.length<=Rows.uptoBulk x.1/\1<=Rows.uptoBulk x.1/\∀a∈l,OX a (Rows.uptoBulk x.1):=
 eC dz (Q:=OX) (by omega) auT auS Tryz.underlying32 kl (λ n' cs' y hn' hy=>lz n' n' cs' y (Nat.le_refl _) hy) h
theorem PH {fuel:Nat}{cs:List Value}{x:DataW H×List MemPlace}(h:DataW.trod enc Tryz.prog w base spare held fuel 32 cs=some x):∃a,bW jW (eV w) (dw.cells a) cs/\RqR a (Rows.uptoBulk x.1):=by
 obtain⟨v,l,e,r,n,p,q⟩:=PO h;subst e;exact⟨l,.cons _ _ _ _ r .nil,p,n,q⟩
theorem Py {fuel:Nat}{cs:List Value}{x:DataW H×List MemPlace}(h:DataW.trod enc Tryz.prog w base spare held fuel 45 cs=some x):∃a:aR,bW jW (eV w) (aG.cells a) cs/\RqT a (Rows.uptoBulk x.1):=by
 obtain⟨xs,n,rfl,rfl,hl,hx,hf⟩:=DataW.trod_struct Tryz.underlying45 h;rw[Kd]at hl
 match cs,hl with
 | [c0,c1,c2,c3],_ =>
 match xs,hx with
 | [x0,x1,x2,x3],_ =>
 have f0:=hf 0 _ rfl;have f1:=hf 1 _ rfl;have f2:=hf 2 _ rfl;have f3:=hf 3 _ rfl;simp[jT,Ki,Ke]at f0 f1 f2 f3;obtain⟨i0,e0,w0⟩:=DataW.trod_int Tryz.underlying43 f0;obtain⟨s1,e1,_⟩:=DataW.trod_string Tryz.underlying9 f1;obtain⟨v2,l2,e2,r2,n2,p2,q2⟩:=yz f2;obtain⟨i3,e3,w3⟩:=DataW.trod_int Tryz.underlying43 f3;simp at e0 e1 e2 e3;subst e0 e1 e2 e3;refine⟨⟨i0,(s1.data.toList.map UInt8.toNat),l2,i3⟩,?_,?_⟩
 ·refine .cons _ _ _ _ (.int _ _) ?_;refine .cons _ _ _ _ (.str _ _ rfl) ?_;refine .cons _ _ _ _ (r2) ?_;refine .cons _ _ _ _ (.int _ _) ?_;exact .nil
 have hw:(0:Int)<=i0:=(by have h:=w0.2;simp only[Lit.wf,Bool.and_eq_true,decide_eq_true_eq]at h;exact h.1);clear w0;simp only[RqT,map_cons,map_nil,Rows.uptoBulk,Rows.uptoBulkAll]at *;omega
theorem PL {fuel:Nat}{cs:List Value}{x:DataW H×List MemPlace}(h:DataW.trod enc Tryz.prog w base spare held fuel 48 cs=some x):∃a:jb,bW jW (eV w) (bC.cells a) cs/\RqI a (Rows.uptoBulk x.1):=by
 obtain⟨xs,n,rfl,rfl,hl,hx,hf⟩:=DataW.trod_struct Tryz.underlying48 h;rw[Kc]at hl
 match cs,hl with
 | [c0,c1,c2,c3,c4,c5],_ =>
 match xs,hx with
 | [x0,x1,x2,x3,x4,x5],_ =>
 have f0:=hf 0 _ rfl;have f1:=hf 1 _ rfl;have f2:=hf 2 _ rfl;have f3:=hf 3 _ rfl;have f4:=hf 4 _ rfl;have f5:=hf 5 _ rfl;simp[wj,jT,Ke,abp]at f0 f1 f2 f3 f4 f5;obtain⟨i0,e0,w0⟩:=DataW.trod_int Tryz.underlying43 f0;obtain⟨i1,e1,w1⟩:=DataW.trod_int Tryz.underlying43 f1;obtain⟨s2,e2,_⟩:=DataW.trod_string Tryz.underlying9 f2;obtain⟨v3,l3,e3,r3,n3,p3,q3⟩:=Nx f3;obtain⟨b4,e4,_⟩:=DataW.trod_bool Tryz.underlying4 f4;obtain⟨i5,e5,w5⟩:=DataW.trod_int Tryz.underlying43 f5;simp at e0 e1 e2 e3 e4 e5;subst e0 e1 e2 e3 e4 e5;refine⟨⟨i0,i1,(s2.data.toList.map UInt8.toNat),l3,b4,i5⟩,?_,?_⟩
 ·refine .cons _ _ _ _ (.int _ _) ?_;refine .cons _ _ _ _ (.int _ _) ?_;refine .cons _ _ _ _ (.str _ _ rfl) ?_;refine .cons _ _ _ _ (r3) ?_;refine .cons _ _ _ _ (.bool _) ?_;refine .cons _ _ _ _ (.int _ _) ?_;exact .nil
 have hw:(0:Int)<=i0:=(by have h:=w0.2;simp only[Lit.wf,Bool.and_eq_true,decide_eq_true_eq]at h;exact h.1);clear w0;simp only[RqI,map_cons,map_nil,Rows.uptoBulk,Rows.uptoBulkAll]at *;omega
theorem PM {fuel:Nat}{cs:List Value}{x:DataW H×List MemPlace}(h:DataW.trod enc Tryz.prog w base spare held fuel 88 cs=some x):∃a:fK,bW jW (eV w) (jq.cells a) cs/\RqM a (Rows.uptoBulk x.1):=by
 obtain⟨xs,n,rfl,rfl,hl,hx,hf⟩:=DataW.trod_struct Tryz.underlying88 h;rw[Kb]at hl
 match cs,hl with
 | [c0,c1,c2,c3,c4,c5,c6,c7,c8],_ =>
 match xs,hx with
 | [x0,x1],_ =>
 have f0:=hf 0 _ rfl;have f1:=hf 1 _ rfl;simp[jT,kl]at f0 f1;obtain⟨a0,r0,q0⟩:=lz _ _ _ _ (Nat.le_refl _) f0;obtain⟨s1,e1,_⟩:=DataW.trod_string Tryz.underlying9 f1;simp at e1;subst e1;refine⟨⟨a0,(s1.data.toList.map UInt8.toNat)⟩,?_,?_⟩
 ·refine bW.append (a:=Ex.cells a0) (x:=[c0,c1,c2,c3,c4,c5,c6,c7]) r0 ?_;refine .cons _ _ _ _ (.str _ _ rfl) ?_;exact .nil
 simp only[RqM,OX,map_cons,map_nil,Rows.uptoBulk,Rows.uptoBulkAll]at *;omega
theorem PE {fuel:Nat}{cs:List Value}{x:DataW H×List MemPlace}(h:DataW.trod enc Tryz.prog w base spare held fuel 90 cs=some x):∃a:Src,bW jW (eV w) (gq.cells a) cs/\RqS a (Rows.uptoBulk x.1):=by
 obtain⟨xs,n,rfl,rfl,hl,hx,hf⟩:=DataW.trod_struct Tryz.underlying90 h;rw[J']at hl
 match cs,hl with
 | [c0,c1,c2,c3,c4,c5,c6,c7,c8,c9],_ =>
 match xs,hx with
 | [x0,x1,x2],_ =>
 have f0:=hf 0 _ rfl;have f1:=hf 1 _ rfl;have f2:=hf 2 _ rfl;simp[jT,kl]at f0 f1 f2;obtain⟨s0,e0,_⟩:=DataW.trod_string Tryz.underlying9 f0;obtain⟨s1,e1,_⟩:=DataW.trod_string Tryz.underlying9 f1;obtain⟨a2,r2,q2⟩:=lz _ _ _ _ (Nat.le_refl _) f2;simp at e0 e1;subst e0 e1;refine⟨⟨(s0.data.toList.map UInt8.toNat),(s1.data.toList.map UInt8.toNat),a2⟩,?_,?_⟩
 ·refine .cons _ _ _ _ (.str _ _ rfl) ?_;refine .cons _ _ _ _ (.str _ _ rfl) ?_;exact r2
 simp only[RqS,OX,map_cons,map_nil,Rows.uptoBulk,Rows.uptoBulkAll]at *;omega
theorem PK {fuel:Nat}{cs:List Value}{x:DataW H×List MemPlace}(h:DataW.trod enc Tryz.prog w base spare held fuel 133 cs=some x):∃a:Ord,bW jW (eV w) (jm.cells a) cs/\Bp a (Rows.uptoBulk x.1):=by
 obtain⟨xs,n,rfl,rfl,hl,hx,hf⟩:=DataW.trod_struct Tryz.underlying133 h;rw[En]at hl
 match cs,hl with
 | [c0,c1],_ =>
 match xs,hx with
 | [x0,x1],_ =>
 have f0:=hf 0 _ rfl;have f1:=hf 1 _ rfl;simp[wj,jT]at f0 f1;obtain⟨s0,e0,_⟩:=DataW.trod_string Tryz.underlying9 f0;obtain⟨b1,e1,_⟩:=DataW.trod_bool Tryz.underlying4 f1;simp at e0 e1;subst e0 e1;refine⟨⟨(s0.data.toList.map UInt8.toNat),b1⟩,?_,?_⟩
 ·refine .cons _ _ _ _ (.str _ _ rfl) ?_;refine .cons _ _ _ _ (.bool _) ?_;exact .nil
 simp[Bp,Rows.uptoBulk]
theorem PF {fuel:Nat}{cs:List Value}{x:DataW H×List MemPlace}(h:DataW.trod enc Tryz.prog w base spare held fuel 112 cs=some x):∃a:ku,bW jW (eV w) (eQ.cells a) cs/\RqU a (Rows.uptoBulk x.1):=by
 obtain⟨xs,n,rfl,rfl,hl,hx,hf⟩:=DataW.trod_struct Tryz.underlying112 h;rw[Eo]at hl
 match cs,hl with
 | [c0,c1,c2,c3,c4,c5,c6,c7,c8],_ =>
 match xs,hx with
 | [x0,x1],_ =>
 have f0:=hf 0 _ rfl;have f1:=hf 1 _ rfl;simp[jT,kl]at f0 f1;obtain⟨s0,e0,_⟩:=DataW.trod_string Tryz.underlying9 f0;obtain⟨a1,r1,q1⟩:=lz _ _ _ _ (Nat.le_refl _) f1;simp at e0;subst e0;refine⟨⟨(s0.data.toList.map UInt8.toNat),a1⟩,?_,?_⟩
 ·refine .cons _ _ _ _ (.str _ _ rfl) ?_;exact r1
 simp only[RqU,OX,map_cons,map_nil,Rows.uptoBulk,Rows.uptoBulkAll]at *;omega
theorem Np {fuel:Nat}{cs:List Value}{x:DataW H×List MemPlace}(h:DataW.trod enc Tryz.prog w base spare held fuel 22 cs=some x):∃v l,cs=[v]/\VR jW (eV w) (aG.ds l) v/\l.length<=Rows.uptoBulk x.1/\1<=Rows.uptoBulk x.1/\∀a∈l,RqT a (Rows.uptoBulk x.1):=
 eC aG (Q:=RqT) (by omega) auJ auI Tryz.underlying22 Kd (λ n' cs' y hn' hy=>Py hy) h
theorem Nv {fuel:Nat}{cs:List Value}{x:DataW H×List MemPlace}(h:DataW.trod enc Tryz.prog w base spare held fuel 23 cs=some x):∃v l,cs=[v]/\VR jW (eV w) (bC.ds l) v/\l.length<=Rows.uptoBulk x.1/\1<=Rows.uptoBulk x.1/\∀a∈l,RqI a (Rows.uptoBulk x.1):=
 eC bC (Q:=RqI) (by omega) auR auQ Tryz.underlying23 Kc (λ n' cs' y hn' hy=>PL hy) h
theorem Nw {fuel:Nat}{cs:List Value}{x:DataW H×List MemPlace}(h:DataW.trod enc Tryz.prog w base spare held fuel 35 cs=some x):∃v l,cs=[v]/\VR jW (eV w) (jq.ds l) v/\l.length<=Rows.uptoBulk x.1/\1<=Rows.uptoBulk x.1/\∀a∈l,RqM a (Rows.uptoBulk x.1):=
 eC jq (Q:=RqM) (by omega) auP auO Tryz.underlying35 Kb (λ n' cs' y hn' hy=>PM hy) h
theorem Nr {fuel:Nat}{cs:List Value}{x:DataW H×List MemPlace}(h:DataW.trod enc Tryz.prog w base spare held fuel 36 cs=some x):∃v l,cs=[v]/\VR jW (eV w) (gq.ds l) v/\l.length<=Rows.uptoBulk x.1/\1<=Rows.uptoBulk x.1/\∀a∈l,RqS a (Rows.uptoBulk x.1):=
 eC gq (Q:=RqS) (by omega) auL auK Tryz.underlying36 J' (λ n' cs' y hn' hy=>PE hy) h
theorem Nu {fuel:Nat}{cs:List Value}{x:DataW H×List MemPlace}(h:DataW.trod enc Tryz.prog w base spare held fuel 37 cs=some x):∃v l,cs=[v]/\VR jW (eV w) (jm.ds l) v/\l.length<=Rows.uptoBulk x.1/\1<=Rows.uptoBulk x.1/\∀a∈l,Bp a (Rows.uptoBulk x.1):=
 eC jm (Q:=Bp) (by omega) aah aag Tryz.underlying37 En (λ n' cs' y hn' hy=>PK hy) h
theorem Ns {fuel:Nat}{cs:List Value}{x:DataW H×List MemPlace}(h:DataW.trod enc Tryz.prog w base spare held fuel 29 cs=some x):∃v l,cs=[v]/\VR jW (eV w) (eQ.ds l) v/\l.length<=Rows.uptoBulk x.1/\1<=Rows.uptoBulk x.1/\∀a∈l,RqU a (Rows.uptoBulk x.1):=
 eC eQ (Q:=RqU) (by omega) auH auG Tryz.underlying29 Eo (λ n' cs' y hn' hy=>PF hy) h
theorem Nt {fuel:Nat}{cs:List Value}{x:DataW H×List MemPlace}(h:DataW.trod enc Tryz.prog w base spare held fuel 28 cs=some x):∃v l,cs=[v]/\VR jW (eV w) (dw.ds l) v/\l.length<=Rows.uptoBulk x.1/\1<=Rows.uptoBulk x.1/\∀a∈l,RqR a (Rows.uptoBulk x.1):=
 eC dw (Q:=RqR) (by omega) auN auM Tryz.underlying28 Kg (λ n' cs' y hn' hy=>PH hy) h
structure RqH (s:bD)(n:Nat):Prop where
 t:s.tables.length<=n
 i:s.indexes.length<=n
 tc:∀t∈s.tables,t.ae.length<=n
 ic:∀x∈s.indexes,x.ae.length<=n
 ti:∀t∈s.tables,0<=t.id
 xi:∀t∈s.indexes,0<=t.id
structure RqQ (q:aY)(n:Nat):Prop where
 items:q.items.length<=n
 item:∀y∈q.items,y.e.sz<=n
 ab:q.ab.length<=n
 src:∀y∈q.ab,y.cond.sz<=n
 order:q.order.length<=n
 qc:q.cond.sz<=n
structure RqX (x:aE)(n:Nat):Prop where
 ae:x.ae.length<=n
 on:x.on.length<=n
 rows:x.rows.length<=n
 row:∀r∈x.rows,r.length<=n/\∀y∈r,y.sz<=n
 sets:x.sets.length<=n
 set:∀y∈x.sets,y.e.sz<=n
 cond:x.cond.sz<=n
 q:RqQ x.q n
theorem PG {fuel:Nat}{cs:List Value}{x:DataW H×List MemPlace}(h:DataW.trod enc Tryz.prog w base spare held fuel 25 cs=some x):∃a:bD,bW jW (eV w) (cw.cells a) cs/\RqH a (Rows.uptoBulk x.1):=by
 obtain⟨xs,n,rfl,rfl,hl,hx,hf⟩:=DataW.trod_struct Tryz.underlying25 h;rw[show Tryz.prog.cellsOf 25=2 by kernel_rfl]at hl
 match cs,hl with
 | [c0,c1],_ =>
 match xs,hx with
 | [x0,x1],_ =>
 have f0:=hf 0 _ rfl;have f1:=hf 1 _ rfl;simp[aby,abx]at f0 f1;obtain⟨v0,l0,e0,r0,n0,p0,q0⟩:=Np f0;obtain⟨v1,l1,e1,r1,n1,p1,q1⟩:=Nv f1;simp at e0 e1;subst e0 e1;refine⟨⟨l0,l1⟩,?_,?_⟩
 ·refine .cons _ _ _ _ (r0) ?_;refine .cons _ _ _ _ (r1) ?_;exact .nil
 simp only[map_cons,map_nil,Rows.uptoBulk,Rows.uptoBulkAll]at *;exact⟨by simp only;omega,by simp only;omega,λ t ht=>by have:=(q0 t ht).2;omega,λ t ht=>by have:=(q1 t ht).2;omega,λ t ht=>(q0 t ht).2.2,λ t ht=>(q1 t ht).2.2⟩
theorem PI {fuel:Nat}{cs:List Value}{x:DataW H×List MemPlace}(h:DataW.trod enc Tryz.prog w base spare held fuel 39 cs=some x):∃a:aY,bW jW (eV w) (aY.cells a) cs/\RqQ a (Rows.uptoBulk x.1):=by
 obtain⟨xs,n,rfl,rfl,hl,hx,hf⟩:=DataW.trod_struct Tryz.underlying39 h;rw[Kf]at hl
 match cs,hl with
 | [c0,c1,c2,c3,c4,c5,c6,c7,c8,c9,c10,c11,c12,c13,c14],_ =>
 match xs,hx with
 | [x0,x1,x2,x3,x4,x5,x6,x7],_ =>
 have f0:=hf 0 _ rfl;have f1:=hf 1 _ rfl;have f2:=hf 2 _ rfl;have f3:=hf 3 _ rfl;have f4:=hf 4 _ rfl;have f5:=hf 5 _ rfl;have f6:=hf 6 _ rfl;have f7:=hf 7 _ rfl;simp[cells3,wj,kl,abt,abr,abq]at f0 f1 f2 f3 f4 f5 f6 f7;obtain⟨b0,e0,_⟩:=DataW.trod_bool Tryz.underlying4 f0;obtain⟨b1,e1,_⟩:=DataW.trod_bool Tryz.underlying4 f1;obtain⟨v2,l2,e2,r2,n2,p2,q2⟩:=Nw f2;obtain⟨v3,l3,e3,r3,n3,p3,q3⟩:=Nr f3;obtain⟨a4,r4,q4⟩:=lz _ _ _ _ (Nat.le_refl _) f4;obtain⟨v5,l5,e5,r5,n5,p5,q5⟩:=Nu f5;obtain⟨b6,e6,_⟩:=DataW.trod_bool Tryz.underlying4 f6;obtain⟨i7,e7,w7⟩:=DataW.trod_int Tryz.underlying3 f7;simp at e0 e1 e2 e3 e5 e6 e7;subst e0 e1 e2 e3 e5 e6 e7;refine⟨⟨b0,b1,l2,l3,a4,l5,b6,i7⟩,?_,?_⟩
 ·simp only[aY.cells,cons_append,nil_append];refine .cons _ _ _ _ (.bool _) ?_;refine .cons _ _ _ _ (.bool _) ?_;refine .cons _ _ _ _ (r2) ?_;refine .cons _ _ _ _ (r3) ?_;refine bW.append (a:=Ex.cells a4) (x:=[c4,c5,c6,c7,c8,c9,c10,c11]) r4 ?_;refine .cons _ _ _ _ (r5) ?_;refine .cons _ _ _ _ (.bool _) ?_;refine .cons _ _ _ _ (.int _ _) ?_;exact .nil
 simp only[OX,map_cons,map_nil,Rows.uptoBulk,Rows.uptoBulkAll]at *;exact⟨by simp only;omega,λ t ht=>by have:=q2 t ht;simp only[RqM]at this;omega,by simp only;omega,λ t ht=>by have:=q3 t ht;simp only[RqS]at this;omega,by simp only;omega,by simp only;omega⟩
theorem PD {fuel:Nat}{cs:List Value}{x:DataW H×List MemPlace}(h:DataW.trod enc Tryz.prog w base spare held fuel 41 cs=some x):∃a:aE,bW jW (eV w) (aE.cells a) cs/\RqX a (Rows.uptoBulk x.1):=by
 obtain⟨xs,n,rfl,rfl,hl,hx,hf⟩:=DataW.trod_struct Tryz.underlying41 h;rw[show Tryz.prog.cellsOf 41=31 by kernel_rfl]at hl
 match cs,hl with
 | [c0,c1,c2,c3,c4,c5,c6,c7,c8,c9,c10,c11,c12,c13,c14,c15,c16,c17,c18,c19,c20,c21,c22,c23,c24,c25,c26,c27,c28,c29,c30],_ =>
 match xs,hx with
 | [x0,x1,x2,x3,x4,x5,x6,x7,x8,x9],_ =>
 have f0:=hf 0 _ rfl;have f1:=hf 1 _ rfl;have f2:=hf 2 _ rfl;have f3:=hf 3 _ rfl;have f4:=hf 4 _ rfl;have f5:=hf 5 _ rfl;have f6:=hf 6 _ rfl;have f7:=hf 7 _ rfl;have f8:=hf 8 _ rfl;have f9:=hf 9 _ rfl;simp[cells3,wj,jT,Ki,abw,abv,abu,kl,Kf]at f0 f1 f2 f3 f4 f5 f6 f7 f8 f9;obtain⟨i0,e0,w0⟩:=DataW.trod_int Tryz.underlying3 f0;obtain⟨s1,e1,_⟩:=DataW.trod_string Tryz.underlying9 f1;obtain⟨s2,e2,_⟩:=DataW.trod_string Tryz.underlying9 f2;obtain⟨v3,l3,e3,r3,n3,p3,q3⟩:=yz f3;obtain⟨v4,l4,e4,r4,n4,p4,q4⟩:=Nq f4;obtain⟨b5,e5,_⟩:=DataW.trod_bool Tryz.underlying4 f5;obtain⟨v6,l6,e6,r6,n6,p6,q6⟩:=Nt f6;obtain⟨v7,l7,e7,r7,n7,p7,q7⟩:=Ns f7;obtain⟨a8,r8,q8⟩:=lz _ _ _ _ (Nat.le_refl _) f8;obtain⟨a9,r9,q9⟩:=PI f9;simp at e0 e1 e2 e3 e4 e5 e6 e7;subst e0 e1 e2 e3 e4 e5 e6 e7;refine⟨⟨i0,(s1.data.toList.map UInt8.toNat),(s2.data.toList.map UInt8.toNat),l3,l4,b5,l6,l7,a8,a9⟩,?_,?_⟩
 ·refine .cons _ _ _ _ (.int _ _) ?_;refine .cons _ _ _ _ (.str _ _ rfl) ?_;refine .cons _ _ _ _ (.str _ _ rfl) ?_;refine .cons _ _ _ _ (r3) ?_;refine .cons _ _ _ _ (r4) ?_;refine .cons _ _ _ _ (.bool _) ?_;refine .cons _ _ _ _ (r6) ?_;refine .cons _ _ _ _ (r7) ?_;refine bW.append (a:=Ex.cells a8) (x:=[c8,c9,c10,c11,c12,c13,c14,c15]) r8 ?_;exact r9
 simp only[OX,map_cons,map_nil,Rows.uptoBulk,Rows.uptoBulkAll]at *;exact⟨by simp only;omega,by simp only;omega,by simp only;omega,λ t ht=>⟨by have:=(q6 t ht).2.1;omega,λ y hy=>by have:=(q6 t ht).2.2 y hy;omega⟩,by simp only;omega,λ t ht=>by have:=q7 t ht;simp only[RqU]at this;omega,by simp only;omega,⟨Nat.le_trans q9.items (by omega),λ y hy=>Nat.le_trans (q9.item y hy) (by omega),Nat.le_trans q9.ab (by omega),λ y hy=>Nat.le_trans (q9.src y hy) (by omega),Nat.le_trans q9.order (by omega),Nat.le_trans q9.qc (by omega)⟩⟩
end
end Go.Abs
