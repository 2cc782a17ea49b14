/- A part. -/
import Derived.Test.YtlhafglnokpioaaGreatBt13
import Derived.Test.YtlhafglnokpioaaGreatRows
noncomputable section
namespace Go.Abs
open Go.Proofs Go.Proofs.YtlhafglnokpioaaGreat
set_option maxRecDepth 100000
theorem ZJ {α H:Type}{Q:α->Nat->Prop}(hQ:∀a n,Q a n->1<=n){l:List α}{ds:List (DataW H)}(h:uo (λ a d=>Q a (Rows.uptoBulk d)) l ds):l.length<=Rows.uptoBulkAll ds:=by
 induction h with
 |nil=>simp[Rows.uptoBulkAll]
 |cons h1 _ ih=>have:=hQ _ _ h1;simp[Rows.uptoBulkAll];omega
theorem ZI {α H:Type}{Q:α->Nat->Prop}(hm:∀a m n,m<=n->Q a m->Q a n){l:List α}{ds:List (DataW H)}(h:uo (λ a d=>Q a (Rows.uptoBulk d)) l ds):∀a∈l,Q a (Rows.uptoBulkAll ds):=by
 induction h with
 |nil=>intro a ha;cases ha
 |cons h1 _ ih =>
  intro a ha
  rcases List.mem_cons.1 ha with rfl|ha
  ·exact hm _ _ _ (by simp[Rows.uptoBulkAll]) h1
  exact hm _ _ _ (by simp[Rows.uptoBulkAll]) (ih a ha)
section
variable {H:Type}{enc:TypeId×Value->H}{w:World}{base:Nat}{spare:Nat->Bool}{held:Bool}
theorem fB {α:Type}{k:Nat}(E:bf α k){Q:α->Nat->Prop}(hk:0<k)(h1:∀a n,Q a n->1<=n)(hm:∀a m n,m<=n->Q a m->Q a n){t e:TypeId}{fuel:Nat}{cs:List Value}{x:DataW H×List MemPlace}(ht:Tryz.prog.underlying t=some (.slice e))(hs:Tryz.prog.cellsOf e=k)
  (hel:∀n cs y,n<fuel->DataW.trod enc Tryz.prog w base spare held n e cs=some y->∃a,bT lF (fk w) (E.cells a) cs/\Q a (Rows.uptoBulk y.1))(h:DataW.trod enc Tryz.prog w base spare held fuel t cs=some x):
  ∃v l,cs=[v]/\VR lF (fk w) (E.ds l) v/\l.length<=Rows.uptoBulk x.1/\1<=Rows.uptoBulk x.1/\∀a∈l,Q a (Rows.uptoBulk x.1):=by
 obtain⟨v,l,e,hv,hr⟩:=xW (α:=α) (av:=E.cells) (R:=λ a d=>Q a (Rows.uptoBulk d)) ht hs hk E.bm hel h;refine⟨v,l,e,hv,?_⟩
 rcases hr with⟨rfl,h2⟩|⟨ds,rest,e,ha⟩
 ·rw[h2];simp[Rows.uptoBulk]
 rw[e];have h3:=ZJ h1 ha;have h4:=ZI hm ha;simp only[Rows.uptoBulk];exact⟨by omega,by omega,λ a ha=>hm _ _ _ (by omega) (h4 a ha)⟩
theorem axX:Tryz.prog.cellsOf 2=1:=by kernel_rfl
theorem Zi:Tryz.prog.cellsOf 3=1:=by kernel_rfl
theorem age:Tryz.prog.cellsOf 4=1:=by kernel_rfl
theorem Iq:Tryz.prog.cellsOf 9=1:=by kernel_rfl
theorem ahB:Tryz.prog.cellsOf 65=1:=by kernel_rfl
theorem arK:Tryz.prog.cellsOf 23=1:=by kernel_rfl
theorem arJ:Tryz.prog.cellsOf 24=1:=by kernel_rfl
theorem arH:Tryz.prog.cellsOf 31=1:=by kernel_rfl
theorem ahC:Tryz.prog.cellsOf 36=3:=by kernel_rfl
theorem arC:Tryz.prog.cellsOf 48=1:=by kernel_rfl
theorem arz:Tryz.prog.cellsOf 67=4:=by kernel_rfl
theorem arx:Tryz.prog.cellsOf 77=6:=by kernel_rfl
theorem ama:Tryz.prog.cellsOf 126=3:=by kernel_rfl
theorem ary:Tryz.prog.cellsOf 70=1:=by kernel_rfl
theorem arB:Tryz.prog.cellsOf 49=1:=by kernel_rfl
theorem arI:Tryz.prog.cellsOf 27=1:=by kernel_rfl
theorem arG:Tryz.prog.cellsOf 37=1:=by kernel_rfl
theorem Ir:Tryz.prog.cellsOf 39=8:=by kernel_rfl
theorem arF:Tryz.prog.cellsOf 40=1:=by kernel_rfl
theorem arE:Tryz.prog.cellsOf 41=1:=by kernel_rfl
theorem arD:Tryz.prog.cellsOf 42=1:=by kernel_rfl
theorem arA:Tryz.prog.cellsOf 64=10:=by kernel_rfl
theorem arw:Tryz.prog.cellsOf 96=9:=by kernel_rfl
theorem al':Tryz.prog.cellsOf 200=2:=by kernel_rfl
theorem Y1 (l:List Val):Aq.ds l=aC l:=by
 unfold bf.ds aC
 congr 1
 induction l with
 |nil=>rfl
 |cons a r ih=>rw[bf.nT,ih];rfl
def Ln {α:Type}(_:α)(n:Nat):Prop:=1<=n
def RqV (v:Val)(n:Nat):Prop:=1<=n/\v.pq
def RqW (r:List Val)(n:Nat):Prop:=1<=n/\r.length<=n/\∀v∈r,v.pq
def RqB (t:List (List Val))(n:Nat):Prop:=1<=n/\t.length<=n/\∀r∈t,r.length<=n/\∀v∈r,v.pq
def RqT (t:bR)(n:Nat):Prop:=1<=n/\t.cols.length<=n/\0<=t.id
def RqI (t:pz)(n:Nat):Prop:=1<=n/\t.cols.length<=n/\0<=t.id
theorem aj7 {α:Type}(a:α)(n:Nat)(h:Ln a n):1<=n:=h
theorem aj6 {α:Type}(a:α)(m n:Nat)(h:m<=n)(k:Ln a m):Ln a n:=Nat.le_trans k h
theorem avH (a:Val)(n:Nat)(h:RqV a n):1<=n:=h.1
theorem avG (a:Val)(m n:Nat)(h:m<=n)(k:RqV a m):RqV a n:=⟨Nat.le_trans k.1 h,k.2⟩
theorem avF (a:List Val)(n:Nat)(h:RqW a n):1<=n:=h.1
theorem avE (a:List Val)(m n:Nat)(h:m<=n)(k:RqW a m):RqW a n:=⟨Nat.le_trans k.1 h,Nat.le_trans k.2.1 h,k.2.2⟩
theorem avR (a:List (List Val))(n:Nat)(h:RqB a n):1<=n:=h.1
theorem avQ (a:List (List Val))(m n:Nat)(h:m<=n)(k:RqB a m):RqB a n:=⟨Nat.le_trans k.1 h,Nat.le_trans k.2.1 h,λ r hr=>⟨Nat.le_trans (k.2.2 r hr).1 h,(k.2.2 r hr).2⟩⟩
theorem avJ (a:bR)(n:Nat)(h:RqT a n):1<=n:=h.1
theorem avI (a:bR)(m n:Nat)(h:m<=n)(k:RqT a m):RqT a n:=⟨Nat.le_trans k.1 h,Nat.le_trans k.2.1 h,k.2.2⟩
theorem avP (a:pz)(n:Nat)(h:RqI a n):1<=n:=h.1
theorem avO (a:pz)(m n:Nat)(h:m<=n)(k:RqI a m):RqI a n:=⟨Nat.le_trans k.1 h,Nat.le_trans k.2.1 h,k.2.2⟩
theorem WU {fuel:Nat}{cs:List Value}{x:DataW H×List MemPlace}(h:DataW.trod enc Tryz.prog w base spare held fuel 3 cs=some x):∃a,bT lF (fk w) (dA.cells a) cs/\Ln a (Rows.uptoBulk x.1):=by
 obtain⟨i,e,ey,_⟩:=DataW.trod_int Tryz.underlying3 h;subst e ey;exact⟨i,.cons _ _ _ _ (.int _ _) .nil,by simp[Ln,Rows.uptoBulk]⟩
theorem G4 {fuel:Nat}{cs:List Value}{x:DataW H×List MemPlace}(h:DataW.trod enc Tryz.prog w base spare held fuel 36 cs=some x):∃a:Val,bT lF (fk w) (a.cells) cs/\RqV a (Rows.uptoBulk x.1):=by
 obtain⟨xs,n,rfl,rfl,hl,hx,hf⟩:=DataW.trod_struct Tryz.underlying36 h;rw[show Tryz.prog.cellsOf 36=3 by kernel_rfl]at hl
 match cs,hl with
 |[c0,c1,c2],_ =>
 match xs,hx with
 |[x0,x1,x2],_ =>
 have f0:=hf 0 _ rfl;have f1:=hf 1 _ rfl;have f2:=hf 2 _ rfl;simp[axX,Zi,Iq]at f0 f1 f2;obtain⟨i0,e0,w0⟩:=DataW.trod_int Tryz.underlying3 f0;obtain⟨i1,e1,w1⟩:=DataW.trod_int Tryz.underlying2 f1;obtain⟨s2,e2,_⟩:=DataW.trod_string Tryz.underlying9 f2;simp at e0 e1 e2;subst e0 e1 e2;refine⟨⟨i0,i1,(s2.data.toList.map UInt8.toNat)⟩,?_,?_⟩
 ·refine .cons _ _ _ _ (.int _ _) ?_;refine .cons _ _ _ _ (.int _ _) ?_;refine .cons _ _ _ _ (.str _ _ rfl) ?_;exact .nil
 have hw:=w1.2;simp only[Lit.wf,Bool.and_eq_true,decide_eq_true_eq]at hw;exact⟨by simp only[Rows.uptoBulk];omega,by have h2:IntKind.i64.min<=i1:=(by simpa using hw.1);exact h2,by have h3:i1<=9223372036854775807:=(by simpa using hw.2);show i1<9223372036854775808;omega,λ c hc=>by obtain⟨u,_,rfl⟩:=List.mem_map.1 hc;exact u.toNat_lt⟩
theorem WV {fuel:Nat}{cs:List Value}{x:DataW H×List MemPlace}(h:DataW.trod enc Tryz.prog w base spare held fuel 126 cs=some x):∃a:q7,bT lF (fk w) (dV.cells a) cs/\Ln a (Rows.uptoBulk x.1):=by
 obtain⟨xs,n,rfl,rfl,hl,hx,hf⟩:=DataW.trod_struct Tryz.underlying126 h;rw[show Tryz.prog.cellsOf 126=3 by kernel_rfl]at hl
 match cs,hl with
 |[c0,c1,c2],_ =>
 match xs,hx with
 |[x0,x1,x2],_ =>
 have f0:=hf 0 _ rfl;have f1:=hf 1 _ rfl;have f2:=hf 2 _ rfl;simp[Zi,age,Iq]at f0 f1 f2;obtain⟨s0,e0,_⟩:=DataW.trod_string Tryz.underlying9 f0;obtain⟨i1,e1,w1⟩:=DataW.trod_int Tryz.underlying3 f1;obtain⟨b2,e2,_⟩:=DataW.trod_bool Tryz.underlying4 f2;simp at e0 e1 e2;subst e0 e1 e2;refine⟨⟨(s0.data.toList.map UInt8.toNat),i1,b2⟩,?_,?_⟩
 ·refine .cons _ _ _ _ (.str _ _ rfl) ?_;refine .cons _ _ _ _ (.int _ _) ?_;refine .cons _ _ _ _ (.bool _) ?_;exact .nil
 simp[Ln,Rows.uptoBulk]
theorem Un {fuel:Nat}{cs:List Value}{x:DataW H×List MemPlace}(h:DataW.trod enc Tryz.prog w base spare held fuel 31 cs=some x):∃v l,cs=[v]/\VR lF (fk w) (dV.ds l) v/\l.length<=Rows.uptoBulk x.1/\1<=Rows.uptoBulk x.1/\∀a∈l,Ln a (Rows.uptoBulk x.1):=fB dV (Q:=Ln) (by omega) aj7 aj6 Tryz.underlying31 ama (λ n' cs' y hn' hy=>WV hy) h
theorem Um {fuel:Nat}{cs:List Value}{x:DataW H×List MemPlace}(h:DataW.trod enc Tryz.prog w base spare held fuel 48 cs=some x):∃v l,cs=[v]/\VR lF (fk w) (dA.ds l) v/\l.length<=Rows.uptoBulk x.1/\1<=Rows.uptoBulk x.1/\∀a∈l,Ln a (Rows.uptoBulk x.1):=fB dA (Q:=Ln) (by omega) aj7 aj6 Tryz.underlying48 Zi (λ n' cs' y hn' hy=>WU hy) h
theorem Uc {fuel:Nat}{cs:List Value}{x:DataW H×List MemPlace}(h:DataW.trod enc Tryz.prog w base spare held fuel 70 cs=some x):∃v l,cs=[v]/\VR lF (fk w) (Aq.ds l) v/\l.length<=Rows.uptoBulk x.1/\1<=Rows.uptoBulk x.1/\∀a∈l,RqV a (Rows.uptoBulk x.1):=fB Aq (Q:=RqV) (by omega) avH avG Tryz.underlying70 ahC (λ n' cs' y hn' hy=>G4 hy) h
theorem Ui {fuel:Nat}{cs:List Value}{x:DataW H×List MemPlace}(h:DataW.trod enc Tryz.prog w base spare held fuel 70 cs=some x):∃a,bT lF (fk w) (eRw.cells a) cs/\RqW a (Rows.uptoBulk x.1):=by
 obtain⟨v,l,e,r,n,p,q⟩:=Uc h;subst e;rw[Y1]at r;exact⟨l,.cons _ _ _ _ r .nil,p,n,λ v hv=>(q v hv).2⟩
theorem Uh {fuel:Nat}{cs:List Value}{x:DataW H×List MemPlace}(h:DataW.trod enc Tryz.prog w base spare held fuel 49 cs=some x):∃v l,cs=[v]/\VR lF (fk w) (eRw.ds l) v/\l.length<=Rows.uptoBulk x.1/\1<=Rows.uptoBulk x.1/\∀a∈l,RqW a (Rows.uptoBulk x.1):=fB eRw (Q:=RqW) (by omega) avF avE Tryz.underlying49 ary (λ n' cs' y hn' hy=>Ui hy) h
theorem Uf {fuel:Nat}{cs:List Value}{x:DataW H×List MemPlace}(h:DataW.trod enc Tryz.prog w base spare held fuel 49 cs=some x):∃a,bT lF (fk w) (iO.cells a) cs/\RqB a (Rows.uptoBulk x.1):=by
 obtain⟨v,l,e,r,n,p,q⟩:=Uh h;subst e;rw[alP]at r;exact⟨l,.cons _ _ _ _ r .nil,p,n,λ v hv=>(q v hv).2⟩
theorem Ue {fuel:Nat}{cs:List Value}{x:DataW H×List MemPlace}(h:DataW.trod enc Tryz.prog w base spare held fuel 27 cs=some x):∃v l,cs=[v]/\VR lF (fk w) (iO.ds l) v/\l.length<=Rows.uptoBulk x.1/\1<=Rows.uptoBulk x.1/\∀a∈l,RqB a (Rows.uptoBulk x.1):=fB iO (Q:=RqB) (by omega) avR avQ Tryz.underlying27 arB (λ n' cs' y hn' hy=>Uf hy) h
theorem WL {fuel:Nat}{cs:List Value}{x:DataW H×List MemPlace}(h:DataW.trod enc Tryz.prog w base spare held fuel 67 cs=some x):∃a:bR,bT lF (fk w) (aM.cells a) cs/\RqT a (Rows.uptoBulk x.1):=by
 obtain⟨xs,n,rfl,rfl,hl,hx,hf⟩:=DataW.trod_struct Tryz.underlying67 h;rw[show Tryz.prog.cellsOf 67=4 by kernel_rfl]at hl
 match cs,hl with
 |[c0,c1,c2,c3],_ =>
 match xs,hx with
 |[x0,x1,x2,x3],_ =>
 have f0:=hf 0 _ rfl;have f1:=hf 1 _ rfl;have f2:=hf 2 _ rfl;have f3:=hf 3 _ rfl;simp[Iq,arH,ahB]at f0 f1 f2 f3;obtain⟨i0,e0,w0⟩:=DataW.trod_int Tryz.underlying65 f0;obtain⟨s1,e1,_⟩:=DataW.trod_string Tryz.underlying9 f1;obtain⟨v2,l2,e2,r2,n2,p2,q2⟩:=Un f2;obtain⟨i3,e3,w3⟩:=DataW.trod_int Tryz.underlying65 f3;simp at e0 e1 e2 e3;subst e0 e1 e2 e3;refine⟨⟨i0,(s1.data.toList.map UInt8.toNat),l2,i3⟩,?_,?_⟩
 ·refine .cons _ _ _ _ (.int _ _) ?_;refine .cons _ _ _ _ (.str _ _ rfl) ?_;refine .cons _ _ _ _ (r2) ?_;refine .cons _ _ _ _ (.int _ _) ?_;exact .nil
 have hw:(0:Int)<=i0:=(by have h:=w0.2;simp only[Lit.wf,Bool.and_eq_true,decide_eq_true_eq]at h;exact h.1);clear w0;simp only[RqT,List.map_cons,List.map_nil,Rows.uptoBulk,Rows.uptoBulkAll]at *;omega
theorem WR {fuel:Nat}{cs:List Value}{x:DataW H×List MemPlace}(h:DataW.trod enc Tryz.prog w base spare held fuel 77 cs=some x):∃a:pz,bT lF (fk w) (bw.cells a) cs/\RqI a (Rows.uptoBulk x.1):=by
 obtain⟨xs,n,rfl,rfl,hl,hx,hf⟩:=DataW.trod_struct Tryz.underlying77 h;rw[show Tryz.prog.cellsOf 77=6 by kernel_rfl]at hl
 match cs,hl with
 |[c0,c1,c2,c3,c4,c5],_ =>
 match xs,hx with
 |[x0,x1,x2,x3,x4,x5],_ =>
 have f0:=hf 0 _ rfl;have f1:=hf 1 _ rfl;have f2:=hf 2 _ rfl;have f3:=hf 3 _ rfl;have f4:=hf 4 _ rfl;have f5:=hf 5 _ rfl;simp[age,Iq,arC,ahB]at f0 f1 f2 f3 f4 f5;obtain⟨i0,e0,w0⟩:=DataW.trod_int Tryz.underlying65 f0;obtain⟨i1,e1,w1⟩:=DataW.trod_int Tryz.underlying65 f1;obtain⟨s2,e2,_⟩:=DataW.trod_string Tryz.underlying9 f2;obtain⟨v3,l3,e3,r3,n3,p3,q3⟩:=Um f3;obtain⟨b4,e4,_⟩:=DataW.trod_bool Tryz.underlying4 f4;obtain⟨i5,e5,w5⟩:=DataW.trod_int Tryz.underlying65 f5;simp at e0 e1 e2 e3 e4 e5;subst e0 e1 e2 e3 e4 e5;refine⟨⟨i0,i1,(s2.data.toList.map UInt8.toNat),l3,b4,i5⟩,?_,?_⟩
 ·refine .cons _ _ _ _ (.int _ _) ?_;refine .cons _ _ _ _ (.int _ _) ?_;refine .cons _ _ _ _ (.str _ _ rfl) ?_;refine .cons _ _ _ _ (r3) ?_;refine .cons _ _ _ _ (.bool _) ?_;refine .cons _ _ _ _ (.int _ _) ?_;exact .nil
 have hw:(0:Int)<=i0:=(by have h:=w0.2;simp only[Lit.wf,Bool.and_eq_true,decide_eq_true_eq]at h;exact h.1);clear w0;simp only[RqI,List.map_cons,List.map_nil,Rows.uptoBulk,Rows.uptoBulkAll]at *;omega
theorem Ud {fuel:Nat}{cs:List Value}{x:DataW H×List MemPlace}(h:DataW.trod enc Tryz.prog w base spare held fuel 23 cs=some x):∃v l,cs=[v]/\VR lF (fk w) (aM.ds l) v/\l.length<=Rows.uptoBulk x.1/\1<=Rows.uptoBulk x.1/\∀a∈l,RqT a (Rows.uptoBulk x.1):=fB aM (Q:=RqT) (by omega) avJ avI Tryz.underlying23 arz (λ n' cs' y hn' hy=>WL hy) h
theorem Uk {fuel:Nat}{cs:List Value}{x:DataW H×List MemPlace}(h:DataW.trod enc Tryz.prog w base spare held fuel 24 cs=some x):∃v l,cs=[v]/\VR lF (fk w) (bw.ds l) v/\l.length<=Rows.uptoBulk x.1/\1<=Rows.uptoBulk x.1/\∀a∈l,RqI a (Rows.uptoBulk x.1):=fB bw (Q:=RqI) (by omega) avP avO Tryz.underlying24 arx (λ n' cs' y hn' hy=>WR hy) h
structure RqH (s:cG)(n:Nat):Prop where
 t:s.tables.length<=n
 i:s.indexes.length<=n
 tc:∀t∈s.tables,t.cols.length<=n
 ic:∀x∈s.indexes,x.cols.length<=n
 ti:∀t∈s.tables,0<=t.id
 xi:∀t∈s.indexes,0<=t.id
structure RqO (w:qf)(n:Nat):Prop where
 s:RqH w.aY n
 l:w.rows.length<=n
 t:∀t∈w.rows,t.length<=n/\∀r∈t,r.length<=n/\∀v∈r,v.pq
theorem WN {fuel:Nat}{cs:List Value}{x:DataW H×List MemPlace}(h:DataW.trod enc Tryz.prog w base spare held fuel 26 cs=some x):∃a:cG,bT lF (fk w) (lj.cells a) cs/\RqH a (Rows.uptoBulk x.1):=by
 obtain⟨xs,n,rfl,rfl,hl,hx,hf⟩:=DataW.trod_struct Tryz.underlying26 h;rw[show Tryz.prog.cellsOf 26=2 by kernel_rfl]at hl
 match cs,hl with
 |[c0,c1],_ =>
 match xs,hx with
 |[x0,x1],_ =>
 have f0:=hf 0 _ rfl;have f1:=hf 1 _ rfl;simp[arK,arJ]at f0 f1;obtain⟨v0,l0,e0,r0,n0,p0,q0⟩:=Ud f0;obtain⟨v1,l1,e1,r1,n1,p1,q1⟩:=Uk f1;simp at e0 e1;subst e0 e1;refine⟨⟨l0,l1⟩,?_,?_⟩
 ·refine .cons _ _ _ _ (r0) ?_;refine .cons _ _ _ _ (r1) ?_;exact .nil
 simp only[List.map_cons,List.map_nil,Rows.uptoBulk,Rows.uptoBulkAll]at *;exact⟨by simp only;omega,by simp only;omega,λ t ht=>by have:=(q0 t ht).2;omega,λ t ht=>by have:=(q1 t ht).2;omega,λ t ht=>(q0 t ht).2.2,λ t ht=>(q1 t ht).2.2⟩
theorem WJ {fuel:Nat}{cs:List Value}{x:DataW H×List MemPlace}(h:DataW.trod enc Tryz.prog w base spare held fuel 29 cs=some x):∃a:qf,bT lF (fk w) (mX.cells a) cs/\RqO a (Rows.uptoBulk x.1):=by
 obtain⟨xs,n,rfl,rfl,hl,hx,hf⟩:=DataW.trod_struct Tryz.underlying29 h;rw[show Tryz.prog.cellsOf 29=3 by kernel_rfl]at hl
 match cs,hl with
 |[c0,c1,c2],_ =>
 match xs,hx with
 |[x0,x1],_ =>
 have f0:=hf 0 _ rfl;have f1:=hf 1 _ rfl;simp[arI,show Tryz.prog.cellsOf 26=2 by kernel_rfl]at f0 f1;obtain⟨a0,r0,q0⟩:=WN f0;obtain⟨v1,l1,e1,r1,n1,p1,q1⟩:=Ue f1;simp at e1;subst e1;refine⟨⟨a0,l1⟩,?_,?_⟩
 ·refine bT.append (a:=lj.cells a0) (x:=[c0,c1]) r0 ?_;refine .cons _ _ _ _ (r1) ?_;exact .nil
 simp only[List.map_cons,List.map_nil,Rows.uptoBulk,Rows.uptoBulkAll]at *;exact⟨⟨by have:=q0.t;simp only;omega,by have:=q0.i;simp only;omega,λ t ht=>by have:=q0.tc t ht;omega,λ t ht=>by have:=q0.ic t ht;omega,q0.ti,q0.xi⟩,by simp only;omega,λ t ht=>⟨by have:=(q1 t ht).2.1;omega,λ r hr=>⟨by have:=((q1 t ht).2.2 r hr).1;omega,((q1 t ht).2.2 r hr).2⟩⟩⟩
def RqE (e:Ex)(n:Nat):Prop:=e.sz<=n
def RqM (x:nD)(n:Nat):Prop:=x.e.sz<=n
def RqS (x:Src)(n:Nat):Prop:=x.cond.sz<=n
theorem avN (a:nD)(n:Nat)(h:RqM a n):1<=n:=Nat.le_trans a.e.kQ h
theorem avM (a:nD)(m n:Nat)(h:m<=n)(k:RqM a m):RqM a n:=Nat.le_trans k h
theorem avL (a:Src)(n:Nat)(h:RqS a n):1<=n:=Nat.le_trans a.cond.kQ h
theorem avK (a:Src)(m n:Nat)(h:m<=n)(k:RqS a m):RqS a n:=Nat.le_trans k h
theorem agt {l:List Ex}{ds:List (DataW H)}(h:uo (λ(e:Ex) d=>e.sz<=Rows.uptoBulk d) l ds):Ex.ri l<=Rows.uptoBulkAll ds:=by
 induction h with
 |nil=>simp[Ex.ri,Rows.uptoBulkAll]
 |cons h1 _ ih=>simp[Ex.ri,Rows.uptoBulkAll];omega
theorem G5:∀(N fuel:Nat) (cs:List Value) (x:DataW H×List MemPlace),fuel<=N->DataW.trod enc Tryz.prog w base spare held fuel 39 cs=some x->∃e:Ex,bT lF (fk w) (jc.cells e) cs/\RqE e (Rows.uptoBulk x.1)
 |0,fuel,cs,x,hN,h=>by
  obtain rfl:fuel=0:=by omega
  simp[DataW.trod]at h
 |N + 1,fuel,cs,x,hN,h=>by
  obtain⟨xs,n,rfl,rfl,hl,hx,hf⟩:=DataW.trod_struct Tryz.underlying39 h;rw[Ir]at hl
  match cs,hl with
  |[c0,c1,c2,c3,c4,c5,c6,c7],_ =>
   match xs,hx with
   |[x0,x1,x2,x3,x4,x5],_ =>
    have f0:=hf 0 _ rfl;have f1:=hf 1 _ rfl;have f2:=hf 2 _ rfl;have f3:=hf 3 _ rfl;have f4:=hf 4 _ rfl;have f5:=hf 5 _ rfl;simp[Zi,Iq,ahC,arG]at f0 f1 f2 f3 f4 f5;obtain⟨i0,e0,_⟩:=DataW.trod_int Tryz.underlying3 f0;obtain⟨v1,e1,_⟩:=G4 f1;obtain⟨s2,e2,_⟩:=DataW.trod_string Tryz.underlying9 f2;obtain⟨s3,e3,_⟩:=DataW.trod_string Tryz.underlying9 f3;obtain⟨i4,e4,_⟩:=DataW.trod_int Tryz.underlying3 f4;obtain⟨v,l,e5,hv,hr⟩:=xW (α:=Ex) (av:=jc.cells) (R:=λ e d=>e.sz<=Rows.uptoBulk d) Tryz.underlying37 Ir (by omega) Ex.bm (λ n' cs' y hn' hy=>G5 N n' cs' y (by omega) hy) f5;simp at e0 e2 e3 e4 e5;subst e0 e2 e3 e4 e5;refine⟨.mk i0 v1 (s2.data.toList.map UInt8.toNat) (s3.data.toList.map UInt8.toNat) i4 l,?_,?_⟩
    ·rw[ahv];simp only[Ex.cells];refine .cons _ _ _ _ (.int _ _) ?_;refine bT.append (a:=[.int .i64 v1.kind,.int .i64 v1.num,.str v1.s]) (x:=[c1,c2,c3]) e1 ?_;refine .cons _ _ _ _ (.str _ _ rfl) (.cons _ _ _ _ (.str _ _ rfl) (.cons _ _ _ _ (.int _ _) (.cons _ _ _ _ ?_ .nil)));rw[<-ahu];exact hv
    have:Ex.ri l<=Rows.uptoBulk x5.1:=by
     rcases hr with⟨rfl,_⟩|⟨ds,rest,e,ha⟩
     ·simp[Ex.ri]
     rw[e];have:=agt ha;simp[Rows.uptoBulk];omega
    simp[RqE,Ex.sz,Rows.uptoBulk,Rows.uptoBulkAll];omega
theorem wE {fuel:Nat}{cs:List Value}{x:DataW H×List MemPlace}(h:DataW.trod enc Tryz.prog w base spare held fuel 39 cs=some x):∃e:Ex,bT lF (fk w) (Ex.cells e) cs/\RqE e (Rows.uptoBulk x.1):=G5 _ _ _ _ (Nat.le_refl _) h
theorem WT {fuel:Nat}{cs:List Value}{x:DataW H×List MemPlace}(h:DataW.trod enc Tryz.prog w base spare held fuel 96 cs=some x):∃a:nD,bT lF (fk w) (my.cells a) cs/\RqM a (Rows.uptoBulk x.1):=by
 obtain⟨xs,n,rfl,rfl,hl,hx,hf⟩:=DataW.trod_struct Tryz.underlying96 h;rw[show Tryz.prog.cellsOf 96=9 by kernel_rfl]at hl
 match cs,hl with
 |[c0,c1,c2,c3,c4,c5,c6,c7,c8],_ =>
 match xs,hx with
 |[x0,x1],_ =>
 have f0:=hf 0 _ rfl;have f1:=hf 1 _ rfl;simp[Iq,Ir]at f0 f1;obtain⟨a0,r0,q0⟩:=wE f0;obtain⟨s1,e1,_⟩:=DataW.trod_string Tryz.underlying9 f1;simp at e1;subst e1;refine⟨⟨a0,(s1.data.toList.map UInt8.toNat)⟩,?_,?_⟩
 ·refine bT.append (a:=Ex.cells a0) (x:=[c0,c1,c2,c3,c4,c5,c6,c7]) r0 ?_;refine .cons _ _ _ _ (.str _ _ rfl) ?_;exact .nil
 simp only[RqM,RqE,List.map_cons,List.map_nil,Rows.uptoBulk,Rows.uptoBulkAll]at *;omega
theorem WM {fuel:Nat}{cs:List Value}{x:DataW H×List MemPlace}(h:DataW.trod enc Tryz.prog w base spare held fuel 64 cs=some x):∃a:Src,bT lF (fk w) (ju.cells a) cs/\RqS a (Rows.uptoBulk x.1):=by
 obtain⟨xs,n,rfl,rfl,hl,hx,hf⟩:=DataW.trod_struct Tryz.underlying64 h;rw[show Tryz.prog.cellsOf 64=10 by kernel_rfl]at hl
 match cs,hl with
 |[c0,c1,c2,c3,c4,c5,c6,c7,c8,c9],_ =>
 match xs,hx with
 |[x0,x1,x2],_ =>
 have f0:=hf 0 _ rfl;have f1:=hf 1 _ rfl;have f2:=hf 2 _ rfl;simp[Iq,Ir]at f0 f1 f2;obtain⟨s0,e0,_⟩:=DataW.trod_string Tryz.underlying9 f0;obtain⟨s1,e1,_⟩:=DataW.trod_string Tryz.underlying9 f1;obtain⟨a2,r2,q2⟩:=wE f2;simp at e0 e1;subst e0 e1;refine⟨⟨(s0.data.toList.map UInt8.toNat),(s1.data.toList.map UInt8.toNat),a2⟩,?_,?_⟩
 ·refine .cons _ _ _ _ (.str _ _ rfl) ?_;refine .cons _ _ _ _ (.str _ _ rfl) ?_;exact r2
 simp only[RqS,RqE,List.map_cons,List.map_nil,Rows.uptoBulk,Rows.uptoBulkAll]at *;omega
theorem WQ {fuel:Nat}{cs:List Value}{x:DataW H×List MemPlace}(h:DataW.trod enc Tryz.prog w base spare held fuel 200 cs=some x):∃a:Ord,bT lF (fk w) (pf.cells a) cs/\Ln a (Rows.uptoBulk x.1):=by
 obtain⟨xs,n,rfl,rfl,hl,hx,hf⟩:=DataW.trod_struct Tryz.underlying200 h;rw[show Tryz.prog.cellsOf 200=2 by kernel_rfl]at hl
 match cs,hl with
 |[c0,c1],_ =>
 match xs,hx with
 |[x0,x1],_ =>
 have f0:=hf 0 _ rfl;have f1:=hf 1 _ rfl;simp[age,Iq]at f0 f1;obtain⟨s0,e0,_⟩:=DataW.trod_string Tryz.underlying9 f0;obtain⟨b1,e1,_⟩:=DataW.trod_bool Tryz.underlying4 f1;simp at e0 e1;subst e0 e1;refine⟨⟨(s0.data.toList.map UInt8.toNat),b1⟩,?_,?_⟩
 ·refine .cons _ _ _ _ (.str _ _ rfl) ?_;refine .cons _ _ _ _ (.bool _) ?_;exact .nil
 simp[Ln,Rows.uptoBulk]
theorem Ul {fuel:Nat}{cs:List Value}{x:DataW H×List MemPlace}(h:DataW.trod enc Tryz.prog w base spare held fuel 40 cs=some x):∃v l,cs=[v]/\VR lF (fk w) (my.ds l) v/\l.length<=Rows.uptoBulk x.1/\1<=Rows.uptoBulk x.1/\∀a∈l,RqM a (Rows.uptoBulk x.1):=fB my (Q:=RqM) (by omega) avN avM Tryz.underlying40 arw (λ n' cs' y hn' hy=>WT hy) h
theorem Ug {fuel:Nat}{cs:List Value}{x:DataW H×List MemPlace}(h:DataW.trod enc Tryz.prog w base spare held fuel 41 cs=some x):∃v l,cs=[v]/\VR lF (fk w) (ju.ds l) v/\l.length<=Rows.uptoBulk x.1/\1<=Rows.uptoBulk x.1/\∀a∈l,RqS a (Rows.uptoBulk x.1):=fB ju (Q:=RqS) (by omega) avL avK Tryz.underlying41 arA (λ n' cs' y hn' hy=>WM hy) h
theorem Uj {fuel:Nat}{cs:List Value}{x:DataW H×List MemPlace}(h:DataW.trod enc Tryz.prog w base spare held fuel 42 cs=some x):∃v l,cs=[v]/\VR lF (fk w) (pf.ds l) v/\l.length<=Rows.uptoBulk x.1/\1<=Rows.uptoBulk x.1/\∀a∈l,Ln a (Rows.uptoBulk x.1):=fB pf (Q:=Ln) (by omega) aj7 aj6 Tryz.underlying42 al' (λ n' cs' y hn' hy=>WQ hy) h
structure RqQ (q:bG)(n:Nat):Prop where
 items:q.items.length<=n
 item:∀y∈q.items,y.e.sz<=n
 ar:q.ar.length<=n
 src:∀y∈q.ar,y.cond.sz<=n
 order:q.order.length<=n
 one:1<=n
theorem WO {fuel:Nat}{cs:List Value}{x:DataW H×List MemPlace}(h:DataW.trod enc Tryz.prog w base spare held fuel 44 cs=some x):∃a:bG,bT lF (fk w) (bG.cells a) cs/\RqQ a (Rows.uptoBulk x.1):=by
 obtain⟨xs,n,rfl,rfl,hl,hx,hf⟩:=DataW.trod_struct Tryz.underlying44 h;rw[show Tryz.prog.cellsOf 44=15 by kernel_rfl]at hl
 match cs,hl with
 |[c0,c1,c2,c3,c4,c5,c6,c7,c8,c9,c10,c11,c12,c13,c14],_ =>
 match xs,hx with
 |[x0,x1,x2,x3,x4,x5,x6,x7],_ =>
 have f0:=hf 0 _ rfl;have f1:=hf 1 _ rfl;have f2:=hf 2 _ rfl;have f3:=hf 3 _ rfl;have f4:=hf 4 _ rfl;have f5:=hf 5 _ rfl;have f6:=hf 6 _ rfl;have f7:=hf 7 _ rfl;simp[Zi,age,Ir,arF,arE,arD]at f0 f1 f2 f3 f4 f5 f6 f7;obtain⟨b0,e0,_⟩:=DataW.trod_bool Tryz.underlying4 f0;obtain⟨b1,e1,_⟩:=DataW.trod_bool Tryz.underlying4 f1;obtain⟨v2,l2,e2,r2,n2,p2,q2⟩:=Ul f2;obtain⟨v3,l3,e3,r3,n3,p3,q3⟩:=Ug f3;obtain⟨a4,r4,q4⟩:=wE f4;obtain⟨v5,l5,e5,r5,n5,p5,q5⟩:=Uj f5;obtain⟨b6,e6,_⟩:=DataW.trod_bool Tryz.underlying4 f6;obtain⟨i7,e7,w7⟩:=DataW.trod_int Tryz.underlying3 f7;simp at e0 e1 e2 e3 e5 e6 e7;subst e0 e1 e2 e3 e5 e6 e7;refine⟨⟨b0,b1,l2,l3,a4,l5,b6,i7⟩,?_,?_⟩
 ·simp only[bG.cells,List.cons_append,List.nil_append];refine .cons _ _ _ _ (.bool _) ?_;refine .cons _ _ _ _ (.bool _) ?_;refine .cons _ _ _ _ (r2) ?_;refine .cons _ _ _ _ (r3) ?_;refine bT.append (a:=Ex.cells a4) (x:=[c4,c5,c6,c7,c8,c9,c10,c11]) r4 ?_;refine .cons _ _ _ _ (r5) ?_;refine .cons _ _ _ _ (.bool _) ?_;refine .cons _ _ _ _ (.int _ _) ?_;exact .nil
 simp only[RqE,List.map_cons,List.map_nil,Rows.uptoBulk,Rows.uptoBulkAll]at *;exact⟨by simp only;omega,λ t ht=>by have:=q2 t ht;simp only[RqM]at this;omega,by simp only;omega,λ t ht=>by have:=q3 t ht;simp only[RqS]at this;omega,by simp only;omega,by omega⟩
end
end Go.Abs
