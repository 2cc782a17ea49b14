/- A part. -/
import Derived.Test.YtlhafglnokpioaaGreatBt12
import Derived.Test.YtlhafglnokpioaaGreatRows
noncomputable section
namespace Go.Abs
open Go.Proofs Go.Proofs.YtlhafglnokpioaaGreat
set_option maxRecDepth 100000
theorem Va {α H:Type}{Q:α->Nat->Prop}(hQ:∀a n,Q a n->1<=n){l:List α}{ds:List (DataW H)}(h:rW (λ a d=>Q a (Rows.uptoBulk d)) l ds):l.length<=Rows.uptoBulkAll ds:=by
 induction h with
 |nil=>simp[Rows.uptoBulkAll]
 |cons h1 _ ih=>have:=hQ _ _ h1;simp[Rows.uptoBulkAll];omega
theorem U' {α H:Type}{Q:α->Nat->Prop}(hm:∀a m n,m<=n->Q a m->Q a n){l:List α}{ds:List (DataW H)}(h:rW (λ a d=>Q a (Rows.uptoBulk d)) l ds):∀a∈l,Q a (Rows.uptoBulkAll ds):=by
 induction h with
 |nil=>intro a ha;cases ha
 |cons h1 _ ih =>
  intro a ha
  rcases List.mem_cons.1 ha with rfl|ha
  ·exact hm _ _ _ (by simp[Rows.uptoBulkAll]) h1
  exact hm _ _ _ (by simp[Rows.uptoBulkAll]) (ih a ha)
section
variable {H:Type}{enc:TypeId×Value->H}{w:World}{base:Nat}{spare:Nat->Bool}{held:Bool}
theorem fM {α:Type}{k:Nat}(E:aL α k){Q:α->Nat->Prop}(hk:0<k)(h1:∀a n,Q a n->1<=n)(hm:∀a m n,m<=n->Q a m->Q a n){t e:TypeId}{fuel:Nat}{cs:List Value}{x:DataW H×List MemPlace}(ht:Tryz.prog.underlying t=some (.slice e))(hs:Tryz.prog.cellsOf e=k)
  (hel:∀n cs y,n<fuel->DataW.trod enc Tryz.prog w base spare held n e cs=some y->∃a,bO lF (fQ w) (E.cells a) cs/\Q a (Rows.uptoBulk y.1))(h:DataW.trod enc Tryz.prog w base spare held fuel t cs=some x):
  ∃v l,cs=[v]/\VR lF (fQ w) (E.ds l) v/\l.length<=Rows.uptoBulk x.1/\1<=Rows.uptoBulk x.1/\∀a∈l,Q a (Rows.uptoBulk x.1):=by
 obtain⟨v,l,e,hv,hr⟩:=vT (α:=α) (av:=E.cells) (R:=λ a d=>Q a (Rows.uptoBulk d)) ht hs hk E.bf hel h;refine⟨v,l,e,hv,?_⟩
 rcases hr with⟨rfl,h2⟩|⟨ds,rest,e,ha⟩
 ·rw[h2];simp[Rows.uptoBulk]
 rw[e];have h3:=Va h1 ha;have h4:=U' hm ha;simp only[Rows.uptoBulk];exact⟨by omega,by omega,λ a ha=>hm _ _ _ (by omega) (h4 a ha)⟩
theorem asW:Tryz.prog.cellsOf 2=1:=by kernel_rfl
theorem ab_:Tryz.prog.cellsOf 3=1:=by kernel_rfl
theorem anB:Tryz.prog.cellsOf 4=1:=by kernel_rfl
theorem UI:Tryz.prog.cellsOf 9=1:=by kernel_rfl
theorem ads:Tryz.prog.cellsOf 65=1:=by kernel_rfl
theorem anF:Tryz.prog.cellsOf 23=1:=by kernel_rfl
theorem anE:Tryz.prog.cellsOf 24=1:=by kernel_rfl
theorem anC:Tryz.prog.cellsOf 31=1:=by kernel_rfl
theorem adu:Tryz.prog.cellsOf 36=3:=by kernel_rfl
theorem anA:Tryz.prog.cellsOf 48=1:=by kernel_rfl
theorem anx:Tryz.prog.cellsOf 67=4:=by kernel_rfl
theorem anv:Tryz.prog.cellsOf 77=6:=by kernel_rfl
theorem aia:Tryz.prog.cellsOf 126=3:=by kernel_rfl
theorem anw:Tryz.prog.cellsOf 70=1:=by kernel_rfl
theorem anz:Tryz.prog.cellsOf 49=1:=by kernel_rfl
theorem anD:Tryz.prog.cellsOf 27=1:=by kernel_rfl
theorem Um (l:List Val):sO.ds l=aF l:=by
 unfold aL.ds aF
 congr 1
 induction l with
 |nil=>rfl
 |cons a r ih=>rw[aL.kz,ih];rfl
def Vf {α:Type}(_:α)(n:Nat):Prop:=1<=n
def RqV (v:Val)(n:Nat):Prop:=1<=n/\v.eA
def RqW (r:List Val)(n:Nat):Prop:=1<=n/\r.length<=n/\∀v∈r,v.eA
def RqB (t:List (List Val))(n:Nat):Prop:=1<=n/\t.length<=n/\∀r∈t,r.length<=n/\∀v∈r,v.eA
def RqT (t:bo)(n:Nat):Prop:=1<=n/\t.cols.length<=n/\0<=t.id
def RqI (t:mb)(n:Nat):Prop:=1<=n/\t.cols.length<=n/\0<=t.id
theorem ak6 {α:Type}(a:α)(n:Nat)(h:Vf a n):1<=n:=h
theorem ak5 {α:Type}(a:α)(m n:Nat)(h:m<=n)(k:Vf a m):Vf a n:=Nat.le_trans k h
theorem aqP (a:Val)(n:Nat)(h:RqV a n):1<=n:=h.1
theorem aqO (a:Val)(m n:Nat)(h:m<=n)(k:RqV a m):RqV a n:=⟨Nat.le_trans k.1 h,k.2⟩
theorem aqN (a:List Val)(n:Nat)(h:RqW a n):1<=n:=h.1
theorem aqM (a:List Val)(m n:Nat)(h:m<=n)(k:RqW a m):RqW a n:=⟨Nat.le_trans k.1 h,Nat.le_trans k.2.1 h,k.2.2⟩
theorem aqZ (a:List (List Val))(n:Nat)(h:RqB a n):1<=n:=h.1
theorem aqY (a:List (List Val))(m n:Nat)(h:m<=n)(k:RqB a m):RqB a n:=⟨Nat.le_trans k.1 h,Nat.le_trans k.2.1 h,λ r hr=>⟨Nat.le_trans (k.2.2 r hr).1 h,(k.2.2 r hr).2⟩⟩
theorem aqR (a:bo)(n:Nat)(h:RqT a n):1<=n:=h.1
theorem aqQ (a:bo)(m n:Nat)(h:m<=n)(k:RqT a m):RqT a n:=⟨Nat.le_trans k.1 h,Nat.le_trans k.2.1 h,k.2.2⟩
theorem aqV (a:mb)(n:Nat)(h:RqI a n):1<=n:=h.1
theorem aqU (a:mb)(m n:Nat)(h:m<=n)(k:RqI a m):RqI a n:=⟨Nat.le_trans k.1 h,Nat.le_trans k.2.1 h,k.2.2⟩
theorem RI {fuel:Nat}{cs:List Value}{x:DataW H×List MemPlace}(h:DataW.trod enc Tryz.prog w base spare held fuel 3 cs=some x):∃a,bO lF (fQ w) (cQ.cells a) cs/\Vf a (Rows.uptoBulk x.1):=by
 obtain⟨i,e,ey,_⟩:=DataW.trod_int Tryz.underlying3 h;subst e ey;exact⟨i,.cons _ _ _ _ (.int _ _) .nil,by simp[Vf,Rows.uptoBulk]⟩
theorem D9 {fuel:Nat}{cs:List Value}{x:DataW H×List MemPlace}(h:DataW.trod enc Tryz.prog w base spare held fuel 36 cs=some x):∃a:Val,bO lF (fQ w) (a.cells) cs/\RqV a (Rows.uptoBulk x.1):=by
 obtain⟨xs,n,rfl,rfl,hl,hx,hf⟩:=DataW.trod_struct Tryz.underlying36 h;rw[show Tryz.prog.cellsOf 36=3 by kernel_rfl]at hl
 match cs,hl with
 |[c0,c1,c2],_ =>
 match xs,hx with
 |[x0,x1,x2],_ =>
 have f0:=hf 0 _ rfl;have f1:=hf 1 _ rfl;have f2:=hf 2 _ rfl;simp[asW,ab_,UI]at f0 f1 f2;obtain⟨i0,e0,w0⟩:=DataW.trod_int Tryz.underlying3 f0;obtain⟨i1,e1,w1⟩:=DataW.trod_int Tryz.underlying2 f1;obtain⟨s2,e2,_⟩:=DataW.trod_string Tryz.underlying9 f2;simp at e0 e1 e2;subst e0 e1 e2;refine⟨⟨i0,i1,(s2.data.toList.map UInt8.toNat)⟩,?_,?_⟩
 ·refine .cons _ _ _ _ (.int _ _) ?_;refine .cons _ _ _ _ (.int _ _) ?_;refine .cons _ _ _ _ (.str _ _ rfl) ?_;exact .nil
 have hw:=w1.2;simp only[Lit.wf,Bool.and_eq_true,decide_eq_true_eq]at hw;exact⟨by simp only[Rows.uptoBulk];omega,by have h2:IntKind.i64.min<=i1:=(by simpa using hw.1);exact h2,by have h3:i1<=9223372036854775807:=(by simpa using hw.2);show i1<9223372036854775808;omega,λ c hc=>by obtain⟨u,_,rfl⟩:=List.mem_map.1 hc;exact u.toNat_lt⟩
theorem RL {fuel:Nat}{cs:List Value}{x:DataW H×List MemPlace}(h:DataW.trod enc Tryz.prog w base spare held fuel 126 cs=some x):∃a:ny,bO lF (fQ w) (bL.cells a) cs/\Vf a (Rows.uptoBulk x.1):=by
 obtain⟨xs,n,rfl,rfl,hl,hx,hf⟩:=DataW.trod_struct Tryz.underlying126 h;rw[show Tryz.prog.cellsOf 126=3 by kernel_rfl]at hl
 match cs,hl with
 |[c0,c1,c2],_ =>
 match xs,hx with
 |[x0,x1,x2],_ =>
 have f0:=hf 0 _ rfl;have f1:=hf 1 _ rfl;have f2:=hf 2 _ rfl;simp[ab_,anB,UI]at f0 f1 f2;obtain⟨s0,e0,_⟩:=DataW.trod_string Tryz.underlying9 f0;obtain⟨i1,e1,w1⟩:=DataW.trod_int Tryz.underlying3 f1;obtain⟨b2,e2,_⟩:=DataW.trod_bool Tryz.underlying4 f2;simp at e0 e1 e2;subst e0 e1 e2;refine⟨⟨(s0.data.toList.map UInt8.toNat),i1,b2⟩,?_,?_⟩
 ·refine .cons _ _ _ _ (.str _ _ rfl) ?_;refine .cons _ _ _ _ (.int _ _) ?_;refine .cons _ _ _ _ (.bool _) ?_;exact .nil
 simp[Vf,Rows.uptoBulk]
theorem O9 {fuel:Nat}{cs:List Value}{x:DataW H×List MemPlace}(h:DataW.trod enc Tryz.prog w base spare held fuel 31 cs=some x):∃v l,cs=[v]/\VR lF (fQ w) (bL.ds l) v/\l.length<=Rows.uptoBulk x.1/\1<=Rows.uptoBulk x.1/\∀a∈l,Vf a (Rows.uptoBulk x.1):=fM bL (Q:=Vf) (by omega) ak6 ak5 Tryz.underlying31 aia (λ n' cs' y hn' hy=>RL hy) h
theorem O8 {fuel:Nat}{cs:List Value}{x:DataW H×List MemPlace}(h:DataW.trod enc Tryz.prog w base spare held fuel 48 cs=some x):∃v l,cs=[v]/\VR lF (fQ w) (cQ.ds l) v/\l.length<=Rows.uptoBulk x.1/\1<=Rows.uptoBulk x.1/\∀a∈l,Vf a (Rows.uptoBulk x.1):=fM cQ (Q:=Vf) (by omega) ak6 ak5 Tryz.underlying48 ab_ (λ n' cs' y hn' hy=>RI hy) h
theorem O0 {fuel:Nat}{cs:List Value}{x:DataW H×List MemPlace}(h:DataW.trod enc Tryz.prog w base spare held fuel 70 cs=some x):∃v l,cs=[v]/\VR lF (fQ w) (sO.ds l) v/\l.length<=Rows.uptoBulk x.1/\1<=Rows.uptoBulk x.1/\∀a∈l,RqV a (Rows.uptoBulk x.1):=fM sO (Q:=RqV) (by omega) aqP aqO Tryz.underlying70 adu (λ n' cs' y hn' hy=>D9 hy) h
theorem O6 {fuel:Nat}{cs:List Value}{x:DataW H×List MemPlace}(h:DataW.trod enc Tryz.prog w base spare held fuel 70 cs=some x):∃a,bO lF (fQ w) (Uo.cells a) cs/\RqW a (Rows.uptoBulk x.1):=by
 obtain⟨v,l,e,r,n,p,q⟩:=O0 h;subst e;rw[Um]at r;exact⟨l,.cons _ _ _ _ r .nil,p,n,λ v hv=>(q v hv).2⟩
theorem O5 {fuel:Nat}{cs:List Value}{x:DataW H×List MemPlace}(h:DataW.trod enc Tryz.prog w base spare held fuel 49 cs=some x):∃v l,cs=[v]/\VR lF (fQ w) (Uo.ds l) v/\l.length<=Rows.uptoBulk x.1/\1<=Rows.uptoBulk x.1/\∀a∈l,RqW a (Rows.uptoBulk x.1):=fM Uo (Q:=RqW) (by omega) aqN aqM Tryz.underlying49 anw (λ n' cs' y hn' hy=>O6 hy) h
theorem O4 {fuel:Nat}{cs:List Value}{x:DataW H×List MemPlace}(h:DataW.trod enc Tryz.prog w base spare held fuel 49 cs=some x):∃a,bO lF (fQ w) (dM.cells a) cs/\RqB a (Rows.uptoBulk x.1):=by
 obtain⟨v,l,e,r,n,p,q⟩:=O5 h;subst e;rw[Un]at r;exact⟨l,.cons _ _ _ _ r .nil,p,n,λ v hv=>(q v hv).2⟩
theorem O3 {fuel:Nat}{cs:List Value}{x:DataW H×List MemPlace}(h:DataW.trod enc Tryz.prog w base spare held fuel 27 cs=some x):∃v l,cs=[v]/\VR lF (fQ w) (dM.ds l) v/\l.length<=Rows.uptoBulk x.1/\1<=Rows.uptoBulk x.1/\∀a∈l,RqB a (Rows.uptoBulk x.1):=fM dM (Q:=RqB) (by omega) aqZ aqY Tryz.underlying27 anz (λ n' cs' y hn' hy=>O4 hy) h
theorem RE {fuel:Nat}{cs:List Value}{x:DataW H×List MemPlace}(h:DataW.trod enc Tryz.prog w base spare held fuel 67 cs=some x):∃a:bo,bO lF (fQ w) (aA.cells a) cs/\RqT a (Rows.uptoBulk x.1):=by
 obtain⟨xs,n,rfl,rfl,hl,hx,hf⟩:=DataW.trod_struct Tryz.underlying67 h;rw[show Tryz.prog.cellsOf 67=4 by kernel_rfl]at hl
 match cs,hl with
 |[c0,c1,c2,c3],_ =>
 match xs,hx with
 |[x0,x1,x2,x3],_ =>
 have f0:=hf 0 _ rfl;have f1:=hf 1 _ rfl;have f2:=hf 2 _ rfl;have f3:=hf 3 _ rfl;simp[UI,anC,ads]at f0 f1 f2 f3;obtain⟨i0,e0,w0⟩:=DataW.trod_int Tryz.underlying65 f0;obtain⟨s1,e1,_⟩:=DataW.trod_string Tryz.underlying9 f1;obtain⟨v2,l2,e2,r2,n2,p2,q2⟩:=O9 f2;obtain⟨i3,e3,w3⟩:=DataW.trod_int Tryz.underlying65 f3;simp at e0 e1 e2 e3;subst e0 e1 e2 e3;refine⟨⟨i0,(s1.data.toList.map UInt8.toNat),l2,i3⟩,?_,?_⟩
 ·refine .cons _ _ _ _ (.int _ _) ?_;refine .cons _ _ _ _ (.str _ _ rfl) ?_;refine .cons _ _ _ _ (r2) ?_;refine .cons _ _ _ _ (.int _ _) ?_;exact .nil
 have hw:(0:Int)<=i0:=(by have h:=w0.2;simp only[Lit.wf,Bool.and_eq_true,decide_eq_true_eq]at h;exact h.1);clear w0;simp only[RqT,List.map_cons,List.map_nil,Rows.uptoBulk,Rows.uptoBulkAll]at *;omega
theorem RH {fuel:Nat}{cs:List Value}{x:DataW H×List MemPlace}(h:DataW.trod enc Tryz.prog w base spare held fuel 77 cs=some x):∃a:mb,bO lF (fQ w) (aQ.cells a) cs/\RqI a (Rows.uptoBulk x.1):=by
 obtain⟨xs,n,rfl,rfl,hl,hx,hf⟩:=DataW.trod_struct Tryz.underlying77 h;rw[show Tryz.prog.cellsOf 77=6 by kernel_rfl]at hl
 match cs,hl with
 |[c0,c1,c2,c3,c4,c5],_ =>
 match xs,hx with
 |[x0,x1,x2,x3,x4,x5],_ =>
 have f0:=hf 0 _ rfl;have f1:=hf 1 _ rfl;have f2:=hf 2 _ rfl;have f3:=hf 3 _ rfl;have f4:=hf 4 _ rfl;have f5:=hf 5 _ rfl;simp[anB,UI,anA,ads]at f0 f1 f2 f3 f4 f5;obtain⟨i0,e0,w0⟩:=DataW.trod_int Tryz.underlying65 f0;obtain⟨i1,e1,w1⟩:=DataW.trod_int Tryz.underlying65 f1;obtain⟨s2,e2,_⟩:=DataW.trod_string Tryz.underlying9 f2;obtain⟨v3,l3,e3,r3,n3,p3,q3⟩:=O8 f3;obtain⟨b4,e4,_⟩:=DataW.trod_bool Tryz.underlying4 f4;obtain⟨i5,e5,w5⟩:=DataW.trod_int Tryz.underlying65 f5;simp at e0 e1 e2 e3 e4 e5;subst e0 e1 e2 e3 e4 e5;refine⟨⟨i0,i1,(s2.data.toList.map UInt8.toNat),l3,b4,i5⟩,?_,?_⟩
 ·refine .cons _ _ _ _ (.int _ _) ?_;refine .cons _ _ _ _ (.int _ _) ?_;refine .cons _ _ _ _ (.str _ _ rfl) ?_;refine .cons _ _ _ _ (r3) ?_;refine .cons _ _ _ _ (.bool _) ?_;refine .cons _ _ _ _ (.int _ _) ?_;exact .nil
 have hw:(0:Int)<=i0:=(by have h:=w0.2;simp only[Lit.wf,Bool.and_eq_true,decide_eq_true_eq]at h;exact h.1);clear w0;simp only[RqI,List.map_cons,List.map_nil,Rows.uptoBulk,Rows.uptoBulkAll]at *;omega
theorem O1 {fuel:Nat}{cs:List Value}{x:DataW H×List MemPlace}(h:DataW.trod enc Tryz.prog w base spare held fuel 23 cs=some x):∃v l,cs=[v]/\VR lF (fQ w) (aA.ds l) v/\l.length<=Rows.uptoBulk x.1/\1<=Rows.uptoBulk x.1/\∀a∈l,RqT a (Rows.uptoBulk x.1):=fM aA (Q:=RqT) (by omega) aqR aqQ Tryz.underlying23 anx (λ n' cs' y hn' hy=>RE hy) h
theorem O7 {fuel:Nat}{cs:List Value}{x:DataW H×List MemPlace}(h:DataW.trod enc Tryz.prog w base spare held fuel 24 cs=some x):∃v l,cs=[v]/\VR lF (fQ w) (aQ.ds l) v/\l.length<=Rows.uptoBulk x.1/\1<=Rows.uptoBulk x.1/\∀a∈l,RqI a (Rows.uptoBulk x.1):=fM aQ (Q:=RqI) (by omega) aqV aqU Tryz.underlying24 anv (λ n' cs' y hn' hy=>RH hy) h
structure RqH (s:bB)(n:Nat):Prop where
 t:s.tables.length<=n
 i:s.indexes.length<=n
 tc:∀t∈s.tables,t.cols.length<=n
 ic:∀x∈s.indexes,x.cols.length<=n
 ti:∀t∈s.tables,0<=t.id
 xi:∀t∈s.indexes,0<=t.id
structure RqO (w:jP)(n:Nat):Prop where
 s:RqH w.aO n
 l:w.rows.length<=n
 t:∀t∈w.rows,t.length<=n/\∀r∈t,r.length<=n/\∀v∈r,v.eA
theorem RF {fuel:Nat}{cs:List Value}{x:DataW H×List MemPlace}(h:DataW.trod enc Tryz.prog w base spare held fuel 26 cs=some x):∃a:bB,bO lF (fQ w) (fe.cells a) cs/\RqH a (Rows.uptoBulk x.1):=by
 obtain⟨xs,n,rfl,rfl,hl,hx,hf⟩:=DataW.trod_struct Tryz.underlying26 h;rw[show Tryz.prog.cellsOf 26=2 by kernel_rfl]at hl
 match cs,hl with
 |[c0,c1],_ =>
 match xs,hx with
 |[x0,x1],_ =>
 have f0:=hf 0 _ rfl;have f1:=hf 1 _ rfl;simp[anF,anE]at f0 f1;obtain⟨v0,l0,e0,r0,n0,p0,q0⟩:=O1 f0;obtain⟨v1,l1,e1,r1,n1,p1,q1⟩:=O7 f1;simp at e0 e1;subst e0 e1;refine⟨⟨l0,l1⟩,?_,?_⟩
 ·refine .cons _ _ _ _ (r0) ?_;refine .cons _ _ _ _ (r1) ?_;exact .nil
 simp only[List.map_cons,List.map_nil,Rows.uptoBulk,Rows.uptoBulkAll]at *;exact⟨by simp only;omega,by simp only;omega,λ t ht=>by have:=(q0 t ht).2;omega,λ t ht=>by have:=(q1 t ht).2;omega,λ t ht=>(q0 t ht).2.2,λ t ht=>(q1 t ht).2.2⟩
theorem RD {fuel:Nat}{cs:List Value}{x:DataW H×List MemPlace}(h:DataW.trod enc Tryz.prog w base spare held fuel 29 cs=some x):∃a:jP,bO lF (fQ w) (fc.cells a) cs/\RqO a (Rows.uptoBulk x.1):=by
 obtain⟨xs,n,rfl,rfl,hl,hx,hf⟩:=DataW.trod_struct Tryz.underlying29 h;rw[show Tryz.prog.cellsOf 29=3 by kernel_rfl]at hl
 match cs,hl with
 |[c0,c1,c2],_ =>
 match xs,hx with
 |[x0,x1],_ =>
 have f0:=hf 0 _ rfl;have f1:=hf 1 _ rfl;simp[anD,show Tryz.prog.cellsOf 26=2 by kernel_rfl]at f0 f1;obtain⟨a0,r0,q0⟩:=RF f0;obtain⟨v1,l1,e1,r1,n1,p1,q1⟩:=O3 f1;simp at e1;subst e1;refine⟨⟨a0,l1⟩,?_,?_⟩
 ·refine bO.append (a:=fe.cells a0) (x:=[c0,c1]) r0 ?_;refine .cons _ _ _ _ (r1) ?_;exact .nil
 simp only[List.map_cons,List.map_nil,Rows.uptoBulk,Rows.uptoBulkAll]at *;exact⟨⟨by have:=q0.t;simp only;omega,by have:=q0.i;simp only;omega,λ t ht=>by have:=q0.tc t ht;omega,λ t ht=>by have:=q0.ic t ht;omega,q0.ti,q0.xi⟩,by simp only;omega,λ t ht=>⟨by have:=(q1 t ht).2.1;omega,λ r hr=>⟨by have:=((q1 t ht).2.2 r hr).1;omega,((q1 t ht).2.2 r hr).2⟩⟩⟩
theorem adt:Tryz.prog.cellsOf 37=1:=by kernel_rfl
theorem UJ:Tryz.prog.cellsOf 39=8:=by kernel_rfl
def RqE (e:Ex)(n:Nat):Prop:=e.sz<=n/\e.eA
def RqR (r:List Ex)(n:Nat):Prop:=1<=n/\r.length<=n/\∀e∈r,e.sz<=n/\e.eA
theorem aqX (a:Ex)(n:Nat)(h:RqE a n):1<=n:=Nat.le_trans a.sj h.1
theorem aqW (a:Ex)(m n:Nat)(h:m<=n)(k:RqE a m):RqE a n:=⟨Nat.le_trans k.1 h,k.2⟩
theorem aqT (a:List Ex)(n:Nat)(h:RqR a n):1<=n:=h.1
theorem aqS (a:List Ex)(m n:Nat)(h:m<=n)(k:RqR a m):RqR a n:=⟨Nat.le_trans k.1 h,Nat.le_trans k.2.1 h,λ e he=>⟨Nat.le_trans (k.2.2 e he).1 h,(k.2.2 e he).2⟩⟩
theorem acp {l:List Ex}{ds:List (DataW H)}(h:rW (λ(e:Ex) d=>e.sz<=Rows.uptoBulk d/\e.eA) l ds):Ex.zW l<=Rows.uptoBulkAll ds/\Ex.qp l:=by
 induction h with
 |nil=>simp[Ex.zW,Ex.qp]
 |cons h1 _ ih=>simp[Ex.zW,Ex.qp,Rows.uptoBulkAll];exact⟨by omega,h1.2,ih.2⟩
theorem Kz:∀(N fuel:Nat) (cs:List Value) (x:DataW H×List MemPlace),fuel<=N->DataW.trod enc Tryz.prog w base spare held fuel 39 cs=some x->∃e:Ex,bO lF (fQ w) (eX.cells e) cs/\RqE e (Rows.uptoBulk x.1)
 |0,fuel,cs,x,hN,h=>by
  obtain rfl:fuel=0:=by omega
  simp[DataW.trod]at h
 |N + 1,fuel,cs,x,hN,h=>by
  obtain⟨xs,n,rfl,rfl,hl,hx,hf⟩:=DataW.trod_struct Tryz.underlying39 h;rw[UJ]at hl
  match cs,hl with
  |[c0,c1,c2,c3,c4,c5,c6,c7],_ =>
   match xs,hx with
   |[x0,x1,x2,x3,x4,x5],_ =>
    have f0:=hf 0 _ rfl;have f1:=hf 1 _ rfl;have f2:=hf 2 _ rfl;have f3:=hf 3 _ rfl;have f4:=hf 4 _ rfl;have f5:=hf 5 _ rfl;simp[ab_,UI,adu,adt]at f0 f1 f2 f3 f4 f5;obtain⟨i0,e0,_⟩:=DataW.trod_int Tryz.underlying3 f0;obtain⟨v1,e1,g1⟩:=D9 f1;obtain⟨s2,e2,_⟩:=DataW.trod_string Tryz.underlying9 f2;obtain⟨s3,e3,_⟩:=DataW.trod_string Tryz.underlying9 f3;obtain⟨i4,e4,_⟩:=DataW.trod_int Tryz.underlying3 f4;obtain⟨v,l,e5,hv,hr⟩:=vT (α:=Ex) (av:=eX.cells) (R:=λ e d=>e.sz<=Rows.uptoBulk d/\e.eA) Tryz.underlying37 UJ (by omega) Ex.bf (λ n' cs' y hn' hy=>Kz N n' cs' y (by omega) hy) f5;simp at e0 e2 e3 e4 e5;subst e0 e2 e3 e4 e5;refine⟨.mk i0 v1 (s2.data.toList.map UInt8.toNat) (s3.data.toList.map UInt8.toNat) i4 l,?_,?_⟩
    ·rw[Us];simp only[Ex.cells];refine .cons _ _ _ _ (.int _ _) ?_;refine bO.append (a:=[.int .i64 v1.kind,.int .i64 v1.num,.str v1.s]) (x:=[c1,c2,c3]) e1 ?_;refine .cons _ _ _ _ (.str _ _ rfl) (.cons _ _ _ _ (.str _ _ rfl) (.cons _ _ _ _ (.int _ _) (.cons _ _ _ _ ?_ .nil)));rw[<-anm];exact hv
    have:Ex.zW l<=Rows.uptoBulk x5.1/\Ex.qp l:=by
     rcases hr with⟨rfl,_⟩|⟨ds,rest,e,ha⟩
     ·simp[Ex.zW,Ex.qp]
     rw[e];have:=acp ha;exact⟨by simp[Rows.uptoBulk];omega,this.2⟩
    refine⟨?_,by simp only[Ex.eA];exact⟨g1.2,this.2⟩⟩;simp[Ex.sz,Rows.uptoBulk,Rows.uptoBulkAll];omega
theorem RJ {fuel:Nat}{cs:List Value}{x:DataW H×List MemPlace}(h:DataW.trod enc Tryz.prog w base spare held fuel 37 cs=some x):∃v l,cs=[v]/\VR lF (fQ w) (eX.ds l) v/\l.length<=Rows.uptoBulk x.1/\1<=Rows.uptoBulk x.1/\∀a∈l,RqE a (Rows.uptoBulk x.1):=
 fM eX (Q:=RqE) (by omega) aqX aqW Tryz.underlying37 UJ (λ n' cs' y hn' hy=>Kz n' n' cs' y (Nat.le_refl _) hy) h
theorem RG {fuel:Nat}{cs:List Value}{x:DataW H×List MemPlace}(h:DataW.trod enc Tryz.prog w base spare held fuel 37 cs=some x):∃a,bO lF (fQ w) (dA.cells a) cs/\RqR a (Rows.uptoBulk x.1):=by
 obtain⟨v,l,e,r,n,p,q⟩:=RJ h;subst e;exact⟨l,.cons _ _ _ _ r .nil,p,n,q⟩
theorem G1 {fuel:Nat}{cs:List Value}{x:DataW H×List MemPlace}(h:DataW.trod enc Tryz.prog w base spare held fuel 33 cs=some x):∃v l,cs=[v]/\VR lF (fQ w) (dA.ds l) v/\l.length<=Rows.uptoBulk x.1/\1<=Rows.uptoBulk x.1/\∀a∈l,RqR a (Rows.uptoBulk x.1):=
 fM dA (Q:=RqR) (by omega) aqT aqS Tryz.underlying33 adt (λ n' cs' y hn' hy=>RG hy) h
end
end Go.Abs
