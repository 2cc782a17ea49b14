/- A part. -/
import Derived.Test.YtlhafglnokpioaaGreatBt12
import Derived.Test.YtlhafglnokpioaaGreatRows
noncomputable section
namespace Go.Abs
open Go.Proofs Go.Proofs.YtlhafglnokpioaaGreat
set_option maxRecDepth 100000
theorem Zq {α H:Type}{Q:α->Nat->Prop}(hQ:∀a n,Q a n->1<=n){l:List α}{ds:List (DataW H)}(h:ux (λ a d=>Q a (Rows.uptoBulk d)) l ds):l.length<=Rows.uptoBulkAll ds:=by
 induction h with
 |nil=>simp[Rows.uptoBulkAll]
 |cons h1 _ ih=>have:=hQ _ _ h1;simp[Rows.uptoBulkAll];omega
theorem Zp {α H:Type}{Q:α->Nat->Prop}(hm:∀a m n,m<=n->Q a m->Q a n){l:List α}{ds:List (DataW H)}(h:ux (λ a d=>Q a (Rows.uptoBulk d)) l ds):∀a∈l,Q a (Rows.uptoBulkAll ds):=by
 induction h with
 |nil=>intro a ha;cases ha
 |cons h1 _ ih =>
  intro a ha
  rcases List.mem_cons.1 ha with rfl|ha
  ·exact hm _ _ _ (by simp[Rows.uptoBulkAll]) h1
  exact hm _ _ _ (by simp[Rows.uptoBulkAll]) (ih a ha)
section
variable {H:Type}{enc:TypeId×Value->H}{w:World}{base:Nat}{spare:Nat->Bool}{held:Bool}
theorem jv {α:Type}{k:Nat}(E:aZ α k){Q:α->Nat->Prop}(hk:0<k)(h1:∀a n,Q a n->1<=n)(hm:∀a m n,m<=n->Q a m->Q a n){t e:TypeId}{fuel:Nat}{cs:List Value}{x:DataW H×List MemPlace}(ht:Tryz.prog.underlying t=some (.slice e))(hs:Tryz.prog.cellsOf e=k)
  (hel:∀n cs y,n<fuel->DataW.trod enc Tryz.prog w base spare held n e cs=some y->∃a,bW mJ (gj w) (E.cells a) cs/\Q a (Rows.uptoBulk y.1))(h:DataW.trod enc Tryz.prog w base spare held fuel t cs=some x):
  ∃v l,cs=[v]/\VR mJ (gj w) (E.ds l) v/\l.length<=Rows.uptoBulk x.1/\1<=Rows.uptoBulk x.1/\∀a∈l,Q a (Rows.uptoBulk x.1):=by
 obtain⟨v,l,e,hv,hr⟩:=yf (α:=α) (av:=E.cells) (R:=λ a d=>Q a (Rows.uptoBulk d)) ht hs hk E.bq hel h;refine⟨v,l,e,hv,?_⟩
 rcases hr with⟨rfl,h2⟩|⟨ds,rest,e,ha⟩
 ·rw[h2];simp[Rows.uptoBulk]
 rw[e];have h3:=Zq h1 ha;have h4:=Zp hm ha;simp only[Rows.uptoBulk];exact⟨by omega,by omega,λ a ha=>hm _ _ _ (by omega) (h4 a ha)⟩
theorem axq:Tryz.prog.cellsOf 2=1:=by kernel_rfl
theorem af9:Tryz.prog.cellsOf 3=1:=by kernel_rfl
theorem arv:Tryz.prog.cellsOf 4=1:=by kernel_rfl
theorem Y4:Tryz.prog.cellsOf 9=1:=by kernel_rfl
theorem ahr:Tryz.prog.cellsOf 65=1:=by kernel_rfl
theorem arA:Tryz.prog.cellsOf 23=1:=by kernel_rfl
theorem arz:Tryz.prog.cellsOf 24=1:=by kernel_rfl
theorem arx:Tryz.prog.cellsOf 31=1:=by kernel_rfl
theorem aht:Tryz.prog.cellsOf 36=3:=by kernel_rfl
theorem aru:Tryz.prog.cellsOf 48=1:=by kernel_rfl
theorem ars:Tryz.prog.cellsOf 67=4:=by kernel_rfl
theorem arp:Tryz.prog.cellsOf 77=6:=by kernel_rfl
theorem alZ:Tryz.prog.cellsOf 126=3:=by kernel_rfl
theorem arq:Tryz.prog.cellsOf 70=1:=by kernel_rfl
theorem art:Tryz.prog.cellsOf 49=1:=by kernel_rfl
theorem ary:Tryz.prog.cellsOf 27=1:=by kernel_rfl
theorem arw:Tryz.prog.cellsOf 37=1:=by kernel_rfl
theorem ahs:Tryz.prog.cellsOf 39=8:=by kernel_rfl
theorem YO (l:List Val):uZ.ds l=ay l:=by
 unfold aZ.ds ay
 congr 1
 induction l with
 |nil=>rfl
 |cons a r ih=>rw[aZ.lC,ih];rfl
def ZA {α:Type}(_:α)(n:Nat):Prop:=1<=n
def RqV (v:Val)(n:Nat):Prop:=1<=n/\v.nD
def RqW (r:List Val)(n:Nat):Prop:=1<=n/\r.length<=n/\∀v∈r,v.nD
def RqB (t:List (List Val))(n:Nat):Prop:=1<=n/\t.length<=n/\∀r∈t,r.length<=n/\∀v∈r,v.nD
def RqT (t:bK)(n:Nat):Prop:=1<=n/\t.cols.length<=n/\0<=t.id
def RqI (t:pf)(n:Nat):Prop:=1<=n/\t.cols.length<=n/\0<=t.id
theorem aoZ {α:Type}(a:α)(n:Nat)(h:ZA a n):1<=n:=h
theorem aoY {α:Type}(a:α)(m n:Nat)(h:m<=n)(k:ZA a m):ZA a n:=Nat.le_trans k h
theorem avm (a:Val)(n:Nat)(h:RqV a n):1<=n:=h.1
theorem avl (a:Val)(m n:Nat)(h:m<=n)(k:RqV a m):RqV a n:=⟨Nat.le_trans k.1 h,k.2⟩
theorem avk (a:List Val)(n:Nat)(h:RqW a n):1<=n:=h.1
theorem avj (a:List Val)(m n:Nat)(h:m<=n)(k:RqW a m):RqW a n:=⟨Nat.le_trans k.1 h,Nat.le_trans k.2.1 h,k.2.2⟩
theorem avs (a:List (List Val))(n:Nat)(h:RqB a n):1<=n:=h.1
theorem avr (a:List (List Val))(m n:Nat)(h:m<=n)(k:RqB a m):RqB a n:=⟨Nat.le_trans k.1 h,Nat.le_trans k.2.1 h,λ r hr=>⟨Nat.le_trans (k.2.2 r hr).1 h,(k.2.2 r hr).2⟩⟩
theorem avo (a:bK)(n:Nat)(h:RqT a n):1<=n:=h.1
theorem avn (a:bK)(m n:Nat)(h:m<=n)(k:RqT a m):RqT a n:=⟨Nat.le_trans k.1 h,Nat.le_trans k.2.1 h,k.2.2⟩
theorem avq (a:pf)(n:Nat)(h:RqI a n):1<=n:=h.1
theorem avp (a:pf)(m n:Nat)(h:m<=n)(k:RqI a m):RqI a n:=⟨Nat.le_trans k.1 h,Nat.le_trans k.2.1 h,k.2.2⟩
theorem WH {fuel:Nat}{cs:List Value}{x:DataW H×List MemPlace}(h:DataW.trod enc Tryz.prog w base spare held fuel 3 cs=some x):∃a,bW mJ (gj w) (dA.cells a) cs/\ZA a (Rows.uptoBulk x.1):=by
 obtain⟨i,e,ey,_⟩:=DataW.trod_int Tryz.underlying3 h;subst e ey;exact⟨i,.cons _ _ _ _ (.int _ _) .nil,by simp[ZA,Rows.uptoBulk]⟩
theorem GM {fuel:Nat}{cs:List Value}{x:DataW H×List MemPlace}(h:DataW.trod enc Tryz.prog w base spare held fuel 36 cs=some x):∃a:Val,bW mJ (gj w) (a.cells) cs/\RqV a (Rows.uptoBulk x.1):=by
 obtain⟨xs,n,rfl,rfl,hl,hx,hf⟩:=DataW.trod_struct Tryz.underlying36 h;rw[show Tryz.prog.cellsOf 36=3 by kernel_rfl]at hl
 match cs,hl with
 |[c0,c1,c2],_ =>
 match xs,hx with
 |[x0,x1,x2],_ =>
 have f0:=hf 0 _ rfl;have f1:=hf 1 _ rfl;have f2:=hf 2 _ rfl;simp[axq,af9,Y4]at f0 f1 f2;obtain⟨i0,e0,w0⟩:=DataW.trod_int Tryz.underlying3 f0;obtain⟨i1,e1,w1⟩:=DataW.trod_int Tryz.underlying2 f1;obtain⟨s2,e2,_⟩:=DataW.trod_string Tryz.underlying9 f2;simp at e0 e1 e2;subst e0 e1 e2;refine⟨⟨i0,i1,(s2.data.toList.map UInt8.toNat)⟩,?_,?_⟩
 ·refine .cons _ _ _ _ (.int _ _) ?_;refine .cons _ _ _ _ (.int _ _) ?_;refine .cons _ _ _ _ (.str _ _ rfl) ?_;exact .nil
 have hw:=w1.2;simp only[Lit.wf,Bool.and_eq_true,decide_eq_true_eq]at hw;exact⟨by simp only[Rows.uptoBulk];omega,by have h2:IntKind.i64.min<=i1:=(by simpa using hw.1);exact h2,by have h3:i1<=9223372036854775807:=(by simpa using hw.2);show i1<9223372036854775808;omega,λ c hc=>by obtain⟨u,_,rfl⟩:=List.mem_map.1 hc;exact u.toNat_lt⟩
theorem WI {fuel:Nat}{cs:List Value}{x:DataW H×List MemPlace}(h:DataW.trod enc Tryz.prog w base spare held fuel 126 cs=some x):∃a:oS,bW mJ (gj w) (dL.cells a) cs/\ZA a (Rows.uptoBulk x.1):=by
 obtain⟨xs,n,rfl,rfl,hl,hx,hf⟩:=DataW.trod_struct Tryz.underlying126 h;rw[show Tryz.prog.cellsOf 126=3 by kernel_rfl]at hl
 match cs,hl with
 |[c0,c1,c2],_ =>
 match xs,hx with
 |[x0,x1,x2],_ =>
 have f0:=hf 0 _ rfl;have f1:=hf 1 _ rfl;have f2:=hf 2 _ rfl;simp[af9,arv,Y4]at f0 f1 f2;obtain⟨s0,e0,_⟩:=DataW.trod_string Tryz.underlying9 f0;obtain⟨i1,e1,w1⟩:=DataW.trod_int Tryz.underlying3 f1;obtain⟨b2,e2,_⟩:=DataW.trod_bool Tryz.underlying4 f2;simp at e0 e1 e2;subst e0 e1 e2;refine⟨⟨(s0.data.toList.map UInt8.toNat),i1,b2⟩,?_,?_⟩
 ·refine .cons _ _ _ _ (.str _ _ rfl) ?_;refine .cons _ _ _ _ (.int _ _) ?_;refine .cons _ _ _ _ (.bool _) ?_;exact .nil
 simp[ZA,Rows.uptoBulk]
theorem T0 {fuel:Nat}{cs:List Value}{x:DataW H×List MemPlace}(h:DataW.trod enc Tryz.prog w base spare held fuel 31 cs=some x):∃v l,cs=[v]/\VR mJ (gj w) (dL.ds l) v/\l.length<=Rows.uptoBulk x.1/\1<=Rows.uptoBulk x.1/\∀a∈l,ZA a (Rows.uptoBulk x.1):=jv dL (Q:=ZA) (by omega) aoZ aoY Tryz.underlying31 alZ (λ n' cs' y hn' hy=>WI hy) h
theorem TZ {fuel:Nat}{cs:List Value}{x:DataW H×List MemPlace}(h:DataW.trod enc Tryz.prog w base spare held fuel 48 cs=some x):∃v l,cs=[v]/\VR mJ (gj w) (dA.ds l) v/\l.length<=Rows.uptoBulk x.1/\1<=Rows.uptoBulk x.1/\∀a∈l,ZA a (Rows.uptoBulk x.1):=jv dA (Q:=ZA) (by omega) aoZ aoY Tryz.underlying48 af9 (λ n' cs' y hn' hy=>WH hy) h
theorem TR {fuel:Nat}{cs:List Value}{x:DataW H×List MemPlace}(h:DataW.trod enc Tryz.prog w base spare held fuel 70 cs=some x):∃v l,cs=[v]/\VR mJ (gj w) (uZ.ds l) v/\l.length<=Rows.uptoBulk x.1/\1<=Rows.uptoBulk x.1/\∀a∈l,RqV a (Rows.uptoBulk x.1):=jv uZ (Q:=RqV) (by omega) avm avl Tryz.underlying70 aht (λ n' cs' y hn' hy=>GM hy) h
theorem TX {fuel:Nat}{cs:List Value}{x:DataW H×List MemPlace}(h:DataW.trod enc Tryz.prog w base spare held fuel 70 cs=some x):∃a,bW mJ (gj w) (eRw.cells a) cs/\RqW a (Rows.uptoBulk x.1):=by
 obtain⟨v,l,e,r,n,p,q⟩:=TR h;subst e;rw[YO]at r;exact⟨l,.cons _ _ _ _ r .nil,p,n,λ v hv=>(q v hv).2⟩
theorem TW {fuel:Nat}{cs:List Value}{x:DataW H×List MemPlace}(h:DataW.trod enc Tryz.prog w base spare held fuel 49 cs=some x):∃v l,cs=[v]/\VR mJ (gj w) (eRw.ds l) v/\l.length<=Rows.uptoBulk x.1/\1<=Rows.uptoBulk x.1/\∀a∈l,RqW a (Rows.uptoBulk x.1):=jv eRw (Q:=RqW) (by omega) avk avj Tryz.underlying49 arq (λ n' cs' y hn' hy=>TX hy) h
theorem TV {fuel:Nat}{cs:List Value}{x:DataW H×List MemPlace}(h:DataW.trod enc Tryz.prog w base spare held fuel 49 cs=some x):∃a,bW mJ (gj w) (iH.cells a) cs/\RqB a (Rows.uptoBulk x.1):=by
 obtain⟨v,l,e,r,n,p,q⟩:=TW h;subst e;rw[alD]at r;exact⟨l,.cons _ _ _ _ r .nil,p,n,λ v hv=>(q v hv).2⟩
theorem TU {fuel:Nat}{cs:List Value}{x:DataW H×List MemPlace}(h:DataW.trod enc Tryz.prog w base spare held fuel 27 cs=some x):∃v l,cs=[v]/\VR mJ (gj w) (iH.ds l) v/\l.length<=Rows.uptoBulk x.1/\1<=Rows.uptoBulk x.1/\∀a∈l,RqB a (Rows.uptoBulk x.1):=jv iH (Q:=RqB) (by omega) avs avr Tryz.underlying27 art (λ n' cs' y hn' hy=>TV hy) h
theorem WC {fuel:Nat}{cs:List Value}{x:DataW H×List MemPlace}(h:DataW.trod enc Tryz.prog w base spare held fuel 67 cs=some x):∃a:bK,bW mJ (gj w) (aH.cells a) cs/\RqT a (Rows.uptoBulk x.1):=by
 obtain⟨xs,n,rfl,rfl,hl,hx,hf⟩:=DataW.trod_struct Tryz.underlying67 h;rw[show Tryz.prog.cellsOf 67=4 by kernel_rfl]at hl
 match cs,hl with
 |[c0,c1,c2,c3],_ =>
 match xs,hx with
 |[x0,x1,x2,x3],_ =>
 have f0:=hf 0 _ rfl;have f1:=hf 1 _ rfl;have f2:=hf 2 _ rfl;have f3:=hf 3 _ rfl;simp[Y4,arx,ahr]at f0 f1 f2 f3;obtain⟨i0,e0,w0⟩:=DataW.trod_int Tryz.underlying65 f0;obtain⟨s1,e1,_⟩:=DataW.trod_string Tryz.underlying9 f1;obtain⟨v2,l2,e2,r2,n2,p2,q2⟩:=T0 f2;obtain⟨i3,e3,w3⟩:=DataW.trod_int Tryz.underlying65 f3;simp at e0 e1 e2 e3;subst e0 e1 e2 e3;refine⟨⟨i0,(s1.data.toList.map UInt8.toNat),l2,i3⟩,?_,?_⟩
 ·refine .cons _ _ _ _ (.int _ _) ?_;refine .cons _ _ _ _ (.str _ _ rfl) ?_;refine .cons _ _ _ _ (r2) ?_;refine .cons _ _ _ _ (.int _ _) ?_;exact .nil
 have hw:(0:Int)<=i0:=(by have h:=w0.2;simp only[Lit.wf,Bool.and_eq_true,decide_eq_true_eq]at h;exact h.1);clear w0;simp only[RqT,List.map_cons,List.map_nil,Rows.uptoBulk,Rows.uptoBulkAll]at *;omega
theorem WG {fuel:Nat}{cs:List Value}{x:DataW H×List MemPlace}(h:DataW.trod enc Tryz.prog w base spare held fuel 77 cs=some x):∃a:pf,bW mJ (gj w) (bp.cells a) cs/\RqI a (Rows.uptoBulk x.1):=by
 obtain⟨xs,n,rfl,rfl,hl,hx,hf⟩:=DataW.trod_struct Tryz.underlying77 h;rw[show Tryz.prog.cellsOf 77=6 by kernel_rfl]at hl
 match cs,hl with
 |[c0,c1,c2,c3,c4,c5],_ =>
 match xs,hx with
 |[x0,x1,x2,x3,x4,x5],_ =>
 have f0:=hf 0 _ rfl;have f1:=hf 1 _ rfl;have f2:=hf 2 _ rfl;have f3:=hf 3 _ rfl;have f4:=hf 4 _ rfl;have f5:=hf 5 _ rfl;simp[arv,Y4,aru,ahr]at f0 f1 f2 f3 f4 f5;obtain⟨i0,e0,w0⟩:=DataW.trod_int Tryz.underlying65 f0;obtain⟨i1,e1,w1⟩:=DataW.trod_int Tryz.underlying65 f1;obtain⟨s2,e2,_⟩:=DataW.trod_string Tryz.underlying9 f2;obtain⟨v3,l3,e3,r3,n3,p3,q3⟩:=TZ f3;obtain⟨b4,e4,_⟩:=DataW.trod_bool Tryz.underlying4 f4;obtain⟨i5,e5,w5⟩:=DataW.trod_int Tryz.underlying65 f5;simp at e0 e1 e2 e3 e4 e5;subst e0 e1 e2 e3 e4 e5;refine⟨⟨i0,i1,(s2.data.toList.map UInt8.toNat),l3,b4,i5⟩,?_,?_⟩
 ·refine .cons _ _ _ _ (.int _ _) ?_;refine .cons _ _ _ _ (.int _ _) ?_;refine .cons _ _ _ _ (.str _ _ rfl) ?_;refine .cons _ _ _ _ (r3) ?_;refine .cons _ _ _ _ (.bool _) ?_;refine .cons _ _ _ _ (.int _ _) ?_;exact .nil
 have hw:(0:Int)<=i0:=(by have h:=w0.2;simp only[Lit.wf,Bool.and_eq_true,decide_eq_true_eq]at h;exact h.1);clear w0;simp only[RqI,List.map_cons,List.map_nil,Rows.uptoBulk,Rows.uptoBulkAll]at *;omega
theorem TS {fuel:Nat}{cs:List Value}{x:DataW H×List MemPlace}(h:DataW.trod enc Tryz.prog w base spare held fuel 23 cs=some x):∃v l,cs=[v]/\VR mJ (gj w) (aH.ds l) v/\l.length<=Rows.uptoBulk x.1/\1<=Rows.uptoBulk x.1/\∀a∈l,RqT a (Rows.uptoBulk x.1):=jv aH (Q:=RqT) (by omega) avo avn Tryz.underlying23 ars (λ n' cs' y hn' hy=>WC hy) h
theorem TY {fuel:Nat}{cs:List Value}{x:DataW H×List MemPlace}(h:DataW.trod enc Tryz.prog w base spare held fuel 24 cs=some x):∃v l,cs=[v]/\VR mJ (gj w) (bp.ds l) v/\l.length<=Rows.uptoBulk x.1/\1<=Rows.uptoBulk x.1/\∀a∈l,RqI a (Rows.uptoBulk x.1):=jv bp (Q:=RqI) (by omega) avq avp Tryz.underlying24 arp (λ n' cs' y hn' hy=>WG hy) h
structure RqH (s:cn)(n:Nat):Prop where
 t:s.tables.length<=n
 i:s.indexes.length<=n
 tc:∀t∈s.tables,t.cols.length<=n
 ic:∀x∈s.indexes,x.cols.length<=n
 ti:∀t∈s.tables,0<=t.id
 xi:∀t∈s.indexes,0<=t.id
structure RqO (w:pe)(n:Nat):Prop where
 s:RqH w.aL n
 l:w.rows.length<=n
 t:∀t∈w.rows,t.length<=n/\∀r∈t,r.length<=n/\∀v∈r,v.nD
theorem WE {fuel:Nat}{cs:List Value}{x:DataW H×List MemPlace}(h:DataW.trod enc Tryz.prog w base spare held fuel 26 cs=some x):∃a:cn,bW mJ (gj w) (kQ.cells a) cs/\RqH a (Rows.uptoBulk x.1):=by
 obtain⟨xs,n,rfl,rfl,hl,hx,hf⟩:=DataW.trod_struct Tryz.underlying26 h;rw[show Tryz.prog.cellsOf 26=2 by kernel_rfl]at hl
 match cs,hl with
 |[c0,c1],_ =>
 match xs,hx with
 |[x0,x1],_ =>
 have f0:=hf 0 _ rfl;have f1:=hf 1 _ rfl;simp[arA,arz]at f0 f1;obtain⟨v0,l0,e0,r0,n0,p0,q0⟩:=TS f0;obtain⟨v1,l1,e1,r1,n1,p1,q1⟩:=TY f1;simp at e0 e1;subst e0 e1;refine⟨⟨l0,l1⟩,?_,?_⟩
 ·refine .cons _ _ _ _ (r0) ?_;refine .cons _ _ _ _ (r1) ?_;exact .nil
 simp only[List.map_cons,List.map_nil,Rows.uptoBulk,Rows.uptoBulkAll]at *;exact⟨by simp only;omega,by simp only;omega,λ t ht=>by have:=(q0 t ht).2;omega,λ t ht=>by have:=(q1 t ht).2;omega,λ t ht=>(q0 t ht).2.2,λ t ht=>(q1 t ht).2.2⟩
theorem WB {fuel:Nat}{cs:List Value}{x:DataW H×List MemPlace}(h:DataW.trod enc Tryz.prog w base spare held fuel 29 cs=some x):∃a:pe,bW mJ (gj w) (oW.cells a) cs/\RqO a (Rows.uptoBulk x.1):=by
 obtain⟨xs,n,rfl,rfl,hl,hx,hf⟩:=DataW.trod_struct Tryz.underlying29 h;rw[show Tryz.prog.cellsOf 29=3 by kernel_rfl]at hl
 match cs,hl with
 |[c0,c1,c2],_ =>
 match xs,hx with
 |[x0,x1],_ =>
 have f0:=hf 0 _ rfl;have f1:=hf 1 _ rfl;simp[ary,show Tryz.prog.cellsOf 26=2 by kernel_rfl]at f0 f1;obtain⟨a0,r0,q0⟩:=WE f0;obtain⟨v1,l1,e1,r1,n1,p1,q1⟩:=TU f1;simp at e1;subst e1;refine⟨⟨a0,l1⟩,?_,?_⟩
 ·refine bW.append (a:=kQ.cells a0) (x:=[c0,c1]) r0 ?_;refine .cons _ _ _ _ (r1) ?_;exact .nil
 simp only[List.map_cons,List.map_nil,Rows.uptoBulk,Rows.uptoBulkAll]at *;exact⟨⟨by have:=q0.t;simp only;omega,by have:=q0.i;simp only;omega,λ t ht=>by have:=q0.tc t ht;omega,λ t ht=>by have:=q0.ic t ht;omega,q0.ti,q0.xi⟩,by simp only;omega,λ t ht=>⟨by have:=(q1 t ht).2.1;omega,λ r hr=>⟨by have:=((q1 t ht).2.2 r hr).1;omega,((q1 t ht).2.2 r hr).2⟩⟩⟩
def RqE (e:Ex)(n:Nat):Prop:=e.sz<=n
theorem agm {l:List Ex}{ds:List (DataW H)}(h:ux (λ(e:Ex) d=>e.sz<=Rows.uptoBulk d) l ds):Ex.rL l<=Rows.uptoBulkAll ds:=by
 induction h with
 |nil=>simp[Ex.rL,Rows.uptoBulkAll]
 |cons h1 _ ih=>simp[Ex.rL,Rows.uptoBulkAll];omega
theorem GN:∀(N fuel:Nat) (cs:List Value) (x:DataW H×List MemPlace),fuel<=N->DataW.trod enc Tryz.prog w base spare held fuel 39 cs=some x->∃e:Ex,bW mJ (gj w) (jg.cells e) cs/\RqE e (Rows.uptoBulk x.1)
 |0,fuel,cs,x,hN,h=>by
  obtain rfl:fuel=0:=by omega
  simp[DataW.trod]at h
 |N + 1,fuel,cs,x,hN,h=>by
  obtain⟨xs,n,rfl,rfl,hl,hx,hf⟩:=DataW.trod_struct Tryz.underlying39 h;rw[ahs]at hl
  match cs,hl with
  |[c0,c1,c2,c3,c4,c5,c6,c7],_ =>
   match xs,hx with
   |[x0,x1,x2,x3,x4,x5],_ =>
    have f0:=hf 0 _ rfl;have f1:=hf 1 _ rfl;have f2:=hf 2 _ rfl;have f3:=hf 3 _ rfl;have f4:=hf 4 _ rfl;have f5:=hf 5 _ rfl;simp[af9,Y4,aht,arw]at f0 f1 f2 f3 f4 f5;obtain⟨i0,e0,_⟩:=DataW.trod_int Tryz.underlying3 f0;obtain⟨v1,e1,_⟩:=GM f1;obtain⟨s2,e2,_⟩:=DataW.trod_string Tryz.underlying9 f2;obtain⟨s3,e3,_⟩:=DataW.trod_string Tryz.underlying9 f3;obtain⟨i4,e4,_⟩:=DataW.trod_int Tryz.underlying3 f4;obtain⟨v,l,e5,hv,hr⟩:=yf (α:=Ex) (av:=jg.cells) (R:=λ e d=>e.sz<=Rows.uptoBulk d) Tryz.underlying37 ahs (by omega) Ex.bq (λ n' cs' y hn' hy=>GN N n' cs' y (by omega) hy) f5;simp at e0 e2 e3 e4 e5;subst e0 e2 e3 e4 e5;refine⟨.mk i0 v1 (s2.data.toList.map UInt8.toNat) (s3.data.toList.map UInt8.toNat) i4 l,?_,?_⟩
    ·rw[ari];simp only[Ex.cells];refine .cons _ _ _ _ (.int _ _) ?_;refine bW.append (a:=[.int .i64 v1.kind,.int .i64 v1.num,.str v1.s]) (x:=[c1,c2,c3]) e1 ?_;refine .cons _ _ _ _ (.str _ _ rfl) (.cons _ _ _ _ (.str _ _ rfl) (.cons _ _ _ _ (.int _ _) (.cons _ _ _ _ ?_ .nil)));rw[<-ahl];exact hv
    have:Ex.rL l<=Rows.uptoBulk x5.1:=by
     rcases hr with⟨rfl,_⟩|⟨ds,rest,e,ha⟩
     ·simp[Ex.rL]
     rw[e];have:=agm ha;simp[Rows.uptoBulk];omega
    simp[RqE,Ex.sz,Rows.uptoBulk,Rows.uptoBulkAll];omega
theorem aeA {fuel:Nat}{cs:List Value}{x:DataW H×List MemPlace}(h:DataW.trod enc Tryz.prog w base spare held fuel 39 cs=some x):∃e:Ex,bW mJ (gj w) (Ex.cells e) cs/\RqE e (Rows.uptoBulk x.1):=GN _ _ _ _ (Nat.le_refl _) h
structure RqQ (q:bI)(n:Nat):Prop where
 items:q.items.length<=n
 item:∀y∈q.items,y.e.sz<=n
 ao:q.ao.length<=n
 src:∀y∈q.ao,y.cond.sz<=n
 order:q.order.length<=n
 one:1<=n
end
end Go.Abs
