/- A part. -/
import Derived.Test.YtbdgioomddkglaaGreatBt13
import Derived.Test.YtbdgioomddkglaaGreatRows
noncomputable section
namespace Go.Abs
open Go.Proofs Go.Proofs.YtbdgioomddkglaaGreat
set_option maxRecDepth 100000
theorem Ud {α H:Type}{Q:α->Nat->Prop}(hQ:∀a n,Q a n->1<=n){l:List α}{ds:List (DataW H)}(h:tR (λ a d=>Q a (Rows.uptoBulk d)) l ds):l.length<=Rows.uptoBulkAll ds:=by
 induction h with
 |nil=>simp[Rows.uptoBulkAll]
 |cons h1 _ ih=>have:=hQ _ _ h1;simp[Rows.uptoBulkAll];omega
theorem Uc {α H:Type}{Q:α->Nat->Prop}(hm:∀a m n,m<=n->Q a m->Q a n){l:List α}{ds:List (DataW H)}(h:tR (λ a d=>Q a (Rows.uptoBulk d)) l ds):∀a∈l,Q a (Rows.uptoBulkAll ds):=by
 induction h with
 |nil=>intro a ha;cases ha
 |cons h1 _ ih =>
  intro a ha
  rcases List.mem_cons.1 ha with rfl|ha
  ·exact hm _ _ _ (by simp[Rows.uptoBulkAll]) h1
  exact hm _ _ _ (by simp[Rows.uptoBulkAll]) (ih a ha)
section
variable {H:Type}{enc:TypeId×Value->H}{w:World}{base:Nat}{spare:Nat->Bool}{held:Bool}
theorem iE {α:Type}{k:Nat}(E:aN α k){Q:α->Nat->Prop}(hk:0<k)(h1:∀a n,Q a n->1<=n)(hm:∀a m n,m<=n->Q a m->Q a n){t e:TypeId}{fuel:Nat}{cs:List Value}{x:DataW H×List MemPlace}(ht:Tryz.prog.underlying t=some (.slice e))(hs:Tryz.prog.cellsOf e=k)
  (hel:∀n cs y,n<fuel->DataW.trod enc Tryz.prog w base spare held n e cs=some y->∃a,cw nR (gQ w) (E.cells a) cs/\Q a (Rows.uptoBulk y.1))(h:DataW.trod enc Tryz.prog w base spare held fuel t cs=some x):
  ∃v l,cs=[v]/\VR nR (gQ w) (E.ds l) v/\l.length<=Rows.uptoBulk x.1/\1<=Rows.uptoBulk x.1/\∀a∈l,Q a (Rows.uptoBulk x.1):=by
 obtain⟨v,l,e,hv,hr⟩:=Ha (α:=α) (av:=E.cells) (R:=λ a d=>Q a (Rows.uptoBulk d)) ht hs hk E.aE hel h;refine⟨v,l,e,hv,?_⟩
 rcases hr with⟨rfl,h2⟩|⟨ds,rest,e,ha⟩
 ·rw[h2];simp[Rows.uptoBulk]
 rw[e];have h3:=Ud h1 ha;have h4:=Uc hm ha;simp only[Rows.uptoBulk];exact⟨by omega,by omega,λ a ha=>hm _ _ _ (by omega) (h4 a ha)⟩
theorem atk:Tryz.prog.cellsOf 2=1:=by kernel_rfl
theorem TI:Tryz.prog.cellsOf 3=1:=by kernel_rfl
theorem ai6:Tryz.prog.cellsOf 4=1:=by kernel_rfl
theorem aca:Tryz.prog.cellsOf 9=1:=by kernel_rfl
theorem TG:Tryz.prog.cellsOf 55=1:=by kernel_rfl
theorem aoa:Tryz.prog.cellsOf 25=1:=by kernel_rfl
theorem an':Tryz.prog.cellsOf 26=1:=by kernel_rfl
theorem an7:Tryz.prog.cellsOf 61=1:=by kernel_rfl
theorem adN:Tryz.prog.cellsOf 57=3:=by kernel_rfl
theorem ai9:Tryz.prog.cellsOf 101=1:=by kernel_rfl
theorem an6:Tryz.prog.cellsOf 63=4:=by kernel_rfl
theorem ai8:Tryz.prog.cellsOf 103=6:=by kernel_rfl
theorem ai7:Tryz.prog.cellsOf 115=3:=by kernel_rfl
theorem an5:Tryz.prog.cellsOf 67=1:=by kernel_rfl
theorem an9:Tryz.prog.cellsOf 45=1:=by kernel_rfl
theorem an_:Tryz.prog.cellsOf 29=1:=by kernel_rfl
theorem an8:Tryz.prog.cellsOf 59=15:=by kernel_rfl
theorem aob:Tryz.prog.cellsOf 22=1:=by kernel_rfl
def ab6:aN Ins 15:=⟨Ins.cells,Ins.aE,λ x=>by simp[Ins.cells],λ x=>by simp[Ins.cells]⟩
theorem ab5 (l:List Ins):ab6.ds l=.ds (ew l) l.length 15:=by
 unfold aN.ds
 congr 1
 induction l with
 |nil=>rfl
 |cons a r ih=>rw[aN.kX,ih];rfl
theorem Tm (l:List Val):qT.ds l=ai l:=by
 unfold aN.ds ai
 congr 1
 induction l with
 |nil=>rfl
 |cons a r ih=>rw[aN.kX,ih];rfl
def Ui {α:Type}(_:α)(n:Nat):Prop:=1<=n
def RqV (v:Val)(n:Nat):Prop:=1<=n/\v.jA
def RqW (r:List Val)(n:Nat):Prop:=1<=n/\r.length<=n/\∀v∈r,v.jA
def RqB (t:List (List Val))(n:Nat):Prop:=1<=n/\t.length<=n/\∀r∈t,r.length<=n/\∀v∈r,v.jA
def RqT (t:iP)(n:Nat):Prop:=1<=n/\t.cols.length<=n/\0<=t.id
def RqI (t:lY)(n:Nat):Prop:=1<=n/\t.cols.length<=n/\0<=t.id
theorem alK {α:Type}(a:α)(n:Nat)(h:Ui a n):1<=n:=h
theorem alJ {α:Type}(a:α)(m n:Nat)(h:m<=n)(k:Ui a m):Ui a n:=Nat.le_trans k h
def RqX (x:Ins)(n:Nat):Prop:=1<=n/\x.v.jA
theorem arh (a:Ins)(n:Nat)(h:RqX a n):1<=n:=h.1
theorem arf (a:Ins)(m n:Nat)(h:m<=n)(k:RqX a m):RqX a n:=⟨Nat.le_trans k.1 h,k.2⟩
theorem arl (a:Val)(n:Nat)(h:RqV a n):1<=n:=h.1
theorem ark (a:Val)(m n:Nat)(h:m<=n)(k:RqV a m):RqV a n:=⟨Nat.le_trans k.1 h,k.2⟩
theorem arj (a:List Val)(n:Nat)(h:RqW a n):1<=n:=h.1
theorem ari (a:List Val)(m n:Nat)(h:m<=n)(k:RqW a m):RqW a n:=⟨Nat.le_trans k.1 h,Nat.le_trans k.2.1 h,k.2.2⟩
theorem art (a:List (List Val))(n:Nat)(h:RqB a n):1<=n:=h.1
theorem ars (a:List (List Val))(m n:Nat)(h:m<=n)(k:RqB a m):RqB a n:=⟨Nat.le_trans k.1 h,Nat.le_trans k.2.1 h,λ r hr=>⟨Nat.le_trans (k.2.2 r hr).1 h,(k.2.2 r hr).2⟩⟩
theorem aro (a:iP)(n:Nat)(h:RqT a n):1<=n:=h.1
theorem arn (a:iP)(m n:Nat)(h:m<=n)(k:RqT a m):RqT a n:=⟨Nat.le_trans k.1 h,Nat.le_trans k.2.1 h,k.2.2⟩
theorem arq (a:lY)(n:Nat)(h:RqI a n):1<=n:=h.1
theorem arp (a:lY)(m n:Nat)(h:m<=n)(k:RqI a m):RqI a n:=⟨Nat.le_trans k.1 h,Nat.le_trans k.2.1 h,k.2.2⟩
theorem QY {fuel:Nat}{cs:List Value}{x:DataW H×List MemPlace}(h:DataW.trod enc Tryz.prog w base spare held fuel 3 cs=some x):∃a,cw nR (gQ w) (fo.cells a) cs/\Ui a (Rows.uptoBulk x.1):=by
 obtain⟨i,e,ey,_⟩:=DataW.trod_int Tryz.underlying3 h;subst e ey;exact⟨i,.cons _ _ _ _ (.int _ _) .nil,by simp[Ui,Rows.uptoBulk]⟩
theorem Ee {fuel:Nat}{cs:List Value}{x:DataW H×List MemPlace}(h:DataW.trod enc Tryz.prog w base spare held fuel 57 cs=some x):∃a:Val,cw nR (gQ w) (a.cells) cs/\RqV a (Rows.uptoBulk x.1):=by
 obtain⟨xs,n,rfl,rfl,hl,hx,hf⟩:=DataW.trod_struct Tryz.underlying57 h;rw[show Tryz.prog.cellsOf 57=3 by kernel_rfl]at hl
 match cs,hl with
 |[c0,c1,c2],_ =>
 match xs,hx with
 |[x0,x1,x2],_ =>
 have f0:=hf 0 _ rfl;have f1:=hf 1 _ rfl;have f2:=hf 2 _ rfl;simp[atk,TI,aca]at f0 f1 f2;obtain⟨i0,e0,w0⟩:=DataW.trod_int Tryz.underlying3 f0;obtain⟨i1,e1,w1⟩:=DataW.trod_int Tryz.underlying2 f1;obtain⟨s2,e2,_⟩:=DataW.trod_string Tryz.underlying9 f2;simp at e0 e1 e2;subst e0 e1 e2;refine⟨⟨i0,i1,(s2.data.toList.map UInt8.toNat)⟩,?_,?_⟩
 ·refine .cons _ _ _ _ (.int _ _) ?_;refine .cons _ _ _ _ (.int _ _) ?_;refine .cons _ _ _ _ (.str _ _ rfl) ?_;exact .nil
 have hw:=w1.2;simp only[Lit.wf,Bool.and_eq_true,decide_eq_true_eq]at hw;exact⟨by simp only[Rows.uptoBulk];omega,by have h2:IntKind.i64.min<=i1:=(by simpa using hw.1);exact h2,by have h3:i1<=9223372036854775807:=(by simpa using hw.2);show i1<9223372036854775808;omega,λ c hc=>by obtain⟨u,_,rfl⟩:=List.mem_map.1 hc;exact u.toNat_lt⟩
theorem Q0 {fuel:Nat}{cs:List Value}{x:DataW H×List MemPlace}(h:DataW.trod enc Tryz.prog w base spare held fuel 115 cs=some x):∃a:yy,cw nR (gQ w) (cN.cells a) cs/\Ui a (Rows.uptoBulk x.1):=by
 obtain⟨xs,n,rfl,rfl,hl,hx,hf⟩:=DataW.trod_struct Tryz.underlying115 h;rw[show Tryz.prog.cellsOf 115=3 by kernel_rfl]at hl
 match cs,hl with
 |[c0,c1,c2],_ =>
 match xs,hx with
 |[x0,x1,x2],_ =>
 have f0:=hf 0 _ rfl;have f1:=hf 1 _ rfl;have f2:=hf 2 _ rfl;simp[TI,ai6,aca]at f0 f1 f2;obtain⟨s0,e0,_⟩:=DataW.trod_string Tryz.underlying9 f0;obtain⟨i1,e1,w1⟩:=DataW.trod_int Tryz.underlying3 f1;obtain⟨b2,e2,_⟩:=DataW.trod_bool Tryz.underlying4 f2;simp at e0 e1 e2;subst e0 e1 e2;refine⟨⟨(s0.data.toList.map UInt8.toNat),i1,b2⟩,?_,?_⟩
 ·refine .cons _ _ _ _ (.str _ _ rfl) ?_;refine .cons _ _ _ _ (.int _ _) ?_;refine .cons _ _ _ _ (.bool _) ?_;exact .nil
 simp[Ui,Rows.uptoBulk]
theorem OK {fuel:Nat}{cs:List Value}{x:DataW H×List MemPlace}(h:DataW.trod enc Tryz.prog w base spare held fuel 61 cs=some x):∃v l,cs=[v]/\VR nR (gQ w) (cN.ds l) v/\l.length<=Rows.uptoBulk x.1/\1<=Rows.uptoBulk x.1/\∀a∈l,Ui a (Rows.uptoBulk x.1):=iE cN (Q:=Ui) (by omega) alK alJ Tryz.underlying61 ai7 (λ n' cs' y hn' hy=>Q0 hy) h
theorem OI {fuel:Nat}{cs:List Value}{x:DataW H×List MemPlace}(h:DataW.trod enc Tryz.prog w base spare held fuel 101 cs=some x):∃v l,cs=[v]/\VR nR (gQ w) (fo.ds l) v/\l.length<=Rows.uptoBulk x.1/\1<=Rows.uptoBulk x.1/\∀a∈l,Ui a (Rows.uptoBulk x.1):=iE fo (Q:=Ui) (by omega) alK alJ Tryz.underlying101 TI (λ n' cs' y hn' hy=>QY hy) h
theorem OA {fuel:Nat}{cs:List Value}{x:DataW H×List MemPlace}(h:DataW.trod enc Tryz.prog w base spare held fuel 67 cs=some x):∃v l,cs=[v]/\VR nR (gQ w) (qT.ds l) v/\l.length<=Rows.uptoBulk x.1/\1<=Rows.uptoBulk x.1/\∀a∈l,RqV a (Rows.uptoBulk x.1):=iE qT (Q:=RqV) (by omega) arl ark Tryz.underlying67 adN (λ n' cs' y hn' hy=>Ee hy) h
theorem OG {fuel:Nat}{cs:List Value}{x:DataW H×List MemPlace}(h:DataW.trod enc Tryz.prog w base spare held fuel 67 cs=some x):∃a,cw nR (gQ w) (To.cells a) cs/\RqW a (Rows.uptoBulk x.1):=by
 obtain⟨v,l,e,r,n,p,q⟩:=OA h;subst e;rw[Tm]at r;exact⟨l,.cons _ _ _ _ r .nil,p,n,λ v hv=>(q v hv).2⟩
theorem OE {fuel:Nat}{cs:List Value}{x:DataW H×List MemPlace}(h:DataW.trod enc Tryz.prog w base spare held fuel 45 cs=some x):∃v l,cs=[v]/\VR nR (gQ w) (To.ds l) v/\l.length<=Rows.uptoBulk x.1/\1<=Rows.uptoBulk x.1/\∀a∈l,RqW a (Rows.uptoBulk x.1):=iE To (Q:=RqW) (by omega) arj ari Tryz.underlying45 an5 (λ n' cs' y hn' hy=>OG hy) h
theorem OD {fuel:Nat}{cs:List Value}{x:DataW H×List MemPlace}(h:DataW.trod enc Tryz.prog w base spare held fuel 45 cs=some x):∃a,cw nR (gQ w) (jJ.cells a) cs/\RqB a (Rows.uptoBulk x.1):=by
 obtain⟨v,l,e,r,n,p,q⟩:=OE h;subst e;rw[BA]at r;exact⟨l,.cons _ _ _ _ r .nil,p,n,λ v hv=>(q v hv).2⟩
theorem OC {fuel:Nat}{cs:List Value}{x:DataW H×List MemPlace}(h:DataW.trod enc Tryz.prog w base spare held fuel 29 cs=some x):∃v l,cs=[v]/\VR nR (gQ w) (jJ.ds l) v/\l.length<=Rows.uptoBulk x.1/\1<=Rows.uptoBulk x.1/\∀a∈l,RqB a (Rows.uptoBulk x.1):=iE jJ (Q:=RqB) (by omega) art ars Tryz.underlying29 an9 (λ n' cs' y hn' hy=>OD hy) h
theorem QV {fuel:Nat}{cs:List Value}{x:DataW H×List MemPlace}(h:DataW.trod enc Tryz.prog w base spare held fuel 63 cs=some x):∃a:iP,cw nR (gQ w) (bf.cells a) cs/\RqT a (Rows.uptoBulk x.1):=by
 obtain⟨xs,n,rfl,rfl,hl,hx,hf⟩:=DataW.trod_struct Tryz.underlying63 h;rw[show Tryz.prog.cellsOf 63=4 by kernel_rfl]at hl
 match cs,hl with
 |[c0,c1,c2,c3],_ =>
 match xs,hx with
 |[x0,x1,x2,x3],_ =>
 have f0:=hf 0 _ rfl;have f1:=hf 1 _ rfl;have f2:=hf 2 _ rfl;have f3:=hf 3 _ rfl;simp[aca,TG,an7]at f0 f1 f2 f3;obtain⟨i0,e0,w0⟩:=DataW.trod_int Tryz.underlying55 f0;obtain⟨s1,e1,_⟩:=DataW.trod_string Tryz.underlying9 f1;obtain⟨v2,l2,e2,r2,n2,p2,q2⟩:=OK f2;obtain⟨i3,e3,w3⟩:=DataW.trod_int Tryz.underlying55 f3;simp at e0 e1 e2 e3;subst e0 e1 e2 e3;refine⟨⟨i0,(s1.data.toList.map UInt8.toNat),l2,i3⟩,?_,?_⟩
 ·refine .cons _ _ _ _ (.int _ _) ?_;refine .cons _ _ _ _ (.str _ _ rfl) ?_;refine .cons _ _ _ _ (r2) ?_;refine .cons _ _ _ _ (.int _ _) ?_;exact .nil
 have hw:(0:Int)<=i0:=(by have h:=w0.2;simp only[Lit.wf,Bool.and_eq_true,decide_eq_true_eq]at h;exact h.1);clear w0;simp only[RqT,List.map_cons,List.map_nil,Rows.uptoBulk,Rows.uptoBulkAll]at *;omega
theorem QX {fuel:Nat}{cs:List Value}{x:DataW H×List MemPlace}(h:DataW.trod enc Tryz.prog w base spare held fuel 103 cs=some x):∃a:lY,cw nR (gQ w) (aR.cells a) cs/\RqI a (Rows.uptoBulk x.1):=by
 obtain⟨xs,n,rfl,rfl,hl,hx,hf⟩:=DataW.trod_struct Tryz.underlying103 h;rw[show Tryz.prog.cellsOf 103=6 by kernel_rfl]at hl
 match cs,hl with
 |[c0,c1,c2,c3,c4,c5],_ =>
 match xs,hx with
 |[x0,x1,x2,x3,x4,x5],_ =>
 have f0:=hf 0 _ rfl;have f1:=hf 1 _ rfl;have f2:=hf 2 _ rfl;have f3:=hf 3 _ rfl;have f4:=hf 4 _ rfl;have f5:=hf 5 _ rfl;simp[ai6,aca,TG,ai9]at f0 f1 f2 f3 f4 f5;obtain⟨i0,e0,w0⟩:=DataW.trod_int Tryz.underlying55 f0;obtain⟨i1,e1,w1⟩:=DataW.trod_int Tryz.underlying55 f1;obtain⟨s2,e2,_⟩:=DataW.trod_string Tryz.underlying9 f2;obtain⟨v3,l3,e3,r3,n3,p3,q3⟩:=OI f3;obtain⟨b4,e4,_⟩:=DataW.trod_bool Tryz.underlying4 f4;obtain⟨i5,e5,w5⟩:=DataW.trod_int Tryz.underlying55 f5;simp at e0 e1 e2 e3 e4 e5;subst e0 e1 e2 e3 e4 e5;refine⟨⟨i0,i1,(s2.data.toList.map UInt8.toNat),l3,b4,i5⟩,?_,?_⟩
 ·refine .cons _ _ _ _ (.int _ _) ?_;refine .cons _ _ _ _ (.int _ _) ?_;refine .cons _ _ _ _ (.str _ _ rfl) ?_;refine .cons _ _ _ _ (r3) ?_;refine .cons _ _ _ _ (.bool _) ?_;refine .cons _ _ _ _ (.int _ _) ?_;exact .nil
 have hw:(0:Int)<=i0:=(by have h:=w0.2;simp only[Lit.wf,Bool.and_eq_true,decide_eq_true_eq]at h;exact h.1);clear w0;simp only[RqI,List.map_cons,List.map_nil,Rows.uptoBulk,Rows.uptoBulkAll]at *;omega
theorem OB {fuel:Nat}{cs:List Value}{x:DataW H×List MemPlace}(h:DataW.trod enc Tryz.prog w base spare held fuel 25 cs=some x):∃v l,cs=[v]/\VR nR (gQ w) (bf.ds l) v/\l.length<=Rows.uptoBulk x.1/\1<=Rows.uptoBulk x.1/\∀a∈l,RqT a (Rows.uptoBulk x.1):=iE bf (Q:=RqT) (by omega) aro arn Tryz.underlying25 an6 (λ n' cs' y hn' hy=>QV hy) h
theorem OH {fuel:Nat}{cs:List Value}{x:DataW H×List MemPlace}(h:DataW.trod enc Tryz.prog w base spare held fuel 26 cs=some x):∃v l,cs=[v]/\VR nR (gQ w) (aR.ds l) v/\l.length<=Rows.uptoBulk x.1/\1<=Rows.uptoBulk x.1/\∀a∈l,RqI a (Rows.uptoBulk x.1):=iE aR (Q:=RqI) (by omega) arq arp Tryz.underlying26 ai8 (λ n' cs' y hn' hy=>QX hy) h
structure RqH (s:eF)(n:Nat):Prop where
 t:s.tables.length<=n
 i:s.indexes.length<=n
 tc:∀t∈s.tables,t.cols.length<=n
 ic:∀x∈s.indexes,x.cols.length<=n
 ti:∀t∈s.tables,0<=t.id
 xi:∀t∈s.indexes,0<=t.id
structure RqO (w:er)(n:Nat):Prop where
 s:RqH w.bQ n
 l:w.rows.length<=n
 t:∀t∈w.rows,t.length<=n/\∀r∈t,r.length<=n/\∀v∈r,v.jA
theorem QW {fuel:Nat}{cs:List Value}{x:DataW H×List MemPlace}(h:DataW.trod enc Tryz.prog w base spare held fuel 28 cs=some x):∃a:eF,cw nR (gQ w) (fA.cells a) cs/\RqH a (Rows.uptoBulk x.1):=by
 obtain⟨xs,n,rfl,rfl,hl,hx,hf⟩:=DataW.trod_struct Tryz.underlying28 h;rw[show Tryz.prog.cellsOf 28=2 by kernel_rfl]at hl
 match cs,hl with
 |[c0,c1],_ =>
 match xs,hx with
 |[x0,x1],_ =>
 have f0:=hf 0 _ rfl;have f1:=hf 1 _ rfl;simp[aoa,an']at f0 f1;obtain⟨v0,l0,e0,r0,n0,p0,q0⟩:=OB f0;obtain⟨v1,l1,e1,r1,n1,p1,q1⟩:=OH f1;simp at e0 e1;subst e0 e1;refine⟨⟨l0,l1⟩,?_,?_⟩
 ·refine .cons _ _ _ _ (r0) ?_;refine .cons _ _ _ _ (r1) ?_;exact .nil
 simp only[List.map_cons,List.map_nil,Rows.uptoBulk,Rows.uptoBulkAll]at *;exact⟨by simp only;omega,by simp only;omega,λ t ht=>by have:=(q0 t ht).2;omega,λ t ht=>by have:=(q1 t ht).2;omega,λ t ht=>(q0 t ht).2.2,λ t ht=>(q1 t ht).2.2⟩
theorem QU {fuel:Nat}{cs:List Value}{x:DataW H×List MemPlace}(h:DataW.trod enc Tryz.prog w base spare held fuel 31 cs=some x):∃a:er,cw nR (gQ w) (bw.cells a) cs/\RqO a (Rows.uptoBulk x.1):=by
 obtain⟨xs,n,rfl,rfl,hl,hx,hf⟩:=DataW.trod_struct Tryz.underlying31 h;rw[show Tryz.prog.cellsOf 31=3 by kernel_rfl]at hl
 match cs,hl with
 |[c0,c1,c2],_ =>
 match xs,hx with
 |[x0,x1],_ =>
 have f0:=hf 0 _ rfl;have f1:=hf 1 _ rfl;simp[an_,show Tryz.prog.cellsOf 28=2 by kernel_rfl]at f0 f1;obtain⟨a0,r0,q0⟩:=QW f0;obtain⟨v1,l1,e1,r1,n1,p1,q1⟩:=OC f1;simp at e1;subst e1;refine⟨⟨a0,l1⟩,?_,?_⟩
 ·refine cw.append (a:=fA.cells a0) (x:=[c0,c1]) r0 ?_;refine .cons _ _ _ _ (r1) ?_;exact .nil
 simp only[List.map_cons,List.map_nil,Rows.uptoBulk,Rows.uptoBulkAll]at *;exact⟨⟨by have:=q0.t;simp only;omega,by have:=q0.i;simp only;omega,λ t ht=>by have:=q0.tc t ht;omega,λ t ht=>by have:=q0.ic t ht;omega,q0.ti,q0.xi⟩,by simp only;omega,λ t ht=>⟨by have:=(q1 t ht).2.1;omega,λ r hr=>⟨by have:=((q1 t ht).2.2 r hr).1;omega,((q1 t ht).2.2 r hr).2⟩⟩⟩
theorem QZ {fuel:Nat}{cs:List Value}{x:DataW H×List MemPlace}(h:DataW.trod enc Tryz.prog w base spare held fuel 59 cs=some x):∃a:Ins,cw nR (gQ w) (ab6.cells a) cs/\RqX a (Rows.uptoBulk x.1):=by
 obtain⟨xs,n,rfl,rfl,hl,hx,hf⟩:=DataW.trod_struct Tryz.underlying59 h;rw[show Tryz.prog.cellsOf 59=15 by kernel_rfl]at hl
 match cs,hl with
 |[c0,c1,c2,c3,c4,c5,c6,c7,c8,c9,c10,c11,c12,c13,c14],_ =>
 match xs,hx with
 |[x0,x1,x2,x3,x4,x5,x6,x7,x8,x9,x10,x11,x12],_ =>
 have f0:=hf 0 _ rfl;have f1:=hf 1 _ rfl;have f2:=hf 2 _ rfl;have f3:=hf 3 _ rfl;have f4:=hf 4 _ rfl;have f5:=hf 5 _ rfl;have f6:=hf 6 _ rfl;have f7:=hf 7 _ rfl;have f8:=hf 8 _ rfl;have f9:=hf 9 _ rfl;have f10:=hf 10 _ rfl;have f11:=hf 11 _ rfl;have f12:=hf 12 _ rfl;simp[TI,ai6,TG,adN]at f0 f1 f2 f3 f4 f5 f6 f7 f8 f9 f10 f11 f12;obtain⟨i0,e0,w0⟩:=DataW.trod_int Tryz.underlying3 f0;obtain⟨i1,e1,w1⟩:=DataW.trod_int Tryz.underlying3 f1;obtain⟨i2,e2,w2⟩:=DataW.trod_int Tryz.underlying3 f2;obtain⟨i3,e3,w3⟩:=DataW.trod_int Tryz.underlying3 f3;obtain⟨i4,e4,w4⟩:=DataW.trod_int Tryz.underlying3 f4;obtain⟨i5,e5,w5⟩:=DataW.trod_int Tryz.underlying3 f5;obtain⟨i6,e6,w6⟩:=DataW.trod_int Tryz.underlying3 f6;obtain⟨i7,e7,w7⟩:=DataW.trod_int Tryz.underlying55 f7;obtain⟨i8,e8,w8⟩:=DataW.trod_int Tryz.underlying3 f8;obtain⟨i9,e9,w9⟩:=DataW.trod_int Tryz.underlying3 f9;obtain⟨b10,e10,_⟩:=DataW.trod_bool Tryz.underlying4 f10;obtain⟨b11,e11,_⟩:=DataW.trod_bool Tryz.underlying4 f11;obtain⟨a12,r12,q12⟩:=Ee f12;simp at e0 e1 e2 e3 e4 e5 e6 e7 e8 e9 e10 e11;subst e0 e1 e2 e3 e4 e5 e6 e7 e8 e9 e10 e11;refine⟨⟨i0,i1,i2,i3,i4,i5,i6,i7,i8,i9,b10,b11,a12⟩,?_,?_⟩
 ·refine .cons _ _ _ _ (.int _ _) ?_;refine .cons _ _ _ _ (.int _ _) ?_;refine .cons _ _ _ _ (.int _ _) ?_;refine .cons _ _ _ _ (.int _ _) ?_;refine .cons _ _ _ _ (.int _ _) ?_;refine .cons _ _ _ _ (.int _ _) ?_;refine .cons _ _ _ _ (.int _ _) ?_;refine .cons _ _ _ _ (.int _ _) ?_;refine .cons _ _ _ _ (.int _ _) ?_;refine .cons _ _ _ _ (.int _ _) ?_;refine .cons _ _ _ _ (.bool _) ?_;refine .cons _ _ _ _ (.bool _) ?_;exact r12
 exact⟨by simp[Rows.uptoBulk],q12.2⟩
theorem OJ {fuel:Nat}{cs:List Value}{x:DataW H×List MemPlace}(h:DataW.trod enc Tryz.prog w base spare held fuel 22 cs=some x):∃v l,cs=[v]/\VR nR (gQ w) (ab6.ds l) v/\l.length<=Rows.uptoBulk x.1/\1<=Rows.uptoBulk x.1/\∀a∈l,RqX a (Rows.uptoBulk x.1):=iE ab6 (Q:=RqX) (by omega) arh arf Tryz.underlying22 an8 (λ n' cs' y hn' hy=>QZ hy) h
theorem Q1 {fuel:Nat}{cs:List Value}{x:DataW H×List MemPlace}(h:DataW.trod enc Tryz.prog w base spare held fuel 24 cs=some x):∃a:aU,cw nR (gQ w) (a.cells) cs/\a.l.length<=Rows.uptoBulk x.1/\∀y∈a.l,y.v.jA:=by
 obtain⟨xs,n,rfl,rfl,hl,hx,hf⟩:=DataW.trod_struct Tryz.underlying24 h;rw[show Tryz.prog.cellsOf 24=3 by kernel_rfl]at hl
 match cs,hl with
 |[c0,c1,c2],_ =>
 match xs,hx with
 |[x0,x1,x2],_ =>
 have f0:=hf 0 _ rfl;have f1:=hf 1 _ rfl;have f2:=hf 2 _ rfl;simp[TI,aob]at f0 f1 f2;obtain⟨i0,e0,w0⟩:=DataW.trod_int Tryz.underlying3 f0;obtain⟨i1,e1,w1⟩:=DataW.trod_int Tryz.underlying3 f1;obtain⟨v2,l2,e2,r2,n2,p2,q2⟩:=OJ f2;simp at e0 e1 e2;subst e0 e1 e2;refine⟨⟨i0,i1,l2⟩,?_,?_⟩
 ·rw[ab5]at r2;refine .cons _ _ _ _ (.int _ _) ?_;refine .cons _ _ _ _ (.int _ _) ?_;refine .cons _ _ _ _ (r2) ?_;exact .nil
 refine⟨?_,λ y hy=>(q2 y hy).2⟩;simp only[List.map_cons,List.map_nil,Rows.uptoBulk,Rows.uptoBulkAll]at *;omega
end
end Go.Abs
