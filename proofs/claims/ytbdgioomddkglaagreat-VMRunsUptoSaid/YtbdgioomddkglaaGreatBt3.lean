/- A part. -/
import Derived.Test.YtbdgioomddkglaaGreatBt2
noncomputable section
namespace Go.Abs
open List
open Go.Proofs
open Classical
set_option maxRecDepth 100000
structure Ins where
 op:Int
 a:Int
 b:Int
 c:Int
 n:Int
 j:Int
 ex:Int
 id:Int
 lo:Int
 hi:Int
 iL:Bool
 lJ:Bool
 v:Val
def Ins.cells (x:Ins):List AV:=[iI x.op,iI x.a,iI x.b,iI x.c,iI x.n,iI x.j,iI x.ex,.int .u32 x.id,iI x.lo,iI x.hi,.bool x.iL,.bool x.lJ,iI x.v.kind,iI x.v.num,.str x.v.s]
def Ins.av (x:Ins):AV:=.agg x.cells 15
def ew:List Ins->List AV
 |[]=>[]
 |x::r=>x.cells++ew r
@[simp] theorem Ins.aE (x:Ins):x.cells.length=15:=by simp[Ins.cells]
@[simp] theorem RZ (l:List Ins):(ew l).length=l.length*15:=by
 induction l with
 |nil=>simp[ew]
 |cons e r ih=>simp[ew,ih];omega
theorem Pj (l:List Ins)(i:Nat)(h:i<l.length):(ew l).drop (i*15)=l[i].cells++ew (l.drop (i+1)):=by
 induction l generalizing i with
 |nil=>simp at h
 |cons e r ih =>
  cases i with
  |zero=>simp[ew]
  |succ i =>
   have:(i+1)*15=e.cells.length+i*15:=by simp;omega
   rw[ew,this,<-drop_drop,drop_left' rfl];simpa using ih i (by simpa using h)
theorem pC (l:List Ins):aT (ew l):=by
 induction l with
 |nil=>simp[ew]
 |cons e r ih=>simp[ew,Ins.cells,ih]
structure aU where
 aA:Int
 cur:Int
 l:List Ins
def aU.cells (c:aU):List AV:=[iI c.aA,iI c.cur,.ds (ew c.l) c.l.length 15]
def aU.av (c:aU):AV:=.agg c.cells 3
@[simp] theorem aU.pure (c:aU):Pure c.av:=by simp[aU.av,aU.cells,pC]
@[simp] theorem Ins.pure (x:Ins):Pure x.av:=by simp[Ins.av,Ins.cells]
def aU.eC (c:aU)(n:Int):Bool:=decide (0<=n)&&decide (n<c.aA)
def aU.DJ (c:aU)(f n:Int):Bool:=decide (0<=n)&&(decide (n<=16)&&(decide (0<=f)&&decide (f<=c.aA - n)))
def aU.dJ (c:aU)(n:Int):Bool:=decide (0<=n)&&decide (n<c.cur)
def aU.target (c:aU)(n:Int):Bool:=decide (0<=n)&&decide (n<=(c.l.length:Int))
def aU.ok (c:aU)(x:Ins):Bool:=
 if x.op=1 then c.dJ x.a else
 if x.op=2 then c.dJ x.a&&(c.DJ x.b x.n&&((decide (x.lo = -1)||c.eC x.lo)&&(decide (x.hi = -1)||c.eC x.hi)))else
 if x.op=3 then c.dJ x.a&&c.target x.j else
 if x.op=4 then c.eC x.a&&(c.dJ x.b&&(decide (0<=x.c)&&decide (x.c<16)))else
 if x.op=5 then c.eC x.a&&x.v.may else
 if x.op=6 then c.eC x.a&&(c.eC x.b&&(decide (4<=x.ex)&&(decide (x.ex<=21)&&((decide (x.ex<8)||c.eC x.c)&&c.target x.j))))else
 if x.op=7 then c.eC x.a&&c.target x.j else
 if x.op=8 then c.DJ x.a x.n else
 if x.op=9 then c.dJ x.a&&c.DJ x.b x.n else
 if x.op=10 then c.target x.j else decide (x.op=11)
theorem rz {H:Hp}{m b:Nat}(c:aU)(n:Int)(hb:H.get b=cl 3 c.cells):ar pG 45 [iI n,.ptr b 0] H m (λ u K j=>u=.bool (c.eC n)/\K=H/\j=m):=by
 refine ar.of c45 (by simp[A45]) λ F hF=>?_;simp only[aU.cells]at hb
 by_cases h0:0<=n
 ·simp[A45,hF,hb,h0,aU.eC]
 simp[A45,hF,h0,aU.eC]
theorem QM {H:Hp}{m b:Nat}(c:aU)(hc:0<=c.aA/\c.aA<=256)(f n:Int)(hb:H.get b=cl 3 c.cells):ar pG 46 [iI f,iI n,.ptr b 0] H m (λ u K j=>u=.bool (c.DJ f n)/\K=H/\j=m):=by
 refine ar.of c46 (by simp[A46]) λ F hF=>?_;simp only[aU.cells]at hb
 by_cases h0:0<=n
 ·by_cases h1:n<=16
  ·by_cases h2:0<=f
   ·simp[A46,hF,hb,h0,h1,h2,aU.DJ,aY (c.aA - n) (by omega) (by omega)]
   simp[A46,hF,h0,h1,h2,aU.DJ]
  simp[A46,hF,h0,h1,aU.DJ]
 simp[A46,hF,h0,aU.DJ]
theorem Fe (c:aU)(n:Int):ah pG 93 [c.av,iI n] (.bool (c.dJ n)):=by
 refine pv c93 λ F hF=>?_
 by_cases h0:0<=n
 ·simp[A93,hF,h0,aU.av,aU.cells];exact .bool (by simp[aU.dJ,h0])
 simp[A93,hF,h0,aU.av,aU.cells];exact .bool (by simp[aU.dJ,h0])
theorem ry (c:aU)(n:Int):ah pG 95 [c.av,iI n] (.bool (c.eC n)):=by
 refine pv c95 λ F hF=>?_
 by_cases h0:0<=n
 ·simp[A95,hF,h0,aU.av,aU.cells];exact .bool (by simp[aU.eC,h0])
 simp[A95,hF,h0,aU.av,aU.cells];exact .bool (by simp[aU.eC,h0])
theorem DY (c:aU)(n:Int):ah pG 96 [c.av,iI n] (.bool (c.target n)):=by
 refine pv c96 λ F hF=>?_
 by_cases h0:0<=n
 ·simp[A96,hF,h0,aU.av,aU.cells];exact .bool (by simp[aU.target,h0])
 simp[A96,hF,h0,aU.av,aU.cells];exact .bool (by simp[aU.target,h0])
theorem QL (c:aU) (hc:0<=c.aA/\c.aA<=256) (f n:Int):ah pG 94 [c.av,iI f,iI n] (.bool (c.DJ f n)):=by
 refine pv c94 λ F hF=>?_
 by_cases h0:0<=n
 ·by_cases h1:n<=16
  ·by_cases h2:0<=f
   ·by_cases h3:f<=c.aA
    ·simp[A94,hF,h0,h1,h2,h3,aU.av,aU.cells,aY (c.aA - f) (by omega) (by omega)];exact .bool (by simp[aU.DJ,h0,h1,h2];omega)
    simp[A94,hF,h0,h1,h2,h3,aU.av,aU.cells];exact .bool (by simp[aU.DJ,h0,h1,h2];omega)
   simp[A94,hF,h0,h1,h2,aU.av,aU.cells];exact .bool (by simp[aU.DJ,h0,h1,h2])
  simp[A94,hF,h0,h1,aU.av,aU.cells];exact .bool (by simp[aU.DJ,h0,h1])
 simp[A94,hF,h0,aU.av,aU.cells];exact .bool (by simp[aU.DJ,h0])
theorem arQ (c:aU)(hc:0<=c.aA/\c.aA<=256)(x:Ins):ah pG 26 [c.av,x.av] (.bool (c.ok x)):=by
 refine pv c26 λ F hF=>?_;obtain⟨op,a,b,cc,n,j,ex,id,lo,hi,li,hii,v⟩:=x
 have cont : ∀ (F:Fr)(H:Hp),F.get 2=some (.ptr 0 0)->F.get 3=some (.ptr 1 0)->F.get 4=some (.bool false)->F.get 5=some (.fn (.func 45) [] [.ptr 0 0])->F.get 6=some (.fn (.func 46) [] [.ptr 0 0])->F.get 7=some (.bool (c.dJ a))->F.get 8=some (.bool (c.target j)) ->
   H.get 0=cl 3 c.cells->H.get 1=some (.cells 15 [] (Ins.mk op a b cc n j ex id lo hi li hii v).cells .nil) ->
   VC pG (.seq (.seq j5 (.block 0 (.seq j4 (.cond (ao 34) (.seq MO .ret) (.seq kH (.cond (ao 37) (.seq Gm .ret) (.seq jn (.cond (ao 70) (.seq xY .ret) (.seq kB (.cond (ao 76) (.seq CM .ret) (.seq ly (.cond (ao 104) (.seq CL .ret) (.seq mn (.cond (ao 115) (.seq CJ .ret) (.seq nG (.cond (ao 151) (.seq CH .ret) (.seq oZ (.cond (ao 160) (.seq CG .ret) (.seq ra (.cond (ao 168) (.seq xX .ret) (.seq xW (.cond (ao 179) (.seq CE .ret) .skip)))))))))))))))))))))) (.seq CC .ret)) F H 2 [] (fQ [aB 4] λ u H' _=>fW H'.get u (.bool (c.ok (Ins.mk op a b cc n j ex id lo hi li hii v)))):=by
  intro F H f2 f3 f4 f5 f6 f7 f8 hb hx;have hb':=hb;simp only[aU.cells]at hb';simp only[Ins.cells]at hx;simp only[aU.ok]
  by_cases h1:op=1
  ·subst h1;simp[j5,j4,MO,f3,f7,hx];exact .bool (by simp)
  by_cases h2:op=2
  ·subst h2;generalize c.dJ a=cu at *
   cases cu with
   |false =>
    simp[j5,j4,kH,Gm,f3,f7,hx];exact .bool (by simp)
   |true =>
    simp[j5,j4,kH,Gm,f3,f6,f7,hx];refine au.same (QM c hc b n hb) ?_;generalize c.DJ b n=q
    cases q with
    |false=>simp;exact .bool (by simp)
    |true =>
     by_cases hl:lo = -1
     ·by_cases hh:hi = -1
      ·simp[hx,hl,hh,f3];exact .bool (by simp)
      simp[hx,hl,hh,f3,f5];refine au.same (rz c hi hb) ?_;simp;exact .bool (by simp)
     simp[hx,hl,f3,f5];refine au.same (rz c lo hb) ?_;generalize c.eC lo=q
     cases q with
     |false=>simp;exact .bool (by simp)
     |true =>
      by_cases hh:hi = -1
      ·simp[hx,hh,f3];exact .bool (by simp)
      simp[hx,hh,f3,f5];refine au.same (rz c hi hb) ?_;simp;exact .bool (by simp)
  by_cases h3:op=3
  ·subst h3;generalize c.dJ a=cu at *
   cases cu with
   |false=>simp[j5,j4,kH,jn,xY,f3,f7,hx];exact .bool (by simp)
   |true=>simp[j5,j4,kH,jn,xY,f3,f7,f8,hx];exact .bool (by simp)
  by_cases h4:op=4
  ·subst h4;simp[j5,j4,kH,jn,kB,CM,f3,f5,hx];refine au.same (rz c a hb) ?_;generalize c.eC a=q
   cases q with
   |false=>simp;exact .bool (by simp)
   |true =>
    by_cases g1:0<=b
    ·by_cases g2:b<c.cur
     ·by_cases g3:0<=cc
      ·simp[hx,f2,f3,hb',g1,g2,g3];exact .bool (by simp[aU.dJ,g1,g2])
      simp[hx,f2,f3,hb',g1,g2,g3];exact .bool (by simp)
     simp[hx,f2,f3,hb',g1,g2];exact .bool (by simp[aU.dJ,g1,g2])
    simp[hx,f3,g1];exact .bool (by simp[aU.dJ,g1])
  by_cases h5:op=5
  ·subst h5;simp[j5,j4,kH,jn,kB,ly,CL,f3,f5,hx];refine au.same (rz c a hb) ?_;generalize c.eC a=q
   cases q with
   |false=>simp;exact .bool (by simp)
   |true =>
    simp[hx,f3];refine au.pure (nM v) ?_;simp;exact .bool (by simp)
  by_cases h6:op=6
  ·subst h6;simp[j5,j4,kH,jn,kB,ly,mn,CJ,f3,f5,hx];refine au.same (rz c a hb) ?_;generalize c.eC a=q
   cases q with
   |false=>simp;exact .bool (by simp)
   |true =>
    simp[hx,f3,f5];refine au.same (rz c b hb) ?_;generalize c.eC b=q
    cases q with
    |false=>simp;exact .bool (by simp)
    |true =>
     by_cases g1:4<=ex
     ·by_cases g2:ex<=21
      ·by_cases g3:ex<8
       ·simp[hx,f3,f8,g1,g2,g3];exact .bool (by simp)
       simp[hx,f3,f5,g1,g2,g3];refine au.same (rz c cc hb) ?_;generalize c.eC cc=q
       cases q with
       |false=>simp;exact .bool (by simp)
       |true=>simp[f8];exact .bool (by simp)
      simp[hx,f3,g1,g2];exact .bool (by simp)
     simp[hx,f3,g1];exact .bool (by simp)
  by_cases h7:op=7
  ·subst h7;simp[j5,j4,kH,jn,kB,ly,mn,nG,CH,f3,f5,hx];refine au.same (rz c a hb) ?_;generalize c.eC a=q
   cases q with
   |false=>simp;exact .bool (by simp)
   |true=>simp[f8];exact .bool (by simp)
  by_cases h8:op=8
  ·subst h8;simp[j5,j4,kH,jn,kB,ly,mn,nG,oZ,CG,f3,f6,hx];refine au.same (QM c hc a n hb) ?_;simp;exact .bool (by simp)
  by_cases h9:op=9
  ·subst h9;generalize c.dJ a=cu at *
   cases cu with
   |false=>simp[j5,j4,kH,jn,kB,ly,mn,nG,oZ,ra,xX,f3,f7,hx];exact .bool (by simp)
   |true =>
    simp[j5,j4,kH,jn,kB,ly,mn,nG,oZ,ra,xX,f3,f6,f7,hx];refine au.same (QM c hc b n hb) ?_;simp;exact .bool (by simp)
  by_cases h10:op=10
  ·subst h10;simp[j5,j4,kH,jn,kB,ly,mn,nG,oZ,ra,xW,CE,f3,f8,hx];exact .bool (by simp)
  simp[j5,j4,kH,jn,kB,ly,mn,nG,oZ,ra,xW,CC,f3,hx,h1,h2,h3,h4,h5,h6,h7,h8,h9,h10];exact .bool (by simp)
 have fin:∀(F:Fr) (H:Hp) (p q:Bool),F.get 2=some (.ptr 0 0)->F.get 3=some (.ptr 1 0)->F.get 4=some (.bool false)->F.get 5=some (.fn (.func 45) [] [.ptr 0 0])->F.get 6=some (.fn (.func 46) [] [.ptr 0 0])->F.get 7=some (.bool p)->p=c.dJ a->F.get 8=some (.bool q)->q=c.target j ->
   H.get 0=cl 3 c.cells->H.get 1=some (.cells 15 [] (Ins.mk op a b cc n j ex id lo hi li hii v).cells .nil) ->
   VC pG (.seq (.seq j5 (.block 0 (.seq j4 (.cond (ao 34) (.seq MO .ret) (.seq kH (.cond (ao 37) (.seq Gm .ret) (.seq jn (.cond (ao 70) (.seq xY .ret) (.seq kB (.cond (ao 76) (.seq CM .ret) (.seq ly (.cond (ao 104) (.seq CL .ret) (.seq mn (.cond (ao 115) (.seq CJ .ret) (.seq nG (.cond (ao 151) (.seq CH .ret) (.seq oZ (.cond (ao 160) (.seq CG .ret) (.seq ra (.cond (ao 168) (.seq xX .ret) (.seq xW (.cond (ao 179) (.seq CE .ret) .skip)))))))))))))))))))))) (.seq CC .ret)) F H 2 [] (fQ [aB 4] λ u H' _=>fW H'.get u (.bool (c.ok (Ins.mk op a b cc n j ex id lo hi li hii v)))):=by
  intro F H p q f2 f3 f4 f5 f6 f7 e1 f8 e2 hb hx;subst e1;subst e2;exact cont F H f2 f3 f4 f5 f6 f7 f8 hb hx
 clear cont
 by_cases g1:0<=a
 ·by_cases g2:0<=j
  ·simp[A26,hF,g1,g2,aU.av,aU.cells,Ins.av,Ins.cells];refine fin _ _ _ _ ?_ ?_ ?_ ?_ ?_ (by simp;rfl) ?_ (by simp;rfl) ?_ ?_ ?_<;>simp[aU.dJ,aU.target,g1,g2,aU.cells,Ins.cells]
  simp[A26,hF,g1,g2,aU.av,aU.cells,Ins.av,Ins.cells];refine fin _ _ _ _ ?_ ?_ ?_ ?_ ?_ (by simp;rfl) ?_ (by simp;rfl) ?_ ?_ ?_<;>simp[aU.dJ,aU.target,g1,g2,aU.cells,Ins.cells]
 by_cases g2:0<=j
 ·simp[A26,hF,g1,g2,aU.av,aU.cells,Ins.av,Ins.cells];refine fin _ _ _ _ ?_ ?_ ?_ ?_ ?_ (by simp;rfl) ?_ (by simp;rfl) ?_ ?_ ?_<;>simp[aU.dJ,aU.target,g1,g2,aU.cells,Ins.cells]
 simp[A26,hF,g1,g2,aU.av,aU.cells,Ins.av,Ins.cells];refine fin _ _ _ _ ?_ ?_ ?_ ?_ ?_ (by simp;rfl) ?_ (by simp;rfl) ?_ ?_ ?_<;>simp[aU.dJ,aU.target,g1,g2,aU.cells,Ins.cells]
set_option maxHeartbeats 1000000 in
theorem ar1 (c:aU)(hc:0<=c.aA/\c.aA<=256)(x:Ins):ah pG 64 [c.av,x.av] (.bool (c.ok x)):=by
 refine pv c64 λ F hF=>?_;obtain⟨op,a,b,cc,n,j,ex,id,lo,hi,li,hii,v⟩:=x;simp only[aU.ok]
 by_cases h1:op=1
 ·subst h1;simp[A64,hF,aU.av,aU.cells,Ins.av,Ins.cells];refine au.pure (Fe c a) ?_;simp;exact .bool (by simp)
 by_cases h2:op=2
 ·subst h2;simp[A64,hF,aU.av,aU.cells,Ins.av,Ins.cells];refine au.pure (Fe c a) ?_;generalize c.dJ a=q
  cases q with
  |false=>simp;exact .bool (by simp)
  |true =>
   simp;refine au.pure (QL c hc b n) ?_;generalize c.DJ b n=q
   cases q with
   |false=>simp;exact .bool (by simp)
   |true =>
    by_cases hl:lo = -1
    ·by_cases hh:hi = -1
     ·simp[hl,hh];exact .bool (by simp)
     simp[hl,hh];refine au.pure (ry c hi) ?_;simp;exact .bool (by simp)
    simp[hl];refine au.pure (ry c lo) ?_;generalize c.eC lo=q
    cases q with
    |false=>simp;exact .bool (by simp)
    |true =>
     by_cases hh:hi = -1
     ·simp[hh];exact .bool (by simp)
     simp[hh];refine au.pure (ry c hi) ?_;simp;exact .bool (by simp)
 by_cases h3:op=3
 ·subst h3;simp[A64,hF,aU.av,aU.cells,Ins.av,Ins.cells];refine au.pure (Fe c a) ?_;generalize c.dJ a=q
  cases q with
  |false=>simp;exact .bool (by simp)
  |true =>
   simp;refine au.pure (DY c j) ?_;simp;exact .bool (by simp)
 by_cases h4:op=4
 ·subst h4;simp[A64,hF,aU.av,aU.cells,Ins.av,Ins.cells];refine au.pure (ry c a) ?_;generalize c.eC a=q
  cases q with
  |false=>simp;exact .bool (by simp)
  |true =>
   simp;refine au.pure (Fe c b) ?_;generalize c.dJ b=q
   cases q with
   |false=>simp;exact .bool (by simp)
   |true =>
    by_cases g3:0<=cc
    ·simp[g3];exact .bool (by simp)
    simp[g3];exact .bool (by simp)
 by_cases h5:op=5
 ·subst h5;simp[A64,hF,aU.av,aU.cells,Ins.av,Ins.cells];refine au.pure (ry c a) ?_;generalize c.eC a=q
  cases q with
  |false=>simp;exact .bool (by simp)
  |true =>
   simp;refine au.pure (rL v) ?_;simp;exact .bool (by simp)
 by_cases h6:op=6
 ·subst h6;simp only[show ¬(6:Int)=1 by decide,show ¬(6:Int)=2 by decide,show ¬(6:Int)=3 by decide,show ¬(6:Int)=4 by decide,show ¬(6:Int)=5 by decide,if_false,if_true];obtain⟨w,hw⟩:∃w,w=(c.eC a&&(c.eC b&&(decide (4<=ex)&&(decide (ex<=21)&&((decide (ex<8)||c.eC cc)&&c.target j))))):=⟨_,rfl⟩;rw[<-hw]
  have key:∀(F:Fr) (H:Hp) (m:Nat) (p q:Bool),(decide (4<=ex)&&(decide (ex<=21)&&(decide (ex<8)||c.eC cc)))=(q||(p&&c.eC cc))->F.get 2=some (.ptr 0 0)->F.get 3=some (.ptr 1 0)->F.get 5=some (.bool p)->F.get 6=some (.bool q) ->
    H.get 0=cl 3 c.cells->H.get 1=some (.cells 15 [] (Ins.mk 6 a b cc n j ex id lo hi li hii v).cells .nil) ->
    VC pG (.seq IJ .ret) F H m [] (fQ [aB 4] λ u H' _=>fW H'.get u (.bool w)):=by
   intro F H m p q hpq f2 f3 f5 f6 hb hx
   have e:(decide (4<=ex)&&(decide (ex<=21)&&((decide (ex<8)||c.eC cc)&&c.target j)))=((q||(p&&c.eC cc))&&c.target j):=by
    rw[<-hpq];simp only[Bool.and_assoc]
   rw[hw,e];clear e hpq hw;simp only[aU.cells]at hb;simp only[Ins.cells]at hx;simp[IJ,f2,f3,hb,hx];refine au.pure (ry c a) ?_;generalize c.eC a=r1
   cases r1 with
   |false=>simp;exact .bool (by simp)
   |true =>
    simp[f2,f3,hb,hx];refine au.pure (ry c b) ?_;generalize c.eC b=r2
    cases r2 with
    |false=>simp;exact .bool (by simp)
    |true =>
     cases q with
     |true =>
      simp[f2,f3,f6,hb,hx];refine au.pure (DY c j) ?_;simp;exact .bool (by simp)
     |false =>
      cases p with
      |false=>simp[f5,f6];exact .bool (by simp)
      |true =>
       simp[f2,f3,f5,f6,hb,hx];refine au.pure (ry c cc) ?_;generalize c.eC cc=r3
       cases r3 with
       |false=>simp;exact .bool (by simp)
       |true =>
        simp[f2,f3,hb,hx];refine au.pure (DY c j) ?_;simp;exact .bool (by simp)
  by_cases g1:8<=ex
  ·by_cases g2:ex<=21
   ·simp[A64,hF,aU.av,aU.cells,Ins.av,Ins.cells,g1,g2,show ¬ex=4 by omega,show ¬ex=5 by omega,show ¬ex=6 by omega,show ¬ex=7 by omega];refine key _ _ _ true false ?_ ?_ ?_ ?_ ?_ ?_ ?_
    ·simp[show 4<=ex by omega,g2,show ¬ex<8 by omega]
    all_goals simp[aU.cells,Ins.cells]
   simp[A64,hF,aU.av,aU.cells,Ins.av,Ins.cells,g1,g2,show ¬ex=4 by omega,show ¬ex=5 by omega,show ¬ex=6 by omega,show ¬ex=7 by omega];refine key _ _ _ false false ?_ ?_ ?_ ?_ ?_ ?_ ?_
   ·simp[g2]
   all_goals simp[aU.cells,Ins.cells]
  by_cases g3:4<=ex
  ·have:ex=4∨ex=5∨ex=6∨ex=7:=by omega
   rcases this with rfl|rfl|rfl|rfl <;>
   ·simp[A64,hF,aU.av,aU.cells,Ins.av,Ins.cells];refine key _ _ _ false true ?_ ?_ ?_ ?_ ?_ ?_ ?_
    ·simp
    all_goals simp[aU.cells,Ins.cells]
  simp[A64,hF,aU.av,aU.cells,Ins.av,Ins.cells,g1,show ¬ex=4 by omega,show ¬ex=5 by omega,show ¬ex=6 by omega,show ¬ex=7 by omega];refine key _ _ _ false false ?_ ?_ ?_ ?_ ?_ ?_ ?_
  ·simp[g3]
  all_goals simp[aU.cells,Ins.cells]
 by_cases h7:op=7
 ·subst h7;simp[A64,hF,aU.av,aU.cells,Ins.av,Ins.cells];refine au.pure (ry c a) ?_;generalize c.eC a=q
  cases q with
  |false=>simp;exact .bool (by simp)
  |true =>
   simp;refine au.pure (DY c j) ?_;simp;exact .bool (by simp)
 by_cases h8:op=8
 ·subst h8;simp[A64,hF,aU.av,aU.cells,Ins.av,Ins.cells];refine au.pure (QL c hc a n) ?_;simp;exact .bool (by simp)
 by_cases h9:op=9
 ·subst h9;simp[A64,hF,aU.av,aU.cells,Ins.av,Ins.cells];refine au.pure (Fe c a) ?_;generalize c.dJ a=q
  cases q with
  |false=>simp;exact .bool (by simp)
  |true =>
   simp;refine au.pure (QL c hc b n) ?_;simp;exact .bool (by simp)
 by_cases h10:op=10
 ·subst h10;simp[A64,hF,aU.av,aU.cells,Ins.av,Ins.cells];refine au.pure (DY c j) ?_;simp;exact .bool (by simp)
 simp[A64,hF,aU.av,aU.cells,Ins.av,Ins.cells,h1,h2,h3,h4,h5,h6,h7,h8,h9,h10];exact .bool (by simp)
def aU.shape (c:aU):Bool:=decide (0<=c.aA)&&(decide (c.aA<=256)&&(decide (0<=c.cur)&&(decide (c.cur<=4)&&decide (c.l.length<=8192))))
def aU.chk (c:aU):Int:=if c.shape then (if c.l.all c.ok then 0 else 1)else 1
theorem rP {l:List Ins}{i:Nat}{k:IntKind}(h:i<l.length):dG 15 (.ds (ew l) l.length 15) (.int k (i:Int))=.val (.dp (l[i].cells++ew (l.drop (i+1)))):=by
 rw[ig h,Pj l i h]
theorem wz (x:Ins)(r:List AV)(H:Hp):df 15 (.dp (x.cells++r)) H=.val x.av:=ga r (Ins.aE x)
theorem FU {l:List Ins}{p:Ins->Bool}(h:∀j (hj:j<l.length),p l[j]=true):l.all p=true:=by
 rw[all_eq_true];intro x hx;obtain⟨j,hj,rfl⟩:=getElem_of_mem hx;exact h j hj
theorem LY {l:List Ins}{p:Ins->Bool}{i:Nat}(hi:i<l.length)(h:p l[i]=false):l.all p=false:=by
 rw[all_eq_false];exact⟨l[i],bT hi,by simp[h]⟩
theorem aod (c:aU):ah pG 11 [c.av] (iI c.chk):=by
 refine pv c11 λ F hF=>?_
 by_cases g1:c.aA<0
 ·have:c.chk=1:=by simp[aU.chk,aU.shape];omega
  simp[A11,hF,aU.av,aU.cells,g1,this];exact fp
 by_cases g2:256<c.aA
 ·have:c.chk=1:=by simp[aU.chk,aU.shape];omega
  simp[A11,hF,aU.av,aU.cells,g1,g2,this];exact fp
 by_cases g3:c.cur<0
 ·have:c.chk=1:=by simp[aU.chk,aU.shape];omega
  simp[A11,hF,aU.av,aU.cells,g1,g2,g3,this];exact fp
 by_cases g4:4<c.cur
 ·have:c.chk=1:=by simp[aU.chk,aU.shape];omega
  simp[A11,hF,aU.av,aU.cells,g1,g2,g3,g4,this];exact fp
 by_cases g5:(8192:Int)<(c.l.length:Int)
 ·have:c.chk=1:=by simp[aU.chk,aU.shape];omega
  simp[A11,hF,aU.av,aU.cells,g1,g2,g3,g4,g5,this];exact fp
 have hs:c.shape=true:=by simp[aU.shape];omega
 simp[A11,hF,aU.av,aU.cells,g1,g2,g3,g4,g5]
 refine aG.of (λ k F K m ms=>∃i,k=c.l.length - i/\i<=c.l.length/\F.get 1=some (.ptr 0 0)/\F.get 30=some (.ds (ew c.l) c.l.length 15)/\F.get 31=some (iI (c.l.length:Int))/\F.get 32=some (iI (i:Int)) /\
  K.get 0=cl 3 c.cells/\1<=m/\ms=[]/\∀j (hj:j<i) (h:j<c.l.length),c.ok c.l[j]=true) c.l.length ⟨0,by simp[aU.cells]⟩ ?_
 rintro k F K m ms ⟨i,rfl,hi,f1,f30,f31,f32,hK,hm,rfl,hj⟩
 by_cases hlt:i<c.l.length
 ·have hx:=rP (k:=.i64) hlt;have hK':=hK;simp only[aU.cells]at hK';have hm0:¬ 0=m:=by omega
  generalize hxe:c.l[i]=x at hx;simp[Z8,f30,f31,f32,hlt,hx,wz];rw[show (decide (x.av.len=15)&&aX x.av.cells)=true by simp[Ins.av,Ins.cells]];rw[show patch [AV.int IntKind.i64 0,AV.int IntKind.i64 0,AV.int IntKind.i64 0,AV.int IntKind.i64 0,AV.int IntKind.i64 0,AV.int IntKind.i64 0,AV.int IntKind.i64 0,AV.int IntKind.u32 0,AV.int IntKind.i64 0,AV.int IntKind.i64 0,AV.bool false,AV.bool false,AV.int IntKind.i64 0,AV.int IntKind.i64 0,AV.str []] 0 x.av.cells=some x.cells from rfl];simp[f1,hK',hm0];refine au.pure (arQ c (by omega) x) ?_;simp
  cases hok:c.ok x with
  |false =>
   have:c.chk=1:=by
    simp only[aU.chk,hs,if_true];rw[LY hlt (by rw[hxe];exact hok)];simp
   simp[agj,this];exact fp
  |true =>
   simp[agi,f32,ax i (by omega)];refine⟨c.l.length - (i+1),by omega,i+1,rfl,hlt,f1,f30,f31,by omega,by simp[hm0,hK],λ j hj' h=>?_⟩
   by_cases e:j=i
   ·subst e;rw[hxe];exact hok
   exact hj j (by omega) h
 simp[Z8,agh,f31,f32,hlt];have:i=c.l.length:=by omega
 subst this;have:c.chk=0:=by simp only[aU.chk,hs,if_true];rw[FU λ j h=>hj j h h];simp
 rw[this];exact fp
theorem aoc (c:aU):ah pG 32 [c.av] (iI c.chk):=by
 refine pv c32 λ F hF=>?_
 by_cases g1:c.aA<0
 ·have:c.chk=1:=by simp[aU.chk,aU.shape];omega
  simp[A32,hF,aU.av,aU.cells,g1,this];exact fp
 by_cases g2:256<c.aA
 ·have:c.chk=1:=by simp[aU.chk,aU.shape];omega
  simp[A32,hF,aU.av,aU.cells,g1,g2,this];exact fp
 by_cases g3:c.cur<0
 ·have:c.chk=1:=by simp[aU.chk,aU.shape];omega
  simp[A32,hF,aU.av,aU.cells,g1,g2,g3,this];exact fp
 by_cases g4:4<c.cur
 ·have:c.chk=1:=by simp[aU.chk,aU.shape];omega
  simp[A32,hF,aU.av,aU.cells,g1,g2,g3,g4,this];exact fp
 by_cases g5:(8192:Int)<(c.l.length:Int)
 ·have:c.chk=1:=by simp[aU.chk,aU.shape];omega
  simp[A32,hF,aU.av,aU.cells,g1,g2,g3,g4,g5,this];exact fp
 have hs:c.shape=true:=by simp[aU.shape];omega
 simp[A32,hF,aU.av,aU.cells,g1,g2,g3,g4,g5]
 refine aG.of (λ k F K m ms=>∃i,k=c.l.length - i/\i<=c.l.length/\F.get 1=some (.ptr 0 0)/\F.get 3=some (iI (i:Int)) /\
  K.get 0=cl 3 c.cells/\ms=[]/\∀j (hj:j<i) (h:j<c.l.length),c.ok c.l[j]=true) c.l.length ⟨0,by simp[aU.cells]⟩ ?_
 rintro k F K m ms ⟨i,rfl,hi,f1,f3,hK,rfl,hj⟩;have hK':=hK;simp only[aU.cells]at hK'
 by_cases hlt:i<c.l.length
 ·have hx:=rP (k:=.i64) hlt;generalize hxe:c.l[i]=x at hx;simp[ZZ,f1,f3,hlt,hK'];refine bD.of (cL (l:=[(64,[c.av,x.av],λ H n=>.mk (.bool (c.ok x)) H n)]) ?_) ?_
  ·simp only[fD];rintro y rfl;exact aQ (ar1 c (by omega) x)
  simp[ab,f1,f3,hK',hx,wz];rw[show [AV.agg [AV.int IntKind.i64 c.aA,AV.int IntKind.i64 c.cur,AV.ds (ew c.l) c.l.length 15] 3,x.av]=[c.av,x.av]from rfl,bK]
  cases hok:c.ok x with
  |false =>
   have:c.chk=1:=by
    simp only[aU.chk,hs,if_true];rw[LY hlt (by rw[hxe];exact hok)];simp
   simp[afA,this];exact fp
  |true =>
   simp[ab,afz,f1,f3,ax i (by omega)];refine⟨c.l.length - (i+1),by omega,i+1,rfl,hlt,by omega,hK,λ j hj' h=>?_⟩
   by_cases e:j=i
   ·subst e;rw[hxe];exact hok
   exact hj j (by omega) h
 simp[ZZ,afy,f1,f3,hK',hlt];have:i=c.l.length:=by omega
 subst this;have:c.chk=0:=by simp only[aU.chk,hs,if_true];rw[FU λ j h=>hj j h h];simp
 rw[this];exact fp
def cV (a b:Val):Int:=if a.may&&b.may then a.ord b else if a.may then -1 else if b.may then 1 else 0
def fY:List Val->List Val->Int
 |a::l,b::m=>if cV a b≠0 then cV a b else fY l m
 |l,m=>(l.length:Int) - (m.length:Int)
def qc:List Val->List Val->Int
 |a::l,b::m=>if a.ord b≠0 then a.ord b else qc l m
 |[],[]=>0
 |[],_::_ => -1
 |_::_,[]=>1
theorem Ou {l m:List Val}{i:Nat}(hl:i<l.length)(hm:i<m.length):fY (l.drop i) (m.drop i)=if cV l[i] m[i]≠0 then cV l[i] m[i]else fY (l.drop (i+1)) (m.drop (i+1)):=by
 rw[lG hl,lG hm,fY]
theorem Ot {l m:List Val}{i:Nat}(hl:i<l.length)(hm:i<m.length):qc (l.drop i) (m.drop i)=if l[i].ord m[i]≠0 then l[i].ord m[i]else qc (l.drop (i+1)) (m.drop (i+1)):=by
 rw[lG hl,lG hm,qc]
theorem QJ {l m:List Val}{i:Nat}(h1:i<=l.length)(h2:i<=m.length)(h:i=l.length∨i=m.length):fY (l.drop i) (m.drop i)=(l.length:Int) - (m.length:Int):=by
 have:l.drop i=[]∨m.drop i=[]:=by
  rcases h with rfl|rfl
  ·exact .inl (drop_length ..)
  exact .inr (drop_length ..)
 rcases this with e|e
 ·have h':l.length - i=0:=by rw[<-length_drop,e];rfl
  rw[e,fY.eq_2 _ _ (by rintro a l' b m' h;cases h)];simp;omega
 have h':m.length - i=0:=by rw[<-length_drop,e];rfl
 rw[e,fY.eq_2 _ _ (by rintro a l' b m' _ h;cases h)];simp;omega
theorem QI {l m:List Val}{i:Nat}(h1:i<=l.length)(h2:i<=m.length)(h:i=l.length∨i=m.length):qc (l.drop i) (m.drop i)=if l.length<m.length then -1 else if m.length<l.length then 1 else 0:=by
 rcases Nat.lt_trichotomy l.length m.length with c|c|c
 ·obtain rfl:i=l.length:=by omega
  rw[drop_length,lG c,ak c];rfl
 ·have:i=l.length:=by omega
  subst this;rw[drop_length,c,drop_length,ae (by omega),ae (by omega)];rfl
 obtain rfl:i=m.length:=by omega
 rw[drop_length,lG c,ae (by omega),ak c];rfl
theorem aa0 (l m:List Val)(hl:l.length<=1048576)(hm:m.length<=1048576):ah pG 62 [ai l,ai m] (iI (fY l m)):=by
 refine pv c62 λ F hF=>?_
 have hmin:uK .i64 (l.length:Int) [iI (m.length:Int)]=some (iI ((min l.length m.length:Nat):Int)):=by
  unfold uK;simp[uK];omega
 obtain⟨M,hM⟩:∃M,M=min l.length m.length:=⟨_,rfl⟩;rw[<-hM]at hmin;simp[A62,hF,ai,qU,uL,hmin];refine aG.of (λ k F K n ms=>∃i,k=M - i/\i<=l.length/\i<=m.length/\F.get 0=some (ai l)/\F.get 1=some (ai m)/\F.get 12=some (iI (M:Int))/\F.get 13=some (iI (i:Int))/\K=.nil/\ms=[]/\fY l m=fY (l.drop i) (m.drop i)) M ⟨0,by simp[hF,ai]⟩ ?_;rintro k F K n ms ⟨i,rfl,hi,hib,f0,f1,f12,f13,rfl,rfl,he⟩
 by_cases hlt:i<M
 ·have h1 : i<l.length:=by omega
  have h2:i<m.length:=by omega
  have hx:=cr (k:=.i64) h1;have hy:=cr (k:=.i64) h2;rw[Ou h1 h2]at he;simp[ZP,f12,f13,hlt];refine bD.of (cL (l:=[(87,[l[i].av,m[i].av],λ H n=>.mk (.aW [iI (l[i].cmp m[i]).1,iI (l[i].cmp m[i]).2]) H n)]) ?_) ?_
  ·intro x hx;simp only[mem_cons,not_mem_nil,or_false]at hx;subst hx;exact aQ (s9 l[i] m[i])
  simp[ab,f0,f1,ai,hx,hy,cY];rw[bK];have w:=ax i (by omega);unfold cV at he;unfold Val.cmp
  by_cases ha:l[i].may=true
  ·by_cases hb:m[i].may=true
   ·rw[ha,hb]at he ⊢;simp at he ⊢
    by_cases hc:l[i].ord m[i]=0
    ·rw[ak hc]at he;simp[F5,tH,hc,IP,ab,f13,w,f0,f1,f12,ai];exact⟨M - (i+1),by omega,i+1,rfl,by omega,by omega,by omega,he⟩
    rw[ae hc]at he;simp[F5,tH,hc,BX,he];exact fp
   have hb:m[i].may=false:=by simpa using hb
   rw[ha,hb]at he ⊢;simp at he ⊢;simp[F5,Vk,Vj,ab,f0,ai,hx,cY];refine au.pure (nM l[i]) ?_;simp[ha,aeR,tH,BX,he];exact fp
  have ha:l[i].may=false:=by simpa using ha
  rw[ha]at he ⊢;simp at he ⊢;simp[F5,Vk,Vj,ab,f0,ai,hx,cY];refine au.pure (nM l[i]) ?_;simp[ha,aeQ,ab,f1,ai,hy,cY];refine au.pure (nM m[i]) ?_
  by_cases hb:m[i].may=true
  ·rw[hb]at he ⊢;simp at he;simp[Vm,tH,BX,he];exact fp
  have hb:m[i].may=false:=by simpa using hb
  rw[hb]at he ⊢;simp at he;simp[tH,IP,ab,f13,w,f0,f1,f12,ai];exact⟨M - (i+1),by omega,i+1,rfl,by omega,by omega,by omega,he⟩
 have e:i=M:=by omega
 rw[QJ hi hib (by omega)]at he;simp[ZP,f12,f13,hlt,Vl,f0,f1,ai,aY ((l.length:Int) - (m.length:Int)) (by omega) (by omega),he];exact fp
theorem acI (l m:List Val) (hl:l.length<=1048576) (_hm:m.length<=1048576) (al:∀v∈l,v.may=true) (am:∀v∈m,v.may=true):ah pG 21 [ai l,ai m] (iI (qc l m)):=by
 refine pv c21 λ F hF=>?_;obtain⟨M,hM⟩:∃M,M=min l.length m.length:=⟨_,rfl⟩;simp[A21];refine aG.of (λ k F K n ms=>∃i,k=M - i/\i<=l.length/\i<=m.length/\F.get 0=some (ai l)/\F.get 1=some (ai m)/\F.get 5=some (iI (i:Int))/\K=.nil/\ms=[]/\qc l m=qc (l.drop i) (m.drop i)) M ⟨0,by simp[hF,ai]⟩ ?_;rintro k F K n ms ⟨i,rfl,hi,hib,f0,f1,f5,rfl,rfl,he⟩
 by_cases hlt:i<M
 ·have h1:i<l.length:=by omega
  have h2:i<m.length:=by omega
  have hx:=cr (k:=.i64) h1;have hy:=cr (k:=.i64) h2;rw[Ot h1 h2]at he;simp[Gx,f0,f1,f5,ai,h1,h2];refine bD.of (cL (l:=[(44,[l[i].av,m[i].av],λ H n=>.mk (iI (l[i].ord m[i])) H n)]) ?_) ?_
  ·intro x hx;simp only[mem_cons,not_mem_nil,or_false]at hx;subst hx;exact aQ (Dq l[i] m[i] (al _ (bT _)) (am _ (bT _)))
  simp[ab,f0,f1,f5,ai,hx,hy,cY];rw[bK];have w:=ax i (by omega);simp[afV]
  by_cases hc:l[i].ord m[i]=0
  ·rw[ae (by simp[hc])]at he;simp[hc,afT,ab,f0,f1,f5,w,ai];exact⟨M - (i+1),by omega,i+1,rfl,by omega,by omega,by omega,he⟩
  rw[ak hc]at he;simp[hc,afU,he];exact fp
 rw[QI hi hib (by omega)]at he
 by_cases c1:i<l.length
 ·have c2:¬i<m.length:=by omega
  have c9003:m.length<l.length:=by omega
  have c9004:¬l.length<m.length:=by omega
  simp[Gx,f0,f1,f5,ai,c1,c2,c9003,c9004,MP,W9,XB,he];exact fp
 by_cases c2:l.length<m.length
 ·simp[Gx,f0,f1,f5,ai,c1,c2,MP,afS,he];exact fp
 have c9003:¬m.length<l.length:=by omega
 simp[Gx,f0,f1,f5,ai,c1,c2,c9003,MP,W9,XA,he];exact fp
theorem Uh (l m:List Val) (hl:l.length<=1048576):ah pG 31 [ai l,ai m] (.bool (decide (l=m))):=by
 refine pv c31 λ F hF=>?_;simp[A31,hF,ai]
 by_cases hlm:l.length=m.length
 ·simp[hlm,afE];refine aG.of (λ k F K n ms=>∃i,k=l.length - i/\i<=l.length/\F.get 0=some (ai l)/\F.get 1=some (ai m)/\F.get 5=some (iI (i:Int))/\K=.nil/\ms=[]/\(l=m↔l.drop i=m.drop i)) l.length ⟨0,by simp[hF,ai]⟩ ?_;rintro k F K n ms ⟨i,rfl,hi,f0,f1,f5,rfl,rfl,he⟩
  by_cases hlt:i<l.length
  ·have h2:i<m.length:=by omega
   have hx:=cr (k:=.i64) hlt;have hy:=cr (k:=.i64) h2;rw[lG hlt,lG h2,List.cons.injEq]at he;simp[Z0,f0,f5,ai,hlt];refine bD.of (bh (P:=pG)) ?_;simp[ab,f0,f1,f5,ai,hx,hy,cY,nq]
   by_cases hc:l[i]=m[i]
   ·have w:=ax i (by omega);simp[hc,afC,ab,f0,f1,f5,w,ai];exact⟨l.length - (i+1),by omega,i+1,rfl,by omega,by omega,by rw[he];simp[hc]⟩
   have:¬l=m:=λ e=>hc (he.1 e).1;simp[hc,afD,this];exact fp
  have e:i=l.length:=by omega
  have:l=m:=he.2 (by rw[e,drop_length,hlm,drop_length]);subst this;simp[Z0,f0,f5,ai,hlt,afB];exact fp
 have:¬l=m:=λ e=>hlm (by rw[e]);simp[hlm,afF,this];exact fp
def bn (L:List (List Val)):List AV:=L.map ai
@[simp] theorem agZ (L:List (List Val)):aT (bn L):=aT.Hj λ v hv=>by
 simp only[bn,mem_map]at hv;obtain⟨i,_,rfl⟩:=hv;simp
theorem G_ (l:List (List Val))(i:Nat)(h:i<l.length):(bn l).drop i=ai l[i]::bn (l.drop (i+1)):=by
 rw[bn,<-map_drop,lG h];rfl
theorem fk {l:List (List Val)}{i:Nat}{k:IntKind}(h:i<l.length):dG 1 (.ds (bn l) l.length 1) (.int k (i:Int))=.val (.dp (ai l[i]::bn (l.drop (i+1)))):=by
 rw[ig h,Nat.mul_one,G_ l i h]
theorem Am (L M:List (List Val)) (hL:L.length<=1048576) (hl:∀l∈L,l.length<=1048576):ah pG 30 [.ds (bn L) L.length 1,.ds (bn M) M.length 1] (.bool (decide (L=M))):=by
 refine pv c30 λ F hF=>?_;simp[A30,hF]
 by_cases hlm:L.length=M.length
 ·simp[hlm,afJ];refine aG.of (λ k F K n ms=>∃i,k=L.length - i/\i<=L.length/\F.get 0=some (.ds (bn L) L.length 1)/\F.get 1=some (.ds (bn M) M.length 1)/\F.get 5=some (iI (i:Int))/\K=.nil/\ms=[]/\(L=M↔L.drop i=M.drop i)) L.length ⟨0,by simp[hF]⟩ ?_;rintro k F K n ms ⟨i,rfl,hi,f0,f1,f5,rfl,rfl,he⟩
  by_cases hlt:i<L.length
  ·have h2:i<M.length:=by omega
   have hx:=fk (k:=.i64) hlt;have hy:=fk (k:=.i64) h2;rw[lG hlt,lG h2,List.cons.injEq]at he;simp[Z1,f0,f5,hlt];refine bD.of (cL (l:=[(31,[ai L[i],ai M[i]],λ H n=>.mk (.bool (decide (L[i]=M[i]))) H n)]) ?_) ?_
   ·intro x hx;simp only[mem_cons,not_mem_nil,or_false]at hx;subst hx;exact aQ (Uh L[i] M[i] (hl _ (bT _)))
   simp[ab,f0,f1,f5,hx,hy];rw[bK]
   by_cases hc:L[i]=M[i]
   ·have w:=ax i (by omega);simp[hc,afH,ab,f0,f1,f5,w];exact⟨L.length - (i+1),by omega,i+1,rfl,by omega,by omega,by rw[he];simp[hc]⟩
   have:¬L=M:=λ e=>hc (he.1 e).1;simp[hc,afI,this];exact fp
  have e:i=L.length:=by omega
  have:L=M:=he.2 (by rw[e,drop_length,hlm,drop_length]);subst this;simp[Z1,f0,f5,hlt,afG];exact fp
 have:¬L=M:=λ e=>hlm (by rw[e]);simp[hlm,afK,this];exact fp
def oG (c:yy)(v:Val):Int:=if v.may=false then 5 else if v.kind≠0/\v.kind≠c.kind then 30 else if v.kind=0/\c.need=true then 50 else 0
def rS:List yy->List Val->Int
 |c::cs,v::vs=>if oG c v=0 then rS cs vs else oG c v
 |_,_=>0
theorem zT {c:List yy}{v:List Val}{i:Nat}(h1:i<c.length)(h2:i<v.length):rS (c.drop i) (v.drop i)=if oG c[i] v[i]=0 then rS (c.drop (i+1)) (v.drop (i+1))else oG c[i] v[i]:=by
 rw[lG h1,lG h2];rfl
def nk (c:List yy)(v:List Val):Int:=if eO c/\v.length=c.length then rS c v else 1
theorem SV (c : List yy) (v:List Val) (hv:v.length<=bm):ah pG 60 [cN.ds c,ai v] (iI (nk c v)):=by
 unfold bm at hv;refine pv c60 λ F hF=>?_;unfold nk;simp[A60,hF];refine au.pure (adk c) ?_
 by_cases hc:eO c
 ·by_cases hl:v.length=c.length
  ·simp[hc,hF,ai,aN.aF,hl,aeY];refine aG.of (λ k F K n ms=>∃i,k=v.length - i/\i<=v.length/\F.get 0=some (cN.ds c)/\F.get 17=some (ai v)/\F.get 18=some (iI (v.length:Int))/\F.get 19=some (iI (i:Int))/\ms=[]/\rS c v=rS (c.drop i) (v.drop i)) v.length ⟨0,by simp[hF,ai,hl]⟩ ?_;rintro k F K n ms ⟨i,rfl,hi,f0,f17,f18,f19,rfl,he⟩
   by_cases hlt:i<v.length
   ·have hx:=cr (k:=.i64) hlt;have hy:=cN.ix (ik:=.i64) (l:=c) (i:=i) (by omega);rw[qV]at hy;rw[zT (by omega) hlt]at he;rw[ai]at f17;rw[he];generalize v[i]=u at *;generalize c[i]=d at *;have hm:=nM u;simp only[Val.av]at hm;simp[ZR,f18,f19,hlt,f17,hx,cY,Val.av];refine au.pure hm ?_
    by_cases h1:u.may=true
    ·simp[h1,aeW];refine bD.of (bh (P:=pG)) ?_
     by_cases h2:u.kind=0
     ·by_cases h3:d.need=true
      ·simp[ab,f0,hy,h2,Cb,h3,Vp,oG,h1];exact fp
      simp[ab,f0,hy,h2,Cb,h3,IQ,oG,h1,f17,f18,f19,ax i (by omega)];exact⟨_,by omega,i+1,rfl,hlt,by simp[ai],rfl,by simp⟩
     by_cases h3:u.kind=d.kind
     ·simp[ab,f0,hy,h2,h3,Cb,IQ,oG,h1,f17,f18,f19,ax i (by omega),show ¬d.kind=0 by omega];exact⟨_,by omega,i+1,rfl,hlt,by simp[ai],rfl,by simp⟩
     simp[ab,f0,hy,h2,h3,aeV,oG,h1];exact fp
    simp[h1,aeX,oG];exact fp
   obtain rfl:i=v.length:=by omega
   rw[he];simp[ZR,f18,f19,Vo,rS];exact fp
  simp[hc,hF,ai,aN.aF,hl,Vn];exact fp
 simp[hc,hF,Vn];exact fp
theorem abT (c:List yy)(v:List Val)(hv:v.length<=bm):ah pG 103 [cN.ds c,ai v] (iI (nk c v)):=by
 unfold bm at hv;refine pv c103 λ F hF=>?_;unfold nk;simp[A103,hF];refine au.pure (TE c) ?_
 by_cases hc:eO c
 ·by_cases hl:v.length=c.length
  ·simp[hc,hF,ai,aN.aF,hl,Y_];refine aG.of (λ k F K n ms=>∃i,k=v.length - i/\i<=v.length/\F.get 0=some (cN.ds c)/\F.get 1=some (ai v)/\F.get 5=some (iI (i:Int))/\ms=[]/\rS c v=rS (c.drop i) (v.drop i)) v.length ⟨0,by simp[hF,ai,hl]⟩ ?_;rintro k F K n ms ⟨i,rfl,hi,f0,f1,f5,rfl,he⟩
   by_cases hlt:i<v.length
   ·have hx:=cr (k:=.i64) hlt;have hy:=cN.ix (ik:=.i64) (l:=c) (i:=i) (by omega);rw[qV]at hy;rw[zT (by omega) hlt]at he;rw[ai]at f1;rw[he];generalize v[i]=u at *;generalize c[i]=d at *;have hm:=rL u;simp only[Val.av]at hm;simp[Kt,f1,f5,hlt,hx,cY,Val.av];refine au.pure hm ?_
    by_cases h1:u.may=true
    ·simp[h1,Y8];refine bD.of (bh (P:=pG)) ?_
     by_cases h2:u.kind=0
     ·by_cases h3:d.need=true
      ·simp[ab,f0,f1,f5,hx,hy,dP,h2,Dk,h3,Ny,oG,h1];exact fp
      simp[ab,f0,f1,f5,hx,hy,dP,h2,Dk,h3,Dl,oG,h1,ax i (by omega)];exact⟨_,by omega,i+1,rfl,hlt,by simp[ai],rfl,by simp⟩
     by_cases h3:u.kind=d.kind
     ·simp[ab,f0,f1,f5,hx,hy,dP,h2,h3,Dk,Dl,oG,h1,ax i (by omega),show ¬d.kind=0 by omega];exact⟨_,by omega,i+1,rfl,hlt,by simp[ai],rfl,by simp⟩
     simp[ab,f0,f1,f5,hx,hy,dP,h2,h3,Y7,oG,h1];exact fp
    simp[h1,Y9,oG];exact fp
   obtain rfl:i=v.length:=by omega
   rw[he];simp[Kt,f1,f5,ai,Nx,rS];exact fp
  simp[hc,hF,ai,aN.aF,hl,J8];exact fp
 simp[hc,hF,J8];exact fp
def zN (H:Hp):List Nat->Hp
 |[]=>H
 |b::r=>(zN H r).put b none
def vK (H:Hp):List (Nat×List AV)->Hp
 |[]=>H
 |e::r=>(vK H r).put e.1 (some (.cells e.2.length [] e.2 .nil))
theorem mO (H:Hp)(L:List Nat)(c:Nat):(zN H L).get c=if c∈L then none else H.get c:=by
 induction L with
 |nil=>simp[zN]
 |cons b r ih =>
  simp only[zN,Tr.get_put,ih,mem_cons]
  by_cases h:c=b
  ·simp[h]
  simp[h]
theorem mz (H:Hp)(M:List (Nat×List AV))(c:Nat)(h:c∉M.map (·.1)):(vK H M).get c=H.get c:=by
 induction M with
 |nil=>rfl
 |cons e r ih =>
  simp only[map_cons,mem_cons,not_or]at h;simp only[vK,Tr.get_put,ae h.1,ih h.2]
theorem rn (H:Hp)(M:List (Nat×List AV))(hd:(M.map (·.1)).Nodup):∀e∈M,(vK H M).get e.1=some (.cells e.2.length [] e.2 .nil):=by
 induction M with
 |nil=>intro e h;simp at h
 |cons a r ih =>
  simp only[map_cons,nodup_cons]at hd;intro e h;simp only[vK,Tr.get_put]
  rcases mem_cons.1 h with rfl|h
  ·simp
  have:e.1≠a.1:=λ e2=>hd.1 (e2▸iJ h);rw[ae this,ih hd.2 e h]
theorem ar.okL {P:Program}{g:FuncId}{args:List AV}{H:Hp}{n n':Nat}{v0:AV}(L:List Nat) (M:List (Nat×List AV)) (ha:eg n args) (hL:∀b∈L,b<n) (hx:∀b∈L,H.get b≠none) (hb:∀b∈L,∀k,H.get b=some k->yP n k)
  (hn:n<=n')(hd:(M.map (·.1)).Nodup)(hM:∀e∈M,e.1∈L∨(n<=e.1/\e.1<n'))(h:ar P g args (pick H L) n (λ v K k=>v=v0/\(∀e∈M,∃y,K.get e.1=some y/\OwnB y e.2)/\k<=n')):
  ∃H1,bO P g args H n v0 H1 n'/\(∀e∈M,H1.get e.1=some (.cells e.2.length [] e.2 .nil))/\(∀c,c∉L->c<n∨n'<=c->H1.get c=H.get c):=by
 have hout:∀c,c∉L->c<n∨n'<=c->c∉M.map (·.1):=λ c h1 h2 h3=>by
  obtain⟨e,h4,rfl⟩:=mem_map.1 h3
  rcases hM e h4 with h5|h5
  ·exact h1 h5
  omega
 refine⟨vK (zN H (L++range' n (n' - n))) M,ar.okS (S:=pick H L) (S':=vK (zN .nil (L++range' n (n' - n))) M) (h.mono λ v K k ⟨h1,h2,h3⟩=>⟨h1,λ b y hy=>?_,h3⟩) hn ha (λ b k hk=>?_) (λ b k hk=>?_) (λ b hb=>?_) (λ b hb1 hb2=>?_),rn _ M hd,λ c h1 h2=>?_⟩
 ·by_cases h4:b∈M.map (·.1)
  ·obtain⟨e,h5,rfl⟩:=mem_map.1 h4;rw[rn _ M hd e h5]at hy;injection hy with hy;obtain⟨y',h6,h7⟩:=h2 e h5;exact⟨y',h6,hy▸h7.ble rfl⟩
  rw[mz _ _ _ h4,mO]at hy
  split at hy<;>simp at hy
 ·rw[kT]at hk
  split at hk
  ·rename_i hm;exact⟨hL b hm,hb b hm k hk⟩
  cases hk
 ·rw[kT]at hk
  split at hk
  ·exact hk
  cases hk
 ·by_cases h4:b∈M.map (·.1)
  ·obtain⟨e,h5,rfl⟩:=mem_map.1 h4;rw[rn _ M hd e h5,rn _ M hd e h5]
  rw[mz _ _ _ h4,mz _ _ _ h4,mO,mO];rw[kT]at hb;rw[ak,ak]
  all_goals
   rw[mem_append,List.mem_range'_1]
   rcases hb with hb|hb
   ·split at hb
    ·rename_i hm;exact .inl hm
    exact aj rfl hb
   exact .inr (by omega)
 ·by_cases hm:b∈L
  ·rw[kT,ak hm]at hb1;exact aj hb1 (hx b hm)
  rw[mz _ _ _ (hout b hm (by omega)),mO,ae];rw[mem_append,List.mem_range'_1];rintro(h|h)
  ·exact hm h
  omega
 rw[mz _ _ _ (hout c h1 h2),mO,ae];rw[mem_append,List.mem_range'_1];rintro(h|h)
 ·exact h1 h
 omega
theorem bC (k j:IntKind)(a:Int):cO k (.int j a)=.val (.int k (k.wrap a)):=by
 simp only[cO,dO]
def dT (l:List Nat):List AV:=l.map λ b:Nat=>.int .u8 (b:Int)
@[simp] theorem acm (l:List Nat):(dT l).length=l.length:=by simp[dT]
theorem vh (a b:List Nat):dT (a++b)=dT a++dT b:=by simp[dT]
theorem TR (l:List Nat):fM (dT l):=by
 induction l with
 |nil=>simp[dT]
 |cons a r ih=>simpa[dT]using ih
theorem FG (l:List Nat):aT (dT l):=by
 induction l with
 |nil=>simp[dT]
 |cons a r ih=>simpa[dT]using ih
theorem pN (l:List Nat):aX (dT l)=true:=by
 induction l with
 |nil=>rfl
 |cons a r ih=>simpa[dT]using ih
@[simp] theorem atl (c:Bool)(b o:Nat):j7 c .ptr (.ptr b o) (.aI (.pointer none))=.val (.bool c):=by cases c<;>exact Eq.trans rfl rfl
theorem vg (k j:IntKind)(a b:Int)(h:0<=b):eN .shr (.int k a) (.int j b)=.val (.int k (a.fdiv (2 ^ (min b.toNat k.bits)))):=by
 obtain⟨b,rfl⟩:=Int.eq_ofNat_of_zero_le h;simp only[eN,dO];rfl
theorem LP (k j:IntKind)(a b:Int)(h:0<=b):eN .shl (.int k a) (.int j b)=.val (.int k (k.wrap (a*2 ^ (min b.toNat k.bits)))):=by
 obtain⟨b,rfl⟩:=Int.eq_ofNat_of_zero_le h;simp only[eN,dO];rfl
theorem Af (k:IntKind)(a b:Int):bL .or k a b=.val (.int k (k.wrap (BitVec.ofInt k.bits a ||| BitVec.ofInt k.bits b).toNat)):=by simp[bL]
theorem xq (k:IntKind)(a b:Int):bL .xor k a b=.val (.int k (k.wrap (BitVec.ofInt k.bits a ^^^ BitVec.ofInt k.bits b).toNat)):=by simp[bL]
@[simp] theorem aqF:ct .or=uQ (bL .or):=Eq.trans rfl rfl
@[simp] theorem aor:ct .xor=uQ (bL .xor):=Eq.trans rfl rfl
structure mW (H:Hp)(n p:Nat)(v:AV)(l:List Nat):Prop where
 hp:H.get p=cl 2 [.bool true,v]
 pn:p<n
 hv:(v=.aI (.slice none 0 0)/\l=[])∨∃b,v=.sl b 0 l.length 1/\b<n/\b≠p/\H.get b=some (.cells l.length [] (dT l) .nil)/\0<l.length
def Kz (p:Nat)(v:AV):List Nat:=p::(blk v).toList
theorem qi {x:Nat}(h:x<256):IntKind.u8.wrap (x:Int)=(x:Int):=by simp[IntKind.wrap,IntKind.signed,IntKind.bits];omega
theorem lZ {x:Nat}(h:x<18446744073709551616):IntKind.u64.wrap (x:Int)=(x:Int):=by simp[IntKind.wrap,IntKind.signed,IntKind.bits];omega
theorem aaP {H:Hp}{n p:Nat}{v:AV}{l:List Nat}(ht:gJ H n)(W:mW H n p v l)(x:Nat)(hx:x<256)(hl:l.length<1048576):
  ar pG 147 [.ptr p 0,.int .u8 (x:Int),iI 1] H n (λ u K k=>u=.aW []/\K.get p=cl 2 [.bool true,.sl (n+1) 0 (l.length+1) 1]/\(∃y,K.get (n+1)=some y/\OwnB y (dT (l++[x])))/\k=n+2):=by
 obtain⟨hp,pn,hv⟩:=W;have z:=ht.none;have e1:=cg pn;have e2:=wu pn;refine ar.of c147 (by simp[A147]) λ F hF=>?_;simp[A147,hF,hp];refine aG.ofU 1 (jy.step ?_);simp[DC];refine bD.of (bh (P:=pG)) ?_;have s1:eN .shr (.int .u64 (x:Int)) (iI 0)=.val (.int .u64 (x:Int)):=by rw[vg _ _ _ _ (by omega)];simp
 simp[ab,hF,hp,br,bI,z,e1,lZ (show x<18446744073709551616 by omega),qi hx,s1,aY,bC]
 rcases hv with⟨rfl,rfl⟩|⟨b,rfl,hbn,hbp,hb,hl0⟩
 ·rw[TP (new:=dT [x]) (k:=1) (bM (by simp[dT])) (by simp) (by omega) (by omega) (by unfold big;omega) (by omega) (pN _)];simp[ab,hF,hp,e1,e2,JR,aY];refine jy.step ?_;simp[DC,ab,e2];exact .list (by simp)
 have hpb:¬p=b:=λ e=>hbp e.symm;have b1:=cg hbn;have b2:=wu hbn;rw[ajh (new:=dT [x]) (k:=1) (b:=b) (u:=l.length) (z:=[]) (bs:=dT l) (t:=.nil) (by simp[b1,hb]) (by omega) (bM (by simp[dT])) (by simp) (by omega) (by omega) (by unfold big;omega) (by omega) (pN _)];simp[ab,hF,hp,e1,e2,hpb,JR,aY];refine jy.step ?_;simp[DC,vh,ab,e2];have:=OwnB.app (u:=l.length) (z:=[]) (bs:=dT l) (l:=dT l) (new:=dT [x]) (t:=.nil) (OwnB.list (by simp)) (by simp[dT]);simpa using this
theorem tU {g:FuncId}{args:List AV}{H:Hp}{n n' p b':Nat}{v:AV}{l new:List Nat}(W:mW H n p v l) (ha:eg n args) (hn:n<=b'/\b'<n') (hl:0<(l++new).length)
  (h:∀S,gJ S n->mW S n p v l->ar pG g args S n (λ u K k=>u=.aW []/\K.get p=cl 2 [.bool true,.sl b' 0 (l++new).length 1]/\(∃y,K.get b'=some y/\OwnB y (dT (l++new)))/\k=n')):
  ∃H1,bO pG g args H n (.aW []) H1 n'/\mW H1 n' p (.sl b' 0 (l++new).length 1) (l++new)/\∀c,c∉Kz p v->c<n∨n'<=c->H1.get c=H.get c:=by
 have W0:=W;obtain⟨hp,pn,hv⟩:=W
 have hL:∀c∈Kz p v,c<n/\H.get c≠none/\∀k,H.get c=some k->yP n k:=by
  intro c hc
  rcases mem_cons.1 hc with rfl|hc
  ·refine⟨pn,by rw[hp];simp,λ k hk=>?_⟩;rw[hp]at hk;injection hk with hk;subst hk;refine kN ?_
   rcases hv with⟨rfl,_⟩|⟨b,rfl,hb,_⟩
   ·simp
   simp[hb]
  rcases hv with⟨rfl,_⟩|⟨b,rfl,hb,_,hg,_⟩
  ·simp at hc
  simp at hc;subst hc;refine⟨hb,by rw[hg];simp,λ k hk=>?_⟩;rw[hg]at hk;injection hk with hk;subst hk;exact kN (TR l).lC
 have hS:mW (pick H (Kz p v)) n p v l:=by
  refine⟨by rw[lN (by simp[Kz]),hp],pn,?_⟩
  rcases hv with h|⟨b,rfl,h1,h2,h3,h4⟩
  ·exact .inl h
  exact .inr ⟨b,rfl,h1,h2,by rw[lN (by simp[Kz]),h3],h4⟩
 obtain⟨H1,h1,h2,h3⟩:=ar.okL (n':=n') (Kz p v) [(p,[.bool true,.sl b' 0 (l++new).length 1]),(b',dT (l++new))] ha (λ c hc=>(hL c hc).1) (λ c hc=>(hL c hc).2.1) (λ c hc=>(hL c hc).2.2) (by omega) (by simp;omega) (by
  intro e he;simp at he
  rcases he with rfl|rfl
  ·exact .inl (by simp[Kz])
  exact .inr hn) ((h _ (mF λ c hc=>(hL c hc).1) hS).mono λ u K k ⟨a1,a2,a3,a4⟩=>⟨a1,λ e he=>by
  simp only[mem_cons,not_mem_nil,or_false]at he
  rcases he with rfl|rfl
  ·exact⟨_,a2,.list rfl⟩
  exact a3,by omega⟩)
 have q1:=h2 _ (mem_cons_self ..);have q2:=h2 _ (mem_cons_of_mem _ (mem_cons_self ..));exact⟨H1,h1,⟨by simpa using q1,by omega,.inr ⟨b',rfl,hn.2,by omega,by simpa using q2,hl⟩⟩,h3⟩
theorem ag' {H:Hp}{n p:Nat}{v:AV}{l:List Nat}(W:mW H n p v l)(x:Nat)(hx:x<256)(hl:l.length<1048576):
  ∃H1,bO pG 147 [.ptr p 0,.int .u8 (x:Int),iI 1] H n (.aW []) H1 (n+2)/\mW H1 (n+2) p (.sl (n+1) 0 (l++[x]).length 1) (l++[x])/\∀c,c∉Kz p v->c<n∨n+2<=c->H1.get c=H.get c:=
 tU W (by simp[W.pn]) (by omega) (by simp) λ S ht WS=>by simpa using aaP ht WS x hx hl
theorem Az {H:Hp}{n p:Nat}{v:AV}{l:List Nat}(W:mW H n p v l)(x:Nat)(hx:x<256)(hl:l.length<1048576):
  ∃H1,bO pG 119 [.ptr p 0,.int .u8 (x:Int)] H n (.aW []) H1 (n+2)/\mW H1 (n+2) p (.sl (n+1) 0 (l++[x]).length 1) (l++[x])/\∀c,c∉Kz p v->c<n∨n+2<=c->H1.get c=H.get c:=
 tU W (by simp[W.pn]) (by omega) (by simp) λ S _ WS=>by
  obtain⟨H1,h1,h2,_⟩:=ag' WS x hx hl;refine ar.of c119 (by simp[A119]) λ F hF=>?_;simp[A119,hF];refine au.ok h1 ?_;simp
  rcases h2.hv with⟨h,_⟩|⟨b,h,_,_,h3,_⟩
  ·cases h
  injection h with h;subst h;exact⟨by simpa using h2.hp,_,h3,.list (by simp)⟩
def db (n:Nat):List Nat:=if n<=127 then [n]else (n % 128+128)::db (n / 128)
 termination_by n
 decreasing_by omega
theorem gU (n:Nat):0<(db n).length:=by unfold db;split<;>simp
theorem nW (k n:Nat)(h:n<128 ^ (k+1)):(db n).length<=k+1:=by
 induction k generalizing n with
 |zero=>unfold db;rw[ak (by omega)];simp
 |succ k ih =>
  unfold db
  split
  ·simp
  have:=ih (n / 128) (by rw[Nat.div_lt_iff_lt_mul (by omega)];rwa [Nat.pow_succ]at h);simp;omega
theorem yX (n:Nat):∀b∈db n,b<256:=by
 induction n using db.induct with
 |case1 n h=>unfold db;rw[ak h];simp;omega
 |case2 n h ih=>unfold db;rw[ae h];simp only[mem_cons,forall_eq_or_imp];exact⟨by omega,ih⟩
theorem al3:∀x:Fin 256,(BitVec.ofInt 8 (x.val:Int) ||| BitVec.ofInt 8 128).toNat=x.val % 128+128:=by decide
theorem ahf {x:Nat}:IntKind.u8.wrap (BitVec.ofInt IntKind.u8.bits (IntKind.u8.wrap (x:Int)) ||| BitVec.ofInt IntKind.u8.bits 128).toNat=((x % 128+128:Nat):Int):=by
 have h1:IntKind.u8.wrap (x:Int)=((x % 256:Nat):Int):=by simp[IntKind.wrap,IntKind.signed,IntKind.bits]
 have h2:=al3 ⟨x % 256,by omega⟩;rw[h1]
 have h3:(BitVec.ofInt IntKind.u8.bits ((x % 256:Nat):Int) ||| BitVec.ofInt IntKind.u8.bits 128).toNat=x % 128+128:=by
  refine Eq.trans h2 ?_;show x % 256 % 128+128=_;omega
 rw[h3,qi (by omega)]
theorem ary (x:Nat):bL .or .u8 (IntKind.u8.wrap (x:Int)) 128=.val (.int .u8 ((x % 128+128:Nat):Int)):=by rw[Af,ahf]
theorem KC {H:Hp}{n p:Nat}{v:AV}{l:List Nat}(W:mW H n p v l) (x:Nat) (hx:x<18446744073709551616) (hl:l.length<1048000):
  ∃H1,bO pG 185 [.ptr p 0,.int .u64 (x:Int)] H n (.aW []) H1 (n+2*(db x).length)/\mW H1 (n+2*(db x).length) p (.sl (n+2*(db x).length - 1) 0 (l++db x).length 1) (l++db x)/\∀c,c∉Kz p v->c<n∨n+2*(db x).length<=c->H1.get c=H.get c:=
 tU W (by simp[W.pn]) (by have:=gU x;omega) (by have:=gU x;simp;omega) λ S ht WS=>by
  have hxl:(db x).length<=10:=nW 9 x (by omega);refine ar.of c185 (by simp[A185]) λ F hF=>?_;simp[A185];refine aG.of (λ k F K m ms=>∃(y:Nat) (u:AV) (d:List Nat),k=y/\y<18446744073709551616/\F.get 0=some (.ptr p 0)/\F.get 1=some (.int .u64 (y:Int))/\ms=[]/\mW K m p u (l++d)/\db x=d++db y/\m=n+2*d.length) x ⟨x,v,[],by simp[hF,hx,WS]⟩ ?_;clear hF F;rintro k F K m ms ⟨y,u,d,hk,hy,f0,f1,rfl,WK,hd,rfl⟩;have hdl:d.length<=10:=by have:=congrArg length hd;simp at this;omega
  by_cases h:y<=127
  ·simp[J9,f1,show ¬(127:Int)<(y:Int) by omega];have e:db y=[y]:=by unfold db;rw[ak h]
   obtain⟨H1,h1,h2,_⟩:=Az WK y (by omega) (by simp;omega);simp[XT,f0,f1,bC,qi (show y<256 by omega)];refine au.ok h1 ?_;rw[e]at hd;have el:(db x).length=d.length+1:=by rw[hd];simp
   rw[hd,<-append_assoc];simp
   rcases h2.hv with⟨h,_⟩|⟨b,h,_,_,h3,_⟩
   ·cases h
   injection h with h;subst h;have hp':=h2.hp;simp only[append_assoc,length_append,List.length_singleton]at hp' h3;rw[show n+2*(d.length+1) - 1=n+2*d.length+1 by omega];exact⟨hp',⟨_,h3,.list (by simp)⟩,by omega⟩
  simp[J9,f1,show (127:Int)<(y:Int) by omega];have e:db y=(y % 128+128)::db (y / 128):=by rw[db,ae h]
  obtain⟨H1,h1,h2,_⟩:=Az WK (y % 128+128) (by omega) (by simp;omega);simp[XV,f0,f1,bC,ary];refine au.ok h1 ?_
  have s7:eN .shr (.int .u64 (y:Int)) (.int .u64 7)=.val (.int .u64 ((y / 128:Nat):Int)):=by
   rw[vg _ _ _ _ (by omega)];simp[IntKind.bits,Int.fdiv_eq_ediv_of_nonneg]
  simp[XU,f0,f1,s7];exact⟨y / 128,by omega,by omega,by omega,_,d++[y % 128+128],by simpa using h2,by rw[hd,e];simp,by simp;omega⟩
structure Val.jA (v:Val):Prop where
 lo : -9223372036854775808<=v.num
 hi:v.num<9223372036854775808
 b:∀c∈v.s,c<256
def zz (x:Int):Nat:=if 0<=x then (2*x).toNat else (-2*x - 1).toNat
theorem Qe {x:Int}(h1 : -9223372036854775808<=x)(h2:x<9223372036854775808):zz x<18446744073709551616:=by unfold zz;split<;>omega
theorem GX (s:List Nat):Qo s=dT s:=by
 induction s with
 |nil=>rfl
 |cons a r _=>simp[dT,Qo]
def aoh (n:Nat):AV->bg
 |.str l=>.new (.sl n 0 l.length 1) (.cells l.length [] (dT l) .nil)
 |_=>.fail
@[simp] theorem aog (n:Nat)(l:List Nat):aoh n (.str l)=.new (.sl n 0 l.length 1) (.cells l.length [] (dT l) .nil):=Eq.trans rfl rfl
@[simp] theorem atb (x:G)(F:Fr)(H:Hp)(n:Nat):PE x F H n=oE (x.f F) (aoh n):=by
 unfold PE oE
 cases x.f F with
 |none=>rfl
 |some v=>cases v<;>first|rfl|(dsimp only;rw[bN,GX];rfl)
theorem ag7 {H:Hp}{n p q b:Nat}{l s:List Nat}(W:mW H n p (.sl b 0 l.length 1) l)(hq:H.get q=some (.cells s.length [] (dT s) .nil))(hl:l.length<1048000)(hs:s.length<=64):
  ar pG 187 [.ptr p 0,.sl q 0 s.length 1] H n (λ u K k=>u=.aW []/\(s=[]->K.get p=H.get p/\K.get b=H.get b/\k=n)/\(s≠[]->K.get p=cl 2 [.bool true,.sl n 0 (l++s).length 1]/\(∃y,K.get n=some y/\OwnB y (dT (l++s)))/\k=n+1)):=by
 obtain⟨hp,pn,hv⟩:=W
 obtain⟨hbn,hbp,hb⟩:b<n/\b≠p/\H.get b=some (.cells l.length [] (dT l) .nil):=by
  rcases hv with⟨h,_⟩|⟨b',h,h1,h2,h3,_⟩
  ·cases h
  injection h with h;subst h;exact⟨h1,h2,h3⟩
 refine ar.of c187 (by simp[A187]) λ F hF=>?_;simp[A187,hF,hp]
 have hsc:aS H 1 (.sl q 0 s.length 1)=some (dT s):=by
  rw[fB hq (.list (by simp)) (by simp)];simp[eS]
 by_cases hs0:s=[]
 ·subst hs0
  have e:fP 1 1 n (.sl b 0 l.length 1) (.sl q 0 0 1) H=.val (.sl b 0 l.length 1):=by
   unfold fP;simp only[length_nil]at hsc;rw[hsc];rfl
  simp[e,hp,hbp]
 have hs1:0<s.length:=length_pos_iff.2 hs0;have hO:aC H n (.sl b 0 l.length 1) (dT l) l.length 1:=⟨by simp,.inr ⟨b,_,rfl,hbn,hb,.list (by simp)⟩⟩;refine aC.app hO hsc (k:=s.length) (by simp) (by simp) (by omega) hs1 (by unfold big;omega) (by omega) (pN _) λ H' hO' hf=>?_
 have hp':H'.get p=cl 2 [.bool true,.sl b 0 l.length 1]:=by
  rw[hf p pn,hp];intro h;injection h with h;exact hbp h
 obtain⟨_,⟨h,_⟩|⟨b',k,h,hb,hk,ho⟩⟩:=hO'
 ·cases h
 injection h with h;subst h;have e2:=wu pn;simp[hp',hs0,hk,e2];rw[vh];exact ho
theorem Qp {H:Hp}{n p:Nat}{v:AV}{l:List Nat}(W:mW H n p v l)(s:List Nat)(hl:l.length<1040000)(hs:s.length<=64):
  ar pG 153 [.ptr p 0,.str s] H n (λ u K k=>u=.aW []/\k=(if s=[]then n+3 else n+4)/\K.get p=cl 2 [.bool true,.sl (if s=[]then n+1 else n+3) 0 (l++(db s.length++s)).length 1]/\∃y,K.get (if s=[]then n+1 else n+3)=some y/\OwnB y (dT (l++(db s.length++s)))):=by
 have hu:(db s.length).length=1:=by unfold db;rw[ak (by omega)];rfl
 obtain⟨H1,h1,h2,_⟩:=KC W s.length (by omega) (by omega);rw[hu,show n+2*1=n+2 by omega]at h1 h2;rw[show n+2 - 1=n+1 by omega]at h2;have w:IntKind.u64.wrap (s.length:Int)=(s.length:Int):=lZ (by omega);refine ar.of c153 (by simp[A153]) λ F hF=>?_;simp[A153,hF,bC,w];refine au.ok h1 ?_;simp[Yu,hF,GX];generalize hK:Tr.put H1 _ _=K
 have h2':mW K (n+3) p (.sl (n+1) 0 (l++db s.length).length 1) (l++db s.length):=by
  obtain⟨a,b,c⟩:=h2;refine⟨by rw[<-hK,Tr.get_put,ae (by omega),a],by omega,?_⟩
  rcases c with⟨h,_⟩|⟨b',h,h3,h4,h5,h6⟩
  ·cases h
  injection h with h;subst h;exact .inr ⟨_,rfl,by omega,h4,by rw[<-hK,Tr.get_put,ae (by omega),h5],h6⟩
 refine au.of (ag7 (q:=n+2) h2' (s:=s) (by rw[<-hK];simp) (by simp;omega) hs) λ u K' k' ⟨e1,e2,e3⟩=>?_;subst e1;simp
 by_cases h0:s=[]
 ·subst h0;obtain⟨a1,a2,a3⟩:=e2 rfl;obtain⟨b',h,h3,h4,h5,h6⟩:=h2'.hv.resolve_left (by rintro⟨h,_⟩;cases h);injection h with h;subst h;refine⟨by simp[a3],by rw[a1,h2'.hp];simp,_,by simp only[if_true];rw[a2,h5],by simpa using OwnB.list (l:=dT (l++db 0)) (by simp)⟩
 obtain⟨a1,a2,a3⟩:=e3 h0;simp only[ae h0];refine⟨by omega,by simpa[Nat.add_assoc]using a1,by simpa using a2⟩
def txB (s:List Nat)(n:Nat):Nat:=if s=[]then n+1 else n+3
def txN (s:List Nat)(n:Nat):Nat:=if s=[]then n+3 else n+4
theorem acW (s:List Nat)(n:Nat):n<txB s n/\txB s n<txN s n:=by unfold txB txN;split<;>omega
theorem aas {H:Hp}{n p:Nat}{v:AV}{l:List Nat}(W:mW H n p v l)(s:List Nat)(hl:l.length<1040000)(hs:s.length<=64):
  ∃H1,bO pG 153 [.ptr p 0,.str s] H n (.aW []) H1 (txN s n)/\mW H1 (txN s n) p (.sl (txB s n) 0 (l++(db s.length++s)).length 1) (l++(db s.length++s))/\∀c,c∉Kz p v->c<n∨txN s n<=c->H1.get c=H.get c:=by
 have hu:(db s.length).length=1:=by unfold db;rw[ak (by omega)];rfl
 have:=acW s n;exact tU W (by simp[W.pn]) (by omega) (by simp;omega) λ S _ WS=>(Qp WS s hl hs).mono λ u K k ⟨a,b,c,d⟩=>⟨a,c,d,b⟩
def one (v:Val):List Nat:=if v.kind=1 then db (zz v.num)else if v.kind=2 then db v.s.length++v.s else [v.num.toNat]
def Om (k:Int):FuncId:=if k=1 then 148 else if k=2 then 152 else 156
theorem mW.alloc {H:Hp}{n p:Nat}{v:AV}{l:List Nat}(W:mW H n p v l)(y:bz):mW (H.put n (some y)) (n+1) p v l:=by
 obtain⟨a,b,c⟩:=W;refine⟨by rw[Tr.get_put,ae (by omega),a],by omega,?_⟩
 rcases c with h|⟨q,h1,h2,h3,h4,h5⟩
 ·exact .inl h
 exact .inr ⟨q,h1,by omega,h3,by rw[Tr.get_put,ae (by omega),h4],h5⟩
theorem mW.fin {H:Hp}{n p b:Nat}{l:List Nat}(W:mW H n p (.sl b 0 l.length 1) l):H.get p=cl 2 [.bool true,.sl b 0 l.length 1]/\∃y,H.get b=some y/\OwnB y (dT l):=by
 rcases W.hv with⟨h,_⟩|⟨b',h,_,_,h3,_⟩
 ·cases h
 injection h with h;subst h;exact⟨W.hp,_,h3,.list (by simp)⟩
theorem aji (x:Int)(h:0<=x)(h2:x<18446744073709551616):(BitVec.ofInt 64 x).toNat=x.toNat:=by
 rw[BitVec.toNat_ofInt,Int.emod_eq_of_lt h (by omega)]
theorem ak_ (x:Int)(h1 : -9223372036854775808<=x)(h2:x<9223372036854775808):bL .xor .u64 (IntKind.u64.wrap (IntKind.u64.wrap x*2)) (IntKind.u64.wrap (x.fdiv 9223372036854775808))=.val (.int .u64 ((zz x:Nat):Int)):=by
 have e:IntKind.u64.wrap (IntKind.u64.wrap x*2)=(2*x) % 18446744073709551616:=by simp[IntKind.wrap,IntKind.signed,IntKind.bits];omega
 rw[xq,e]
 congr 2
 by_cases h:0<=x
 ·have e2:x.fdiv 9223372036854775808=0:=by rw[Int.fdiv_eq_ediv_of_nonneg _ (by omega)];omega
  have e3:(2*x) % 18446744073709551616=2*x:=by omega
  rw[e2,e3,show IntKind.u64.wrap 0=0 from rfl];show IntKind.u64.wrap (((BitVec.ofInt 64 (2*x) ^^^ BitVec.ofInt 64 0).toNat:Nat):Int)=_;rw[show BitVec.ofInt 64 0=0#64 from rfl,BitVec.xor_zero,aji _ (by omega) (by omega),zz,ak h,lZ (by omega)]
 have e2:x.fdiv 9223372036854775808 = -1:=by rw[Int.fdiv_eq_ediv_of_nonneg _ (by omega)];omega
 rw[e2,show IntKind.u64.wrap (-1)=18446744073709551615 from rfl];show IntKind.u64.wrap (((BitVec.ofInt 64 ((2*x) % 18446744073709551616) ^^^ BitVec.ofInt 64 18446744073709551615).toNat:Nat):Int)=_;rw[show BitVec.ofInt 64 18446744073709551615=BitVec.allOnes 64 from rfl,BitVec.xor_allOnes,BitVec.toNat_not,aji _ (by omega) (by omega),zz,ae h];have:2 ^ 64 - 1 - (2*x % 18446744073709551616).toNat=(-2*x - 1).toNat:=by omega
 rw[this,lZ (by omega)]
theorem ah3 {H:Hp}{n p:Nat}{v:AV}{l:List Nat}(W:mW H n p v l)(x:Int)(h1 : -9223372036854775808<=x)(h2:x<9223372036854775808)(hl:l.length<1048000):
  ∃H1,bO pG 149 [.ptr p 0,iI x] H n (.aW []) H1 (n+2*(db (zz x)).length)/\mW H1 (n+2*(db (zz x)).length) p (.sl (n+2*(db (zz x)).length - 1) 0 (l++db (zz x)).length 1) (l++db (zz x))/\∀c,c∉Kz p v->c<n∨n+2*(db (zz x)).length<=c->H1.get c=H.get c:=
 tU W (by simp[W.pn]) (by have:=gU (zz x);omega) (by have:=gU (zz x);simp;omega) λ S _ WS=>by
  obtain⟨H1,a,b,_⟩:=KC WS (zz x) (Qe h1 h2) hl;have s1:eN .shl (.int .u64 (IntKind.u64.wrap x)) (.int .u64 1)=.val (.int .u64 (IntKind.u64.wrap (IntKind.u64.wrap x*2))):=by rw[LP _ _ _ _ (by omega)];rfl
  have s2:eN .shr (iI x) (.int .u64 63)=.val (iI (x.fdiv 9223372036854775808)):=by rw[vg _ _ _ _ (by omega)];rfl
  refine ar.of c149 (by simp[A149]) λ F hF=>?_;simp[A149,hF,bC,s1,s2,ak_ x h1 h2];refine au.ok a ?_;simp;have:=b.fin;simpa using this
theorem agA {H:Hp}{n p:Nat}{v:AV}{l:List Nat}(W:mW H n p v l) (u:Val) (hr:u.jA) (hm:u.may=true) (h0:u.kind≠0) (hl:l.length<1040000):
  ∃b' n',n<n'/\∃H1,bO pG (Om u.kind) [.ptr p 0,u.av] H n (.aW []) H1 n'/\mW H1 n' p (.sl b' 0 (l++one u).length 1) (l++one u)/\∀c,c∉Kz p v->c<n∨n'<=c->H1.get c=H.get c:=by
 have hk:=Val.gX hm;unfold one Om
 by_cases k1:u.kind=1
 ·refine⟨n+2*(db (zz u.num)).length,n+1+2*(db (zz u.num)).length,by omega,?_⟩;simp only[ak k1];refine tU W (by simp[W.pn,Val.av]) (by omega) (by have:=gU (zz u.num);simp;omega) λ S _ WS=>?_;obtain⟨H1,a,b,_⟩:=ah3 (WS.alloc (.cells 3 [] u.cells .nil)) u.num hr.lo hr.hi (by omega);refine ar.of c148 (by simp[A148]) λ F hF=>?_;simp[Val.cells]at a;simp[A148,hF,Val.av];refine au.ok a ?_;simp;have:=b.fin;have e:n+1+2*(db (zz u.num)).length - 1=n+2*(db (zz u.num)).length:=by omega
  rw[e]at this;simpa using this
 by_cases k2:u.kind=2
 ·have hs:=Val.jO hm k2;simp only[ae k1,ak k2];have ht:=acW u.s (n+1);refine⟨txB u.s (n+1),txN u.s (n+1),by omega,tU W (by simp[W.pn,Val.av]) (by omega) (by have:=gU u.s.length;simp;omega) λ S _ WS=>?_⟩;obtain⟨H1,a,b,_⟩:=aas (WS.alloc (.cells 3 [] u.cells .nil)) u.s (by omega) hs;refine ar.of c152 (by simp[A152]) λ F hF=>?_;simp[Val.cells]at a;simp[A152,hF,Val.av];refine au.ok a ?_;simp;simpa using b.fin
 obtain k3:u.kind=3:=by omega
 have hn:u.num=0∨u.num=1:=by
  have:=hm;unfold Val.may at this;simp[k1,k2,k3]at this;exact this.2
 simp only[ae k1,ae k2];refine⟨n+2,n+3,by omega,tU W (by simp[W.pn,Val.av]) (by omega) (by simp) λ S _ WS=>?_⟩;obtain⟨H1,a,b,_⟩:=Az (WS.alloc (.cells 3 [] u.cells .nil)) u.num.toNat (by omega) (by omega);have w:IntKind.u8.wrap u.num=((u.num.toNat:Nat):Int):=by rcases hn with h|h<;>rw[h]<;>rfl
 refine ar.of c156 (by simp[A156]) λ F hF=>?_;simp only[Val.cells]at a;simp[A156,hF,Val.av,bC,w];refine au.ok (by simpa using a) ?_;simp;simpa using b.fin
end Go.Abs
