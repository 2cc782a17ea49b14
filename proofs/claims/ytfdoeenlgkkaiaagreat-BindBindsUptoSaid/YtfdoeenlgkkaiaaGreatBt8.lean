/- A part. -/
import Derived.Test.YtfdoeenlgkkaiaaGreatBt7
noncomputable section
namespace Go.Abs
open List
open Go.Proofs
open Classical
set_option maxRecDepth 100000
theorem aY.g1 (q:aY):q.cells[1]?=some (.bool q.star):=by simp[aY.cells]
theorem aY.g2 (q:aY):q.cells[2]?=some (jq.ds q.items):=by simp[aY.cells]
theorem aY.g3 (q:aY):q.cells[3]?=some (gq.ds q.ab):=by simp[aY.cells]
theorem aY.g12 (q:aY):q.cells[12]?=some (jm.ds q.order):=by
 simp only[aY.cells];rw[getElem?_append_right (by simp)];simp
theorem aY.g13 (q:aY):q.cells[13]?=some (.bool q.limited):=by
 simp only[aY.cells];rw[getElem?_append_right (by simp)];simp
theorem aY.g14 (q:aY):q.cells[14]?=some (.int .i64 q.limit):=by
 simp only[aY.cells];rw[getElem?_append_right (by simp)];simp
def aY.FJ (q:aY):Bool:=q.cond.maybe&&decide (q.ab.length<=4)&&decide (q.order.length<=16)&&decide (0<=q.limit)&&(q.limited||decide (q.limit=0))
def aY.QJ (q:aY):Bool:=if q.star then decide (q.items.length=0)else decide (1<=q.items.length/\q.items.length<=16)
theorem P0 (q:aY) (hc:q.cond.sz<=lim) (F:Fr) (K:Hp) (n:Nat) (Q:QA) (h1:F.get 1=some (.ptr 0 0)) (k0:K.get 0=some (.cells 15 [] q.cells .nil))
  (hQ:∀F' b,F'.get 1=some (.ptr 0 0)->F'.get 3=some (.bool b)->b=q.FJ->Q .normal F' K n []):VC pG Vn F K n [] Q:=by
 have hm:=Aq q.cond hc;have gN:q.cond.av=.agg q.cond.cells 8:=Eq.trans rfl rfl;rw[gN]at hm
 have e4:(q.cells.drop 4).take 8=q.cond.cells:=by
  simp only[aY.cells,cons_append,nil_append,drop_succ_cons,drop_zero];rw[take_append_of_le_length (by simp)];simp
 have g3:=q.g3;have g12:=q.g12;have g13:=q.g13;have g14:=q.g14;have hl:=q.aA;generalize q.cells=cs at *;simp[Vn,h1,k0,hl,e4];refine ao.pure hm ?_
 cases hcm:q.cond.maybe with
 | false =>
  simp;refine hQ _ false ?_ ?_ ?_
  ·simp[h1]
  ·simp
  simp[aY.FJ,hcm]
 | true =>
  by_cases h4:(q.ab.length:Int)<=4
  ·have h4':q.ab.length<=4:=by omega
   by_cases h16:(q.order.length:Int)<=16
   ·have DY:q.order.length<=16:=by omega
    by_cases hl0:0<=q.limit
    ·cases hlm:q.limited with
     | true =>
      simp[h1,k0,g3,g12,g13,g14,al.ag,h4,h16,hl0,hlm];refine hQ _ true ?_ ?_ ?_
      ·simp[h1]
      ·simp
      simp[aY.FJ,hcm,h4',DY,hl0,hlm]
     | false =>
      simp[h1,k0,g3,g12,g13,g14,al.ag,h4,h16,hl0,hlm];refine hQ _ (decide (q.limit=0)) ?_ ?_ ?_
      ·simp[h1]
      ·simp
      simp[aY.FJ,hcm,h4',DY,hl0,hlm]
    simp[h1,k0,g3,g12,g14,al.ag,h4,h16,hl0];refine hQ _ false ?_ ?_ ?_
    ·simp[h1]
    ·simp
    simp[aY.FJ,hl0]
   simp[h1,k0,g3,g12,al.ag,h4,h16];refine hQ _ false ?_ ?_ ?_
   ·simp[h1]
   ·simp
   have DY:¬q.order.length<=16:=by omega
   simp[aY.FJ,DY]
  simp[h1,k0,g3,al.ag,h4];refine hQ _ false ?_ ?_ ?_
  ·simp[h1]
  ·simp
  have h4':¬q.ab.length<=4:=by omega
  simp[aY.FJ,h4']
theorem PZ (q:aY) (b:Bool) (F:Fr) (K:Hp) (n:Nat) (Q:QA) (h1:F.get 1=some (.ptr 0 0)) (h3:F.get 3=some (.bool b)) (k0:K.get 0=some (.cells 15 [] q.cells .nil))
  (hQ:∀F' c,F'.get 1=some (.ptr 0 0)->F'.get 3=some (.bool c)->c=(b&&q.QJ)->Q .normal F' K n []):VC pG wH F K n [] (hJ pG (.cond (aC 40) EI KQ) Q):=by
 have g1:=q.g1;have g2:=q.g2;generalize q.cells=cs at *
 cases hst:q.star with
 | true =>
  cases b with
  | true =>
   by_cases hl:q.items.length=0
   ·simp[wH,EI,h1,h3,k0,g1,g2,hst,al.ag,hl];exact hQ _ true (by simp[h1]) (by simp) (by simp[aY.QJ,hst,hl])
   simp[wH,EI,h1,h3,k0,g1,g2,hst,al.ag,hl];have hl':¬q.items=[]:=by simpa using hl
   first
   | exact hQ _ false (by simp[h1]) (by simp) (by simp[aY.QJ,hst,hl])
   | (simp[hl'];exact hQ _ false (by simp[h1]) (by simp) (by simp[aY.QJ,hst,hl]))
  | false =>
   simp[wH,EI,h1,h3,k0,g1,hst];exact hQ _ false (by simp[h1]) (by simp) (by simp)
 | false =>
  cases b with
  | true =>
   simp[wH,KQ,h1,h3,k0,g1,g2,hst,al.ag];refine ao.pure (uK (q.items.length:Int) 16) ?_;simp;refine hQ _ (decide ((1:Int)<=(q.items.length:Int))&&decide ((q.items.length:Int)<=16)) ?_ ?_ ?_
   ·simp[h1]
   ·simp
   simp[aY.QJ,hst]
   congr 1
   ·simp;omega
   simp;omega
  | false =>
   simp[wH,KQ,h1,h3,k0,g1,hst];exact hQ _ false (by simp[h1]) (by simp) (by simp)
theorem aae (q:aY)(hc:q.cond.sz<=lim)(ho:q.order.length<=lim)(hs:q.ab.length<=lim)(hi:q.items.length<=lim)(hz1:∀x∈q.items,x.e.sz<=lim)(hz2:∀x∈q.ab,x.cond.sz<=lim):ai pG 50 [.agg q.cells 15] (.bool q.may):=by
 refine bf c50 (by simp[aY.pure]) (by simp) (by simp[A50]) λ F hF=>?_;simp[A50,B50,afZ,hF];have k0:(Tr.nil.put 0 (some (bI.cells 15 [] q.cells Ov.nil)):Hp).get 0=some (.cells 15 [] q.cells .nil):=by simp
 refine P0 q hc _ _ _ _ ?_ k0 λ F' b g1 g3 hb=>?_
 ·simp
 simp only[gz,bA];refine PZ q b F' _ _ _ g1 g3 k0 λ F2 c g1 g3 hc=>?_;have:=P1 q ho hs hi hz1 hz2 c F2 _ 1 g1 g3 k0 (by omega);have hm:q.may=((((c&&q.items.all fK.ok)&&eA q.ab)&&q.order.all Ord.ok)):=by rw[hc,hb];rfl
 rw[hm];simp only[gz,bA];simp only[bA]at this;exact this
theorem Ex.c0 (e:Ex):e.cells[0]?=some (.int .i64 e.op):=by
 obtain⟨op,v,t,m,cu,args⟩:=e;simp[Ex.cells,Ex.op]
theorem aE.g0 (x:aE):x.cells[0]?=some (.int .i64 x.kind):=by simp[aE.cells]
theorem aE.g1 (x:aE):x.cells[1]?=some (.str x.table):=by simp[aE.cells]
theorem aE.g2 (x:aE):x.cells[2]?=some (.str x.name):=by simp[aE.cells]
theorem aE.g3 (x:aE):x.cells[3]?=some (aW.ds x.ae):=by simp[aE.cells]
theorem aE.g4 (x:aE):x.cells[4]?=some (bB.ds x.on):=by simp[aE.cells]
theorem aE.g5 (x:aE):x.cells[5]?=some (.bool x.uniq):=by simp[aE.cells]
theorem aE.g6 (x:aE):x.cells[6]?=some (dw.ds x.rows):=by simp[aE.cells]
theorem aE.g7 (x:aE):x.cells[7]?=some (eQ.ds x.sets):=by simp[aE.cells]
theorem aE.g8 (x:aE):x.cells[8]?=some (.int .i64 x.cond.op):=by
 obtain⟨_,_,_,_,_,_,_,_,⟨op,v,t,m,cu,args⟩,_⟩:=x;simp[aE.cells,Ex.cells,Ex.op]
theorem aY.g0 (q:aY):q.cells[0]?=some (.bool q.jA):=by simp[aY.cells]
theorem aY.g4 (q:aY):q.cells[4]?=some (.int .i64 q.cond.op):=by
 obtain⟨_,_,_,_,⟨op,v,t,m,cu,args⟩,_⟩:=q;simp[aY.cells,Ex.cells,Ex.op]
theorem aE.tq (x:aE):(x.cells.drop 16).take 15=x.q.cells:=by rw[aE.cq,take_of_length_le (by simp)]
def tH (a b:Ex):Bool:=decide (a.op=b.op)&&(decide (b.op≠0)||decide (a.bare 0))
def s7 (x t:aE):Bool:=decide (x.table=t.table)&&(decide (x.name=t.name)&&(decide (x.ae.length=t.ae.length)&&(decide (x.on.length=t.on.length)&&((x.uniq == t.uniq)&&(decide (x.rows.length=t.rows.length)&&(decide (x.sets.length=t.sets.length)&&(tH x.cond t.cond &&
 ((x.q.jA == t.q.jA)&&((x.q.star == t.q.star)&&(decide (x.q.items.length=t.q.items.length)&&(decide (x.q.ab.length=t.q.ab.length)&&(tH x.q.cond t.q.cond&&(decide (x.q.order.length=t.q.order.length)&&((x.q.limited == t.q.limited)&&decide (x.q.limit=t.q.limit)))))))))))))))
set_option maxHeartbeats 4000000 in
theorem aiI (x t:aE):ai pG 51 [.agg x.cells 31,.agg t.cells 31] (.bool (s7 x t)):=by
 refine bf c51 (by simp) (by simp) (by simp[A51]) λ F hF=>?_;have la:=um x.cond;have lb:=um x.q.cond;have ax:bm x.q.cells=true:=by simp[aY.cells]
 have at':bm t.q.cells=true:=by simp[aY.cells]
 have gN:x.cond.av=.agg x.cond.cells 8:=Eq.trans rfl rfl;have hbv:x.q.cond.av=.agg x.q.cond.cells 8:=Eq.trans rfl rfl;rw[gN]at la;rw[hbv]at lb;have x1:=x.g1;have x2:=x.g2;have x3:=x.g3;have x4:=x.g4;have x5:=x.g5;have x6:=x.g6;have x7:=x.g7;have x8:=x.g8;have xc:=x.cc;have xq:=x.tq;have xl:=x.aA;have t1:=t.g1;have t2:=t.g2;have t3:=t.g3;have t4:=t.g4;have t5:=t.g5;have t6:=t.g6;have t7:=t.g7;have t8:=t.g8;have tq:=t.tq;have tl:=t.aA;have y0:=x.q.g0;have y1:=x.q.g1;have y2:=x.q.g2;have y3:=x.q.g3;have y4:=x.q.g4;have y12:=x.q.g12;have y13:=x.q.g13;have y14:=x.q.g14;have yc:=x.q.cc;have yl:=x.q.aA;have z0:=t.q.g0;have z1:=t.q.g1;have z2:=t.q.g2;have z3:=t.q.g3;have z4:=t.q.g4;have z12:=t.q.g12;have z13:=t.q.g13;have z14:=t.q.g14;have zl:=t.q.aA;generalize hr:s7 x t=R;unfold s7 tH at hr;generalize x.cells=xs at *;generalize t.cells=ts at *;generalize x.q.cells=xqs at *;generalize t.q.cells=tqs at *;simp[A51,B51,afX,hF];simp only[afW,cH];refine bY.of (bH (P:=pG)) ?_;simp[aa,xl,tl,xq,tq,yl,zl,bw,bL,ax,at'];generalize hK:(Tr.put (Tr.put _ 2 _) 3 _:Hp)=K;have k0:K.get 0=some (.cells 31 [] xs .nil):=by rw[<-hK];simp
 have k1:K.get 1=some (.cells 31 [] ts .nil):=by rw[<-hK];simp
 have k2:K.get 2=some (.cells 15 [] xqs .nil):=by rw[<-hK];simp
 have k3:K.get 3=some (.cells 15 [] tqs .nil):=by rw[<-hK];simp
 clear hK;generalize hF0:(Fp 10 _ _:Fr)=F0;have f2:F0.get 2=some (.ptr 0 0):=by rw[<-hF0];simp[aa]
 have f3:F0.get 3=some (.ptr 1 0):=by rw[<-hF0];simp[aa]
 have f5:F0.get 5=some (.ptr 2 0):=by rw[<-hF0];simp
 have f6:F0.get 6=some (.ptr 3 0):=by rw[<-hF0];simp
 clear hF0 hF F;simp[afV,f2,f3,k0,k1,x1,t1]
 by_cases h1n:¬x.table=t.table
 ·simp[h1n];exact .bool (by rw[<-hr];simp[h1n])
 have h1:=Classical.not_not.1 h1n;clear h1n;simp[f2,f3,k0,k1,x2,t2,h1]
 by_cases h2n:¬x.name=t.name
 ·simp[h2n];exact .bool (by rw[<-hr];simp[h2n])
 have h2:=Classical.not_not.1 h2n;clear h2n;simp[f2,f3,k0,k1,x3,t3,al.ag,h2]
 by_cases h3n:¬x.ae.length=t.ae.length
 ·simp[h3n];exact .bool (by rw[<-hr];simp[h3n])
 have h3:=Classical.not_not.1 h3n;clear h3n;simp[f2,f3,k0,k1,x4,t4,al.ag,h3]
 by_cases h4n:¬x.on.length=t.on.length
 ·simp[h4n];exact .bool (by rw[<-hr];simp[h4n])
 have h4:=Classical.not_not.1 h4n;clear h4n;simp[f2,f3,k0,k1,x5,t5,h4]
 by_cases h5n:¬(x.uniq == t.uniq)=true
 ·simp[h5n];exact .bool (by rw[<-hr];simp[h5n])
 have h5:=Classical.not_not.1 h5n;clear h5n;simp[f2,f3,k0,k1,x6,t6,al.ag,h5]
 by_cases h6n:¬x.rows.length=t.rows.length
 ·simp[h6n];exact .bool (by rw[<-hr];simp[h6n])
 have h6:=Classical.not_not.1 h6n;clear h6n;simp[f2,f3,k0,k1,x7,t7,al.ag,h6]
 by_cases h7n:¬x.sets.length=t.sets.length
 ·simp[h7n];exact .bool (by rw[<-hr];simp[h7n])
 have h7:=Classical.not_not.1 h7n;clear h7n;simp[f2,f3,k0,k1,x8,t8,h7]
 by_cases h8n:¬x.cond.op=t.cond.op
 ·simp[h8n];exact .bool (by rw[<-hr];simp[h8n])
 have h8:=Classical.not_not.1 h8n;clear h8n;simp[f3,k1,t8,h8]
 by_cases w8:t.cond.op=0
 ·simp[f2,k0,xc,w8,xl];refine ao.pure la ?_
  by_cases b8:¬x.cond.bare 0
  ·simp[b8];exact .bool (by rw[<-hr];simp[h8,w8,b8])
  have b8':=Classical.not_not.1 b8;clear b8;simp[f5,f6,k2,k3,y0,z0,b8']
  by_cases h9n:¬(x.q.jA == t.q.jA)=true
  ·simp[h9n];exact .bool (by rw[<-hr];simp[h9n])
  have h9:=Classical.not_not.1 h9n;clear h9n;simp[f5,f6,k2,k3,y1,z1,h9]
  by_cases AP:¬(x.q.star == t.q.star)=true
  ·simp[AP];exact .bool (by rw[<-hr];simp[AP])
  have h10:=Classical.not_not.1 AP;clear AP;simp[f5,f6,k2,k3,y2,z2,al.ag,h10]
  by_cases AO:¬x.q.items.length=t.q.items.length
  ·simp[AO];exact .bool (by rw[<-hr];simp[AO])
  have h11:=Classical.not_not.1 AO;clear AO;simp[f5,f6,k2,k3,y3,z3,al.ag,h11]
  by_cases AM:¬x.q.ab.length=t.q.ab.length
  ·simp[AM];exact .bool (by rw[<-hr];simp[AM])
  have h12:=Classical.not_not.1 AM;clear AM;simp[f5,f6,k2,k3,y4,z4,h12]
  by_cases AL:¬x.q.cond.op=t.q.cond.op
  ·simp[AL];exact .bool (by rw[<-hr];simp[AL])
  have Rp:=Classical.not_not.1 AL;clear AL;simp[f6,k3,z4,Rp]
  by_cases Jq:t.q.cond.op=0
  ·simp[f5,k2,yc,Jq,yl];refine ao.pure lb ?_
   by_cases b13:¬x.q.cond.bare 0
   ·simp[b13];exact .bool (by rw[<-hr];simp[Rp,Jq,b13])
   have Sj:=Classical.not_not.1 b13;clear b13;simp[f5,f6,k2,k3,y12,z12,al.ag,Sj]
   by_cases lM:¬x.q.order.length=t.q.order.length
   ·simp[lM];exact .bool (by rw[<-hr];simp[lM])
   have si:=Classical.not_not.1 lM;clear lM;simp[f5,f6,k2,k3,y13,z13,si]
   by_cases lL:¬(x.q.limited == t.q.limited)=true
   ·simp[lL];exact .bool (by rw[<-hr];simp[lL])
   have F6:=Classical.not_not.1 lL;clear lL;simp[f5,f6,k2,k3,y14,z14,F6]
   by_cases lK:¬x.q.limit=t.q.limit
   ·simp[lK];exact .bool (by rw[<-hr];simp[lK])
   have h16:=Classical.not_not.1 lK;clear lK;simp[h16];exact .bool (by rw[<-hr];simp[h1,h2,h3,h4,h5,h6,h7,h8,w8,b8',h9,h10,h11,h12,Rp,Jq,Sj,si,F6,h16])
  simp[f5,f6,k2,k3,y12,z12,al.ag,Jq]
  by_cases lM:¬x.q.order.length=t.q.order.length
  ·simp[lM];exact .bool (by rw[<-hr];simp[lM])
  have si:=Classical.not_not.1 lM;clear lM;simp[f5,f6,k2,k3,y13,z13,si]
  by_cases lL:¬(x.q.limited == t.q.limited)=true
  ·simp[lL];exact .bool (by rw[<-hr];simp[lL])
  have F6:=Classical.not_not.1 lL;clear lL;simp[f5,f6,k2,k3,y14,z14,F6]
  by_cases lK:¬x.q.limit=t.q.limit
  ·simp[lK];exact .bool (by rw[<-hr];simp[lK])
  have h16:=Classical.not_not.1 lK;clear lK;simp[h16];exact .bool (by rw[<-hr];simp[h1,h2,h3,h4,h5,h6,h7,h8,w8,b8',h9,h10,h11,h12,Rp,Jq,si,F6,h16])
 simp[f5,f6,k2,k3,y0,z0,w8]
 by_cases h9n:¬(x.q.jA == t.q.jA)=true
 ·simp[h9n];exact .bool (by rw[<-hr];simp[h9n])
 have h9:=Classical.not_not.1 h9n;clear h9n;simp[f5,f6,k2,k3,y1,z1,h9]
 by_cases AP:¬(x.q.star == t.q.star)=true
 ·simp[AP];exact .bool (by rw[<-hr];simp[AP])
 have h10:=Classical.not_not.1 AP;clear AP;simp[f5,f6,k2,k3,y2,z2,al.ag,h10]
 by_cases AO:¬x.q.items.length=t.q.items.length
 ·simp[AO];exact .bool (by rw[<-hr];simp[AO])
 have h11:=Classical.not_not.1 AO;clear AO;simp[f5,f6,k2,k3,y3,z3,al.ag,h11]
 by_cases AM:¬x.q.ab.length=t.q.ab.length
 ·simp[AM];exact .bool (by rw[<-hr];simp[AM])
 have h12:=Classical.not_not.1 AM;clear AM;simp[f5,f6,k2,k3,y4,z4,h12]
 by_cases AL:¬x.q.cond.op=t.q.cond.op
 ·simp[AL];exact .bool (by rw[<-hr];simp[AL])
 have Rp:=Classical.not_not.1 AL;clear AL;simp[f6,k3,z4,Rp]
 by_cases Jq:t.q.cond.op=0
 ·simp[f5,k2,yc,Jq,yl];refine ao.pure lb ?_
  by_cases b13:¬x.q.cond.bare 0
  ·simp[b13];exact .bool (by rw[<-hr];simp[Rp,Jq,b13])
  have Sj:=Classical.not_not.1 b13;clear b13;simp[f5,f6,k2,k3,y12,z12,al.ag,Sj]
  by_cases lM:¬x.q.order.length=t.q.order.length
  ·simp[lM];exact .bool (by rw[<-hr];simp[lM])
  have si:=Classical.not_not.1 lM;clear lM;simp[f5,f6,k2,k3,y13,z13,si]
  by_cases lL:¬(x.q.limited == t.q.limited)=true
  ·simp[lL];exact .bool (by rw[<-hr];simp[lL])
  have F6:=Classical.not_not.1 lL;clear lL;simp[f5,f6,k2,k3,y14,z14,F6]
  by_cases lK:¬x.q.limit=t.q.limit
  ·simp[lK];exact .bool (by rw[<-hr];simp[lK])
  have h16:=Classical.not_not.1 lK;clear lK;simp[h16];exact .bool (by rw[<-hr];simp[h1,h2,h3,h4,h5,h6,h7,h8,w8,h9,h10,h11,h12,Rp,Jq,Sj,si,F6,h16])
 simp[f5,f6,k2,k3,y12,z12,al.ag,Jq]
 by_cases lM:¬x.q.order.length=t.q.order.length
 ·simp[lM];exact .bool (by rw[<-hr];simp[lM])
 have si:=Classical.not_not.1 lM;clear lM;simp[f5,f6,k2,k3,y13,z13,si]
 by_cases lL:¬(x.q.limited == t.q.limited)=true
 ·simp[lL];exact .bool (by rw[<-hr];simp[lL])
 have F6:=Classical.not_not.1 lL;clear lL;simp[f5,f6,k2,k3,y14,z14,F6]
 by_cases lK:¬x.q.limit=t.q.limit
 ·simp[lK];exact .bool (by rw[<-hr];simp[lK])
 have h16:=Classical.not_not.1 lK;clear lK;simp[h16];exact .bool (by rw[<-hr];simp[h1,h2,h3,h4,h5,h6,h7,h8,w8,h9,h10,h11,h12,Rp,Jq,si,F6,h16])
def eW.ok (c:eW):Bool:=decide (aD c.name)&&(decide (1<=c.kind)&&decide (c.kind<=3))
def ku.ok (x:ku):Bool:=decide (aD x.name)&&x.e.may
structure xF (x:aE)(tc:List AV)(b:Bool)(F:Fr)(K:Hp)(n:Nat):Prop where
 f1:F.get 1=some (.ptr 0 0)
 f3:F.get 3=some (.ptr 1 0)
 f4:F.get 4=some (.bool b)
 k0:K.get 0=some (.cells 31 [] x.cells .nil)
 k1:K.get 1=some (.cells 31 [] tc .nil)
 hn:2<=n
theorem mK {α:Type}{l:List α}{i:Nat}(h:i<l.length)(f:α->Bool)(b:Bool):(b&&(l.take (i+1)).all f)=((b&&(l.take i).all f)&&f l[i]):=by
 rw[take_add_one,getElem?_eq_getElem h,all_append];simp only[Option.toList,all_cons,all_nil,Bool.and_true,Bool.and_assoc]
theorem ajb (x:aE) (hl:x.ae.length<=lim) (tc:List AV) (b:Bool) (F:Fr) (K:Hp) (n:Nat) (Q:QA) (M:xF x tc b F K n) (h38:F.get 38=some (aW.ds x.ae)) (h39:F.get 39=some (.int .i64 (x.ae.length:Int))) (h40:F.get 40=some (.int .i64 0))
  (hQ:∀F' K' n',xF x tc (b&&x.ae.all eW.ok) F' K' n'->Q .normal F' K' n' []):au zL pG F K n [] (bX 1 Q):=by
 unfold lim at hl;refine au.of (λ t F K n ms=>∃i,t=x.ae.length - i/\i<=x.ae.length/\xF x tc (b&&(x.ae.take i).all eW.ok) F K n/\F.get 38=some (aW.ds x.ae)/\F.get 39=some (.int .i64 (x.ae.length:Int))/\F.get 40=some (.int .i64 (i:Int))/\ms=[]) x.ae.length ⟨0,by simp,by simp,by simpa using M,h38,h39,h40,rfl⟩ ?_;clear M h38 h39 h40 F K n;rintro t F K n ms ⟨i,rfl,hi,M,f38,f39,f40,rfl⟩;obtain⟨f1,f3,f4,k0,k1,hn⟩:=M
 by_cases hlt:i<x.ae.length
 ·have hx:=aW.ix (ik:=.i64) hlt;have hld:=λ H=>aW.gM x.ae[i] (aW.l (x.ae.drop (i+1))) H;have r_:=mK hlt eW.ok b;simp[zL,XI,ah',f38,f39,f40,hlt,hx,hld,al.av];generalize hK1:Tr.put _ n _=K1;have g0:K1.get 0=some (.cells 31 [] x.cells .nil):=by rw[<-hK1];simp[show ¬ 0=n by omega,k0]
  have g1:K1.get 1=some (.cells 31 [] tc .nil):=by rw[<-hK1];simp[show ¬ 1=n by omega,k1]
  have gn:K1.get n=some (.cells 3 [] (aW.cells x.ae[i]) .nil):=by rw[<-hK1];simp
  clear hK1;rw[dQ]at gn;generalize hb:(b&&(x.ae.take i).all eW.ok)=b1 at f4 r_
  have fin:∀(F4:Fr) (b2:Bool),F4.get 1=some (.ptr 0 0)->F4.get 3=some (.ptr 1 0)->F4.get 4=some (.bool b2)->F4.get 38=some (aW.ds x.ae)->F4.get 39=some (.int .i64 (x.ae.length:Int))->F4.get 40=some (.int .i64 (i:Int))->b2=(b1&&x.ae[i].ok)->VC pG IB F4 K1 (n+1) [] (mE (λ t F K n ms=>∃i,t=x.ae.length - i/\i<=x.ae.length/\xF x tc (b&&(x.ae.take i).all eW.ok) F K n/\F.get 38=some (aW.ds x.ae)/\F.get 39=some (.int .i64 (x.ae.length:Int))/\F.get 40=some (.int .i64 (i:Int))/\ms=[]) (x.ae.length - i) (bX 1 Q)):=by
   intro F4 b2 w1 w3 w4 w38 w39 w40 hb2;simp[IB,w40,ah i (by omega)];refine⟨_,by omega,i+1,rfl,hlt,⟨by simp[w1],by simp[w3],?_,g0,g1,by omega⟩,by simp[w38],by simp[w39],by simp⟩;rw[r_,<-hb2];simp[w4]
  cases b1 with
  | false =>
   simp[IC,f4];generalize bN:(Fp 4 _ _:Fr)=F3;have:=fin F3 false (by rw[<-bN];simp[f1]) (by rw[<-bN];simp[f3]) (by rw[<-bN];simp) (by rw[<-bN];simp[f38]) (by rw[<-bN];simp[f39]) (by rw[<-bN];simp[f40]) (by simp);simpa using this
  | true =>
   simp[IC,f4,gn];refine ao.pure (eh x.ae[i].name) ?_
   by_cases hnm:aD x.ae[i].name
   ·by_cases h1:1<=x.ae[i].kind
    ·simp[hnm,gn,h1];generalize bN:(Fp 4 _ _:Fr)=F3;have:=fin F3 (decide (x.ae[i].kind<=3)) (by rw[<-bN];simp[f1]) (by rw[<-bN];simp[f3]) (by rw[<-bN];simp) (by rw[<-bN];simp[f38]) (by rw[<-bN];simp[f39]) (by rw[<-bN];simp[f40]) (by simp[eW.ok,hnm,h1]);simpa using this
    simp[hnm,gn,h1];generalize bN:(Fp 4 _ _:Fr)=F3;have:=fin F3 false (by rw[<-bN];simp[f1]) (by rw[<-bN];simp[f3]) (by rw[<-bN];simp) (by rw[<-bN];simp[f38]) (by rw[<-bN];simp[f39]) (by rw[<-bN];simp[f40]) (by simp[eW.ok,h1]);simpa using this
   simp[hnm];generalize bN:(Fp 4 _ _:Fr)=F3;have:=fin F3 false (by rw[<-bN];simp[f1]) (by rw[<-bN];simp[f3]) (by rw[<-bN];simp) (by rw[<-bN];simp[f38]) (by rw[<-bN];simp[f39]) (by rw[<-bN];simp[f40]) (by simp[eW.ok,hnm]);simpa using this
 have hie:i=x.ae.length:=by omega
 subst hie;rw[take_length]at f4;simp[zL,XI,f39,f40];exact hQ _ K n ⟨by simp[f1],by simp[f3],by simp[f4],k0,k1,hn⟩
theorem aja (x:aE)(hl:x.on.length<=lim)(tc:List AV)(b:Bool)(F:Fr)(K:Hp)(n:Nat)(Q:QA)(M:xF x tc b F K n)(h98:F.get 98=some (bB.ds x.on))(h99:F.get 99=some (.int .i64 (x.on.length:Int)))(aoD:F.get 100=some (.int .i64 0))
  (hQ:∀F' K' n',xF x tc (b&&x.on.all λ s=>decide (aD s)) F' K' n'->Q .normal F' K' n' []):au xx pG F K n [] (bX 3 Q):=by
 unfold lim at hl;refine au.of (λ t F K n ms=>∃i,t=x.on.length - i/\i<=x.on.length/\xF x tc (b&&(x.on.take i).all λ s=>decide (aD s)) F K n/\F.get 98=some (bB.ds x.on)/\F.get 99=some (.int .i64 (x.on.length:Int))/\F.get 100=some (.int .i64 (i:Int))/\ms=[]) x.on.length ⟨0,by simp,by simp,by simpa using M,h98,h99,aoD,rfl⟩ ?_;clear M h98 h99 aoD F K n;rintro t F K n ms ⟨i,rfl,hi,M,f98,f99,f100,rfl⟩;obtain⟨f1,f3,f4,k0,k1,hn⟩:=M
 by_cases hlt:i<x.on.length
 ·have hx:=bB.ix (ik:=.i64) hlt;rw[jQ]at hx;have r_:=mK hlt (λ s=>decide (aD s)) b;generalize hb:(b&&(x.on.take i).all λ s=>decide (aD s))=b1 at f4 r_
  have fin:∀(F4:Fr) (b2:Bool),F4.get 1=some (.ptr 0 0)->F4.get 3=some (.ptr 1 0)->F4.get 4=some (.bool b2)->F4.get 98=some (bB.ds x.on)->F4.get 99=some (.int .i64 (x.on.length:Int))->F4.get 100=some (.int .i64 (i:Int))->b2=(b1&&decide (aD x.on[i]))->VC pG Iu F4 K n [] (mE (λ t F K n ms=>∃i,t=x.on.length - i/\i<=x.on.length/\xF x tc (b&&(x.on.take i).all λ s=>decide (aD s)) F K n/\F.get 98=some (bB.ds x.on)/\F.get 99=some (.int .i64 (x.on.length:Int))/\F.get 100=some (.int .i64 (i:Int))/\ms=[]) (x.on.length - i) (bX 3 Q)):=by
   intro F4 b2 w1 w3 w4 w38 w39 w40 hb2;simp[Iu,w40,ah i (by omega)];refine⟨_,by omega,i+1,rfl,hlt,⟨by simp[w1],by simp[w3],?_,k0,k1,by omega⟩,by simp[w38],by simp[w39],by simp⟩;rw[r_,<-hb2];simp[w4]
  cases b1 with
  | false =>
   simp[xx,Ch,Iw,Iv,f98,f99,f100,hlt,hx,f4];generalize bN:(Fp 4 _ _:Fr)=F3;have:=fin F3 false (by rw[<-bN];simp[f1]) (by rw[<-bN];simp[f3]) (by rw[<-bN];simp) (by rw[<-bN];simp[f98]) (by rw[<-bN];simp[f99]) (by rw[<-bN];simp[f100]) (by simp);simpa using this
  | true =>
   simp[xx,Ch,Iw,Iv,f98,f99,f100,hlt,hx,f4];refine ao.pure (eh x.on[i]) ?_;simp;generalize bN:(Fp 4 _ _:Fr)=F3;have:=fin F3 (decide (aD x.on[i])) (by rw[<-bN];simp[f1]) (by rw[<-bN];simp[f3]) (by rw[<-bN];simp) (by rw[<-bN];simp[f98]) (by rw[<-bN];simp[f99]) (by rw[<-bN];simp[f100]) (by simp);simpa using this
 have hie:i=x.on.length:=by omega
 subst hie;rw[take_length]at f4;simp[xx,Ch,f99,f100];exact hQ _ K n ⟨by simp[f1],by simp[f3],by simp[f4],k0,k1,hn⟩
theorem ai' (x:aE) (hl:x.sets.length<=lim) (hz:∀y∈x.sets,y.e.sz<=lim) (tc:List AV) (b:Bool) (F:Fr) (K:Hp) (n:Nat) (Q:QA) (M:xF x tc b F K n) (aoz:F.get 203=some (eQ.ds x.sets)) (aoy:F.get 204=some (.int .i64 (x.sets.length:Int))) (aox:F.get 205=some (.int .i64 0))
  (hQ:∀F' K' n',xF x tc (b&&x.sets.all ku.ok) F' K' n'->Q .normal F' K' n' []):au zK pG F K n [] (bX 9 Q):=by
 unfold lim at hl;refine au.of (λ t F K n ms=>∃i,t=x.sets.length - i/\i<=x.sets.length/\xF x tc (b&&(x.sets.take i).all ku.ok) F K n/\F.get 203=some (eQ.ds x.sets)/\F.get 204=some (.int .i64 (x.sets.length:Int))/\F.get 205=some (.int .i64 (i:Int))/\ms=[]) x.sets.length ⟨0,by simp,by simp,by simpa using M,aoz,aoy,aox,rfl⟩ ?_;clear M aoz aoy aox F K n;rintro t F K n ms ⟨i,rfl,hi,M,f203,f204,f205,rfl⟩;obtain⟨f1,f3,f4,k0,k1,hn⟩:=M
 by_cases hlt:i<x.sets.length
 ·have hx:=eQ.ix (ik:=.i64) hlt;have hld:=λ H=>eQ.gM x.sets[i] (eQ.l (x.sets.drop (i+1))) H;have r_:=mK hlt ku.ok b;simp[zK,H9,XL,f203,f204,f205,hlt,hx,hld,al.av];generalize hK1:Tr.put _ n _=K1;have g0:K1.get 0=some (.cells 31 [] x.cells .nil):=by rw[<-hK1];simp[show ¬ 0=n by omega,k0]
  have g1:K1.get 1=some (.cells 31 [] tc .nil):=by rw[<-hK1];simp[show ¬ 1=n by omega,k1]
  have gn:K1.get n=some (.cells 9 [] (eQ.cells x.sets[i]) .nil):=by rw[<-hK1];simp
  clear hK1;rw[qe]at gn;have aju:take 8 x.sets[i].e.cells=x.sets[i].e.cells:=take_of_length_le (by simp);have yS:=Dz x.sets[i].e (hz _ (getElem_mem hlt));have gN:x.sets[i].e.av=.agg x.sets[i].e.cells 8:=Eq.trans rfl rfl;rw[gN]at yS;generalize hb:(b&&(x.sets.take i).all ku.ok)=b1 at f4 r_
  have fin:∀(F4:Fr) (b2:Bool),F4.get 1=some (.ptr 0 0)->F4.get 3=some (.ptr 1 0)->F4.get 4=some (.bool b2)->F4.get 203=some (eQ.ds x.sets)->F4.get 204=some (.int .i64 (x.sets.length:Int))->F4.get 205=some (.int .i64 (i:Int))->b2=(b1&&x.sets[i].ok)->VC pG H7 F4 K1 (n+1) [] (mE (λ t F K n ms=>∃i,t=x.sets.length - i/\i<=x.sets.length/\xF x tc (b&&(x.sets.take i).all ku.ok) F K n/\F.get 203=some (eQ.ds x.sets)/\F.get 204=some (.int .i64 (x.sets.length:Int))/\F.get 205=some (.int .i64 (i:Int))/\ms=[]) (x.sets.length - i) (bX 9 Q)):=by
   intro F4 b2 w1 w3 w4 w38 w39 w40 hb2;simp[H7,w40,ah i (by omega)];refine⟨_,by omega,i+1,rfl,hlt,⟨by simp[w1],by simp[w3],?_,g0,g1,by omega⟩,by simp[w38],by simp[w39],by simp⟩;rw[r_,<-hb2];simp[w4]
  cases b1 with
  | false =>
   simp[H8,f4];generalize bN:(Fp 4 _ _:Fr)=F3;have:=fin F3 false (by rw[<-bN];simp[f1]) (by rw[<-bN];simp[f3]) (by rw[<-bN];simp) (by rw[<-bN];simp[f203]) (by rw[<-bN];simp[f204]) (by rw[<-bN];simp[f205]) (by simp);simpa using this
  | true =>
   simp[H8,f4,gn];refine ao.pure (eh x.sets[i].name) ?_
   by_cases hnm:aD x.sets[i].name
   ·simp[hnm,gn,aju];refine ao.pure yS ?_;simp;generalize bN:(Fp 4 _ _:Fr)=F3;have:=fin F3 x.sets[i].e.may (by rw[<-bN];simp[f1]) (by rw[<-bN];simp[f3]) (by rw[<-bN];simp) (by rw[<-bN];simp[f203]) (by rw[<-bN];simp[f204]) (by rw[<-bN];simp[f205]) (by simp[ku.ok,hnm]);simpa using this
   simp[hnm];generalize bN:(Fp 4 _ _:Fr)=F3;have:=fin F3 false (by rw[<-bN];simp[f1]) (by rw[<-bN];simp[f3]) (by rw[<-bN];simp) (by rw[<-bN];simp[f203]) (by rw[<-bN];simp[f204]) (by rw[<-bN];simp[f205]) (by simp[ku.ok,hnm]);simpa using this
 have hie:i=x.sets.length:=by omega
 subst hie;rw[take_length]at f4;simp[zK,H9,f204,f205];exact hQ _ K n ⟨by simp[f1],by simp[f3],by simp[f4],k0,k1,hn⟩
structure RwF (x:aE)(i:Nat)(F:Fr):Prop where
 f136:F.get 136=some (dw.ds x.rows)
 f137:F.get 137=some (.int .i64 (x.rows.length:Int))
 f138:F.get 138=some (.int .i64 (i:Int))
theorem ai_ (x:aE)(r:List Ex)(k:Nat)(hl:r.length<=lim)(hz:∀y∈r,y.sz<=lim)(tc:List AV)(b:Bool)(F:Fr)(K:Hp)(n:Nat)(Q:QA)(M:xF x tc b F K n)(W:RwF x k F)(aoC:F.get 148=some (dz.ds r))(aoB:F.get 149=some (.int .i64 (r.length:Int)))(aoA:F.get 150=some (.int .i64 0))
  (hQ:∀F' K' n',xF x tc (b&&r.all Ex.may) F' K' n'->RwF x k F'->Q .normal F' K' n' []):au E2 pG F K n [] (bX 7 Q):=by
 unfold lim at hl;refine au.of (λ t F K n ms=>∃i,t=r.length - i/\i<=r.length/\xF x tc (b&&(r.take i).all Ex.may) F K n/\RwF x k F/\F.get 148=some (dz.ds r)/\F.get 149=some (.int .i64 (r.length:Int))/\F.get 150=some (.int .i64 (i:Int))/\ms=[]) r.length ⟨0,by simp,by simp,by simpa using M,W,aoC,aoB,aoA,rfl⟩ ?_;clear M W aoC aoB aoA F K n;rintro t F K n ms ⟨i,rfl,hi,M,⟨f136,f137,f138⟩,f148,f149,f150,rfl⟩;obtain⟨f1,f3,f4,k0,k1,hn⟩:=M
 by_cases hlt:i<r.length
 ·have hx:=dz.ix (ik:=.i64) hlt;have hld:=λ H=>dz.gM r[i] (dz.l (r.drop (i+1))) H;have r_:=mK hlt Ex.may b;simp[E2,Ij,XM,f148,f149,f150,hlt,hx,nj];generalize hK1:Tr.put _ n (some (bI.cells 8 [] r[i].cells .nil))=K1;have g0:K1.get 0=some (.cells 31 [] x.cells .nil):=by rw[<-hK1];simp[show ¬ 0=n by omega,k0]
  have g1:K1.get 1=some (.cells 31 [] tc .nil):=by rw[<-hK1];simp[show ¬ 1=n by omega,k1]
  have gn:K1.get n=some (.cells 8 [] r[i].cells .nil):=by rw[<-hK1];simp
  clear hK1;have yS:=Dz r[i] (hz _ (getElem_mem hlt));have gN:r[i].av=.agg r[i].cells 8:=Eq.trans rfl rfl;rw[gN]at yS;generalize hb:(b&&(r.take i).all Ex.may)=b1 at f4 r_
  have fin:∀(F4:Fr) (b2:Bool),F4.get 1=some (.ptr 0 0)->F4.get 3=some (.ptr 1 0)->F4.get 4=some (.bool b2)->RwF x k F4->F4.get 148=some (dz.ds r)->F4.get 149=some (.int .i64 (r.length:Int))->F4.get 150=some (.int .i64 (i:Int))->b2=(b1&&r[i].may)->VC pG Ih F4 K1 (n+1) [] (mE (λ t F K n ms=>∃i,t=r.length - i/\i<=r.length/\xF x tc (b&&(r.take i).all Ex.may) F K n/\RwF x k F/\F.get 148=some (dz.ds r)/\F.get 149=some (.int .i64 (r.length:Int))/\F.get 150=some (.int .i64 (i:Int))/\ms=[]) (r.length - i) (bX 7 Q)):=by
   intro F4 b2 w1 w3 w4 ⟨aiw,aiv,aiu⟩ w38 w39 w40 hb2;simp[Ih,w40,ah i (by omega)];refine⟨_,by omega,i+1,rfl,hlt,⟨by simp[w1],by simp[w3],?_,g0,g1,by omega⟩,⟨by simp[aiw],by simp[aiv],by simp[aiu]⟩,by simp[w38],by simp[w39],by simp⟩;rw[r_,<-hb2];simp[w4]
  cases b1 with
  | false =>
   simp[Ii,f4];generalize bN:(Fp 4 _ _:Fr)=F3;have:=fin F3 false (by rw[<-bN];simp[f1]) (by rw[<-bN];simp[f3]) (by rw[<-bN];simp) ⟨by rw[<-bN];simp[f136],by rw[<-bN];simp[f137],by rw[<-bN];simp[f138]⟩ (by rw[<-bN];simp[f148]) (by rw[<-bN];simp[f149]) (by rw[<-bN];simp[f150]) (by simp);simpa using this
  | true =>
   simp[Ii,f4,gn];refine ao.pure yS ?_;simp;generalize bN:(Fp 4 _ _:Fr)=F3;have:=fin F3 r[i].may (by rw[<-bN];simp[f1]) (by rw[<-bN];simp[f3]) (by rw[<-bN];simp) ⟨by rw[<-bN];simp[f136],by rw[<-bN];simp[f137],by rw[<-bN];simp[f138]⟩ (by rw[<-bN];simp[f148]) (by rw[<-bN];simp[f149]) (by rw[<-bN];simp[f150]) (by simp);simpa using this
 have hie:i=r.length:=by omega
 subst hie;rw[take_length]at f4;simp[E2,Ij,f149,f150];exact hQ _ K n ⟨by simp[f1],by simp[f3],by simp[f4],k0,k1,hn⟩ ⟨by simp[f136],by simp[f137],by simp[f138]⟩
def rowOk (r:List Ex):Bool:=decide (1<=r.length/\r.length<=16)&&r.all Ex.may
theorem ai9 (x:aE) (hl:x.rows.length<=lim) (hr:∀r∈x.rows,r.length<=lim/\∀y∈r,y.sz<=lim) (tc:List AV) (b:Bool) (F:Fr) (K:Hp) (n:Nat) (Q:QA) (M:xF x tc b F K n) (W:RwF x 0 F)
  (hQ:∀F' K' n',xF x tc (b&&x.rows.all rowOk) F' K' n'->Q .normal F' K' n' []):au xw pG F K n [] (bX 5 Q):=by
 unfold lim at hl;refine au.of (λ t F K n ms=>∃i,t=x.rows.length - i/\i<=x.rows.length/\xF x tc (b&&(x.rows.take i).all rowOk) F K n/\RwF x i F/\ms=[]) x.rows.length ⟨0,by simp,by simp,by simpa using M,W,rfl⟩ ?_;clear M W F K n;rintro t F K n ms ⟨i,rfl,hi,M,⟨f136,f137,f138⟩,rfl⟩;obtain⟨f1,f3,f4,k0,k1,hn⟩:=M
 by_cases hlt:i<x.rows.length
 ·have hx:=dw.ix (ik:=.i64) hlt;rw[jR]at hx;obtain⟨hr1,hr2⟩:=hr _ (getElem_mem hlt);have r_:=mK hlt rowOk b;generalize hb:(b&&(x.rows.take i).all rowOk)=b1 at f4 r_
  have fin:∀(F4:Fr) (b2:Bool),xF x tc b2 F4 K n->RwF x i F4->F4.get 10=some (dz.ds x.rows[i])->b2=(b1&&decide (1<=x.rows[i].length/\x.rows[i].length<=16))->VC pG Ik F4 K n [] (hJ pG (.block 7 (.loop E2)) (bX 6 (hJ pG Ig (mE (λ t F K n ms=>∃i,t=x.rows.length - i/\i<=x.rows.length/\xF x tc (b&&(x.rows.take i).all rowOk) F K n/\RwF x i F/\ms=[]) (x.rows.length - i) (bX 5 Q))))):=by
   intro F4 b2 ⟨w1,w3,w4,_,_,_⟩ ⟨aiw,aiv,aiu⟩ w10 hb2;simp[Ik,w10,al.ag];refine ai_ x x.rows[i] i hr1 hr2 tc b2 _ K n _ ⟨by simp[w1],by simp[w3],by simp[w4],k0,k1,hn⟩ ⟨by simp[aiw],by simp[aiv],by simp[aiu]⟩ (by simp) (by simp) (by simp) λ F5 K5 n5 M5 W5=>?_;have ao0:=W5.f138;simp[Ig,ao0,ah i (by omega)];refine⟨_,by omega,i+1,rfl,hlt,⟨by simp[M5.f1],by simp[M5.f3],?_,M5.k0,M5.k1,M5.hn⟩,⟨by simp[W5.f136],by simp[W5.f137],by simp⟩⟩;have:=M5.f4;rw[r_,rowOk,<-Bool.and_assoc,<-hb2];simp[this]
  cases b1 with
  | false =>
   simp[xw,Cf,Im,Il,f136,f137,f138,hlt,hx,f4];generalize bN:(Fp 4 _ _:Fr)=F3;have:=fin F3 false ⟨by rw[<-bN];simp[f1],by rw[<-bN];simp[f3],by rw[<-bN];simp,k0,k1,hn⟩ ⟨by rw[<-bN];simp[f136],by rw[<-bN];simp[f137],by rw[<-bN];simp[f138]⟩ (by rw[<-bN];simp) (by simp);simpa using this
  | true =>
   simp[xw,Cf,Im,Il,f136,f137,f138,hlt,hx,f4,al.ag];refine ao.pure (uK (x.rows[i].length:Int) 16) ?_;simp;generalize bN:(Fp 4 _ _:Fr)=F3
   have:=fin F3 (decide ((1:Int)<=(x.rows[i].length:Int)/\(x.rows[i].length:Int)<=16)) ⟨by rw[<-bN];simp[f1],by rw[<-bN];simp[f3],by rw[<-bN];simp,k0,k1,hn⟩ ⟨by rw[<-bN];simp[f136],by rw[<-bN];simp[f137],by rw[<-bN];simp[f138]⟩ (by rw[<-bN];simp) (by
    rw[Bool.true_and]
    congr 1
    exact propext (by omega))
   simpa using this
 have hie:i=x.rows.length:=by omega
 subst hie;rw[take_length]at f4;simp[xw,Cf,f137,f138];exact hQ _ K n ⟨by simp[f1],by simp[f3],by simp[f4],k0,k1,hn⟩
@[simp] theorem ap1 (e:Eff)(F:Fr)(n:Nat)(A B C D:Hp)(As:List Hp):fb e F n 4 (A::B::C::D::As)=(vE (e F A n)).bind λ v=>ZQ v ((vE (e F B n)).bind λ v=>ZQ v ((vE (e F C n)).bind λ v=>ZQ v (vE (e F D n)))):=by rw[iQ e F n 2,iQ e F n 1,iQ e F n 0,lW]
def NV (v v':AV):Prop:=v=v'∨(v=.ak (.slice none 0 0)/\∃k,v'=.ds [] 0 (k+1))
def NL:List AV->List AV->Prop
 | [],[]=>True
 | v::l,v'::l'=>NV v v'/\NL l l'
 | _,_=>False
@[simp] theorem axD:NL [] []=True:=by simp[NL]
@[simp] theorem FF (v v':AV)(l l':List AV):NL (v::l) (v'::l')=(NV v v'/\NL l l'):=by simp[NL]
@[simp] theorem axA (v:AV):NV v v=True:=by simp[NV]
@[simp] theorem axB {α:Type}{k:Nat}(E:al α (k+1)):NV (.ak (.slice none 0 0)) (E.ds [])=True:=by
 simp only[eq_iff_iff,iff_true];exact .inr ⟨rfl,k,rfl⟩
theorem iH:NV (.ak (.slice none 0 0)) (.ds (Ex.aI []) 0 8):=.inr ⟨rfl,7,by simp[Ex.aI]⟩
theorem NV.vr {φ:Ph}{D:Da}{v v':AV}{x:Value}(h:NV v v')(hx:VR φ D v x):VR φ D v' x:=by
 rcases h with rfl | ⟨rfl,k,rfl⟩
 ·exact hx
 cases hx;exact .sC _
theorem NL.len:∀ {l l':List AV},NL l l'->l'.length=l.length
 | [],[],_=>rfl
 | [],_::_,k=>by simp[NL]at k
 | _::_,[],k=>by simp[NL]at k
 | _::_,_::_,k=>by simp only[FF]at k;simp[NL.len k.2]
theorem NL.oQ {φ:Ph}{D:Da}:∀ {l l':List AV}{xs:List Value},NL l l'->bW φ D l xs->bW φ D l' xs
 | [],[],_,_,h=>h
 | [],_::_,_,k,_=>by simp[NL]at k
 | _::_,[],_,k,_=>by simp[NL]at k
 | _::_,_::_,_,k,.cons _ _ _ _ h1 h2=>by
  simp only[FF]at k;exact .cons _ _ _ _ (k.1.vr h1) (NL.oQ k.2 h2)
theorem ai.conv {P:Program}{g:FuncId}{args args':List AV}{v:AV}(h:ai P g args' v)(hp:aL args)(hc:∀D xs,bW jW D args xs->bW jW D args' xs):ai P g args v:=
 ⟨h.body,hp,h.anh,λ D w xs hd hv=>h.run D w xs hd (hc D xs hv)⟩
def jy:Ex:=.mk 0 ⟨0,0,[]⟩ [] [] 0 []
def gI:aY:=⟨false,false,[],[],jy,[],false,0⟩
def aE.z (k:Int):aE:=⟨k,[],[],[],[],false,[],[],jy,gI⟩
def aE.cut (x:aE):aE:=
 if x.kind=1 then {aE.z x.kind with table:=x.table,ae:=x.ae}
 else if x.kind=2 then {aE.z x.kind with table:=x.table}
 else if x.kind=3 then {aE.z x.kind with table:=x.table,name:=x.name,on:=x.on,uniq:=x.uniq}
 else if x.kind=4 then {aE.z x.kind with name:=x.name}
 else if x.kind=5 then {aE.z x.kind with table:=x.table,rows:=x.rows}
 else if x.kind=6 then {aE.z x.kind with table:=x.table,cond:=x.cond}
 else if x.kind=7 then {aE.z x.kind with table:=x.table,sets:=x.sets,cond:=x.cond}
 else if x.kind=8 then {aE.z x.kind with q:=x.q}
 else aE.z x.kind
def aE.ok (x:aE):Bool:=
 if x.kind=1 then decide (aD x.table)&&decide (1<=x.ae.length/\x.ae.length<=16)&&x.ae.all eW.ok
 else if x.kind=2 then decide (aD x.table)
 else if x.kind=3 then decide (aD x.table)&&decide (aD x.name)&&decide (1<=x.on.length/\x.on.length<=16)&&x.on.all λ s=>decide (aD s)
 else if x.kind=4 then decide (aD x.name)
 else if x.kind=5 then decide (aD x.table)&&decide (0<x.rows.length)&&x.rows.all rowOk
 else if x.kind=6 then decide (aD x.table)&&x.cond.maybe
 else if x.kind=7 then decide (aD x.table)&&decide (1<=x.sets.length/\x.sets.length<=16)&&x.cond.maybe&&x.sets.all ku.ok
 else if x.kind=8 then x.q.may
 else decide (x.kind=9∨x.kind=10∨x.kind=11)
structure aE.sm (x:aE):Prop where
 ae:x.ae.length<=lim
 on:x.on.length<=lim
 rows:x.rows.length<=lim
 row:∀r∈x.rows,r.length<=lim/\∀y∈r,y.sz<=lim
 sets:x.sets.length<=lim
 set:∀y∈x.sets,y.e.sz<=lim
 cond:x.cond.sz<=lim
 items:x.q.items.length<=lim
 item:∀y∈x.q.items,y.e.sz<=lim
 ab:x.q.ab.length<=lim
 src:∀y∈x.q.ab,y.cond.sz<=lim
 order:x.q.order.length<=lim
 qc:x.q.cond.sz<=lim
def rJ (kind:Int):List AV:=[(.int .i64 kind),(.str []),(.str []),(.ak (.slice none 0 0)),(.ak (.slice none 0 0)),(.bool false),(.ak (.slice none 0 0)),(.ak (.slice none 0 0)),(.int .i64 0),(.int .i64 0),(.int .i64 0),(.str []),(.str []),(.str []),(.int .i64 0),(.ak (.slice none 0 0)),(.bool false),(.bool false),(.ak (.slice none 0 0)),(.ak (.slice none 0 0)),(.int .i64 0),(.int .i64 0),(.int .i64 0),(.str []),(.str []),(.str []),(.int .i64 0),(.ak (.slice none 0 0)),(.ak (.slice none 0 0)),(.bool false),(.int .i64 0)]
def zF:CT:=(.seq nJ (.cond (aC 20) (.seq XK (.seq XJ (.seq Lt (.block 1 (.loop zL))))) (.seq kL (.cond (aC 61) (.seq IA Iz) (.seq lZ (.cond (aC 69) (.seq Iy (.seq Ix (.seq Ci (.block 3 (.loop xx))))) (.seq nK (.cond (aC 110) (.seq Ir Iq) (.seq qv (.cond (aC 118) (.seq Ip (.seq Io (.seq Cg (.block 5 (.loop xw))))) (.seq sV (.cond (aC 161) (.seq Ie Ic) (.seq w_ (.cond (aC 177) (.seq Ib (.seq Ia (.seq Cd (.block 9 (.loop zK))))) (.seq Cc (.cond (aC 221) (.seq H6 H5) (.seq (.seq sU (.cond (aC 229) .skip (.seq wZ (.cond (aC 229) .skip Cb)))) (.cond (aC 229) wY .skip))))))))))))))))))
theorem b17:B11=(.seq XQ (.seq XP (.seq XO (.seq (.seq XN (.block 0 zF)) (.seq sT .ret))))):=rfl
structure pf (x:aE)(F:Fr)(K:Hp):Prop where
 f1:F.get 1=some (.ptr 0 0)
 f3:F.get 3=some (.ptr 1 0)
 f4:F.get 4=some (.bool false)
 f19:F.get 19=some (.int .i64 x.kind)
 k0:K.get 0=some (.cells 31 [] x.cells .nil)
 k1:K.get 1=some (.cells 31 [] (rJ x.kind) .nil)
structure oN (x:aE)(tc:List AV):Prop where
 len:tc.length=31
 pure:aL tc
 cut:NL tc x.cut.cells
def pe (x:aE)(Q:QA):Prop:=∀F' K' n' tc b,xF x tc b F' K' n'->oN x tc->b=x.ok->Q .normal F' K' n' []
theorem s8 (table name:List Nat):∀(l:List (List Nat×aR)) (a:Nat) (found:Int) (src:Bool),eN table name l a found src =
  (if ((if 0<=found then [found]else [])++dK table name l a).length=1 then (((if 0<=found then [found]else [])++dK table name l a).getD 0 0,0)else if 1<((if 0<=found then [found]else [])++dK table name l a).length then (0,205)else if table≠[]/\src=false/\lu table l=0 then (0,200)else (0,201))
 | [],a,found,src=>by
  unfold eN dK lu
  by_cases h:0<=found
  ·simp[h]
  simp[h]
 | (n, t)::r,a,found,src=>by
  have ih1:=λ f b=>s8 table name r (a+t.ae.length) f b;have hid:=nY (λ c:eW=>decide (c.name=name)) t.ae;unfold eN dK lu;have e1:(table=[]∨n=table)↔(table=[]∨table=n):=by rw[eq_comm (a:=n)]
  simp only[e1];generalize eE (λ c:eW=>decide (c.name=name)) t.ae=k at *
  by_cases h1:table=[]∨table=n
  ·by_cases h2:0<=k
   ·have h3:(0:Int)<=(a:Int)+k:=by omega
    by_cases h:0<=found
    ·simp[h1,h2,h]
    simp[h1,h2,h,ih1,h3]
   simp[h1,h2,ih1]
  simp[h1,ih1]
theorem z7 {table name:List Nat}{l:List (List Nat×aR)}:eN table name l 0 (-1) false=gE table name l:=by
 rw[s8];simp[gE]
mutual
theorem Ex.Kn (ns:List (List Nat))(ts:List aR):∀(e:Ex)(err:Int),err≠0->(e.bd ns ts err).2.2=err
 | .mk op v t m cu args,err,h=>by
  unfold Ex.bd
  split
  ·split
   ·rfl
   simp[keep,h]
  split
  ·rfl
  simp[keep,Ex.Gw ns ts args err h,h]
theorem Ex.Gw (ns:List (List Nat))(ts:List aR):∀(l:List Ex)(err:Int),err≠0->(Ex.ig ns ts l err).2.2=err
 | [],err,_=>rfl
 | e::r,err,h=>by
  have h1:=Ex.Kn ns ts e err h;simp only[Ex.ig,h1];exact Ex.Gw ns ts r err h
end
theorem Ex.Ko (ns:List (List Nat))(ts:List aR)(b:List Ex):∀(a:List Ex)(err:Int),(Ex.ig ns ts (a++b) err).2.2=(Ex.ig ns ts b (Ex.ig ns ts a err).2.2).2.2
 | [],err=>rfl
 | e::r,err=>by simp only[cons_append,Ex.ig];exact Ex.Ko ns ts b r _
def dH (ns:List (List Nat))(ts:List aR)(e:Ex):Ex×Int×Int:=if (e.bd ns ts 0).2.2=0 then e.bd ns ts 0 else (jy,0,(e.bd ns ts 0).2.2)
theorem qV (h:Hf):aN h [.int .i64 0,.int .i64 0,.int .i64 0,.str [],.str [],.str [],.int .i64 0,.ak (.slice none 0 0)] jy.cells:=by
 simp only[jy,Ex.cells,Ex.aI];exact aN.snoc [_,_,_,_,_,_,_] (by simp) (.nil 7)
theorem O4 {op:Int}(h1:4<=op)(h2:op<=21):(dA op).1.n=(if op<=7 then 1 else 2)/\((dA op).1.any=true->(dA op).1.kind=3):=by
 have:op=4∨op=5∨op=6∨op=7∨op=8∨op=9∨op=10∨op=11∨op=12∨op=13∨op=14∨op=15∨op=16∨op=17∨op=18∨op=19∨op=20∨op=21:=by omega
 rcases this with h | h | h | h | h | h | h | h | h | h | h | h | h | h | h | h | h | h<;>subst h<;>simp[dA]
theorem aa0 {op:Int}{l:List Int}(h1:4<=op)(h2:op<=21):((j6 op l).2=(dA op).1.fits l)/\((dA op).1.fits l=true->(j6 op l).1=(dA op).1.kind):=by
 have:=(O4 h1 h2).2;unfold j6
 split
 ·rename_i h;exact⟨rfl,λ _=>(this h).symm⟩
 split
 ·rename_i h;exact⟨h.symm,λ _=>rfl⟩
 rename_i h;exact⟨by simpa using(Bool.eq_false_iff.2 h).symm,λ e=>absurd e h⟩
def ake (l:List Nat)(j:Nat):Prop:=∀h:j<l.length,rl l[j]∨(0<j/\ug l[j])
theorem Al (s:List Nat):ai pG 74 [.str s] (.bool (decide (cK s))):=by
 refine bf c74 (by simp) (by simp) (by simp[A74]) λ F hF=>?_
 by_cases h0:s=[]
 ·have:¬cK s:=λ h=>h.1 h0;simp only[this,decide_false];subst h0;simp[A74,B74,zC,zB,EF,hF];exact .bool rfl
 have hp : 0<s.length:=length_pos_iff.2 h0
 by_cases Oe:s.length<=24
 ·have hx0:=Bi (k:=.i64) hp;have hx0':rp (.str s) (.int .i64 0)=.val (.int .u8 (s[0]:Int)):=hx0;have hN:cK s↔∀j,ake s j:=⟨λ h j hj=>h.2.2 j hj,λ h=>⟨h0,Oe,λ j hj=>h j hj⟩⟩
  by_cases hc:rl s[0]
  ·have a1:¬(s[0]:Int)<97:=by have:=hc.1;omega
   have a2:¬(122:Int)<(s[0]:Int):=by have:=hc.2;omega
   simp[A74,B74,zC,zB,ae5,hF,show ¬(s.length:Int)<1 by omega,show ¬(24:Int)<(s.length:Int) by omega,show ¬ 24<s.length by omega,hx0',a1,a2];refine au.of (λ t F K n ms=>∃i,t=s.length - i/\1<=i/\i<=s.length/\F.get 0=some (.str s)/\F.get 3=some (.int .i64 (i:Int))/\ms=[]/\∀j,j<i->ake s j) (s.length - 1) ⟨1,rfl,by omega,by omega,by simp[hF],by simp,rfl,λ j h1 h=>?_⟩ ?_
   ·obtain rfl:j=0:=by omega
    exact .inl hc
   clear hF F;rintro t F K n ms ⟨i,rfl,hi1,hi,f0,f3,rfl,hj⟩
   by_cases hlt:i<s.length
   ·have hx:=Bi (k:=.i64) hlt;have w:=ah i (by omega)
    have nx:(rl s[i]∨ug s[i])->∀j,j<i+1->ake s j:=λ h j hji=>by
     by_cases e:j=i
     ·subst e;exact λ _=>h.imp id λ h=>⟨by omega,h⟩
     exact hj j (by omega)
    have no:¬(rl s[i]∨ug s[i])->¬cK s:=λ h hN'=>by
     rcases(hN.1 hN' i) hlt with h1 | h1
     ·exact h (.inl h1)
     exact h (.inr h1.2)
    generalize s[i]=c at hx nx no
    by_cases b1:(97:Int)<=(c:Int)<;>by_cases b2:(c:Int)<=122<;>by_cases d1:(48:Int)<=(c:Int)<;>by_cases d2:(c:Int)<=57<;>by_cases u:c=95 <;>
     first
     | (exfalso;omega)
     | (simp[Zn,UL,ae4,ae3,ae2,f0,f3,hlt,hx,b1,b2,d1,d2,u,show ((c:Int)=95)=(c=95) by simp;omega];first | (simp[ae0,f3,w];exact⟨_,by omega,i+1,rfl,by omega,by omega,f0,rfl,nx (by unfold rl ug;omega)⟩) | (simp[ae1];exact .bool (by simp[no (by unfold rl ug;omega)])))
   obtain rfl:i=s.length:=by omega
   have:cK s:=hN.2 λ j hjl=>hj j hjl hjl;simp[Zn,UL,f0,f3,UN,this];exact .bool rfl
  have hno:¬cK s:=λ h=>by
   rcases(hN.1 h 0) hp with h1 | h1
   ·exact hc h1
   omega
  simp only[hno,decide_false];unfold rl at hc
  by_cases a1:(s[0]:Int)<97
  ·simp[A74,B74,zC,zB,EF,hF,show ¬(s.length:Int)<1 by omega,show ¬(24:Int)<(s.length:Int) by omega,show ¬ 24<s.length by omega,hx0',a1];exact .bool rfl
  have a2:(122:Int)<(s[0]:Int):=by omega
  simp[A74,B74,zC,zB,EF,hF,show ¬(s.length:Int)<1 by omega,show ¬(24:Int)<(s.length:Int) by omega,show ¬ 24<s.length by omega,hx0',a1,a2];exact .bool rfl
 have hno:¬cK s:=λ h=>Oe h.2.1;simp only[hno,decide_false];simp[A74,B74,zC,zB,EF,hF,show ¬(s.length:Int)<1 by omega,show (24:Int)<(s.length:Int) by omega];exact .bool rfl
end Go.Abs
