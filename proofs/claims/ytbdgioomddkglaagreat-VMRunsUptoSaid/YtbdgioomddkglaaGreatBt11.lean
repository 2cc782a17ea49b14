/- A part. -/
import Derived.Test.YtbdgioomddkglaaGreatBt10
noncomputable section
namespace Go.Abs
open List
open Go.Proofs
open Classical
set_option maxRecDepth 100000
def loV (x:Ins)(L:List Val)(v:Val):Val:=if 0<=x.lo then L.getD x.lo.toNat bG else v
def hiV (x:Ins)(L:List Val)(v:Val):Val:=if 0<=x.hi then L.getD x.hi.toNat bG else v
def plQ (n:Nat)(w:er)(id:Int)(sp:dw)(H0:Hp):QA:=fQ [aB 6] λ u K' _=>fW (above n K') u (AW (wF w id sp w.bQ.indexes.length))/\∀c,c<n->K'.get c=H0.get c
section
variable {n:Nat}{w:er}{x:Ins}{ev gv:AV}{L:List Val}{H0:Hp}
theorem zh {sp:dw}(hw:w.aO)(hso:eK w.bQ)(hl:w.rows.length=w.bQ.tables.length)(hsp:sp.eq.length<=bm)(hh:sp.fc=decide (0<=x.hi))(hhi:0<=x.hi->x.hi.toNat<L.length)(hg:aC H0 n gv (bU Val.cells L) L.length 3)(F:Fr)(K:Hp)(m:Nat)(f2:F.get 2=some gv)(G:PG n cB F)(P:PF n w x ev sp K m)(h0:∀c,c<n->K.get c=H0.get c)(hev:blk ev≠some (n+2)):
  VC pG (.seq (.seq xN (.cond (ao 83) BV .skip)) (.seq (.seq xM (.block 4 (.loop Ap))) (.seq xK .ret))) F K m [] (plQ n w x.id {sp with hi:=hiV x L sp.hi} H0):=by
 obtain⟨f3,f4,f7,f10⟩:=G;have k2:=P.ki;have k3:K.get (n+1+1)=cl 11 (oa ev sp):=P.ks;have hlt:=P.lt;simp only[Ins.cells]at k2;simp only[oa]at k3;unfold hiV
 by_cases h:0<=x.hi
 ·have hi:=hhi h;obtain⟨j,hj⟩:∃j:Nat,x.hi=(j:Int):=⟨x.hi.toNat,by omega⟩;rw[hj]at k2 hi;rw[Int.toNat_natCast]at hi;have gK:aC K m gv (bU Val.cells L) L.length 3:=hg.frame (by omega) λ c hc=>h0 c (hg.ba hc);obtain⟨b,y,rfl,hbm,hy,ho,hix,hld⟩:=gK.at (λ a=>a.aE) hi;have hgd:L.getD x.hi.toNat bG=L[j]:=by rw[hj,Int.toNat_natCast];simp[getD,hi]
  rw[ak h,hgd];rw[hh,decide_eq_true h]at k3;generalize L[j]=v at *;generalize j*3=o at *;simp only[Val.cells]at hld;simp[xN,f10,k3,BV,f2,f4,k2,hix,hld];refine zj (sp:={sp with hi:=v}) hw hso hl hsp _ _ _ ⟨by simp[f3],by simp[f4],by simp[f7],by simp[f10]⟩ ⟨by simp[P.kw],by simp[P.ki],by simp[oa,hh,h],P.ko.frame (aM _) λ c hc=>?_,P.lt⟩ H0 λ c hc=>?_
  ·have:c≠n+2:=λ e=>hev (by rw[hc,e]);simp[show ¬c=n+1+1 from this]
  simp[show ¬c=n+1+1 by omega,h0 c hc]
 rw[ae h];rw[hh,decide_eq_false h]at k3;simp[xN,f10,k3];exact zj hw hso hl hsp _ _ _ ⟨by simp[f3],by simp[f4],by simp[f7],by simp[f10]⟩ P H0 h0
theorem OQ {sp:dw}(hw:w.aO)(hso:eK w.bQ)(hl:w.rows.length=w.bQ.tables.length)(hsp:sp.eq.length<=bm)(hh:sp.fc=decide (0<=x.hi))(hhi:0<=x.hi->x.hi.toNat<L.length)(hh2:sp.eJ=decide (0<=x.lo))(hlo:0<=x.lo->x.lo.toNat<L.length)(hg:aC H0 n gv (bU Val.cells L) L.length 3)(F:Fr)(K:Hp)(m:Nat)(f2:F.get 2=some gv)(G:PG n cB F)(P:PF n w x ev sp K m)(h0:∀c,c<n->K.get c=H0.get c)(hev:blk ev≠some (n+2)):
  VC pG (.seq (.seq BW (.cond (ao 75) II .skip)) (.seq (.seq xN (.cond (ao 83) BV .skip)) (.seq (.seq xM (.block 4 (.loop Ap))) (.seq xK .ret)))) F K m [] (plQ n w x.id {sp with lo:=loV x L sp.lo,hi:=hiV x L sp.hi} H0):=by
 have G0:=G;obtain⟨f3,f4,f7,f10⟩:=G;have k2:=P.ki;have k3:K.get (n+1+1)=cl 11 (oa ev sp):=P.ks;have hlt:=P.lt;simp only[Ins.cells]at k2;simp only[oa]at k3;unfold loV
 by_cases h:0<=x.lo
 ·have hi:=hlo h;obtain⟨j,hj⟩:∃j:Nat,x.lo=(j:Int):=⟨x.lo.toNat,by omega⟩;rw[hj]at k2 hi;rw[Int.toNat_natCast]at hi;have gK:aC K m gv (bU Val.cells L) L.length 3:=hg.frame (by omega) λ c hc=>h0 c (hg.ba hc);obtain⟨b,y,rfl,hbm,hy,ho,hix,hld⟩:=gK.at (λ a=>a.aE) hi;have hgd:L.getD x.lo.toNat bG=L[j]:=by rw[hj,Int.toNat_natCast];simp[getD,hi]
  rw[ak h,hgd];rw[hh2,decide_eq_true h]at k3;generalize L[j]=v at *;generalize j*3=o at *;simp only[Val.cells]at hld;simp[BW,f10,k3,II,f2,f4,k2,hix,hld];refine zh (sp:={sp with lo:=v}) hw hso hl hsp hh hhi hg _ _ _ (by simp[f2]) ⟨by simp[f3],by simp[f4],by simp[f7],by simp[f10]⟩ ⟨by simp[P.kw],by simp[P.ki],by simp[oa,hh2,h],P.ko.frame (aM _) λ c hc=>?_,P.lt⟩ (λ c hc=>?_) hev
  ·have:c≠n+2:=λ e=>hev (by rw[hc,e]);simp[show ¬c=n+1+1 from this]
  simp[show ¬c=n+1+1 by omega,h0 c hc]
 rw[ae h];rw[hh2,decide_eq_false h]at k3;simp[BW,f10,k3];exact zh hw hso hl hsp hh hhi hg _ _ _ (by simp[f2]) ⟨by simp[f3],by simp[f4],by simp[f7],by simp[f10]⟩ P h0 hev
end
end Go.Abs
namespace Go.Abs
open List
open Go.Proofs
open Classical
set_option maxRecDepth 100000
def spR (x:Ins)(L:List Val)(i N:Nat):dw:=⟨(L.drop i).take N,decide (0<=x.lo),loV x L bG,x.iL,decide (0<=x.hi),hiV x L bG,x.lJ⟩
def sp0 (x:Ins)(l:List Val):dw:=⟨l,decide (0<=x.lo),bG,x.iL,decide (0<=x.hi),bG,x.lJ⟩
theorem ali {K:Hp}{m:Nat}{va:AV}{l new:List AV}{len sz eT:Nat}{ce:Ce}{Hs:List Hp}{F:Fr}{ms:List Dm}{Q:QA}{pd:Pd}{r:List (Option RO)}(ow:aC K m va l len sz)(hn:new.length=sz)(h1:aX new=true)(hs:0<sz)(hbig:len+1<=big)(hby:eT<=4096)
  (hgo:∀K2,aC K2 (m+1+1) (.sl (m+1) 0 (len+1) sz) (l++new) (len+1) sz->(∀c,c≠m->c≠m+1->blk va≠some c->K2.get c=K.get c)->Ev ((iF r).f ce (pd.f (.sl (m+1) 0 (len+1) sz) F) K2 (K2::Hs) (m+1+1) ms) Q):
  Og (fP sz eT (m+1) va (.sl m 0 1 sz) (K.put m (cl sz new))) pd r ce F (K.put m (cl sz new)) Hs (m+1) ms Q:=by
 refine aC.PQ (k:=1) (new:=new) (ow.alL _ (aM _)) (bM (by simp)) (by simp) (by omega) hs (by omega) hbig hby h1 λ K2 o2 g2=>hgo K2 o2 λ c hc hc2 hb=>?_;rw[g2 c hc2 (λ e=>hb (by rw[e];rfl))];simp[hc]
theorem aaR {H:Hp}{n:Nat}{gv:AV}{L:List Val}{w:er}(hw:w.aO)(hso:eK w.bQ)(hl:w.rows.length=w.bQ.tables.length)(x:Ins)(h1:x.op≠1){i N:Nat}(hxb:x.b=(i:Int))(hxn:x.n=(N:Int))(h:i+N<=L.length)(hN:N<=16)(hL:L.length<=256)(hlo:0<=x.lo->x.lo.toNat<L.length)(hhi:0<=x.hi->x.hi.toNat<L.length)(hg:aC H n gv (bU Val.cells L) L.length 3):bO pG 65 [bw.av w,x.av,gv] H n (AW (wF w x.id (spR x L i N) w.bQ.indexes.length)) H n:=by
 refine Ry hg (ru _ _) (by simp[hg.lC,Pure.lC]) λ H0 ht hg=>?_;refine ar.of c65 (by simp[A65]) λ F hF=>?_;simp[A65,hF,Ins.av,aN.av,Ins.cells,h1];generalize hK:Tr.put _ (n+1+1) _=K0;have kt:gJ K0 (n+1+1+1):=λ b hb=>by rw[<-hK];simp[show ¬b=n by omega,show ¬b=n+1 by omega,show ¬b=n+1+1 by omega,ht b (by omega)]
 have k0:K0.get n=cl 3 (bw.cells w):=by rw[<-hK];simp
 have k1:K0.get (n+1)=cl 15 x.cells:=by rw[<-hK];simp[Ins.cells]
 have k2:K0.get (n+1+1)=cl 11 (oa cB (sp0 x [])):=by rw[<-hK];simp[oa,sp0,bG]
 have kb:∀b,b<n->K0.get b=H0.get b:=λ b hb=>by rw[<-hK];simp[cg hb]
 clear hK
 refine aG.of (λ q F K m ms=>∃(j:Nat) (ev:AV),q=N - j/\j<=N/\(∀c,blk ev=some c->n+1+1+1<=c)/\n+1+1+1<=m/\(∀c,c<n->K.get c=H0.get c)/\PF n w x ev (sp0 x ((L.drop i).take j)) K m/\PG n cB F/\F.get 2=some gv/\F.get 11=some (iI (j:Int))/\gJ K m/\ms=[]) N
  ⟨0,cB,rfl,by omega,by simp,aM _,kb,⟨k0,k1,by simpa using k2,by simpa[bU,sp0]using aC.nil K0 _ 3,by omega⟩,⟨by simp,by simp,by simp,by simp⟩,by simp[hF],by simp,kt,rfl⟩ ?_
 clear k0 k1 k2 kb kt K0 hF F;rintro q F K m ms ⟨j,ev,rfl,hj,hb,hm,h0,P,⟨f3,f4,f7,f10⟩,f2,f11,kt,rfl⟩;have k1:=P.ki;have k3:K.get (n+1+1)=cl 11 (oa ev (sp0 x ((L.drop i).take j))):=P.ks;simp only[Ins.cells]at k1
 by_cases hlt:j<N
 ·have w1:IntKind.i64.wrap ((i:Int)+(j:Int))=((i+j:Nat):Int):=by rw[aY _ (by omega) (by omega)];omega
  have gK:aC K m gv (bU Val.cells L) L.length 3:=hg.frame (by omega) λ c hc=>h0 c (hg.ba hc);obtain⟨b,y,hgv,hbm,hy,ho,hix,hld⟩:=gK.at (λ a=>a.aE) (i:=i+j) (by omega);have hsn:=vO L i j (by omega);have hlen:((L.drop i).take j).length=j:=by simp;omega
  have hko:=P.ko;simp only[sp0]at hko;rw[hlen]at hko;rw[<-w1]at hix;generalize L[i+j]=v at *;generalize (i+j)*3=o at *;simp only[Val.cells]at hld;simp only[oa]at k3;rw[hxb,hxn]at k1;simp[ZN,f11,f4,k1,hlt];refine bD.of (bh (P:=pG)) ?_;simp[ab,f10,k3,f2,f4,k1,f11,fH,hix,hld,br,bI,kt.none];refine ali hko (by simp) (by simp) (by omega) (by unfold big;omega) (by omega) λ K2 o2 g2=>?_;have q3:=(g2 (n+1+1) (by omega) (by omega) λ e=>by have:=hb _ e;omega).trans k3;simp[ab,f10,q3];simp[Va,ab,f11,ax j (by omega)];have asp:∀c,blk ev=some c->c<m:=λ c hc=>P.ko.ba hc;have gk:∀c,c<m->c<n+1+1->K2.get c=K.get c:=λ c h1 h2=>g2 c (by omega) (by omega) λ e=>by have:=hb _ e;omega
  refine⟨_,by omega,j+1,rfl,by omega,.sl (m+1) 0 (j+1) 3,λ c hc=>?_,by omega,λ c hc=>?_,⟨?_,?_,?_,?_,by omega⟩,⟨by simp[ab,f3],by simp[ab,f4],by simp[ab,f7],by simp[ab,f10]⟩,by simp[f2],by simp,λ c hc=>?_⟩
  ·simp at hc;omega
  ·simp[show ¬c=n+1+1 by omega,gk c (by omega) (by omega),h0 c hc]
  ·simp[gk n (by omega) (by omega),P.kw]
  ·simp[gk (n+1) (by omega) (by omega),P.ki]
  ·simp[oa,sp0]
  ·have e:(sp0 x ((L.drop i).take (j+1))).eq=(L.drop i).take j++[v]:=hsn;rw[e,ei,length_append,hlen];have o3:aC K2 (m+1+1) (.sl (m+1) 0 (j+1) 3) (bU Val.cells ((L.drop i).take j)++bU Val.cells [v]) (j+1) 3:=by simpa[bU,Val.cells]using o2
   exact o3.frame (aM _) λ c hc=>by simp at hc;simp[show ¬c=n+1+1 by omega]
  have e:K2.get c=K.get c:=g2 c (by omega) (by omega) λ e=>by have:=asp c e;omega
  simp[show ¬c=n+1+1 by omega,e,kt c (by omega)]
 obtain rfl:j=N:=by omega
 rw[hxn]at k1;simp[ZN,f11,f4,k1];rw[<-eh,<-eh];exact OQ (gv:=gv) (L:=L) (H0:=H0) (sp:=sp0 x ((L.drop i).take j)) hw hso hl (by simp[sp0,bm];omega) rfl hhi rfl hlo hg _ K m (by simp[f2]) ⟨by simp[f3],by simp[f4],by simp[f7],by simp[f10]⟩ P h0 (λ e=>by have:=hb _ e;omega)
def rW (c:Int):List AV:=[iI 3,iI 0,iI 0,.str [],.str [],.str [],iI c,.aI (.slice none 0 0)]
theorem SJ (h:Hf)(c:Int):cM h (rW c) (iO c).cells:=by
 unfold iO rW;exact Ex.lD (v:=bG) (.nil _)
theorem acd (c:Int):Ex.dC [iO c]=(iO c).cells:=by simp[Ex.dC]
theorem acb (c d:Int):Ex.dC [iO c,iO d]=(iO c).cells++(iO d).cells:=by simp[Ex.dC]
theorem aC.ank {H:Hp}{n:Nat}{gv:AV}{L:List Val}(hg:aC H n gv (bU Val.cells L) L.length 3):fW H.get gv (ai L):=by
 have:=hg.lD (l':=eG L) (by rw[iR];exact .pure (by rw[<-iR];simp)) (by omega);exact this
theorem acg {H:Hp}{n:Nat}{gv:AV}{L:List Val}(x:Ins){i:Nat}(hb:x.b=(i:Int))(hi:i<L.length)(hx:4<=x.ex/\x.ex<=7)(hv:cZ L[i].num)(hg:aC H n gv (bU Val.cells L) L.length 3):bO pG 66 [x.av,gv] H n (bH (Qn x.ex L[i])) H n:=by
 refine Ry hg (ru _ _) (by simp[hg.lC,Pure.lC]) λ H0 ht hg=>?_;refine ar.of c66 (by simp[A66]) λ F hF=>?_;have hev:=alb x.ex hx L i hi hv;generalize Qn x.ex L[i]=r at *;simp[A66,hF,Ins.av,Ins.cells,hb,show ¬ 8<=x.ex by omega,U7];generalize hK:Tr.put _ (n+1+1+1) _=K0;have k2:K0.get (n+1+1)=cl 8 (rW i):=by rw[<-hK];simp[rW]
 have k1:K0.get (n+1)=cl 3 [iI 0,iI 0,.str []]:=by rw[<-hK];simp
 have kb:∀b,b<n->K0.get b=H0.get b:=λ b hb=>by rw[<-hK];simp[cg hb]
 clear hK;refine au.lD hev (by simp[bH,Val.av]) ?_ ?_
 ·exact .cons _ _ _ _ (.agg _ _ _ (Ex.lD (op:=x.ex) (v:=bG) (t:=[]) (m:=[]) (qw:=0) (args:=[iO i]) (anl (l:=rW i) k2 rfl (by rw[acd];exact SJ _ i)))) (.cons _ _ _ _ (hg.frame (H':=K0) (n':=n) (aM _) λ c hc=>kb c (hg.ba hc)).ank .nil)
 simp[bH,Val.av,k1];exact⟨.pure _ (by simp),λ c hc=>by simp[cg hc,kb c hc]⟩
theorem acf {H:Hp}{n:Nat}{gv:AV}{L:List Val}(x:Ins){i j:Nat}(hb:x.b=(i:Int))(hi:i<L.length)(hc:x.c=(j:Int))(hj:j<L.length)(hx:8<=x.ex/\x.ex<=21)(hv:cZ L[i].num)(hv2:cZ L[j].num)(hg:aC H n gv (bU Val.cells L) L.length 3):bO pG 66 [x.av,gv] H n (bH (LU x.ex L[i] L[j])) H n:=by
 refine Ry hg (ru _ _) (by simp[hg.lC,Pure.lC]) λ H0 ht hg=>?_;refine ar.of c66 (by simp[A66]) λ F hF=>?_;have hev:=aiB x.ex hx L i j hi hj hv hv2;generalize LU x.ex L[i] L[j]=r at *;simp[A66,hF,Ins.av,Ins.cells,hb,hc,hx.1];generalize hK:Tr.put _ (n+1+1+1) _=K0;have k3:K0.get (n+1+1+1)=cl 8 [iI x.ex,iI 0,iI 0,.str [],.str [],.str [],iI 0,.sl (n+1+1) 0 1 8]:=by rw[<-hK];simp
 have k2:K0.get (n+1+1)=cl 8 (rW i):=by rw[<-hK];simp[rW]
 have k1:K0.get (n+1)=cl 3 [iI 0,iI 0,.str []]:=by rw[<-hK];simp
 have kb:∀b,b<n->K0.get b=H0.get b:=λ b hb=>by rw[<-hK];simp[cg hb]
 clear hK;have os:aC K0 (n+1+1+1+1) (.sl (n+1+1) 0 1 8) (rW i) 1 8:=⟨rfl,.inr ⟨n+1+1,_,rfl,by omega,k2,OwnB.list rfl⟩⟩;refine mZ (new:=rW j) os rfl rfl (by omega) (by unfold big;omega) (by omega) λ K2 o2 g2=>?_;have q3:=(g2 (n+1+1+1) (by omega) (by simp)).trans k3;have q1:=(g2 (n+1) (by omega) (by simp)).trans k1;have qb:∀b,b<n->K2.get b=H0.get b:=λ b hb=>(g2 b (by omega) (by simp;omega)).trans (kb b hb);clear k1 k2 k3 kb os g2;simp[q3,U7,hF];refine au.lD hev (by simp[bH,Val.av]) ?_ ?_
 ·have o3:=o2.frame (H':=K2.put (n+1+1+1) (cl 8 [iI x.ex,iI 0,iI 0,.str [],.str [],.str [],iI 0,.sl (n+1+1+1+1+1) 0 2 8])) (aM _) λ c hc=>by
   simp at hc;simp[show ¬c=n+1+1+1 by omega]
  exact .cons _ _ _ _ (.agg _ _ _ (Ex.lD (op:=x.ex) (v:=bG) (t:=[]) (m:=[]) (qw:=0) (args:=[iO i,iO j]) (o3.lD (by rw[acb];exact(SJ _ i).append (SJ _ j)) (by omega)))) (.cons _ _ _ _ (hg.frame (n':=n) (aM _) λ c hc=>by
   have:=hg.ba hc;simp[show ¬c=n+1+1+1 by omega,qb c this]).ank .nil)
 simp[bH,Val.av,q1];exact⟨.pure _ (by simp),λ c hc=>by simp[cg hc,qb c hc]⟩
end Go.Abs
namespace Go.Abs
open List
open Go.Proofs
open Classical
set_option maxRecDepth 100000
structure Lf where
 l:List Pl
 nil:Bool
def Lf.av (f:Lf):AV:=if f.nil=true then cB else AW f.l
def Lf.cells (f:Lf):List AV:=[f.av]
@[simp] theorem Lf.aE (f:Lf):f.cells.length=1:=rfl
theorem Lf.arF (f:Lf):f.av.one=true:=by unfold Lf.av;split<;>rfl
theorem Lf.one (f:Lf):aX f.cells=true:=by simp[Lf.cells,Lf.arF]
theorem Lf.O4 (f:Lf)(h:f.nil=true->f.l=[]):bu f.av=.val (iI (f.l.length:Int)):=by
 unfold Lf.av
 split
 ·rename_i h1;rw[h h1];rfl
 simp[AW]
structure eA where
 at_:Int
 aA:List Val
 left:List Lf
 row:List Pl
 err:Int
 rows:List (List Val)
 takes:List Tk
 ended:Bool
 full:Bool
structure Fv where
 g:AV
 l:AV
 p:AV
 r:AV
 t:AV
def eA.cells (s:eA)(v:Fv):List AV:=[iI s.at_,v.g,v.l,v.p,iI s.err,v.r,v.t,.bool s.ended,.bool s.full]
def eA.av (s:eA)(v:Fv):AV:=.agg (s.cells v) 9
def Fv.has (v:Fv)(c:Nat):Prop:=blk v.g=some c∨blk v.l=some c∨blk v.p=some c∨blk v.r=some c∨blk v.t=some c
structure atD (f:Nat->Nat)(v:Fv):Prop where
 g:∀c,blk v.g=some c->f c=1
 l:∀c,blk v.l=some c->f c=2
 p:∀c,blk v.p=some c->f c=3
 r:∀c,blk v.r=some c->f c=4
 t:∀c,blk v.t=some c->f c=5
structure RM (H:Hp)(n:Nat)(v:Fv)(s:eA):Prop where
 g:aC H n v.g (bU Val.cells s.aA) s.aA.length 3
 l:aC H n v.l (bU Lf.cells s.left) s.left.length 1
 p:aC H n v.p (bU Pl.cells s.row) s.row.length 2
 r:aC H n v.r (bn s.rows) s.rows.length 1
 t:aC H n v.t (bU Tk.cells s.takes) s.takes.length 3
 d:∃f,atD f v
structure eA.aO (s:eA):Prop where
 g:s.aA.length<=256
 r:s.rows.length+s.takes.length<=4096
 n:∀f∈s.left,f.nil=true->f.l=[]
 at_:0<=s.at_/\s.at_<=8192
 v:∀v∈s.aA,v.may=true/\v.jA
 rl:∀r∈s.rows,r.length<=bm
 tl:∀t∈s.takes,t.new.length<=bm
section
variable {H:Hp}{n:Nat}{v:Fv}{s:eA}
theorem RM.lt (M:RM H n v s){c:Nat}(h:v.has c):c<n:=by
 rcases h with h|h|h|h|h
 ·exact M.g.ba h
 ·exact M.l.ba h
 ·exact M.p.ba h
 ·exact M.r.ba h
 exact M.t.ba h
theorem RM.frame (M:RM H n v s){H':Hp}{n':Nat}(hn:n<=n')(h:∀c,v.has c->H'.get c=H.get c):RM H' n' v s:=
 ⟨M.g.frame hn λ c hc=>h c (.inl hc),M.l.frame hn λ c hc=>h c (.inr (.inl hc)),M.p.frame hn λ c hc=>h c (.inr (.inr (.inl hc))),M.r.frame hn λ c hc=>h c (.inr (.inr (.inr (.inl hc)))),M.t.frame hn λ c hc=>h c (.inr (.inr (.inr (.inr hc)))),M.d⟩
theorem RM.one (M:RM H n v s):aX (s.cells v)=true:=by
 simp[eA.cells,M.g.dI,M.l.dI,M.p.dI,M.r.dI,M.t.dI]
end
structure SF (n:Nat)(x:Ins)(F:Fr):Prop where
 f3:F.get 3=some (.ptr n 0)
 f4:F.get 4=some (.ptr (n+1) 0)
 f5:F.get 5=some (.ptr (n+2) 0)
 f6:F.get 6=some (.ptr (n+3) 0)
structure qY (n:Nat)(w:er)(x:Ins)(v:Fv)(s:eA)(v0:Fv)(H0:Hp)(K:Hp)(m:Nat):Prop where
 k0:K.get n=cl 3 (bw.cells w)
 k1:K.get (n+1)=cl 15 x.cells
 k2:K.get (n+2)=cl 9 (s.cells v)
 k3:∃z,K.get (n+3)=cl 9 z/\z.length=9
 lt:n+3<m
 M:RM K m v s
 out:∀c,v.has c->v0.has c∨n+4<=c
 lt0:∀c,v0.has c->c<n
 fr:∀c,c<n->¬v0.has c->K.get c=H0.get c
def DN (n:Nat)(s:eA)(v0:Fv)(H0:Hp):QA:=fQ [bS 6 9] λ u K k=>∃v,u=s.av v/\RM K k v s/\n<=k/\(∀c,v.has c->v0.has c∨n<=c)/\∀c,c<n->¬v0.has c->K.get c=H0.get c
theorem kd {n:Nat}{w:er}{x:Ins}{v:Fv}{s:eA}{v0:Fv}{H0:Hp}{F:Fr}{K:Hp}{m:Nat}(S:qY n w x v s v0 H0 K m)(FF:SF n x F)(a:Int)(f7:F.get 7=some (iI a)):VC pG (.seq Cf (.seq Cd .ret)) F K m [] (DN n {s with at_:=a} v0 H0):=by
 obtain⟨z,k3,hz⟩:=S.k3;have k2:=S.k2;have f5:=FF.f5;have f6:=FF.f6;have hlt:=S.lt;have ho:=S.M.one;simp only[eA.cells]at k2 ho;have k2':K.get (n+1+1)=_:=k2;have DK:K.get (n+1+1+1)=_:=k3
 match z,hz with
 |[z0,z1,z2,z3,z4,z5,z6,z7,z8],_ =>
 simp at ho;unfold DN;simp[Cf,Cd,f5,f6,f7,k2',DK,ho];refine⟨v,rfl,?_,by omega,λ c hc=>(S.out c hc).imp id λ h=>by omega,λ c h1 h2=>?_⟩
 ·have M2:=S.M.frame (n':=m) (aM _) (H':=(K.put (n+2) (cl 9 [iI a,v.g,v.l,v.p,iI s.err,v.r,v.t,.bool s.ended,.bool s.full])).put (n+3) (cl 9 [iI a,v.g,v.l,v.p,iI s.err,v.r,v.t,.bool s.ended,.bool s.full])) λ c hc=>by
   have:c<n∨n+4<=c:=(S.out c hc).imp (S.lt0 c) id;simp[show ¬c=n+2 by omega,show ¬c=n+3 by omega]
  exact⟨M2.g,M2.l,M2.p,M2.r,M2.t,M2.d⟩
 simp[show ¬c=n+2 by omega,show ¬c=n+3 by omega,S.fr c h1 h2]
section
variable {H:Hp}{n:Nat}
theorem aC.vU {v:AV}{α:Type}{f:α->List AV}{l:List α}{c:Nat}(h:aC H n v (bU f l) l.length c)(hk:∀a,(f a).length=c)(h1:∀a,aX (f a)=true)(hc0:0<c){i:Nat}(hi:i<l.length)(a:α)(x:AV)(hx:x.len=c)(hx2:x.cells=f a):
  ∃b y,v=.sl b 0 l.length c/\dG c v (iI (i:Int))=.val (.ptr b (i*c))/\jL c (.ptr b (i*c)) x H=.upd (.aW []) b y/\aC (H.put b (some y)) n v (bU f (l.set i a)) (l.set i a).length c:=by
 obtain⟨b,y,rfl,h2,h3,h4,h5,h6⟩:=h.at hk hi;obtain⟨y',h7,h8⟩:=Ba (o:=i*c) (c:=c) (v:=x) h3 h4 hx (by rw[hx2];exact hk a) hc0 (by rw[hx2];exact h1 a) (by rw[jb hk];have:=rB c hi;rw[Nat.succ_mul]at this;omega);rw[hx2,u9 hk hi]at h8;refine⟨b,y',rfl,h5,h7,by rw[jb hk],.inr ⟨b,y',by simp,h2,(Tr.get_put _ _ _ _).trans (ak rfl),h8⟩⟩
variable {v:Fv}{s:eA}{b:Nat}{y:bz}
theorem RM.ag9 (M:RM H n v s)(hb:blk v.g=some b){L:List Val}(ow:aC (H.put b (some y)) n v.g (bU Val.cells L) L.length 3):RM (H.put b (some y)) n v {s with aA:=L}:=by
 obtain⟨f,C⟩:=M.d;have h0:=C.g b hb
 have key:∀c,f c≠1->(H.put b (some y)).get c=H.get c:=λ c hc=>by
  have:¬c=b:=λ e=>hc (by rw[e,h0]);simp[this]
 exact⟨ow,M.l.frame (aM _) λ c hc=>key c (by rw[C.l c hc];omega),M.p.frame (aM _) λ c hc=>key c (by rw[C.p c hc];omega),M.r.frame (aM _) λ c hc=>key c (by rw[C.r c hc];omega),M.t.frame (aM _) λ c hc=>key c (by rw[C.t c hc];omega),f,C⟩
theorem RM.alM (M:RM H n v s)(hb:blk v.l=some b){L:List Lf}(ow:aC (H.put b (some y)) n v.l (bU Lf.cells L) L.length 1):RM (H.put b (some y)) n v {s with left:=L}:=by
 obtain⟨f,C⟩:=M.d;have h0:=C.l b hb
 have key:∀c,f c≠2->(H.put b (some y)).get c=H.get c:=λ c hc=>by
  have:¬c=b:=λ e=>hc (by rw[e,h0]);simp[this]
 exact⟨M.g.frame (aM _) λ c hc=>key c (by rw[C.g c hc];omega),ow,M.p.frame (aM _) λ c hc=>key c (by rw[C.p c hc];omega),M.r.frame (aM _) λ c hc=>key c (by rw[C.r c hc];omega),M.t.frame (aM _) λ c hc=>key c (by rw[C.t c hc];omega),f,C⟩
theorem RM.ag8 (M:RM H n v s)(hb:blk v.p=some b){L:List Pl}(ow:aC (H.put b (some y)) n v.p (bU Pl.cells L) L.length 2):RM (H.put b (some y)) n v {s with row:=L}:=by
 obtain⟨f,C⟩:=M.d;have h0:=C.p b hb
 have key:∀c,f c≠3->(H.put b (some y)).get c=H.get c:=λ c hc=>by
  have:¬c=b:=λ e=>hc (by rw[e,h0]);simp[this]
 exact⟨M.g.frame (aM _) λ c hc=>key c (by rw[C.g c hc];omega),M.l.frame (aM _) λ c hc=>key c (by rw[C.l c hc];omega),ow,M.r.frame (aM _) λ c hc=>key c (by rw[C.r c hc];omega),M.t.frame (aM _) λ c hc=>key c (by rw[C.t c hc];omega),f,C⟩
variable {w:er}{x:Ins}{v0:Fv}{H0:Hp}
theorem qY.put {s':eA}{K:Hp}{m:Nat}(S:qY n w x v s v0 H0 K m)(hb:v.has b)(M':RM (K.put b (some y)) m v s')(hs:s'.cells v=s.cells v):qY n w x v s' v0 H0 (K.put b (some y)) m:=by
 have ho:b<n∨n+4<=b:=(S.out b hb).imp (S.lt0 b) id;obtain⟨z,k3,hz⟩:=S.k3
 exact⟨by simp[show ¬n=b by omega,S.k0],by simp[show ¬n+1=b by omega,S.k1],by simp[show ¬n+2=b by omega,S.k2,hs],⟨z,by simp[show ¬n+3=b by omega,k3],hz⟩,S.lt,M',S.out,S.lt0,λ c h1 h2=>by
  have:¬c=b:=λ e=>by
   subst e
   rcases S.out c hb with h|h
   ·exact h2 h
   omega
  simp[this,S.fr c h1 h2]⟩
end
end Go.Abs
namespace Go.Abs
open List
open Go.Proofs
open Classical
set_option maxRecDepth 100000
def vk:CT:=(.seq (.seq lV (.cond (ao 22) .skip mV)) (.cond (ao 22) (.seq MN (.seq ML MK)) (.seq nQ (.cond (ao 42) (.seq MJ (.cond (ao 51) (.seq Ji Jh) (.seq Jg Jf))) (.seq mi (.cond (ao 85) (.seq Je (.seq Jd (.seq (.seq Jc (.cond (ao 112) Jb .skip)) CB))) (.seq nF (.cond (ao 133) Ja (.seq oY (.cond (ao 142) (.seq I9 (.seq Cm (.cond (ao 152) (.seq I8 I7) I6))) (.seq q9 (.cond (ao 166) (.seq I5 (.seq (.seq xU (.cond (ao 181) Cj .skip)) (.seq xT (.cond (ao 188) xR .skip)))) (.seq tJ (.cond (ao 191) I1 (.seq xQ (.cond (ao 195) IZ Ci))))))))))))))))
abbrev GG:CT:=.seq Cf (.seq Cd .ret)
theorem qY.agP {n:Nat}{w:er}{x:Ins}{v v0:Fv}{s s':eA}{H0:Hp}{K:Hp}{m:Nat}{y:List AV}(S:qY n w x v s v0 H0 K m)(h:(s.aA,s.left,s.row,s.rows,s.takes)=(s'.aA,s'.left,s'.row,s'.rows,s'.takes))(hy:y=s'.cells v):qY n w x v s' v0 H0 (K.put (n+2) (cl 9 y)) m:=by
 subst hy;obtain⟨z,k3,hz⟩:=S.k3
 have M2:=S.M.frame (n':=m) (aM _) (H':=K.put (n+2) (cl 9 (s'.cells v))) λ c hc=>by
  have:c<n∨n+4<=c:=(S.out c hc).imp (S.lt0 c) id;simp[show ¬c=n+2 by omega]
 simp only[Prod.mk.injEq]at h;obtain⟨e1,e2,e3,e4,e5⟩:=h;obtain⟨m1,m2,m3,m4,m5,m6⟩:=M2;rw[e1]at m1;rw[e2]at m2;rw[e3]at m3;rw[e4]at m4;rw[e5]at m5;exact⟨by simp[S.k0],by simp[S.k1],by simp,⟨z,by simp[k3],hz⟩,S.lt,⟨m1,m2,m3,m4,m5,m6⟩,S.out,S.lt0,λ c h1 h2=>by simp[show ¬c=n+2 by omega,S.fr c h1 h2]⟩
theorem acj (p:Pl)(r:List Pl):mf 2 (some (iI 1)) none none (.ds (bU Pl.cells (p::r)) (r.length+1) 2)=.val (.ds (bU Pl.cells r) r.length 2):=by
 unfold mf
 have:tu (r.length+1) (some (iI 1)) none none=some (1,r.length+1):=by
  simp[tu,show bnd 0 (some (iI 1))=some 1 from rfl,show bnd (r.length+1) none=some (r.length+1)from rfl]
 simp only[this]
 have e:((bU Pl.cells (p::r)).drop (1*2)).take ((r.length+1 - 1)*2)=bU Pl.cells r:=by
  show (bU Pl.cells r).take (r.length*2)=_;rw[eS];rw[jb (λ a=>a.aE)];exact aM _
 show bg.val (.ds (((bU Pl.cells (p::r)).drop (1*2)).take ((r.length+1 - 1)*2)) (r.length+1 - 1) 2)=_;rw[e];rfl
theorem aC.at1 {H:Hp}{n:Nat}{v:AV}{l:List Lf}(h:aC H n v (bU Lf.cells l) l.length 1){i:Nat}(hi:i<l.length):∃b,dG 1 v (iI (i:Int))=.val (.ptr b i)/\eE (.ptr b i) H=.val l[i].av/\blk v=some b/\∀a:Lf,∃y,jL 1 (.ptr b i) a.av H=.upd (.aW []) b y/\aC (H.put b (some y)) n v (bU Lf.cells (l.set i a)) (l.set i a).length 1:=by
 obtain⟨b,y,hv,hbm,hy,ho,hix,hld⟩:=h.at (λ a=>a.aE) hi;have h1:=Bc hy ho (λ a=>a.aE) hi (j:=0) (v:=l[i].av) (by simp[Lf.cells]);rw[Nat.mul_one]at hix h1;refine⟨b,hix,h1,by rw[hv];rfl,λ a=>?_⟩;obtain⟨b2,y2,hv2,hix2,hst,ow⟩:=h.vU (λ a=>a.aE) Lf.one (by omega) hi a a.av (by unfold Lf.av;split<;>rfl) (by unfold Lf.cells Lf.av;split<;>rfl);rw[hv]at hv2;injection hv2 with e;subst e;rw[Nat.mul_one]at hst;exact⟨y2,hst,ow⟩
section
variable {n:Nat}{w:er}{x:Ins}{v v0:Fv}{s:eA}{H0:Hp}{F:Fr}{K:Hp}{m:Nat}
theorem do5 (S:qY n w x v s v0 H0 K m)(FF:SF n x F)(f18:F.get 18=some (iI x.op))(f7:F.get 7=some (iI (s.at_+1)))(hop:x.op=5){i:Nat}(ha:x.a=(i:Int))(hi:i<s.aA.length):
  VC pG (.seq (.block 0 vk) GG) F K m [] (DN n {s with aA:=s.aA.set i x.v,at_:=s.at_+1} v0 H0):=by
 obtain⟨f3,f4,f5,f6⟩:=FF;have k1:=S.k1;have k2:=S.k2;obtain⟨b,y,hv,hix,hst,ow⟩:=S.M.g.vU (λ a=>a.aE) mY (by omega) hi x.v x.v.av rfl rfl;simp only[eA.cells]at k2;simp only[Ins.cells,ha]at k1;simp only[Val.av]at hst;simp[vk,lV,mV,nQ,mi,nF,Ja,f18,hop,f4,f5,k1,k2,hix,hst];rw[<-eh];exact kd (S.put (.inl (by rw[hv];rfl)) (S.M.ag9 (by rw[hv];rfl) ow) rfl) ⟨by simp[f3],by simp[f4],by simp[f5],by simp[f6]⟩ _ (by simp[f7])
theorem atj (S:qY n w x v s v0 H0 K m)(FF:SF n x F)(f18:F.get 18=some (iI x.op))(hop:x.op=10):
  VC pG (.seq (.block 0 vk) GG) F K m [] (DN n {s with at_:=x.j} v0 H0):=by
 obtain⟨f3,f4,f5,f6⟩:=FF;have k1:=S.k1;simp only[Ins.cells]at k1;simp[vk,lV,mV,nQ,mi,nF,oY,q9,tJ,I1,f18,hop,f4,k1];rw[<-eh];exact kd S ⟨by simp[f3],by simp[f4],by simp[f5],by simp[f6]⟩ _ (by simp)
theorem ati (S:qY n w x v s v0 H0 K m)(FF:SF n x F)(f18:F.get 18=some (iI x.op))(f7:F.get 7=some (iI (s.at_+1)))(hop:x.op=11):
  VC pG (.seq (.block 0 vk) GG) F K m [] (DN n {s with at_:=s.at_+1,ended:=true} v0 H0):=by
 obtain⟨f3,f4,f5,f6⟩:=FF;have k2:=S.k2;simp only[eA.cells]at k2;simp[vk,lV,mV,nQ,mi,nF,oY,q9,tJ,xQ,IZ,f18,hop,f5,k2];rw[<-eh];exact kd (s:={s with ended:=true}) (S.agP rfl (by simp[eA.cells])) ⟨by simp[f3],by simp[f4],by simp[f5],by simp[f6]⟩ _ (by simp[f7])
theorem qY.ne {b:Nat}(S:qY n w x v s v0 H0 K m)(hb:v.has b):(n=b)=False/\(n+1=b)=False/\(n+2=b)=False/\(n+3=b)=False:=by
 have:b<n∨n+4<=b:=(S.out b hb).imp (S.lt0 b) id;refine⟨?_,?_,?_,?_⟩<;>(simp only[eq_iff_iff,iff_false];omega)
def RA (s:eA)(i:Nat)(j:Int):eA:=match (s.left.getD i ⟨[],true⟩).l with
 |[]=>{s with row:=s.row.set i ⟨-1,-1⟩,at_:=j}
 |p::r=>{s with row:=s.row.set i p,left:=s.left.set i ⟨r,false⟩,at_:=s.at_+1}
theorem do3 (S:qY n w x v s v0 H0 K m)(FF:SF n x F)(f18:F.get 18=some (iI x.op))(f7:F.get 7=some (iI (s.at_+1)))(hop:x.op=3)(hnil:∀f∈s.left,f.nil=true->f.l=[]){i:Nat}(ha:x.a=(i:Int))(hi:i<s.left.length)(hi2:i<s.row.length):
  VC pG (.seq (.block 0 vk) GG) F K m [] (DN n (RA s i x.j) v0 H0):=by
 obtain⟨f3,f4,f5,f6⟩:=FF;have k1:=S.k1;have k2:=S.k2;simp only[eA.cells]at k2;simp only[Ins.cells,ha]at k1;obtain⟨b,hix,hld,hbl,hst⟩:=S.M.l.at1 hi;have hlen:=s.left[i].O4 (hnil _ (bT hi));have hnl:=hnil _ (bT hi);unfold RA;have hg:s.left.getD i ⟨[],true⟩=s.left[i]:=by simp[getD,hi]
 rw[hg];generalize hfe:s.left[i]=f at *
 cases hf:f.l with
 |nil =>
  rw[hf]at hlen;obtain⟨b2,y2,hv2,hix2,hst2,ow2⟩:=S.M.p.vU (λ a=>a.aE) Re (by omega) hi2 ⟨-1,-1⟩ (.agg [iI (-1),iI (-1)] 2) rfl rfl;have ne2:=S.ne (b:=b2) (.inr (.inr (.inl (by rw[hv2];rfl))));simp[vk,lV,mV,nQ,MJ,Ji,Jh,f18,hop,f4,f5,k1,k2,hix,hld,hlen,hix2,hst2,ne2];rw[<-eh];exact kd (S.put (.inr (.inr (.inl (by rw[hv2];rfl)))) (S.M.ag8 (by rw[hv2];rfl) ow2) rfl) ⟨by simp[f3],by simp[f4],by simp[f5],by simp[f6]⟩ _ (by simp)
 |cons p r =>
  rw[hf]at hlen
  have hfn:f.nil=false:=by
   cases h:f.nil with
   |false=>rfl
   |true=>rw[hnl h]at hf;cases hf
  have hfa:f.av=.ds (bU Pl.cells (p::r)) (r.length+1) 2:=by simp[Lf.av,hfn,AW,hf]
  rw[hfa]at hld hlen;obtain⟨b2,y2,hv2,hix2,hst2,ow2⟩:=S.M.p.vU (λ a=>a.aE) Re (by omega) hi2 p (.agg p.cells 2) rfl rfl
  have hx0:dG 2 (.ds (bU Pl.cells (p::r)) (r.length+1) 2) (iI 0)=.val (.dp (bU Pl.cells (p::r))):=by
   have:=ig (cs:=bU Pl.cells (p::r)) (len:=r.length+1) (sz:=2) (i:=0) (k:=.i64) (by omega);simpa using this
  have hl0:∀H,df 2 (.dp (bU Pl.cells (p::r))) H=.val (.agg p.cells 2):=λ H=>ga (l:=p.cells) _ rfl;have htl:=acj p r;generalize hpc:bU Pl.cells (p::r)=pc at *;simp[vk,lV,mV,nQ,MJ,Jg,f18,hop,f4,f5,k1,k2,hix,hld,hlen,show ¬((r.length:Int)+1=0) by omega];refine bD.of (bh (P:=pG)) ?_;simp[ab,f4,f5,k1,k2,hix,hld,hx0,hl0,hix2,hst2];have ne2:=S.ne (b:=b2) (.inr (.inr (.inl (by rw[hv2];rfl))));have S2:=S.put (.inr (.inr (.inl (by rw[hv2];rfl)))) (S.M.ag8 (by rw[hv2];rfl) ow2) rfl;obtain⟨b3,hix3,asj,amZ,hst3⟩:=S2.M.l.at1 hi;obtain⟨y3,hst3,ow3⟩:=hst3 ⟨r,false⟩;have amS:eE (.ptr b3 i) (K.put b2 (some y2))=.val (.ds pc (r.length+1) 2):=by rw[asj];simp only[hfe,hfa]
  have q1:=S2.k1;have q2:=S2.k2;simp only[eA.cells]at q2;simp only[Ins.cells,ha]at q1;have hav:Lf.av ⟨r,false⟩=.ds (bU Pl.cells r) r.length 2:=rfl;rw[hav]at hst3;generalize hK2:K.put b2 (some y2)=K2 at *;simp[Jf];refine bD.of (bh (P:=pG)) ?_;simp[ab,f4,f5,q1,q2,hix3,amS,htl,hst3];rw[<-eh];exact kd (S2.put (s':={s with row:=s.row.set i p,left:=s.left.set i ⟨r,false⟩ }) (.inr (.inl amZ)) (S2.M.alM amZ ow3) rfl) ⟨by simp[ab,f3],by simp[ab,f4],by simp[ab,f5],by simp[ab,f6]⟩ _ (by simp[ab,f7])
end
end Go.Abs
namespace Go.Abs
open List
open Go.Proofs
open Classical
set_option maxRecDepth 100000
def ao1 (w:er)(p:Pl):Prop:=p.t<0∨∃(k r:Nat)(h:k<w.rows.length),p=⟨k,r⟩/\r<w.rows[k].length
def Fj (w:er)(p:Pl)(c:Nat):Val:=if p.t<0 then bG else ((w.rows.getD p.t.toNat []).getD p.r.toNat []).getD c bG
theorem qY.grow {n:Nat}{w:er}{x:Ins}{v v0:Fv}{s:eA}{H0:Hp}{K K2:Hp}{m m2:Nat}(S:qY n w x v s v0 H0 K m)(h:∀c,c<m->K2.get c=K.get c)(hm:m<=m2):qY n w x v s v0 H0 K2 m2:=by
 have:=S.lt;obtain⟨z,k3,hz⟩:=S.k3;exact⟨(h _ (by omega)).trans S.k0,(h _ (by omega)).trans S.k1,(h _ (by omega)).trans S.k2,⟨z,(h _ (by omega)).trans k3,hz⟩,by omega,S.M.frame (by omega) λ c hc=>h c (S.M.lt hc),S.out,S.lt0,λ c h1 h2=>(h c (by omega)).trans (S.fr c h1 h2)⟩
section
variable {n:Nat}{w:er}{x:Ins}{v v0:Fv}{s:eA}{H0:Hp}{F:Fr}{K:Hp}{m:Nat}
theorem do4 (S:qY n w x v s v0 H0 K m)(FF:SF n x F)(f18:F.get 18=some (iI x.op))(f7:F.get 7=some (iI (s.at_+1)))(hop:x.op=4){i q c:Nat}(ha:x.a=(i:Int))(hi:i<s.aA.length)(hb:x.b=(q:Int))(hq:q<s.row.length)(hc:x.c=(c:Int))(hp:ao1 w s.row[q]):
  VC pG (.seq (.block 0 vk) GG) F K m [] (DN n {s with aA:=s.aA.set i (Fj w s.row[q] c),at_:=s.at_+1} v0 H0):=by
 obtain⟨f3,f4,f5,f6⟩:=FF;have k0:=S.k0;have k1:=S.k1;have k2:=S.k2;have hlt:=S.lt;obtain⟨b,y,hv,hbm,hy,ho,hix,hld⟩:=S.M.p.at (λ a=>a.aE) hq;simp only[eA.cells]at k2;simp only[Ins.cells,ha,hb,hc]at k1;rw[fa]at k0;generalize s.row[q]=p at *;obtain⟨pt,pr⟩:=p;simp only[Pl.cells]at hld
 have fin:∀(F:Fr) (u:Val),SF n x F->F.get 7=some (iI (s.at_+1))->F.get 10=some (.ptr (m+1) 0)->∀K2:Hp,qY n w x v s v0 H0 K2 (m+2)->K2.get (m+1)=cl 3 u.cells ->
   VC pG CB F K2 (m+2) [] (jN 0 (tC pG GG (DN n {s with aA:=s.aA.set i u,at_:=s.at_+1} v0 H0))):=by
  intro F u ⟨f3,f4,f5,f6⟩ f7 f10 K2 S kv;have k1:=S.k1;have k2:=S.k2;obtain⟨b,y,hv,hix,hst,ow⟩:=S.M.g.vU (λ a=>a.aE) mY (by omega) hi u u.av rfl rfl;simp only[eA.cells]at k2;simp only[Ins.cells,ha]at k1;simp only[Val.av]at hst;simp only[Val.cells]at kv;simp[CB,f4,f5,f10,k1,k2,kv,hix,hst];rw[<-eh];exact kd (S.put (.inl (by rw[hv];rfl)) (S.M.ag9 (by rw[hv];rfl) ow) rfl) ⟨by simp[f3],by simp[f4],by simp[f5],by simp[f6]⟩ _ (by simp[f7])
 simp[vk,lV,mV,nQ,mi,Je,Jd,Jc,f18,hop,f4,f5,k1,k2,hix,hld];generalize hK:Tr.put _ (m+1) _=K2;have km:K2.get m=cl 2 [iI pt,iI pr]:=by rw[<-hK];simp
 have kv:K2.get (m+1)=cl 3 bG.cells:=by rw[<-hK];simp[bG,Val.cells]
 have kK:∀c,c<m->K2.get c=K.get c:=λ c hc=>by rw[<-hK];simp[show ¬c=m by omega,show ¬c=m+1 by omega]
 have S2:qY n w x v s v0 H0 K2 (m+1+1):=S.grow kK (by omega);clear hK;have q0:=S2.k0;have q1:=S2.k1;simp only[Ins.cells,ha,hb,hc]at q1;rw[fa]at q0;refine bD.of (bh (P:=pG)) ?_
 rcases hp with hp|⟨k,r,hk,hpe,hr⟩
 ·replace hp:pt<0:=hp
  have e:Fj w ⟨pt,pr⟩ c=bG:=by simp[Fj,hp]
  rw[e];simp[ab,km,show ¬ 0<=pt by omega];exact fin _ bG ⟨by simp[ab,f3],by simp[ab,f4],by simp[ab,f5],by simp[ab,f6]⟩ (by simp[ab,f7]) (by simp[ab]) K2 S2 kv
 injection hpe with e1 e2;subst e1 e2;have hx:=jJ.ix (ik:=.i64) hk;have hxr:=fk (k:=.i64) hr;rw[lg]at hx
 have hcd:Fj w ⟨k,r⟩ c=(w.rows[k][r]).getD c bG:=by
  simp[Fj,getD,hk,hr,show ¬(k:Int)<0 by omega]
 rw[hcd];generalize w.rows[k][r]=row at *;generalize w.rows[k]=rows at *;rw[show bV rows=.ds (bn rows) rows.length 1 from rfl]at hx;rw[show ai row=.ds (eG row) row.length 3 from rfl]at hxr
 by_cases hcl:c<row.length
 ·have hxv:=cr (k:=.i64) hcl;have hgd:row.getD c bG=row[c]:=by simp[getD,hcl]
  rw[hgd];have hlv:=λ H=>cY row[c] (eG (row.drop (c+1))) H;generalize row[c]=u at *;rw[show u.av=.agg [iI u.kind,iI u.num,.str u.s] 3 from rfl]at hlv;simp[ab,km,f3,f4,q0,q1,hx,hxr,hcl];simp only[Jb];refine bD.of (bh (P:=pG)) ?_;simp[ab,km,f3,f4,q0,q1,hx,hxr,hxv,hlv,kv];refine fin _ u ⟨by simp[ab,f3],by simp[ab,f4],by simp[ab,f5],by simp[ab,f6]⟩ (by simp[ab,f7]) (by simp[ab]) _ ?_ (by simp[Val.cells]);exact S.grow (λ c hc=>by simp[show ¬c=m+1 by omega,kK c hc]) (by omega)
 have hgd:row.getD c bG=bG:=by simp[getD,getElem?_eq_none (show row.length<=c by omega)]
 rw[hgd];simp[ab,km,f3,f4,q0,q1,hx,hxr,hcl];exact fin _ bG ⟨by simp[ab,f3],by simp[ab,f4],by simp[ab,f5],by simp[ab,f6]⟩ (by simp[ab,f7]) (by simp[ab]) K2 S2 kv
end
end Go.Abs
namespace Go.Abs
open List
open Go.Proofs
open Classical
set_option maxRecDepth 100000
section
variable {n:Nat}{w:er}{x:Ins}{v v0:Fv}{s:eA}{H0:Hp}{F:Fr}{K:Hp}{m:Nat}
def TL (s:eA)(i:Nat)(j:Int)(r:Val×Int):eA:=if r.2≠0 then {s with err:=eL s.err r.2,at_:=j} else {s with aA:=s.aA.set i r.1,at_:=s.at_+1}
theorem do6 (S:qY n w x v s v0 H0 K m)(FF:SF n x F)(f18:F.get 18=some (iI x.op))(f7:F.get 7=some (iI (s.at_+1)))(hop:x.op=6){i:Nat}(ha:x.a=(i:Int))(hi:i<s.aA.length){r:Val×Int}(hcall:bO pG 66 [x.av,v.g] K m (bH r) K m):
  VC pG (.seq (.block 0 vk) GG) F K m [] (DN n (TL s i x.j r) v0 H0):=by
 obtain⟨f3,f4,f5,f6⟩:=FF;have k1:=S.k1;have k2:=S.k2;have hlt:=S.lt;simp only[eA.cells]at k2;simp[vk,lV,mV,nQ,mi,nF,oY,I9,f18,hop,f4,f5,k1,k2];refine au.of hcall.hU λ u K2 k2' ⟨a1,a2,a3⟩=>?_;subst a1 a2 a3;obtain⟨u,e⟩:=r;have hset:=λ(K:Hp) (h:qY n w x v s v0 H0 K (k2'+1))=>h.M.g.vU (λ a=>a.aE) mY (by omega) hi u u.av rfl rfl;obtain⟨uk,un,us⟩:=u;rw[show bH (⟨uk,un,us⟩,e)=.aW [.agg [iI uk,iI un,.str us] 3,iI e]from rfl];simp;generalize hK:Tr.put _ k2' _=K3;have km:K3.get k2'=cl 3 [iI uk,iI un,.str us]:=by rw[<-hK];simp
 have S3:qY n w x v s v0 H0 K3 (k2'+1):=S.grow (λ c hc=>by rw[<-hK];simp[show ¬c=k2' by omega]) (by omega);clear hK k1 k2;have k1:=S3.k1;have k2:=S3.k2;simp only[eA.cells]at k2;simp only[Ins.cells,ha]at k1;unfold TL
 by_cases he:e=0
 ·rw[ae (by simp[he])];obtain⟨b,y,hv,hix,hst,ow⟩:=hset K3 S3;rw[show Val.av ⟨uk,un,us⟩=.agg [iI uk,iI un,.str us] 3 from rfl]at hst;simp[Cm,he,I6,f4,f5,k1,k2,km,hix,hst];rw[<-eh];exact kd (S3.put (s':={s with aA:=s.aA.set i ⟨uk,un,us⟩ }) (.inl (by rw[hv];rfl)) (S3.M.ag9 (by rw[hv];rfl) ow) rfl) ⟨by simp[f3],by simp[f4],by simp[f5],by simp[f6]⟩ _ (by simp[f7])
 rw[ak (by simpa using he)];simp[Cm,he,I8,f5,k2];refine au.pure (Dv s.err e) ?_;simp[I7,f4,f5,k1,k2];rw[<-eh];exact kd (s:={s with err:=eL s.err e}) (S3.agP rfl (by simp[eA.cells])) ⟨by simp[f3],by simp[f4],by simp[f5],by simp[f6]⟩ _ (by simp)
def GY (s:eA)(v:Val)(j:Int):eA:={s with err:=if v.kind=1∨v.kind=2 then eL s.err 30 else s.err,at_:=if v=dM true then s.at_+1 else j}
theorem do7 (S:qY n w x v s v0 H0 K m)(FF:SF n x F)(f18:F.get 18=some (iI x.op))(f7:F.get 7=some (iI (s.at_+1)))(hop:x.op=7){i:Nat}(ha:x.a=(i:Int))(hi:i<s.aA.length):
  VC pG (.seq (.block 0 vk) GG) F K m [] (DN n (GY s s.aA[i] x.j) v0 H0):=by
 obtain⟨f3,f4,f5,f6⟩:=FF;have k1:=S.k1;have k2:=S.k2;have hlt:=S.lt;obtain⟨b,y,hv,hbm,hy,ho,hix,hld⟩:=S.M.g.at (λ a=>a.aE) hi;simp only[eA.cells]at k2;simp only[Ins.cells,ha]at k1;generalize s.aA[i]=u at *;have hq:=nq true u (dM true);have ht:=rj true;obtain⟨uk,un,us⟩:=u;simp only[Val.cells]at hld;simp[vk,lV,mV,nQ,mi,nF,oY,q9,I5,f18,hop,f4,f5,k1,k2,hix,hld];generalize hK:Tr.put _ m _=K3;have km:K3.get m=cl 3 [iI uk,iI un,.str us]:=by rw[<-hK];simp
 have S3:qY n w x v s v0 H0 K3 (m+1):=S.grow (λ c hc=>by rw[<-hK];simp[show ¬c=m by omega]) (by omega);clear hK k1 k2;have k1:=S3.k1;have k2:=S3.k2;simp only[eA.cells]at k2;simp only[Ins.cells,ha]at k1;unfold GY;simp only[dM,Val.av,if_true]at hq ht ⊢
 have fin:∀(F:Fr) (K4:Hp) (e a:Int),a=(if (⟨uk,un,us⟩:Val)=⟨3,1,[]⟩then s.at_+1 else x.j)->SF n x F->F.get 7=some (iI (s.at_+1))->F.get 13=some (.ptr m 0)->qY n w x v {s with err:=e} v0 H0 K4 (m+1)->K4.get m=cl 3 [iI uk,iI un,.str us] ->
   VC pG xT F K4 (m+1) [] (tC pG (.cond (ao 188) xR .skip) (jN 0 (tC pG GG (DN n {s with err:=e,at_:=a} v0 H0)))):=by
  rintro F K4 e a rfl ⟨f3,f4,f5,f6⟩ f7 f13 S4 km;have k1:=S4.k1;simp only[Ins.cells,ha]at k1;simp only[xT];refine bD.of (cL (l:=[(67,[.bool true],λ H n=>.mk (.agg [iI 3,iI 1,.str []] 3) H n)]) ?_) ?_
  ·simp only[fD];rintro y rfl;exact aQ ht
  by_cases hu:(⟨uk,un,us⟩:Val)=⟨3,1,[]⟩
  ·rw[ak hu];rw[decide_eq_true hu]at hq;simp[ab,bK,f13,km,hq];rw[<-eh];exact kd (s:={s with err:=e}) S4 ⟨by simp[ab,f3],by simp[ab,f4],by simp[ab,f5],by simp[ab,f6]⟩ _ (by simp[ab,f7])
  rw[ae hu];rw[decide_eq_false hu]at hq;simp[ab,bK,f13,km,hq,xR,f4,k1];rw[<-eh];exact kd (s:={s with err:=e}) S4 ⟨by simp[ab,f3],by simp[ab,f4],by simp[ab,f5],by simp[ab,f6]⟩ _ (by simp[ab])
 have S4:qY n w x v {s with err:=eL s.err 30} v0 H0 (K3.put (n+2) (cl 9 (eA.cells {s with err:=eL s.err 30} v))) (m+1):=S3.agP rfl rfl;simp only[eA.cells]at S4
 by_cases h12:uk=1∨uk=2
 ·have hne:¬(⟨uk,un,us⟩:Val)=⟨3,1,[]⟩:=λ e=>by injection e with e1 e2 e3;omega
  rw[ak h12,ae hne]
  have hk:∀F,SF n x F->F.get 7=some (iI (s.at_+1))->F.get 13=some (.ptr m 0)->VC pG Cj F K3 (m+1) [] (tC pG (.seq xT (.cond (ao 188) xR .skip)) (jN 0 (tC pG GG (DN n {s with err:=eL s.err 30,at_:=x.j} v0 H0)))):=by
   intro F ⟨f3,f4,f5,f6⟩ f7 f13;simp[Cj,f5,k2];refine au.pure (Dv s.err 30) ?_;simp[f5,k2];exact fin _ _ (eL s.err 30) x.j (by rw[ae hne]) ⟨by simp[f3],by simp[f4],by simp[f5],by simp[f6]⟩ (by simp[f7]) (by simp[f13]) S4 (by simp[show ¬m=n+2 by omega,km])
  rcases h12 with rfl|rfl
  ·simp[xU,km];exact hk _ ⟨by simp[f3],by simp[f4],by simp[f5],by simp[f6]⟩ (by simp[f7]) (by simp)
  simp[xU,km];exact hk _ ⟨by simp[f3],by simp[f4],by simp[f5],by simp[f6]⟩ (by simp[f7]) (by simp)
 rw[ae h12];have h1:¬uk=1:=λ e=>h12 (.inl e);have h2:¬uk=2:=λ e=>h12 (.inr e);simp[xU,km,h1,h2];exact fin _ _ s.err _ (by simp) ⟨by simp[f3],by simp[f4],by simp[f5],by simp[f6]⟩ (by simp[f7]) (by simp) S3 km
end
end Go.Abs
namespace Go.Abs
open List
open Go.Proofs
open Classical
set_option maxRecDepth 100000
section
variable {n:Nat}{w:er}{x:Ins}{v v0:Fv}{s:eA}{H0:Hp}{F:Fr}{K:Hp}{m:Nat}
def aoO (s:eA)(i:Nat)(l:List Pl):eA:={s with left:=s.left.set i ⟨l,false⟩,row:=s.row.set i ⟨-1,-1⟩,at_:=s.at_+1}
theorem anZ (S:qY n w x v s v0 H0 K m)(FF:SF n x F)(f18:F.get 18=some (iI x.op))(f7:F.get 7=some (iI (s.at_+1)))(hop:x.op=1∨x.op=2){i:Nat}(ha:x.a=(i:Int))(hi:i<s.left.length)(hi2:i<s.row.length){l:List Pl}(hcall:bO pG 65 [bw.av w,x.av,v.g] K m (AW l) K m):
  VC pG (.seq (.block 0 vk) GG) F K m [] (DN n (aoO s i l) v0 H0):=by
 obtain⟨f3,f4,f5,f6⟩:=FF;have k0:=S.k0;have k1:=S.k1;have k2:=S.k2;have hlt:=S.lt;simp only[eA.cells]at k2
 have fin:∀F:Fr,SF n x F->F.get 7=some (iI (s.at_+1))->VC pG MN F K m [] (tC pG (.seq ML MK) (jN 0 (tC pG GG (DN n (aoO s i l) v0 H0)))):=by
  intro F ⟨f3,f4,f5,f6⟩ f7;simp[MN,f3,f4,f5,k0,k1,k2];refine au.of hcall.hU λ u K2 k2' ⟨a1,a2,a3⟩=>?_;subst a1 a2 a3;simp only[Ins.cells,ha]at k1;obtain⟨b,hix,hld,hbl,hst⟩:=S.M.l.at1 hi;obtain⟨y,hst,ow⟩:=hst ⟨l,false⟩;rw[show Lf.av ⟨l,false⟩=AW l from rfl]at hst;have hne:=S.ne (.inr (.inl hbl));have S2:=S.put (s':={s with left:=s.left.set i ⟨l,false⟩ }) (.inr (.inl hbl)) (S.M.alM hbl ow) rfl;have q1:=S2.k1;have q2:=S2.k2;simp only[eA.cells]at q2;simp only[Ins.cells,ha]at q1;obtain⟨b2,y2,hv2,hix2,hst2,ow2⟩:=S2.M.p.vU (λ a=>a.aE) Re (by omega) hi2 ⟨-1,-1⟩ (.agg [iI (-1),iI (-1)] 2) rfl rfl;have S3:=S2.put (s':={s with left:=s.left.set i ⟨l,false⟩,row:=s.row.set i ⟨-1,-1⟩ }) (.inr (.inr (.inl (by rw[hv2];rfl)))) (S2.M.ag8 (by rw[hv2];rfl) ow2) rfl;simp[ML,f4,f5,k1,k2,hix,hst];generalize K2.put b (some y)=K3 at *;simp[MK,f4,f5,q1,q2,hix2,hst2];rw[<-eh];exact kd S3 ⟨by simp[f3],by simp[f4],by simp[f5],by simp[f6]⟩ _ (by simp[f7])
 rcases hop with hop|hop
 ·simp[vk,lV,f18,hop];exact fin _ ⟨by simp[f3],by simp[f4],by simp[f5],by simp[f6]⟩ (by simp[f7])
 simp[vk,lV,mV,f18,hop];exact fin _ ⟨by simp[f3],by simp[f4],by simp[f5],by simp[f6]⟩ (by simp[f7])
end
end Go.Abs
namespace Go.Abs
open List
open Go.Proofs
open Classical
set_option maxRecDepth 100000
def Gp (m:Nat)(v:Fv)(K:Hp)(s':eA):AV->Hp->Nat->Prop:=λ u K' k=>∃v',u=s'.av v'/\RM K' k v' s'/\m<=k/\(∀c,v'.has c->v.has c∨m<=c)/\∀c,c<m->¬v.has c->K'.get c=K.get c
section
variable {v:Fv}{s:eA}{K:Hp}{m:Nat}{x:Ins}
theorem RM.arM {K2:Hp}{k b:Nat}{L:List (List Val)}(M:RM K m v s)(hm:m<=k)(hb:m<=b)(ow:aC K2 k (.sl b 0 L.length 1) (bn L) L.length 1)(h:∀c,c<m->blk v.r≠some c->K2.get c=K.get c):RM K2 k {v with r:=.sl b 0 L.length 1} {s with rows:=L}:=by
 obtain⟨f,C⟩:=M.d;have key:∀c,c<m->f c≠4->K2.get c=K.get c:=λ c h1 h2=>h c h1 λ e=>h2 (C.r c e);refine⟨M.g.frame hm λ c hc=>key c (M.g.ba hc) (by rw[C.g c hc];omega),M.l.frame hm λ c hc=>key c (M.l.ba hc) (by rw[C.l c hc];omega),M.p.frame hm λ c hc=>key c (M.p.ba hc) (by rw[C.p c hc];omega),ow,M.t.frame hm λ c hc=>key c (M.t.ba hc) (by rw[C.t c hc];omega),λ c=>if c=b then 4 else f c,⟨λ c hc=>?_,λ c hc=>?_,λ c hc=>?_,λ c hc=>?_,λ c hc=>?_⟩⟩
 ·have:=M.g.ba hc;simp[show ¬c=b by omega,C.g c hc]
 ·have:=M.l.ba hc;simp[show ¬c=b by omega,C.l c hc]
 ·have:=M.p.ba hc;simp[show ¬c=b by omega,C.p c hc]
 ·simp at hc;simp[hc]
 have:=M.t.ba hc;simp[show ¬c=b by omega,C.t c hc]
theorem RM.arL {K2:Hp}{k b:Nat}{L:List Tk}(M:RM K m v s)(hm:m<=k)(hb:m<=b)(ow:aC K2 k (.sl b 0 L.length 3) (bU Tk.cells L) L.length 3)(h:∀c,c<m->blk v.t≠some c->K2.get c=K.get c):RM K2 k {v with t:=.sl b 0 L.length 3} {s with takes:=L}:=by
 obtain⟨f,C⟩:=M.d;have key:∀c,c<m->f c≠5->K2.get c=K.get c:=λ c h1 h2=>h c h1 λ e=>h2 (C.t c e);refine⟨M.g.frame hm λ c hc=>key c (M.g.ba hc) (by rw[C.g c hc];omega),M.l.frame hm λ c hc=>key c (M.l.ba hc) (by rw[C.l c hc];omega),M.p.frame hm λ c hc=>key c (M.p.ba hc) (by rw[C.p c hc];omega),M.r.frame hm λ c hc=>key c (M.r.ba hc) (by rw[C.r c hc];omega),ow,λ c=>if c=b then 5 else f c,⟨λ c hc=>?_,λ c hc=>?_,λ c hc=>?_,λ c hc=>?_,λ c hc=>?_⟩⟩
 ·have:=M.g.ba hc;simp[show ¬c=b by omega,C.g c hc]
 ·have:=M.l.ba hc;simp[show ¬c=b by omega,C.l c hc]
 ·have:=M.p.ba hc;simp[show ¬c=b by omega,C.p c hc]
 ·have:=M.r.ba hc;simp[show ¬c=b by omega,C.r c hc]
 simp at hc;simp[hc]
theorem RM.cast {s':eA}(h:(s.aA,s.left,s.row,s.rows,s.takes)=(s'.aA,s'.left,s'.row,s'.rows,s'.takes))(M:RM K m v s):RM K m v s':=by
 simp only[Prod.mk.injEq]at h;obtain⟨e1,e2,e3,e4,e5⟩:=h;obtain⟨m1,m2,m3,m4,m5,m6⟩:=M;rw[e1]at m1;rw[e2]at m2;rw[e3]at m3;rw[e4]at m4;rw[e5]at m5;exact⟨m1,m2,m3,m4,m5,m6⟩
theorem G9 (L:List (List Val))(r:List Val):bn (L++[r])=bn L++[ai r]:=by simp[bn]
def adC (s:eA):eA:={s with full:=true,ended:=true}
theorem aC.O4 {H:Hp}{n:Nat}{u:AV}{l:List AV}{len sz:Nat}(h:aC H n u l len sz):bu u=.val (iI (len:Int)):=by
 obtain⟨_,⟨rfl,h2⟩|⟨b,y,rfl,_⟩⟩:=h
 ·subst h2;rfl
 simp
theorem aar (M:RM K m v s)(hop:x.op=8)(hr:s.rows.length+s.takes.length<=4096){i N:Nat}(ha:x.a=(i:Int))(hn:x.n=(N:Int))(h:i+N<=s.aA.length)(hN:N<=16)(hL:s.aA.length<=256):
  ar pG 68 [x.av,s.av v] K m (Gp m v K (if 4096<=s.rows.length+s.takes.length then adC s else {s with rows:=s.rows++[(s.aA.drop i).take N]})):=by
 refine ar.of c68 (by simp[A68]) λ F hF=>?_;have ho:=M.one;have hlr:=M.r.O4;have hlt:=M.t.O4;have hav:s.av v=.agg [iI s.at_,v.g,v.l,v.p,iI s.err,v.r,v.t,.bool s.ended,.bool s.full] 9:=rfl;have hxv:x.av=.agg x.cells 15:=rfl;simp only[eA.cells]at ho;rw[hav,hxv]at hF;simp only[Ins.cells,hop,ha,hn]at hF;simp at ho;have hw:IntKind.i64.wrap ((s.rows.length:Int)+(s.takes.length:Int))=((s.rows.length+s.takes.length:Nat):Int):=by rw[aY _ (by omega) (by omega)];omega
 simp[A68,MB,U1,hF,hlr,hlt,fH,hw];generalize hK:Tr.put _ (m+1+1) _=K0;have kk:∀c,c<m->K0.get c=K.get c:=λ c hc=>by rw[<-hK];simp[cg hc]
 have k0:K0.get m=cl 15 [iI 8,iI (i:Int),iI x.b,iI x.c,iI (N:Int),iI x.j,iI x.ex,.int .u32 x.id,iI x.lo,iI x.hi,.bool x.iL,.bool x.lJ,iI x.v.kind,iI x.v.num,.str x.v.s]:=by rw[<-hK];simp
 have k1:K0.get (m+1)=cl 9 [iI s.at_,v.g,v.l,v.p,iI s.err,v.r,v.t,.bool s.ended,.bool s.full]:=by rw[<-hK];simp
 have k2:K0.get (m+1+1)=cl 9 [iI 0,.aI (.slice none 0 0),.aI (.slice none 0 0),.aI (.slice none 0 0),iI 0,.aI (.slice none 0 0),.aI (.slice none 0 0),.bool false,.bool false]:=by rw[<-hK];simp
 clear hK;have M0:RM K0 (m+1+1+1) v s:=M.frame (by omega) λ c hc=>kk c (M.lt hc);unfold Gp
 by_cases h4:4096<=s.rows.length+s.takes.length
 ·rw[ak h4];simp[show (4096:Int)<=(s.rows.length:Int)+(s.takes.length:Int) by omega,U0,UZ,UY,k1,k2,ho];refine⟨v,rfl,?_,by omega,λ c hc=>.inl hc,λ c h1 h2=>by simp[cg h1,kk c h1]⟩
  exact RM.cast (s:=s) rfl (M.frame (by omega) λ c hc=>by
   have:=M.lt hc;simp[cg this,kk c this])
 rw[ae h4];simp[show ¬(4096:Int)<=(s.rows.length:Int)+(s.takes.length:Int) by omega,UX,k0,aeI,k1];refine au.of (yV (i:=i) (N:=N) M0.g h hN (by omega)).hU λ u K2 k2' ⟨a1,a2,a3⟩=>?_;subst a1 a2 a3;have o1:(ai ((s.aA.drop i).take N)).one=true:=rfl;have o2:(ai ((s.aA.drop i).take N)).len=1:=rfl;have o3:(ai ((s.aA.drop i).take N)).cells=[ai ((s.aA.drop i).take N)]:=rfl;have hsn:=G9 s.rows ((s.aA.drop i).take N);generalize (s.aA.drop i).take N=row at *;simp[aeH,k1,o1,o2,o3];refine mZ M0.r rfl rfl (by omega) (by unfold big;omega) (by omega) λ K4 o4 g4=>?_;have hrm:∀c,blk v.r=some c->c<m:=λ c hc=>M.lt (.inr (.inr (.inr (.inl hc))));have q1:=(g4 (m+1) (by omega) (λ e=>by have:=hrm _ e;omega)).trans k1;have q2:=(g4 (m+1+1) (by omega) (λ e=>by have:=hrm _ e;omega)).trans k2;have hl:(s.rows++[row]).length=s.rows.length+1:=by simp
 rw[<-hsn,<-hl]at o4;simp[q1,q2,ho,U6];refine⟨{v with r:=.sl (m+1+1+1+1) 0 (s.rows++[row]).length 1},by simp[eA.av,eA.cells],M.arM (by omega) (by omega) ?_ ?_,by omega,λ c hc=>?_,λ c h1 h2=>?_⟩
 ·exact o4.frame (by omega) λ c hc=>by simp at hc;simp[<-hc]
 ·intro c h1 h2;simp[cg h1];rw[g4 c (by omega) h2,kk c h1]
 ·rcases hc with h|h|h|h|h
  ·exact .inl (.inl h)
  ·exact .inl (.inr (.inl h))
  ·exact .inl (.inr (.inr (.inl h)))
  ·simp at h;exact .inr (by omega)
  exact .inl (.inr (.inr (.inr (.inr h))))
 simp[cg h1];rw[g4 c (by omega) (λ e=>h2 (.inr (.inr (.inr (.inl e))))),kk c h1]
end
end Go.Abs
namespace Go.Abs
open List
open Go.Proofs
open Classical
set_option maxRecDepth 100000
section
variable {v:Fv}{s:eA}{K:Hp}{m:Nat}{x:Ins}
theorem aaq (M:RM K m v s)(hop:x.op=9)(hr:s.rows.length+s.takes.length<=4096){q i N:Nat}(ha:x.a=(q:Int))(hq:q<s.row.length)(hb:x.b=(i:Int))(hn:x.n=(N:Int))(h:i+N<=s.aA.length)(hN:N<=16)(hL:s.aA.length<=256){pt pr:Int}(hpe:s.row[q]=⟨pt,pr⟩)(hp:pt<1048576):
  ar pG 68 [x.av,s.av v] K m (Gp m v K (if pt<0 then s else if 4096<=s.rows.length+s.takes.length then adC s else {s with takes:=s.takes++[⟨pt+1,pr,(s.aA.drop i).take N⟩]})):=by
 refine ar.of c68 (by simp[A68]) λ F hF=>?_;have ho:=M.one;have hlr:=M.r.O4;have hlt:=M.t.O4;have hav:s.av v=.agg [iI s.at_,v.g,v.l,v.p,iI s.err,v.r,v.t,.bool s.ended,.bool s.full] 9:=rfl;have hxv:x.av=.agg x.cells 15:=rfl;simp only[eA.cells]at ho;rw[hav,hxv]at hF;simp only[Ins.cells,hop,ha,hb,hn]at hF;simp at ho;have hw:IntKind.i64.wrap ((s.rows.length:Int)+(s.takes.length:Int))=((s.rows.length+s.takes.length:Nat):Int):=by rw[aY _ (by omega) (by omega)];omega
 simp[A68,hF];generalize hK:Tr.put _ (m+1+1) _=K0;have kk:∀c,c<m->K0.get c=K.get c:=λ c hc=>by rw[<-hK];simp[cg hc]
 have k0:K0.get m=cl 15 [iI 9,iI (q:Int),iI (i:Int),iI x.c,iI (N:Int),iI x.j,iI x.ex,.int .u32 x.id,iI x.lo,iI x.hi,.bool x.iL,.bool x.lJ,iI x.v.kind,iI x.v.num,.str x.v.s]:=by rw[<-hK];simp
 have k1:K0.get (m+1)=cl 9 [iI s.at_,v.g,v.l,v.p,iI s.err,v.r,v.t,.bool s.ended,.bool s.full]:=by rw[<-hK];simp
 have k2:K0.get (m+1+1)=cl 9 [iI 0,.aI (.slice none 0 0),.aI (.slice none 0 0),.aI (.slice none 0 0),iI 0,.aI (.slice none 0 0),.aI (.slice none 0 0),.bool false,.bool false]:=by rw[<-hK];simp
 clear hK;have M0:RM K0 (m+1+1+1) v s:=M.frame (by omega) λ c hc=>kk c (M.lt hc);obtain⟨b,y,hv,hbm,hy,hob,hix,hld⟩:=M0.p.at (λ a=>a.aE) hq;have hl1:=Bc hy hob (λ a=>a.aE) hq (j:=0) (v:=iI pt) (by rw[hpe];rfl);rw[Nat.add_zero]at hl1;rw[hpe]at hld;simp only[Pl.cells]at hld;clear hpe;unfold Gp
 by_cases hneg:pt<0
 ·rw[ak hneg];simp[MB,k0,k1,hix,hl1,hneg,aeJ,k2,ho]
  refine⟨v,rfl,RM.cast (s:=s) rfl (M.frame (by omega) λ c hc=>by
   have:=M.lt hc;simp[cg this,kk c this]),by omega,λ c hc=>.inl hc,λ c h1 h2=>by simp[cg h1,kk c h1]⟩
 rw[ae hneg];simp[MB,k0,k1,hix,hl1,hneg,U1,hlr,hlt,fH,hw]
 by_cases h4:4096<=s.rows.length+s.takes.length
 ·rw[ak h4];simp[show (4096:Int)<=(s.rows.length:Int)+(s.takes.length:Int) by omega,U0,UZ,UY,k1,k2,ho];refine⟨v,rfl,?_,by omega,λ c hc=>.inl hc,λ c h1 h2=>by simp[cg h1,kk c h1]⟩
  exact RM.cast (s:=s) rfl (M.frame (by omega) λ c hc=>by
   have:=M.lt hc;simp[cg this,kk c this])
 rw[ae h4];simp[show ¬(4096:Int)<=(s.rows.length:Int)+(s.takes.length:Int) by omega,UX,k0,U5,k1];refine au.of (yV (i:=i) (N:=N) M0.g h hN (by omega)).hU λ u K2 k2' ⟨a1,a2,a3⟩=>?_;subst a1 a2 a3;have o1:(ai ((s.aA.drop i).take N)).one=true:=rfl;have o2:(ai ((s.aA.drop i).take N)).len=1:=rfl;have o3:(ai ((s.aA.drop i).take N)).cells=[ai ((s.aA.drop i).take N)]:=rfl;have hu:IntKind.u32.wrap (IntKind.u32.wrap pt+1)=pt+1:=by simp[IntKind.wrap,IntKind.signed,IntKind.bits];omega
 generalize (s.aA.drop i).take N=row at *;simp[U4,k0,k1,hix,hld,U3,o2,o3,bC];rw[hu];generalize hK3:Tr.put (Tr.put K2 _ _) _ _=K3;have k3b:∀c,c<m+1+1+1->K3.get c=K2.get c:=λ c hc=>by rw[<-hK3];simp[show ¬c=m+1+1+1 by omega]
 clear hK3;have M3:RM K3 (m+1+1+1+1) v s:=M0.frame (by omega) λ c hc=>k3b c (M0.lt hc);refine mZ M3.t rfl (by simp[o1]) (by omega) (by unfold big;omega) (by omega) λ K4 o4 g4=>?_;have hrm:∀c,blk v.t=some c->c<m:=λ c hc=>M.lt (.inr (.inr (.inr (.inr hc))));have q1:=(g4 (m+1) (by omega) (λ e=>by have:=hrm _ e;omega)).trans ((k3b _ (by omega)).trans k1);have q2:=(g4 (m+1+1) (by omega) (λ e=>by have:=hrm _ e;omega)).trans ((k3b _ (by omega)).trans k2);have hl:(s.takes++[(⟨pt+1,pr,row⟩:Tk)]).length=s.takes.length+1:=by simp
 have hsn:bU Tk.cells (s.takes++[(⟨pt+1,pr,row⟩:Tk)])=bU Tk.cells s.takes++[.int .u32 (pt+1),iI pr,ai row]:=by rw[ei];rfl
 rw[<-hsn,<-hl]at o4;simp[q1,q2,ho,U2];refine⟨{v with t:=.sl (m+1+1+1+1+1) 0 (s.takes++[(⟨pt+1,pr,row⟩:Tk)]).length 3},by simp[eA.av,eA.cells],M.arL (by omega) (by omega) ?_ ?_,by omega,λ c hc=>?_,λ c h1 h2=>?_⟩
 ·exact o4.frame (by omega) λ c hc=>by simp at hc;simp[<-hc]
 ·intro c h1 h2;simp[cg h1];rw[g4 c (by omega) h2,k3b c (by omega),kk c h1]
 ·rcases hc with h|h|h|h|h
  ·exact .inl (.inl h)
  ·exact .inl (.inr (.inl h))
  ·exact .inl (.inr (.inr (.inl h)))
  ·exact .inl (.inr (.inr (.inr (.inl h))))
  simp at h;exact .inr (by omega)
 simp[cg h1];rw[g4 c (by omega) (λ e=>h2 (.inr (.inr (.inr (.inr e))))),k3b c (by omega),kk c h1]
end
section
variable {n:Nat}{w:er}{x:Ins}{v v0:Fv}{s:eA}{H0:Hp}{F:Fr}{K:Hp}{m:Nat}
theorem anY (S:qY n w x v s v0 H0 K m) (FF:SF n x F) (f18:F.get 18=some (iI x.op)) (f7:F.get 7=some (iI (s.at_+1))) (hop:x.op=8∨x.op=9){s':eA}(hT:ar pG 68 [x.av,s.av v] K m (Gp m v K s')):
  VC pG (.seq (.block 0 vk) GG) F K m [] (DN n {s' with at_:=s.at_+1} v0 H0):=by
 obtain⟨f3,f4,f5,f6⟩:=FF;have k1:=S.k1;have k2:=S.k2;have hlt:=S.lt;have hcl:(s.cells v).length=9:=rfl
 have fin:∀F:Fr,SF n x F->F.get 7=some (iI (s.at_+1))->VC pG Ci F K m [] (jN 0 (tC pG GG (DN n {s' with at_:=s.at_+1} v0 H0))):=by
  intro F ⟨f3,f4,f5,f6⟩ f7;simp[Ci,f4,f5,k1,k2];refine au.of hT λ u K' k ⟨v',hu,M',hk,eZ,hfr⟩=>?_;subst hu
  have no:∀c,n<=c->c<n+4->¬v.has c:=λ c h1 h2 h3=>by
   rcases S.out c h3 with h|h
   ·have:=S.lt0 c h;omega
   omega
  obtain⟨z,k3,hz⟩:=S.k3
  have S':qY n w x v' s' v0 H0 (K'.put (n+2) (cl 9 (s'.cells v'))) k:=by
   have M2:=M'.frame (n':=k) (aM _) (H':=K'.put (n+2) (cl 9 (s'.cells v'))) λ c hc=>by
    have:c≠n+2:=λ e=>by
     subst e
     rcases eZ _ hc with h|h
     ·exact no _ (by omega) (by omega) h
     omega
    simp[this]
   refine⟨?_,?_,by simp,⟨z,?_,hz⟩,by omega,M2,λ c hc=>?_,S.lt0,λ c h1 h2=>?_⟩
   ·simp[hfr n (by omega) (no _ (by omega) (by omega)),S.k0]
   ·simp[hfr (n+1) (by omega) (no _ (by omega) (by omega)),S.k1]
   ·simp[hfr (n+3) (by omega) (no _ (by omega) (by omega)),k3]
   ·rcases eZ c hc with h|h
    ·exact S.out c h
    exact .inr (by omega)
   have:¬v.has c:=λ h=>by
    rcases S.out c h with h|h
    ·exact h2 h
    omega
   simp[show ¬c=n+2 by omega,hfr c (by omega) this,S.fr c h1 h2]
  have k2':=(hfr (n+2) (by omega) (no _ (by omega) (by omega))).trans k2;have ho:=M'.one;have hav:s'.av v'=.agg (s'.cells v') 9:=rfl;have hcl':(s'.cells v').length=9:=rfl;rw[hav];simp[f5,k2',ho,hcl',hcl];rw[<-eh];exact kd S' ⟨by simp[f3],by simp[f4],by simp[f5],by simp[f6]⟩ _ (by simp[f7])
 rcases hop with hop|hop
 ·simp[vk,lV,mV,nQ,mi,nF,oY,q9,tJ,xQ,f18,hop];exact fin _ ⟨by simp[f3],by simp[f4],by simp[f5],by simp[f6]⟩ (by simp[f7])
 simp[vk,lV,mV,nQ,mi,nF,oY,q9,tJ,xQ,f18,hop];exact fin _ ⟨by simp[f3],by simp[f4],by simp[f5],by simp[f6]⟩ (by simp[f7])
end
end Go.Abs
namespace Go.Abs
open List
open Go.Proofs
open Classical
set_option maxRecDepth 100000
structure Gd (v:Val):Prop where
 m:v.may=true
 r:v.jA
theorem Gd.gf {v:Val}(h:Gd v):cZ v.num:=⟨h.r.lo,h.r.hi⟩
theorem LA:Gd bG:=⟨rfl,by simp[bG],by simp[bG],by simp[bG]⟩
theorem gdY (b:Bool):Gd (dM b):=by
 cases b<;>exact⟨rfl,by simp[dM],by simp[dM],by simp[dM]⟩
theorem gdI {n:Int}(h:cZ n):Gd ⟨1,n,[]⟩:=⟨rfl,h.1,h.2,by simp⟩
theorem EZ {w:Int}{a b:Val}:Gd (iW w a b).1:=by
 unfold iW
 split
 ·exact LA
 split
 ·exact LA
 split
 ·rename_i h;exact gdI h
 exact LA
theorem abP {a:Val}:Gd (uI a).1:=by
 unfold uI
 split
 ·exact LA
 exact gdY _
theorem abQ {a b:Val}(ha:Gd a)(hb:Gd b):Gd (rN a b).1:=by
 unfold rN
 split
 ·exact LA
 split
 ·rename_i h;refine⟨by simp[Val.may];exact h,by simp,by simp,λ c hc=>?_⟩
  rcases mem_append.1 hc with h|h
  ·exact ha.r.b c h
  exact hb.r.b c h
 exact LA
theorem Ly {c:Bool}{a b:Val}:Gd (jx c a b).1:=by
 unfold jx
 split
 ·exact LA
 split
 ·exact gdY _
 split
 ·exact LA
 exact gdY _
theorem abR {a b:Val}{r:Bool}:Gd (iH a b r).1:=by
 unfold iH
 split
 ·exact LA
 split
 ·exact LA
 split
 ·exact LA
 exact gdY _
theorem aij {op:Int}{a b:Val}(ha:Gd a) (hb:Gd b):Gd (LU op a b).1:=by
 unfold LU
 split
 ·exact EZ
 split
 ·exact abQ ha hb
 split
 ·exact Ly
 split
 ·exact Ly
 exact abR
theorem aii {op:Int}{a:Val}(hop:4<=op/\op<=7)(ha:Gd a):Gd (Qn op a).1:=by
 rw[acU hop ha.gf]
 split
 ·exact EZ
 split
 ·exact abP
 exact gdY _
theorem ab0 {op:Int}{a:Val}(ha:Gd a):gi op [a]=Qn op a:=by
 unfold gi;rw[ak (by simp[ha.m])];rfl
theorem abZ {op:Int}{a b:Val}(hop:8<=op/\op<=21)(ha:Gd a)(hb:Gd b):gi op [a,b]=LU op a b:=by
 unfold gi;rw[ak (by simp[ha.m,hb.m])];exact aoI hop ha.gf hb.gf
theorem zS:∀ {c:List yy}{r:List Val},c.length=r.length->rS c r=0->∀v∈r,v.may=true
 |[],[],_,_,v,hv=>by cases hv
 |c :: cs,u::us,hl,h,v,hv=>by
  rw[rS]at h
  by_cases h0:oG c u=0
  ·rw[ak h0]at h
   rcases mem_cons.1 hv with rfl|hv
   ·unfold oG at h0
    split at h0
    ·omega
    rename_i hm;simpa using hm
   exact zS (by simpa using hl) h v hv
  rw[ae h0]at h;exact aj h h0
theorem Qj {w:er}(hw:w.aO)(hok:fL w):∀t∈w.rows,∀r∈t,∀v∈r,Gd v:=by
 intro t ht r hr v hv;refine⟨?_,(hw.r t ht r hr).2 v hv⟩;obtain⟨i,hi,rfl⟩:=getElem_of_mem ht;have h1:=(hok.t i hi (by rw[<-hok.l];exact hi)).w;rw[tB]at h1;have h2:=vG (h1 r hr);unfold nk at h2
 split at h2
 ·rename_i h3;exact zS h3.2.symm h2 v hv
 omega
theorem abE {l:List lY}(h:∀i (hi:i<l.length),uc l i<l[i].id):∀(j:Nat)(hj:j<l.length)(i:Nat)(hi:i<j),(l[i]'(by omega)).id<l[j].id:=by
 intro j
 induction j with
 |zero=>intro _ i hi;omega
 |succ j ih =>
  intro hj i hi;have h1:=h (j+1) hj;rw[u7 (by omega)]at h1
  by_cases e:i=j
  ·subst e;exact h1
  have:=ih (by omega) i (by omega);omega
def QC (w:er)(id:Int)(sp:dw):List Pl:=match w.bQ.indexes.findIdx? (λ x=>decide (x.id=id))with
 |none=>[]
 |some k=>if h:k<w.bQ.indexes.length then K7 w (w.bQ.indexes[k]).table (rR (w.bQ.indexes[k]).idx sp)else []
theorem wE {w:er}{id:Int}{sp:dw}:∀q,q<=w.bQ.indexes.length->(∀i (hi:i<w.bQ.indexes.length),i<q->w.bQ.indexes[i].id≠id)->wF w id sp q=[]
 |0,_,_=>rfl
 |q+1,hq,h=>by
  rw[wC (by omega),wE q (by omega) λ i hi h1=>h i hi (by omega),ae (h q (by omega) (by omega))];rfl
theorem abH {w:er}{id:Int}{sp:dw}(hu:∀(j:Nat) (hj:j<w.bQ.indexes.length) (i:Nat) (hi:i<j),(w.bQ.indexes[i]'(by omega)).id<w.bQ.indexes[j].id):wF w id sp w.bQ.indexes.length=QC w id sp:=by
 unfold QC
 cases hk:w.bQ.indexes.findIdx? (λ x=>decide (x.id=id))with
 |none =>
  rw[findIdx?_eq_none_iff]at hk;exact wE _ (aM _) λ i hi _=>by simpa using hk _ (bT hi)
 |some k =>
  rw[findIdx?_eq_some_iff_getElem]at hk;obtain⟨hkl,h1,h2⟩:=hk;have h1':w.bQ.indexes[k].id=id:=by simpa using h1
  simp only[hkl,dite_true]
  have key:∀q,k<q->q<=w.bQ.indexes.length->wF w id sp q=K7 w (w.bQ.indexes[k]).table (rR (w.bQ.indexes[k]).idx sp):=by
   intro q
   induction q with
   |zero=>intro h;omega
   |succ q ih =>
    intro h3 h4;rw[wC (by omega)]
    by_cases e:q=k
    ·subst e;rw[wE q (by omega) λ i hi mM=>by simpa using h2 i mM,ak h1'];rfl
    rw[ih (by omega) (by omega),ae,append_nil];have:=hu q (by omega) k (by omega);omega
  exact key _ hkl (aM _)
theorem agN (s:MS)(x:Ins)(i N:Nat):spR x s.aA i N=AB s x i N:=by
 unfold spR AB hiS loS loV hiV
 by_cases h1:0<=x.lo<;>by_cases h2:0<=x.hi<;>simp[h1,h2]
end Go.Abs
