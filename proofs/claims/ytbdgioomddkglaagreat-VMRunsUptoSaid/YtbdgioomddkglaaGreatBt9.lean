/- A part. -/
import Derived.Test.YtbdgioomddkglaaGreatBt8
import Derived.Test.YtbdgioomddkglaaGreatVmM
noncomputable section
namespace Go.Abs
open List
open Go.Proofs
open Classical
set_option maxRecDepth 100000
def HB (P:Program) (name:String) (v:Option AV):Option AV:=match v with
 |some (.fO t v)=>match wv P t name with
  |some f=>some (.fn (.func f) [v] [])
  |none=>none
 |_=>none
theorem HA (P:Program)(name:String)(g:G)(F:Fr):(wG P name g).f F=HB P name (g.f F):=Eq.trans rfl rfl
theorem Lq (b:Nat):EF b=.aW [.fO 260 (.ptr b 0),iI 0]:=Eq.trans rfl rfl
theorem RX (v : AV) : HB pG "Scan" (some (.fO 71 v)) = some (.fn (.func 226) [v] []) := by simp [HB, amq]
theorem RV (v : AV) : HB pG "Seek" (some (.fO 71 v)) = some (.fn (.func 227) [v] []) := by simp [HB, amo]
theorem RY (v : AV) : HB pG "Next" (some (.fO 260 v)) = some (.fn (.func 235) [v] []) := by simp [HB, amr]
theorem cy.aan {S K:Hp}{n p rb cb q:Nat}{rv tv:AV}{s:MS}{c':jR}{l:fJ}(M:cy S n p rb cb rv tv s) (hc:c'.eL=some l) (hp:K.get p=cl 13 (s.mc rb cb rv tv)) (hcb:∃y,K.get cb=some y/\OwnB y (bU jR.cells (s.aD.set q c'))) (hb:K.get c'.b=cl 4 l.cells)
  (hk:∀b,b<n->b≠p->b≠cb->b≠c'.b->K.get b=S.get b)(hne:c'.b≠rb/\(∀c,blk rv=some c->c≠c'.b)/\(∀c,blk tv=some c->c≠c'.b)/\∀(i:Nat)(h:i<s.aD.length),i≠q->(s.aD[i]).eL≠none->(s.aD[i]).b≠c'.b):ep K (({s with aD:=s.aD.set q c' }:MS).told p rb cb rv tv):=by
 have hnd:=M.lay.nd;have hlt:=M.lay.lt;have htl:=M.told;simp only[MS.told,map_cons,nodup_cons,mem_cons,not_or]at hnd hlt htl
 have hold:∀e,e∈yC rv (bn s.rows)++(yC tv (bU Tk.cells s.takes)++GN s.aD)->e.1≠c'.b->∃y,K.get e.1=some y/\OwnB y e.2:=λ e he h=>by
  have h1:=hlt e (.inr (.inr (.inr he)));have h2:=htl e (.inr (.inr (.inr he)));refine⟨_,(hk e.1 h1 (λ h=>hnd.1.2.2 (by rw[<-h];exact iJ he)) (λ h=>hnd.2.2.1 (by rw[<-h];exact iJ he)) h).trans h2,OwnB.list rfl⟩
 intro e he;simp only[MS.told,mem_cons,mem_append]at he
 rcases he with rfl|rfl|rfl|he|he|he
 ·exact⟨_,by simpa[MS.mc]using hp,OwnB.list (by simp[MS.mc])⟩
 ·exact⟨_,(hk _ (hlt _ (.inr (.inl rfl))) (Ne.symm hnd.1.1) hnd.2.1.1 (Ne.symm hne.1)).trans (htl _ (.inr (.inl rfl))),OwnB.list rfl⟩
 ·exact hcb
 ·refine hold e (mem_append_left _ he) ?_
  cases rv<;>simp[yC]at he
  subst he;exact hne.2.1 _ rfl
 ·refine hold e (mE _ (mem_append_left _ he)) ?_
  cases tv<;>simp[yC]at he
  subst he;exact hne.2.2.1 _ rfl
 unfold GN at he;rw[List.mem_filterMap]at he;obtain⟨c,hc1,hc2⟩:=he;obtain⟨i,hi,rfl⟩:=getElem_of_mem hc1;rw[getElem_set]at hc2
 split at hc2
 ·rw[hc]at hc2;simp at hc2;subst hc2;exact⟨_,hb,OwnB.list rfl⟩
 rename_i mM;simp at hi
 have hm:e∈GN s.aD:=by
  unfold GN;rw[List.mem_filterMap];exact⟨s.aD[i],bT hi,hc2⟩
 refine hold e (mE _ (mE _ hm)) ?_
 cases hl:(s.aD[i]).eL with
 |none=>rw[hl]at hc2;simp at hc2
 |some l2 =>
  rw[hl]at hc2;simp at hc2;subst hc2;exact hne.2.2.2 i hi (λ e=>mM e.symm) (by rw[hl];simp)
def jD (b:Nat)(l:fJ):jR:=⟨b,some l,none,0,0,false⟩
theorem Tz (c:jR):aX c.cells=true:=by
 have HG:(mL c.eL c.b).one=true:=by unfold mL;split<;>rfl
 have HF:(jT c.row).one=true:=by unfold jT;split<;>rfl
 simp[jR.cells,HG,HF]
theorem cy.neN {H:Hp}{n p rb cb b:Nat}{rv tv:AV}{s:MS}(M:cy H n p rb cb rv tv s) (h:n<=b) (q:Nat):b≠rb/\(∀c,blk rv=some c->c≠b)/\(∀c,blk tv=some c->c≠b)/\∀(i:Nat) (hi:i<s.aD.length),i≠q->(s.aD[i]).eL≠none->(s.aD[i]).b≠b:=by
 have hlt:=M.lay.lt;refine⟨λ e=>?_,λ c hc e=>?_,λ c hc e=>?_,λ i hi _ hl e=>?_⟩
 ·have:=M.lt;omega
 ·have:=hlt (c,bn s.rows) (by simp[MS.told,dV hc]);simp at this;omega
 ·have:=hlt (c,bU Tk.cells s.takes) (by simp[MS.told,dV hc]);simp at this;omega
 cases hx:(s.aD[i]).eL with
 |none=>exact hl hx
 |some l =>
  have:=hlt ((s.aD[i]).b,l.cells) (by
   simp only[MS.told,mem_cons,mem_append];refine .inr (.inr (.inr (.inr (.inr ?_))));unfold GN;rw[List.mem_filterMap];exact⟨s.aD[i],bT hi,by simp[hx]⟩)
  simp at this;omega
theorem agU {S:Hp}{n p rb cb:Nat}{rv tv:AV}{s:MS}(x:Ins)(q:Nat)(ha:x.a=(q:Int))(hq:q<s.aD.length)(ht:gJ S n)(M:cy S n p rb cb rv tv s):
  ar pG 48 [.ptr p 0,x.av] S n (λ u K k=>u=yY (-1)/\ep K (({s with aD:=s.aD.set q (jD (n+1+1+1+1) (qk s.w x.id))}:MS).told p rb cb rv tv)/\k<=n+5):=by
 refine ar.of c48 (by simp[A48]) λ F hF=>?_;have DL:=M.gp;have gp:=M.gp;obtain⟨y,gr,ho⟩:=M.gr;obtain⟨yc,gc,hoc⟩:=M.gc;obtain⟨l1,l2,l3⟩:=M.lt;obtain⟨d1,d2,d3⟩:=M.ne;have mM:=dn (b:=cb) (o:=0) (sz:=5) (k:=.i64) hq;obtain⟨y',hst,ho'⟩:=stR (b:=cb) (c:=5) hoc (λ a=>a.aE) Tz (by omega) hq (jD (n+1+1+1+1) (qk s.w x.id));rw[gz]at mM;generalize q*5=oq at mM hst;simp only[MS.mc]at gp;have tn:=ht.none;simp[A48,hF,Ins.av,Ins.cells,ha];generalize hK0:Tr.put S n _=K0;have k0:K0.get n=cl 15 [iI x.op,iI (q:Int),iI x.b,iI x.c,iI x.n,iI x.j,iI x.ex,.int .u32 x.id,iI x.lo,iI x.hi,.bool x.iL,.bool x.lJ,iI x.v.kind,iI x.v.num,.str x.v.s]:=by rw[<-hK0];simp
 have kb:∀b,b<n->K0.get b=S.get b:=λ b hb=>by rw[<-hK0];simp[cg hb]
 clear hK0;obtain⟨H1,hcl,hH1,hH2⟩:=agT s.w M.aO.w x.id K0 (n+1);refine bD.of (ny (l:=[⟨226,[bw.av s.w,.int .u32 x.id],K0,n+1,EF (n+1+1+1+1),H1,n+1+1+1+1+1⟩]) ?_) ?_
 ·simp only[fD];rintro _ rfl;exact hcl
 have qp:=(kb p l1).trans gp;have h0:=(hH2 n (by omega)).trans k0;have hb:∀b,b<n->H1.get b=S.get b:=λ b hb=>(hH2 b (by omega)).trans (kb b hb);have hp1:=(hb p l1).trans gp;have hc1:=(hb cb l3).trans gc;simp only[jR.cells,jD,mL,jT]at hst;simp[ab,hF,qp,k0,HA,RX,lk,Lq,afe,afd];refine bD.of (bh (P:=pG)) ?_;simp[ab,hF,hp1,h0,mM,hc1,hst,afc];refine⟨rfl,M.aan (q:=q) (c':=jD (n+1+1+1+1) (qk s.w x.id)) rfl (by simp[d2,hp1,MS.mc]) ⟨y',by simp,ho'⟩ (by simp[jD,show ¬n+1+1+1+1=cb by omega,hH1]) (λ b h1 h2 h3 h4=>by simp[h3,hb b h1]) (M.neN (b:=n+1+1+1+1) (by omega) q)⟩
theorem D9 (w:er)(id:Int)(n:Nat):iV w id n<=n+6:=by
 unfold iV
 split<;>omega
theorem KI {S:Hp}{n p rb cb:Nat}{rv tv:AV}{s:MS}(x:Ins)(q:Nat)(ha:x.a=(q:Int))(hq:q<s.aD.length)(sp:dw)(ht:gJ S n)(M:cy S n p rb cb rv tv s)
  (F:Fr)(K:Hp)(f0:F.get 0=some (.ptr p 0))(f3:F.get 3=some (.ptr n 0))(f6:F.get 6=some (.ptr (n+1) 0))(k0:K.get n=cl 15 x.cells)(k1:K.get (n+1)=cl 11 sp.cells)(kb:∀b,b<n->K.get b=S.get b):
  VC pG (.seq Gj (.seq (.seq Gi (.cond (ao 65) Gh .skip)) (.seq Gg .ret))) F K (n+1+1) []
   (fQ [aB 4,aB 5] λ u K k=>u=yY (-1)/\ep K (({s with aD:=s.aD.set q (jD (iV s.w x.id (n+1+1)) (iU s.w x.id sp))}:MS).told p rb cb rv tv)/\k<=n+10):=by
 have DL:=M.gp;have gp:=M.gp;obtain⟨yc,gc,hoc⟩:=M.gc;obtain⟨l1,l2,l3⟩:=M.lt;obtain⟨d1,d2,d3⟩:=M.ne;have mM:=dn (b:=cb) (o:=0) (sz:=5) (k:=.i64) hq;obtain⟨y',hst,ho'⟩:=stR (b:=cb) (c:=5) hoc (λ a=>a.aE) Tz (by omega) hq (jD (iV s.w x.id (n+1+1)) (iU s.w x.id sp));rw[gz]at mM;generalize q*5=oq at mM hst;simp only[MS.mc]at gp;obtain⟨H1,hcl,hH1,hH2⟩:=agR s.w M.aO.w x.id sp K (n+1+1);have hB:=Ea s.w x.id (n+1+1);have hB2:=D9 s.w x.id (n+1+1);generalize iV s.w x.id (n+1+1)=bb at *;have qp:=(kb p l1).trans gp;have h0:=(hH2 n (by omega)).trans k0;have hb:∀b,b<n->H1.get b=S.get b:=λ b hb=>(hH2 b (by omega)).trans (kb b hb);have hp1:=(hb p l1).trans gp;have hc1:=(hb cb l3).trans gc;simp only[jR.cells,jD,mL,jT]at hst;simp only[Ins.cells,ha]at k0 h0;simp[Gj];refine bD.of (ny (l:=[⟨227,[bw.av s.w,.int .u32 x.id,sp.av],K,n+1+1,EF bb,H1,bb+1⟩]) ?_) ?_
 ·simp only[fD];rintro _ rfl;exact hcl
 have e1:(AV.agg sp.cells 11)=sp.av:=rfl;simp[ab,f0,f3,f6,qp,k0,k1,e1,HA,RV,lk,Lq,Gi,Gh];refine bD.of (bh (P:=pG)) ?_;simp[ab,f0,f3,hp1,h0,mM,hc1,hst,Gg];refine⟨rfl,M.aan (q:=q) (c':=jD bb (iU s.w x.id sp)) rfl (by simp[d2,hp1,MS.mc]) ⟨y',by simp,ho'⟩ (by simp[jD,show ¬bb=cb by omega,hH1]) (λ b h1 h2 h3 h4=>by simp[h3,hb b h1]) (M.neN (b:=bb) (by omega) q),by omega⟩
def hiS (s:MS)(x:Ins)(sp:dw):dw:=if 0<=x.hi then {sp with fc:=true,hi:=s.aA.getD x.hi.toNat bG} else sp
def loS (s:MS)(x:Ins)(sp:dw):dw:=if 0<=x.lo then {sp with eJ:=true,lo:=s.aA.getD x.lo.toNat bG} else sp
def ac6 (s:MS)(x:Ins)(n p rb cb q:Nat)(rv tv:AV)(sp:dw):QA:=fQ [aB 4,aB 5] λ u K k=>u=yY (-1)/\ep K (({s with aD:=s.aD.set q (jD (iV s.w x.id (n+1+1)) (iU s.w x.id sp))}:MS).told p rb cb rv tv)/\k<=n+10
theorem KJ {S:Hp}{n p rb cb:Nat}{rv tv:AV}{s:MS}(x:Ins)(q:Nat)(ha:x.a=(q:Int))(hq:q<s.aD.length)(hhi:0<=x.hi->x.hi.toNat<s.aA.length)(sp:dw)(ht:gJ S n)(M:cy S n p rb cb rv tv s)
  (F:Fr)(K:Hp)(f0:F.get 0=some (.ptr p 0))(f3:F.get 3=some (.ptr n 0))(f6:F.get 6=some (.ptr (n+1) 0))(k0:K.get n=cl 15 x.cells)(k1:K.get (n+1)=cl 11 sp.cells)(kb:∀b,b<n->K.get b=S.get b):
  VC pG (.seq (.seq Gk (.cond (ao 42) MH .skip)) (.seq Gj (.seq (.seq Gi (.cond (ao 65) Gh .skip)) (.seq Gg .ret)))) F K (n+1+1) [] (ac6 s x n p rb cb q rv tv (hiS s x sp)):=by
 have gp:=M.gp;obtain⟨y,gr,ho⟩:=M.gr;obtain⟨l1,l2,l3⟩:=M.lt;simp only[MS.mc]at gp;have qp:=(kb p l1).trans gp;have qr:=(kb rb l2).trans gr;have k0':=k0;have k1':=k1;simp only[Ins.cells]at k0';simp only[dw.cells]at k1';unfold hiS
 by_cases h:0<=x.hi
 ·have hi:=hhi h;obtain⟨j,hj⟩:∃j:Nat,x.hi=(j:Int):=⟨x.hi.toNat,by omega⟩;rw[hj]at k0' hi;rw[Int.toNat_natCast]at hi;have hix:=dn (b:=rb) (o:=0) (sz:=3) (k:=.i64) hi;have hld:=ldR (c:=3) ho (λ a=>a.aE) hi;rw[gz]at hix;have hgd:s.aA.getD x.hi.toNat bG=s.aA[j]:=by rw[hj,Int.toNat_natCast];simp[getD,hi]
  rw[ak h,hgd];generalize s.aA[j]=v at hld ⊢;generalize j*3=o at hix hld;simp only[Val.cells]at hld;simp[Gk,MH,f3,k0'];refine bD.of (bh (P:=pG)) ?_;simp[ab,f0,f3,f6,k0',k1',qp,hix,qr,hld,cg l1,cg l2,wu l1,wu l2];refine KI x q ha hq _ ht M _ _ (by simp[ab,f0]) (by simp[ab,f3]) (by simp[ab,f6]) (by simp[k0]) (by simp[dw.cells]) λ b hb=>?_;simp[cg hb,kb b hb]
 rw[ae h];simp[Gk,f3,k0',h];exact KI x q ha hq sp ht M _ _ (by simp[f0]) (by simp[f3]) (by simp[f6]) k0 k1 kb
theorem aaB {S:Hp}{n p rb cb:Nat}{rv tv:AV}{s:MS}(x:Ins)(q:Nat)(ha:x.a=(q:Int))(hq:q<s.aD.length)(hlo:0<=x.lo->x.lo.toNat<s.aA.length)(hhi:0<=x.hi->x.hi.toNat<s.aA.length)(sp:dw)(ht:gJ S n)(M:cy S n p rb cb rv tv s)
  (F:Fr)(K:Hp)(f0:F.get 0=some (.ptr p 0))(f3:F.get 3=some (.ptr n 0))(f6:F.get 6=some (.ptr (n+1) 0))(k0:K.get n=cl 15 x.cells)(k1:K.get (n+1)=cl 11 sp.cells)(kb:∀b,b<n->K.get b=S.get b):
  VC pG (.seq (.seq MI (.cond (ao 29) VW .skip)) (.seq (.seq Gk (.cond (ao 42) MH .skip)) (.seq Gj (.seq (.seq Gi (.cond (ao 65) Gh .skip)) (.seq Gg .ret))))) F K (n+1+1) [] (ac6 s x n p rb cb q rv tv (hiS s x (loS s x sp))):=by
 have gp:=M.gp;obtain⟨y,gr,ho⟩:=M.gr;obtain⟨l1,l2,l3⟩:=M.lt;simp only[MS.mc]at gp;have qp:=(kb p l1).trans gp;have qr:=(kb rb l2).trans gr;have k0':=k0;have k1':=k1;simp only[Ins.cells]at k0';simp only[dw.cells]at k1';unfold loS
 by_cases h:0<=x.lo
 ·have hi:=hlo h;obtain⟨j,hj⟩:∃j:Nat,x.lo=(j:Int):=⟨x.lo.toNat,by omega⟩;rw[hj]at k0' hi;rw[Int.toNat_natCast]at hi;have hix:=dn (b:=rb) (o:=0) (sz:=3) (k:=.i64) hi;have hld:=ldR (c:=3) ho (λ a=>a.aE) hi;rw[gz]at hix;have hgd:s.aA.getD x.lo.toNat bG=s.aA[j]:=by rw[hj,Int.toNat_natCast];simp[getD,hi]
  rw[ak h,hgd];generalize s.aA[j]=v at hld ⊢;generalize j*3=o at hix hld;simp only[Val.cells]at hld;simp[MI,VW,f3,k0'];refine bD.of (bh (P:=pG)) ?_;simp[ab,f0,f3,f6,k0',k1',qp,hix,qr,hld,cg l1,cg l2,wu l1,wu l2];refine KJ x q ha hq hhi _ ht M _ _ (by simp[ab,f0]) (by simp[ab,f3]) (by simp[ab,f6]) (by simp[k0]) (by simp[dw.cells]) λ b hb=>?_;simp[cg hb,kb b hb]
 rw[ae h];simp[MI,f3,k0',h];exact KJ x q ha hq hhi sp ht M _ _ (by simp[f0]) (by simp[f3]) (by simp[f6]) k0 k1 kb
def AB (s:MS)(x:Ins)(i N:Nat):dw:=hiS s x (loS s x ⟨(s.aA.drop i).take N,false,bG,x.iL,false,bG,x.lJ⟩)
theorem agS {S:Hp}{n p rb cb:Nat}{rv tv:AV}{s:MS}(x:Ins)(q i N:Nat)(ha:x.a=(q:Int))(hq:q<s.aD.length)(hb:x.b=(i:Int))(hn:x.n=(N:Int))(hi:i+N<=s.aA.length)(hN:N<=16)(hR:s.aA.length<=256)(hlo:0<=x.lo->x.lo.toNat<s.aA.length)(hhi:0<=x.hi->x.hi.toNat<s.aA.length)(ht:gJ S n)(M:cy S n p rb cb rv tv s):
  ar pG 49 [.ptr p 0,x.av] S n (λ u K k=>u=yY (-1)/\ep K (({s with aD:=s.aD.set q (jD (iV s.w x.id (n+1+1)) (iU s.w x.id (AB s x i N)))}:MS).told p rb cb rv tv)/\k<=n+10):=by
 refine ar.of c49 (by simp[A49]) λ F hF=>?_;have gp:=M.gp;obtain⟨y,gr,ho⟩:=M.gr;obtain⟨l1,l2,l3⟩:=M.lt;simp only[MS.mc]at gp;have tn:=ht.none;have hsl:=BM (b:=rb) (len:=s.aA.length) (sz:=3) (k:=.i64) (i:=i) (j:=i+N) (by omega) hi;rw[show i+N - i=N by omega]at hsl
 have ad:fH (iI (i:Int)) (iI (N:Int))=.val (iI ((i+N:Nat):Int)):=by
  simp[fH];rw[aY _ (by omega) (by omega)]
 simp[A49,hF,Ins.av];generalize hK:Tr.put S n _=K;have k0:K.get n=cl 15 x.cells:=by rw[<-hK];simp
 have kb:∀b,b<n->K.get b=S.get b:=λ b hb=>by rw[<-hK];simp[cg hb]
 have kt:gJ K (n+1):=λ b hb=>by rw[<-hK];simp[show ¬b=n by omega,ht b (by omega)]
 clear hK;have hcl:bO pG 28 [.sl rb (i*3) N 3] K (n+1) (ai ((s.aA.drop i).take N)) K (n+1):=H4 (by omega) ((kb rb l2).trans gr) ho hi (by unfold bm;omega);have k0':=k0;simp only[Ins.cells,ha,hb,hn]at k0';have qp:=(kb p l1).trans gp;refine bD.of (ny (l:=[⟨28,[.sl rb (i*3) N 3],K,n+1,ai ((s.aA.drop i).take N),K,n+1⟩]) ?_) ?_
 ·simp only[fD];rintro _ rfl;exact hcl
 have tk:=kt.none;have h1:∀row,(ai row).one=true:=λ _=>rfl;have h2:∀row,(ai row).len=1:=λ _=>rfl;have h3:∀row,(ai row).cells=[ai row]:=λ _=>rfl;unfold AB;generalize hrow:(s.aA.drop i).take N=row;generalize ((i+N:Nat):Int)=iN at hsl ad;generalize i*3=o at hsl;simp[ab,hF,qp,k0',hsl,ad,lk,br,bI,tk,h1,h2,h3];exact aaB x q ha hq hlo hhi ⟨row,false,bG,x.iL,false,bG,x.lJ⟩ ht M _ _ (by simp[ab,hF]) (by simp[ab]) (by simp[ab]) (by simp[k0]) (by simp[dw.cells,bG,ai]) λ b hb=>by simp[cg hb,kb b hb]
def fJ.Qc (l:fJ) (i:Nat):Nat->Option Nat
 |0=>none
 |t+1=>match l.rows[i]? with
  |none=>none
  |some r=>if l.p r=true then some i else l.Qc (i+1) t
def fJ.Eu (l:fJ):Option Nat:=l.Qc l.at_ (l.rows.length - l.at_)
def fJ.uV (l:fJ):fJ:=match l.Eu with|some k=>{l with at_:=k+1} |none=>{l with at_:=l.rows.length}
def abg (l:fJ)(o:Option Nat):AV:=match o with
 |some k=>.aW [ai (l.rows.getD k []),.agg [.int .u32 l.page,iI (k:Int)] 2,.bool true,iI 0]
 |none=>.aW [cB,.agg [.int .u32 0,iI 0] 2,.bool false,iI 0]
theorem abo (l:fJ)(hl:l.aO)(b:Nat)(H:Hp)(n:Nat)(hb:H.get b=cl 4 l.cells)(hbn:b<n)(ht:gJ H n):
  ar pG 235 [.ptr b 0] H n (λ u K k=>u=abg l l.Eu/\K.get b=cl 4 l.uV.cells/\(∀c,c<n->c≠b->K.get c=H.get c)/\k=n+1):=by
 refine ar.of c235 (by simp[A235]) λ F hF=>?_;have hlen:=hl.len;unfold bm at hlen;have hat:=hl.at_
 have hcl:bu l.rv=.val (iI (l.rows.length:Int)):=by
  unfold fJ.rv
  split
  ·rename_i h;rw[hl.n h];rfl
  simp[bV]
 have tn:=ht.none;simp[A235];generalize hK:Tr.put H n _=K;have kb:K.get b=cl 4 l.cells:=by rw[<-hK];simp[show ¬b=n by omega,hb]
 have kn:K.get n=cl 2 [.int .u32 0,iI 0]:=by rw[<-hK];simp
 have ko:∀c,c<n->c≠b->K.get c=H.get c:=λ c h1 _=>by rw[<-hK];simp[cg h1]
 clear hK
 refine aG.of (λ t F K n' ms=>∃i,t=l.rows.length - i/\i<=l.rows.length/\l.at_<=i/\l.Eu=l.Qc i (l.rows.length - i)/\F.get 0=some (.ptr b 0)/\F.get 3=some (.ptr n 0)/\F.get 4=some (.bool false)/\F.get 5=some (iI 0)/\F.get 2=some cB/\K.get b=some (.cells 4 [] ({l with at_:=i}:fJ).cells .nil)/\K.get n=cl 2 [.int .u32 0,iI 0]/\(∀c,c<n->c≠b->K.get c=H.get c)/\n'=n+1/\ms=[]) (l.rows.length - l.at_)
  ⟨l.at_,rfl,hat,aM _,rfl,by simp[hF],by simp,by simp,by simp,by simp,by simpa[fJ.cells,fJ.rv]using kb,kn,ko,rfl,rfl⟩ ?_
 clear kb kn ko hF F K;rintro q F K n' ms ⟨i,rfl,hi,hai,hnx,f0,f3,f4,f5,f2,kb,kn,ko,rfl,rfl⟩;have kb':=kb;simp only[fJ.cells]at kb';have e0:fJ.rv {l with at_:=i}=l.rv:=rfl;rw[e0]at kb';simp[Z3];refine bD.of (bh (P:=pG)) ?_;simp[ab,f0,kb',hcl]
 by_cases h:i<l.rows.length
 ·have hne:l.rows≠[]:=by intro e;rw[e]at h;simp at h
  have hnil:l.nil=false:=by
   cases hx:l.nil with
   |false=>rfl
   |true=>exact aj (hl.n hx) hne
  have pD:l.rv=.ds (bn l.rows) l.rows.length 1:=by simp[fJ.rv,hnil,bV]
  obtain⟨f,cap,hfv,hfp⟩:=hl.fn hne;have hxx:=fk (k:=.i64) h;have amW:=hfp _ (bT h);have hcp:=H5 l.rows[i] (hl.row _ (bT h));rw[pD,hfv]at kb';simp[h,W4,W3,W1,ab,f0,kb',ax i (by omega)];refine bD.of (cL (l:=[(f,ai l.rows[i]::cap,λ H n=>.mk (.bool (l.p l.rows[i])) H n)]) ?_) ?_
  ·simp only[fD];rintro _ rfl;exact aQ amW
  have hst:l.Qc i (l.rows.length - i)=if l.p l.rows[i]=true then some i else l.Qc (i+1) (l.rows.length - (i+1)):=by
   rw[show l.rows.length - i=(l.rows.length - (i+1))+1 by omega,fJ.Qc,dU h]
  have hgd:l.rows.getD i []=l.rows[i]:=by simp[getD,h]
  generalize l.rows[i]=r at hxx amW hcp hst hgd ⊢;have h1:(ai r).one=true:=rfl;simp[ab,f0,hxx,bK]
  cases hpr:l.p r with
  |true =>
   rw[ak hpr]at hst;simp[WZ];refine bD.of (cL (l:=[(28,[ai r],λ H n=>.mk (ai r) H n)]) ?_) ?_
   ·simp only[fD];rintro _ rfl;exact aQ hcp
   have e1:l.Eu=some i:=hnx.trans hst;simp[ab,f0,f3,hxx,bK,kn,h1,show ¬n=b by omega,show ¬b=n by omega];refine⟨by rw[e1];simp only[abg,hgd],?_,λ c h1 h2=>by simp[h2,cg h1,ko c h1 h2]⟩;unfold fJ.uV;rw[e1];simp[fJ.cells,pD,hfv,fJ.rv,hnil,bV]
  |false =>
   rw[hpr,ae (by simp)]at hst;simp;refine⟨_,by omega,i+1,rfl,by omega,by omega,hnx.trans hst,by simp[ab,f0],by simp[ab,f3],by simp[ab,f4],by simp[ab,f5],by simp[ab,f2],?_,by simp[show ¬n=b by omega,kn],λ c h1 h2=>by simp[h2,ko c h1 h2]⟩;simp[fJ.cells,pD,hfv,fJ.rv,hnil,bV]
 obtain rfl:i=l.rows.length:=by omega
 have e1:l.Eu=none:=by rw[hnx,Nat.sub_self];rfl
 simp[WY,ab,f2,f3,f4,f5,kn];refine⟨by rw[e1];rfl,?_,λ c h1 h2=>by simp[cg h1,ko c h1 h2]⟩;rw[ae (by omega),kb];unfold fJ.uV;rw[e1]
theorem aay {i c j w b:Nat}{k:bz}{α:Type}{f:α->List AV}{l:List α}{v:AV}(ho:OwnB k (bU f l))(hk:∀a,(f a).length=c)(h:i<l.length)(hv:v.len=w)(hv2:v.cells.length=w)(hw:0<w)(h1:aX v.cells=true)(hj:j+w<=c)(a':α)(ha:f a'=(f l[i]).take j++v.cells++(f l[i]).drop (j+w)):
  ∃y,stE w v (some k) b (i*c+j)=.upd (.aW []) b y/\OwnB y (bU f (l.set i a')):=by
 have hlen:=jb hk l;have hic:i*c+c<=l.length*c:=by have:=rB c h;rw[Nat.succ_mul]at this;omega
 obtain⟨y,h3,h4⟩:=Ba (H:=Tr.nil.put b (some k)) (b:=b) (o:=i*c+j) (c:=w) (by simp) ho hv hv2 hw h1 (by omega);refine⟨y,by simpa using h3,?_⟩;have hB:(f l[i]).length=c:=hk _
 have hL:bU f l=(bU f l).take (i*c)++f l[i]++(bU f l).drop (i*c+c):=by
  have:=u9 hk h l[i];rw[List.set_getElem_self]at this;exact this.symm
 have hA:((bU f l).take (i*c)).length=i*c:=by rw[length_take];omega
 rw[<-u9 hk h,ha];generalize (bU f l).take (i*c)=A at *;generalize (bU f l).drop (i*c+c)=C at *;rw[hL]at h4;rw[append_assoc A,List.take_append,List.drop_append]at h4;rw[eS (by omega),drop_eq_nil_of_le (by omega),hA]at h4;rw[show i*c+j - i*c=j by omega,show i*c+j+w - i*c=j+w by omega,take_append_of_le_length (by omega),drop_append_of_le_length (by omega)]at h4;simpa[append_assoc]using h4
theorem SR {α β:Type}{g:α->Option (Nat×β)}:∀ {l:List α},((l.filterMap g).map (·.1)).Nodup->∀ {i j:Nat}(hi:i<l.length) (hj:j<l.length),i<j->∀ {a b},g l[i]=some a->g l[j]=some b->a.1≠b.1
 |[],_,i,j,hi,_,_,_,_,_,_=>by simp at hi
 |x :: r,hn,i,j,hi,hj,hij,a,b,e1,e2=>by
  obtain⟨j',rfl⟩:∃j',j=j'+1:=⟨j - 1,by omega⟩;simp only[getElem_cons_succ]at e2;have hbm:b∈r.filterMap g:=List.mem_filterMap.2 ⟨_,bT _,e2⟩
  cases i with
  |zero =>
   simp only[List.getElem_cons_zero]at e1;rw[List.filterMap_cons,e1]at hn;simp only[map_cons,nodup_cons]at hn;intro e;exact hn.1 (e▸iJ (f:=(·.1)) hbm)
  |succ i =>
   simp only[getElem_cons_succ]at e1
   have hn':((r.filterMap g).map (·.1)).Nodup:=by
    rw[List.filterMap_cons]at hn
    cases hg:g x with
    |none=>rw[hg]at hn;exact hn
    |some y=>rw[hg]at hn;simp only[map_cons,nodup_cons]at hn;exact hn.2
   exact SR hn' (by simpa using hi) (by simpa using hj) (by omega) e1 e2
theorem cy.neQ {H:Hp}{n p rb cb q:Nat}{rv tv:AV}{s:MS}{l:fJ}(M:cy H n p rb cb rv tv s)(hq:q<s.aD.length)(hl:(s.aD[q]).eL=some l):
  (s.aD[q]).b<n/\(s.aD[q]).b≠p/\(s.aD[q]).b≠cb/\H.get (s.aD[q]).b=cl 4 l.cells/\((s.aD[q]).b≠rb/\(∀c,blk rv=some c->c≠(s.aD[q]).b)/\(∀c,blk tv=some c->c≠(s.aD[q]).b)/\∀(i:Nat)(hi:i<s.aD.length),i≠q->(s.aD[i]).eL≠none->(s.aD[i]).b≠(s.aD[q]).b):=by
 have hlt:=M.lay.lt;have hnd:=M.lay.nd;have htl:=M.told;simp only[MS.told,map_cons,nodup_cons,mem_cons,not_or]at hnd hlt htl;have hm:((s.aD[q]).b,l.cells)∈GN s.aD:=List.mem_filterMap.2 ⟨s.aD[q],bT hq,by simp[hl]⟩;have hm2:((s.aD[q]).b,l.cells)∈yC rv (bn s.rows)++(yC tv (bU Tk.cells s.takes)++GN s.aD):=mE _ (mE _ hm);have hm3:=iJ (f:=(·.1)) hm2;have hd:=hnd.2.2.2;rw[map_append,nodup_append,map_append,nodup_append]at hd;refine⟨hlt _ (.inr (.inr (.inr hm2))),λ e=>hnd.1.2.2 (e▸hm3),λ e=>hnd.2.2.1 (e▸hm3),htl _ (.inr (.inr (.inr hm2))),λ e=>hnd.2.1.2 (e▸hm3),λ c hc e=>?_,λ c hc e=>?_,λ i hi mM hli e=>?_⟩
 ·exact hd.2.2 c (iJ (f:=(·.1)) (dV hc (bn s.rows))) (s.aD[q]).b (mE _ (iJ (f:=(·.1)) hm)) e
 ·exact hd.2.1.2.2 c (iJ (f:=(·.1)) (dV hc (bU Tk.cells s.takes))) (s.aD[q]).b (iJ (f:=(·.1)) hm) e
 cases hx:(s.aD[i]).eL with
 |none=>exact hli hx
 |some l2 =>
  rcases Nat.lt_or_gt_of_ne mM with h|h
  ·exact SR hd.2.1.2.1 hi hq h (a:=((s.aD[i]).b,l2.cells)) (b:=((s.aD[q]).b,l.cells)) (by simp[hx]) (by simp[hl]) e
  exact SR hd.2.1.2.1 hq hi h (a:=((s.aD[q]).b,l.cells)) (b:=((s.aD[i]).b,l2.cells)) (by simp[hl]) (by simp[hx]) e.symm
def mH (c:jR)(l:fJ):jR:=match l.Eu with
 |some k=>{c with eL:=some l.uV,row:=some (l.rows.getD k []),page:=l.page,slot:=k,there:=true}
 |none=>{c with eL:=some l.uV,row:=none,page:=0,slot:=0,there:=false}
def sN (l:fJ)(j:Int):Int:=match l.Eu with|some _ => -1|none=>j
theorem as9:j7 false .k7 (.aI .nilIface) (.aI .nilIface)=.val (.bool true):=Eq.trans rfl rfl
theorem anG (t:TypeId)(v:AV):j7 false .k7 (.fO t v) (.aI .nilIface)=.val (.bool false):=Eq.trans rfl rfl
theorem abn {S:Hp}{n p rb cb:Nat}{rv tv:AV}{s:MS}(x:Ins)(q:Nat)(ha:x.a=(q:Int))(hq:q<s.aD.length)(hl:(s.aD[q]).eL=none)(ht:gJ S n)(M:cy S n p rb cb rv tv s):
  ar pG 50 [.ptr p 0,x.av] S n (λ u K k=>u=yY x.j/\ep K (s.told p rb cb rv tv)/\k<=n+1):=by
 refine ar.of c50 (by simp[A50]) λ F hF=>?_;have gp:=M.gp;obtain⟨y,gr,ho⟩:=M.gr;obtain⟨yc,gc,hoc⟩:=M.gc;obtain⟨l1,l2,l3⟩:=M.lt;obtain⟨d1,d2,d3⟩:=M.ne;have mM:=dn (b:=cb) (o:=0) (sz:=5) (k:=.i64) hq;have hld:=amA (c:=5) (j:=0) (v:=.aI .nilIface) hoc (λ a=>a.aE) hq (by simp[jR.cells,hl,mL]);rw[gz]at mM;rw[Nat.add_zero]at hld;generalize q*5=oq at mM hld;simp only[MS.mc]at gp;simp[A50,hF,Ins.av,Ins.cells,ha];refine bD.of (bh (P:=pG)) ?_;simp[ab,hF,gp,cg l1,cg l3,wu l1,wu l3,mM,VP,gc,hld,ae',as9];refine⟨rfl,M.my rfl rfl rfl (by simp[cg l1,gp,MS.mc]) ⟨_,by simp[cg l2,gr],ho⟩ (λ b h1 h2 h3=>by simp[cg h1])⟩
theorem an1 {q b:Nat}{yc:bz}{L:List jR}(ho:OwnB yc (bU jR.cells L))(hq:q<L.length)(eL:Option fJ)(he:mL eL (L[q]).b=mL (L[q]).eL (L[q]).b)(r:Option (List Val))(pg sl:Int)(th:Bool):
  ∃y1 y2 y3,stE 1 (jT r) (some yc) b (q*5+1)=.upd (.aW []) b y1/\stE 2 (.agg [.int .u32 pg,iI sl] 2) (some y1) b (q*5+2)=.upd (.aW []) b y2/\stE 1 (.bool th) (some y2) b (q*5+4)=.upd (.aW []) b y3/\OwnB y3 (bU jR.cells (L.set q ⟨(L[q]).b,eL,r,pg,sl,th⟩)):=by
 have r1:(jT r).len=1/\(jT r).cells=[jT r]/\(jT r).one=true:=by unfold jT;split<;>exact⟨rfl,rfl,rfl⟩
 obtain⟨y1,h1,o1⟩:=aay (b:=b) (j:=1) (w:=1) (v:=jT r) ho (λ a=>a.aE) hq r1.1 (by rw[r1.2.1];rfl) (by omega) (by rw[r1.2.1];simp[r1.2.2]) (by omega) ⟨(L[q]).b,eL,r,(L[q]).page,(L[q]).slot,(L[q]).there⟩ (by rw[r1.2.1];simp[jR.cells,he]);obtain⟨y2,h2,o2⟩:=aay (i:=q) (b:=b) (j:=2) (w:=2) (v:=.agg [.int .u32 pg,iI sl] 2) o1 (λ a=>a.aE) (by simpa using hq) rfl rfl (by omega) rfl (by omega) ⟨(L[q]).b,eL,r,pg,sl,(L[q]).there⟩ (by simp[jR.cells]);rw[List.set_set]at o2;obtain⟨y3,h3,o3⟩:=aay (i:=q) (b:=b) (j:=4) (w:=1) (v:=.bool th) o2 (λ a=>a.aE) (by simpa using hq) rfl rfl (by omega) rfl (by omega) ⟨(L[q]).b,eL,r,pg,sl,th⟩ (by simp[jR.cells]);rw[List.set_set]at o3;exact⟨y1,y2,y3,h1,h2,h3,o3⟩
theorem ahC {S:Hp}{n p rb cb:Nat}{rv tv:AV}{s:MS}(x:Ins)(q:Nat)(ha:x.a=(q:Int))(hq:q<s.aD.length)(l:fJ)(hl:(s.aD[q]).eL=some l)(hf:l.aO)(ht:gJ S n)(M:cy S n p rb cb rv tv s):
  ar pG 50 [.ptr p 0,x.av] S n (λ u K k=>u=yY (sN l x.j)/\ep K (({s with aD:=s.aD.set q (mH s.aD[q] l)}:MS).told p rb cb rv tv)/\k<=n+3):=by
 refine ar.of c50 (by simp[A50]) λ F hF=>?_;have gp:=M.gp;obtain⟨yc,gc,hoc⟩:=M.gc;obtain⟨l1,l2,l3⟩:=M.lt;obtain⟨d1,d2,d3⟩:=M.ne;obtain⟨m1,m2,m3,m4,m5⟩:=M.neQ hq hl;have mM:=dn (b:=cb) (o:=0) (sz:=5) (k:=.i64) hq;have hld:=amA (c:=5) (j:=0) (v:=.fO 260 (.ptr (s.aD[q]).b 0)) hoc (λ a=>a.aE) hq (by simp[jR.cells,hl,mL]);rw[gz]at mM;rw[Nat.add_zero]at hld;simp only[MS.mc]at gp;simp[A50,hF,Ins.av,Ins.cells,ha];refine bD.of (bh (P:=pG)) ?_;generalize hoq:q*5=oq at mM hld;simp[ab,hF,gp,cg l1,cg l3,wu l1,wu l3,mM,VP,gc,hld,anG,ae_,HA,RY];refine au.of (abo l hf (s.aD[q]).b _ (n+1) (by simp[show ¬(s.aD[q]).b=n by omega,m4]) (by omega) (λ b hb=>by simp[show ¬b=n by omega,ht b (by omega)])) λ u K k ⟨e1,g1,g2,e2⟩=>?_;subst e1 e2;have kn:=(g2 n (by omega) (by omega)).trans (show _=some (bz.cells 15 [] _ .nil) by simp;rfl);have kb:∀b,b<n->b≠(s.aD[q]).b->K.get b=S.get b:=λ b hb hb2=>(g2 b (by omega) hb2).trans (by simp[cg hb]);clear g2;have hp1:=(kb p l1 (Ne.symm m2)).trans gp;have hc1:=(kb cb l3 (Ne.symm m3)).trans gc;have hso:mL (some l.uV) (s.aD[q]).b=mL (s.aD[q]).eL (s.aD[q]).b:=by rw[hl];rfl
 cases hn:l.Eu with
 |some k =>
  obtain⟨y1,y2,y3,t1,t2,t3,o3⟩:=an1 (b:=cb) hoc hq (some l.uV) hso (some (l.rows.getD k [])) l.page k true;rw[hoq]at t1 t2 t3;have hc':mH s.aD[q] l=⟨(s.aD[q]).b,some l.uV,some (l.rows.getD k []),l.page,k,true⟩:=by unfold mH;rw[hn]
  have hj:sN l x.j = -1:=by unfold sN;rw[hn]
  rw[hc',hj];generalize hr:l.rows.getD k []=r at *;simp only[jT]at t1;simp only[abg,hr];simp[VO,VN];refine bD.of (bh (P:=pG)) ?_;have h1:(ai r).one=true:=rfl;simp[ab,hc1,t1,t2,t3,h1,show ¬cb=n+1+1 by omega,show ¬n+1+1=cb by omega];simp[VM,VQ,ab];refine⟨rfl,M.aan (q:=q) (l:=l.uV) (c':=⟨(s.aD[q]).b,some l.uV,some r,l.page,k,true⟩) rfl (by simp[d2,cg l1,hp1,MS.mc]) ⟨y3,by simp,o3⟩ (by simp[m3,show ¬(s.aD[q]).b=n+1+1 by omega,g1]) (λ b h1 h2 h3 h4=>by simp[h3,cg h1,kb b h1 h4]) m5⟩
 |none =>
  obtain⟨y1,y2,y3,t1,t2,t3,o3⟩:=an1 (b:=cb) hoc hq (some l.uV) hso none 0 0 false;obtain⟨y4,t4,o4⟩:=aay (i:=q) (b:=cb) (j:=1) (w:=1) (v:=cB) o3 (λ a=>a.aE) (by simpa using hq) rfl rfl (by omega) rfl (by omega) ⟨(s.aD[q]).b,some l.uV,none,0,0,false⟩ (by simp[jR.cells,jT]);rw[List.set_set]at o4;rw[hoq]at t1 t2 t3 t4;have hc':mH s.aD[q] l=⟨(s.aD[q]).b,some l.uV,none,0,0,false⟩:=by unfold mH;rw[hn]
  have hj:sN l x.j=x.j:=by unfold sN;rw[hn]
  rw[hc',hj];simp only[jT]at t1;simp only[abg];simp[VO,VN];refine bD.of (bh (P:=pG)) ?_;simp[ab,hc1,t1,t2,t3,show ¬cb=n+1+1 by omega,show ¬n+1+1=cb by omega,VM,ae9,t4,VS,kn,show ¬n=cb by omega];refine⟨rfl,M.aan (q:=q) (l:=l.uV) (c':=⟨(s.aD[q]).b,some l.uV,none,0,0,false⟩) rfl (by simp[d2,cg l1,hp1,MS.mc]) ⟨y4,by simp,o4⟩ (by simp[m3,show ¬(s.aD[q]).b=n+1+1 by omega,g1]) (λ b h1 h2 h3 h4=>by simp[h3,cg h1,kb b h1 h4]) m5⟩
end Go.Abs
namespace Go.Abs
open List
open Go.Proofs
open Classical
set_option maxRecDepth 100000
def qF (cs:List jR):List Nat:=cs.filterMap λ c=>c.eL.map λ _=>c.b
def eI (p rb cb:Nat)(rv tv:AV)(cs:List jR):List Nat:=p::rb::cb::((blk rv).toList++((blk tv).toList++qF cs))
theorem Qz (v:AV)(l:List AV):(yC v l).map (·.1)=(blk v).toList:=by
 cases v<;>simp[yC,blk]
theorem RH (cs:List jR):(GN cs).map (·.1)=qF cs:=by
 unfold GN qF;rw[List.map_filterMap]
 congr 1
 funext c
 cases c.eL<;>rfl
theorem hZ (s:MS)(p rb cb:Nat)(rv tv:AV):s.fp p rb cb rv tv=eI p rb cb rv tv s.aD:=by
 simp[MS.fp,MS.told,eI,Qz,RH]
theorem Lay.of {n p rb cb:Nat}{rv tv:AV}{s:MS}(h1:(eI p rb cb rv tv s.aD).Nodup)(h2:∀b∈eI p rb cb rv tv s.aD,b<n)(h3:uF rv s.rows.length 1)(h4:uF tv s.takes.length 3):Lay n p rb cb rv tv s:=by
 rw[<-hZ]at h1 h2;exact⟨h1,λ e he=>h2 e.1 (iJ he),h3,h4⟩
theorem Lay.kn {n p rb cb:Nat}{rv tv:AV}{s:MS}(L:Lay n p rb cb rv tv s):(eI p rb cb rv tv s.aD).Nodup:=by
 rw[<-hZ];exact L.nd
theorem Lay.kl {n p rb cb:Nat}{rv tv:AV}{s:MS}(L:Lay n p rb cb rv tv s):∀b∈eI p rb cb rv tv s.aD,b<n:=by
 rw[<-hZ];intro b hb;obtain⟨e,he,rfl⟩:=mem_map.1 hb;exact L.lt e he
theorem wq {A X R:List Nat}{b:Nat}(h:(A++(X++R)).Nodup)(hb:b∉A++(X++R)):(A++(b::R)).Nodup:=by
 have h2:(A++R).Nodup:=h.sublist (List.Sublist.append_left (List.sublist_append_right X R) A);rw[(List.perm_middle (a:=b) (l₁:=A) (l₂:=R)).nodup_iff,nodup_cons];refine⟨λ hm=>hb ?_,h2⟩
 rcases mem_append.1 hm with h|h
 ·exact mem_append_left _ h
 exact mE _ (mE _ h)
def r_ (H:Hp)(n p rb cb:Nat)(rv tv:AV)(s:MS)(f:FuncId)(args:List AV)(v0:AV)(s':MS):Prop:=
 ∃H' n' rv' tv',bO pG f args H n v0 H' n'/\n<=n'/\cy H' n' p rb cb rv' tv' s'/\(∀b,b<n->b∉s.fp p rb cb rv tv->H'.get b=H.get b)/\(∀b∈s'.fp p rb cb rv' tv',b∈s.fp p rb cb rv tv∨n<=b)/\(gJ H n->gJ H' n')
section
variable {f:FuncId}{args:List AV}{n n' p rb cb:Nat}{rv tv:AV}{s s':MS}{v0:AV}{H:Hp}
theorem ke (M:cy H n p rb cb rv tv s)(hn:n<=n')(ha:eg n args)(hf':s'.aO)(e1:qF s'.aD=qF s.aD)(e2:s'.rows.length=s.rows.length)(e3:s'.takes.length=s.takes.length)
  (h:∀S,gJ S n->cy S n p rb cb rv tv s->ar pG f args S n (λ u K k=>u=v0/\ep K (s'.told p rb cb rv tv)/\k<=n')):r_ H n p rb cb rv tv s f args v0 s':=by
 have ek:eI p rb cb rv tv s'.aD=eI p rb cb rv tv s.aD:=by unfold eI;rw[e1]
 have L':Lay n' p rb cb rv tv s':=.of (by rw[ek];exact M.lay.kn) (λ b hb=>by rw[ek]at hb;exact Nat.lt_of_lt_of_le (M.lay.kl b hb) hn) (by rw[e2];exact M.lay.rv) (by rw[e3];exact M.lay.tv);have eZ:∀b∈s'.fp p rb cb rv tv,b∈s.fp p rb cb rv tv∨n<=b:=λ b hb=>.inl (by rw[hZ]at hb ⊢;rwa [ek]at hb);obtain⟨H',h1,h2,h3,h4⟩:=okM M hn ha L' hf' eZ h;exact⟨H',n',rv,tv,h1,hn,h2,h3,eZ,h4⟩
theorem ahv (M:cy H n p rb cb rv tv s)(hn:n<=n')(ha:eg n args)(hf':s'.aO)(e1:s'.aD=s.aD)(e3:s'.takes.length=s.takes.length){b:Nat}(hb:n<=b)(hb2:b<n')
  (h:∀S,gJ S n->cy S n p rb cb rv tv s->ar pG f args S n (λ u K k=>u=v0/\ep K (s'.told p rb cb (.sl b 0 s'.rows.length 1) tv)/\k<=n')):r_ H n p rb cb rv tv s f args v0 s':=by
 have kn:=M.lay.kn;have kl:=M.lay.kl;have hfr:b∉eI p rb cb rv tv s.aD:=λ hm=>by have:=kl b hm;omega
 have hmem:∀c∈eI p rb cb (.sl b 0 s'.rows.length 1) tv s'.aD,c∈eI p rb cb rv tv s.aD∨c=b:=λ c hc=>by
  rw[e1]at hc;simp only[eI,TU,Option.toList,mem_cons,mem_append,not_mem_nil,or_false]at hc ⊢
  rcases hc with h|h|h|h|h|h
  ·exact .inl (.inl h)
  ·exact .inl (.inr (.inl h))
  ·exact .inl (.inr (.inr (.inl h)))
  ·exact .inr h
  ·exact .inl (.inr (.inr (.inr (.inr (.inl h)))))
  exact .inl (.inr (.inr (.inr (.inr (.inr h)))))
 have L':Lay n' p rb cb (.sl b 0 s'.rows.length 1) tv s':=.of (by
   rw[e1];exact wq (A:=[p,rb,cb]) (X:=(blk rv).toList) (R:=(blk tv).toList++qF s.aD) kn hfr) (λ c hc=>by
   rcases hmem c hc with h|h
   ·have:=kl c h;omega
   omega) (.inr ⟨b,rfl⟩) (by rw[e3];exact M.lay.tv)
 have eZ:∀c∈s'.fp p rb cb (.sl b 0 s'.rows.length 1) tv,c∈s.fp p rb cb rv tv∨n<=c:=λ c hc=>by
  rw[hZ]at hc ⊢
  rcases hmem c hc with h|h
  ·exact .inl h
  exact .inr (by omega)
 obtain⟨H',h1,h2,h3,h4⟩:=okM M hn ha L' hf' eZ h;exact⟨H',n',_,tv,h1,hn,h2,h3,eZ,h4⟩
theorem abf (M:cy H n p rb cb rv tv s)(hn:n<=n')(ha:eg n args)(hf':s'.aO)(e1:s'.aD=s.aD)(e3:s'.rows.length=s.rows.length){b:Nat}(hb:n<=b)(hb2:b<n')
  (h:∀S,gJ S n->cy S n p rb cb rv tv s->ar pG f args S n (λ u K k=>u=v0/\ep K (s'.told p rb cb rv (.sl b 0 s'.takes.length 3))/\k<=n')):r_ H n p rb cb rv tv s f args v0 s':=by
 have kn:=M.lay.kn;have kl:=M.lay.kl;have hfr:b∉eI p rb cb rv tv s.aD:=λ hm=>by have:=kl b hm;omega
 have hmem:∀c∈eI p rb cb rv (.sl b 0 s'.takes.length 3) s'.aD,c∈eI p rb cb rv tv s.aD∨c=b:=λ c hc=>by
  rw[e1]at hc;simp only[eI,TU,Option.toList,mem_cons,mem_append,not_mem_nil,or_false]at hc ⊢
  rcases hc with h|h|h|h|h|h
  ·exact .inl (.inl h)
  ·exact .inl (.inr (.inl h))
  ·exact .inl (.inr (.inr (.inl h)))
  ·exact .inl (.inr (.inr (.inr (.inl h))))
  ·exact .inr h
  exact .inl (.inr (.inr (.inr (.inr (.inr h)))))
 have L':Lay n' p rb cb rv (.sl b 0 s'.takes.length 3) s':=.of (by
   rw[e1];have:=wq (A:=p::rb::cb::(blk rv).toList) (X:=(blk tv).toList) (R:=qF s.aD) (b:=b) (by simpa[eI]using kn) (by simpa[eI]using hfr);simpa[eI]using this) (λ c hc=>by
   rcases hmem c hc with h|h
   ·have:=kl c h;omega
   omega) (by rw[e3];exact M.lay.rv) (.inr ⟨b,rfl⟩)
 have eZ:∀c∈s'.fp p rb cb rv (.sl b 0 s'.takes.length 3),c∈s.fp p rb cb rv tv∨n<=c:=λ c hc=>by
  rw[hZ]at hc ⊢
  rcases hmem c hc with h|h
  ·exact .inl h
  exact .inr (by omega)
 obtain⟨H',h1,h2,h3,h4⟩:=okM M hn ha L' hf' eZ h;exact⟨H',n',rv,_,h1,hn,h2,h3,eZ,h4⟩
theorem jE (a b:List jR):qF (a++b)=qF a++qF b:=by simp[qF]
theorem adf (M:cy H n p rb cb rv tv s)(hn:n<=n')(ha:eg n args)(hf':s'.aO){q b:Nat}{l:fJ}(hq:q<s.aD.length)(e1:s'.aD=s.aD.set q (jD b l))(e2:s'.rows.length=s.rows.length)(e3:s'.takes.length=s.takes.length)(hb:n<=b)(hb2:b<n')
  (h:∀S,gJ S n->cy S n p rb cb rv tv s->ar pG f args S n (λ u K k=>u=v0/\ep K (s'.told p rb cb rv tv)/\k<=n')):r_ H n p rb cb rv tv s f args v0 s':=by
 have kn:=M.lay.kn;have kl:=M.lay.kl;have hfr:b∉eI p rb cb rv tv s.aD:=λ hm=>by have:=kl b hm;omega
 have d1:qF s'.aD=qF (s.aD.take q)++(b::qF (s.aD.drop (q+1))):=by
  rw[e1,set_eq_take_append_cons_drop,ak hq,jE];rfl
 have d2:qF s.aD=qF (s.aD.take q)++(qF [s.aD[q]]++qF (s.aD.drop (q+1))):=by
  rw[<-jE,<-jE]
  congr 1
  simp
 have hmem:∀c∈eI p rb cb rv tv s'.aD,c∈eI p rb cb rv tv s.aD∨c=b:=λ c hc=>by
  simp only[eI,d1,d2,mem_cons,mem_append]at hc ⊢
  rcases hc with h|h|h|h|h|h|h|h
  ·exact .inl (.inl h)
  ·exact .inl (.inr (.inl h))
  ·exact .inl (.inr (.inr (.inl h)))
  ·exact .inl (.inr (.inr (.inr (.inl h))))
  ·exact .inl (.inr (.inr (.inr (.inr (.inl h)))))
  ·exact .inl (.inr (.inr (.inr (.inr (.inr (.inl h))))))
  ·exact .inr h
  exact .inl (.inr (.inr (.inr (.inr (.inr (.inr (.inr h)))))))
 have L':Lay n' p rb cb rv tv s':=.of (by
   have:=wq (A:=p::rb::cb::((blk rv).toList++((blk tv).toList++qF (s.aD.take q)))) (X:=qF [s.aD[q]]) (R:=qF (s.aD.drop (q+1))) (b:=b) (by simpa[eI,d2]using kn) (by simpa[eI,d2]using hfr);simpa[eI,d1]using this) (λ c hc=>by
   rcases hmem c hc with h|h
   ·have:=kl c h;omega
   omega) (by rw[e2];exact M.lay.rv) (by rw[e3];exact M.lay.tv)
 have eZ:∀c∈s'.fp p rb cb rv tv,c∈s.fp p rb cb rv tv∨n<=c:=λ c hc=>by
  rw[hZ]at hc ⊢
  rcases hmem c hc with h|h
  ·exact .inl h
  exact .inr (by omega)
 obtain⟨H',h1,h2,h3,h4⟩:=okM M hn ha L' hf' eZ h;exact⟨H',n',rv,tv,h1,hn,h2,h3,eZ,h4⟩
end
end Go.Abs
namespace Go.Abs
open List
open Go.Proofs
open Classical
set_option maxRecDepth 100000
def nw:jR:=⟨0,none,none,0,0,false⟩
def dN (s:MS) (x:Ins) (n:Nat):Int×MS:=
 if x.op=1 then (-1,{s with aD:=s.aD.set x.a.toNat (jD (n+1+1+1+1) (qk s.w x.id))})else
 if x.op=2 then (-1,{s with aD:=s.aD.set x.a.toNat (jD (iV s.w x.id (n+1+1)) (iU s.w x.id (AB s x x.b.toNat x.n.toNat)))})else
 if x.op=3 then (match (s.aD.getD x.a.toNat nw).eL with
  |none=>(x.j,s)
  |some l=>(sN l x.j,{s with aD:=s.aD.set x.a.toNat (mH (s.aD.getD x.a.toNat nw) l)}))else
 if x.op=4 then (-1,{s with aA:=s.aA.set x.a.toNat (yJ (s.aD.getD x.b.toNat nw).row x.c.toNat)})else
 if x.op=5 then (-1,{s with aA:=s.aA.set x.a.toNat x.v})else
 if x.op=6 then hJ s x.a.toNat x.j (gi x.ex (if x.ex<8 then [s.aA.getD x.b.toNat bG]else [s.aA.getD x.b.toNat bG,s.aA.getD x.c.toNat bG]))else
 if x.op=7 then ij s (s.aA.getD x.a.toNat bG) x.j else
 if x.op=8 then (-1,ez s x.a.toNat x.n.toNat)else
 if x.op=9 then (-1,if (s.aD.getD x.a.toNat nw).there=true then (if s.roomy then lL s (s.aD.getD x.a.toNat nw) x.b.toNat x.n.toNat else s.e_)else s)else
 if x.op=10 then (x.j,s)else (-1,{s with ended:=true})
section
variable {s:MS}
theorem MS.aO.vU (h:s.aO)(i:Nat)(v:Val):({s with aA:=s.aA.set i v}:MS).aO:=⟨h.ok,by simpa using h.eC,h.cur,h.w,h.steps,h.cs,h.at_,h.end_,h.rows,h.rl,h.tl⟩
theorem MS.aO.alm (h:s.aO)(e:Int):({s with least:=e}:MS).aO:=⟨h.ok,h.eC,h.cur,h.w,h.steps,h.cs,h.at_,h.end_,h.rows,h.rl,h.tl⟩
theorem MS.aO.G6 (h:s.aO)(i:Nat)(c:jR)(hc:c.aO):({s with aD:=s.aD.set i c}:MS).aO:=⟨h.ok,h.eC,by simpa using h.cur,h.w,h.steps,λ c' hm=>by
 rcases mem_or_eq_of_mem_set hm with h1|rfl
 ·exact h.cs c' h1
 exact hc,h.at_,h.end_,h.rows,h.rl,h.tl⟩
theorem MS.aO.adB (h:s.aO):s.e_.aO:=⟨h.ok,h.eC,h.cur,h.w,h.steps,h.cs,h.at_,(λ e=>by cases e),h.rows,h.rl,h.tl⟩
theorem MS.aO.as_ (h:s.aO):({s with ended:=true}:MS).aO:=⟨h.ok,h.eC,h.cur,h.w,h.steps,h.cs,h.at_,(λ e=>by cases e),h.rows,h.rl,h.tl⟩
theorem MS.aO.emit (h:s.aO)(i N:Nat)(hN:N<=16):(ez s i N).aO:=by
 unfold ez
 split
 ·rename_i hr;unfold MS.roomy at hr;refine⟨h.ok,h.eC,h.cur,h.w,h.steps,h.cs,h.at_,h.end_,by simp;omega,λ r hm=>?_,h.tl⟩
  rcases mem_append.1 hm with h1|h1
  ·exact h.rl r h1
  simp at h1;subst h1;unfold bm;simp;omega
 exact h.adB
theorem MS.aO.take (h:s.aO)(hr:s.roomy)(c:jR)(i N:Nat)(hN:N<=16):(lL s c i N).aO:=by
 unfold MS.roomy at hr;refine⟨h.ok,h.eC,h.cur,h.w,h.steps,h.cs,h.at_,h.end_,by simp[lL];omega,h.rl,λ r hm=>?_⟩
 rcases mem_append.1 hm with h1|h1
 ·exact h.tl r h1
 simp at h1;subst h1;unfold bm;simp;omega
theorem ng:lO.aO:=⟨λ _=>rfl,by simp[lO],by simp[lO],by simp[lO],by simp[lO],rfl,λ h=>aj rfl h⟩
theorem Et {w:er}(hw:w.aO)(t:Int){f:FuncId}{cap:List AV}{p:List Val->Bool}(hp:aT cap)(h:∀r:List Val,r.length<=bm->ah pG f (ai r::cap) (.bool (p r))):(OX w t (.fn (.func f) [] cap) p).aO:=by
 unfold OX
 split
 ·exact ng
 split
 ·rename_i hk;have hm:=bT hk;refine⟨(λ h=>by cases h),hw.t _ hm,λ r hr=>(hw.r _ hm r hr).1,by simp,by simp[Pure,hp],rfl,λ _=>⟨f,cap,rfl,λ r hr=>h r (hw.r _ hm r hr).1⟩⟩
 exact ng
theorem G8 {w:er}(hw:w.aO)(t:Int):(qk w t).aO:=Et hw t (by simp) λ r _=>ajs r
theorem G7 {w:er}(hw:w.aO)(id:Int)(sp:dw)(hs:sp.eq.length<=bm):(iU w id sp).aO:=by
 unfold iU
 split
 ·exact ng
 split
 ·rename_i hk;exact Et hw _ (by simp[dw.cells]) λ r hr=>amN _ sp r (hw.s.ic _ (bT hk)) hs hr
 exact ng
theorem zt {l:fJ}(h:l.aO)(b:Nat):(jD b l).aO:=⟨λ l' e=>by simp[jD]at e;subst e;exact h,λ r e=>by simp[jD]at e⟩
theorem HK (l:fJ):∀(t i:Nat) k,l.Qc i t=some k->i<=k/\k<l.rows.length
 |0,i,k,h=>by simp[fJ.Qc]at h
 |t + 1,i,k,h=>by
  rw[fJ.Qc]at h
  split at h
  ·cases h
  rename_i r hr;have hi:=(nS.1 hr).1
  split at h
  ·injection h with h;subst h;exact⟨aM _,hi⟩
  have:=HK l t (i+1) k h;omega
theorem FX {l:fJ}(h:l.aO):l.uV.aO:=by
 unfold fJ.uV
 cases hn:l.Eu with
 |none=>exact⟨h.n,h.len,h.row,aM _,h.pf,h.o1,h.fn⟩
 |some k =>
  have:=HK l _ _ _ hn;exact⟨h.n,h.len,h.row,by show k+1<=l.rows.length;omega,h.pf,h.o1,h.fn⟩
theorem OY {c:jR}{l:fJ}(h:l.aO):(mH c l).aO:=by
 unfold mH
 cases hn:l.Eu with
 |none=>exact⟨λ l' e=>by simp at e;subst e;exact FX h,λ r e=>by simp at e⟩
 |some k =>
  refine⟨λ l' e=>by simp at e;subst e;exact FX h,λ r e=>?_⟩;have hk:=(HK l _ _ _ hn).2;simp at e;subst e;rw[dU hk];exact h.row _ (bT hk)
theorem agM (x:Ins)(i N:Nat):(AB s x i N).eq=(s.aA.drop i).take N:=by
 unfold AB hiS loS
 split<;>split<;>rfl
end
end Go.Abs
namespace Go.Abs
open List
open Go.Proofs
open Classical
set_option maxRecDepth 100000
theorem ux {c:aU}(h:c.chk=0):0<=c.aA/\c.aA<=256/\0<=c.cur/\c.cur<=4/\c.l.length<=8192/\∀x∈c.l,c.ok x=true:=by
 unfold aU.chk at h
 split at h
 ·rename_i hs
  split at h
  ·rename_i hl;simp[aU.shape]at hs;exact⟨by omega,by omega,by omega,by omega,by omega,all_eq_true.1 hl⟩
  omega
 omega
theorem zq (c:jR)(l:fJ):(mH c l).eL=some l.uV/\(mH c l).b=c.b:=by
 unfold mH
 cases l.Eu<;>exact⟨rfl,rfl⟩
theorem aby {cs:List jR}{q:Nat}{l l':fJ}{c:jR}(h:q<cs.length)(h1:(cs[q]).eL=some l)(h2:c.eL=some l')(h3:c.b=(cs[q]).b):qF (cs.set q c)=qF cs:=by
 have e:qF cs=qF (cs.take q)++(qF [cs[q]]++qF (cs.drop (q+1))):=by
  rw[<-jE,<-jE]
  congr 1
  simp
 rw[e,set_eq_take_append_cons_drop,ak h,jE]
 congr 1
 simp[qF,h1,h2,h3]
section
variable {H:Hp}{n p rb cb:Nat}{rv tv:AV}{s:MS}
theorem kD (hf:s.aO){i:Int}(h:s.c.eC i=true):i=(i.toNat:Int)/\i.toNat<s.aA.length:=by
 have:=hf.eC;simp[aU.eC]at h;omega
theorem qq (hf:s.aO){i:Int}(h:s.c.dJ i=true):i=(i.toNat:Int)/\i.toNat<s.aD.length:=by
 have:=hf.cur;simp[aU.dJ]at h;omega
theorem zd (hf:s.aO){i m:Int}(h:s.c.DJ i m=true):i=(i.toNat:Int)/\m=(m.toNat:Int)/\m.toNat<=16/\i.toNat+m.toNat<=s.aA.length:=by
 have:=hf.eC;simp[aU.DJ]at h;omega
theorem jW {i:Nat}(h:i<s.aA.length):s.aA.getD i bG=s.aA[i]:=by simp[getD,h]
theorem jX {i:Nat}(h:i<s.aD.length):s.aD.getD i nw=s.aD[i]:=by simp[getD,h]
theorem TZ (hp:p<n)(x:Ins):eg n [.ptr p 0,x.av]:=by
 have:=Pure.lC (n:=n) x.pure;simp[hp,this]
theorem arB (x:Ins) (hx:s.c.ok x=true) (M:cy H n p rb cb rv tv s):∃f:Nat,(x.op=(f:Int) - 47)/\48<=f/\f<=58/\r_ H n p rb cb rv tv s f [.ptr p 0,x.av] (yY (dN s x n).1) (dN s x n).2:=by
 have hf:=M.aO;have hR:s.aA.length<=256:=by have:=(ux hf.ok).2.1;have:=hf.eC;omega
 have ha:=TZ (n:=n) M.lt.1 x;have ok:=hx;unfold aU.ok at ok
 by_cases h1:x.op=1
 ·simp[h1]at ok;obtain⟨e1,q1⟩:=qq hf ok;refine⟨48,by omega,by omega,by omega,?_⟩;have hd:dN s x n=(-1,{s with aD:=s.aD.set x.a.toNat (jD (n+1+1+1+1) (qk s.w x.id))}):=by unfold dN;rw[ak h1]
  rw[hd];exact adf (n':=n+5) M (by omega) ha (hf.G6 _ _ (zt (G8 hf.w _) _)) q1 rfl rfl rfl (by omega) (by omega) λ S ht MS=>agU x _ e1 q1 ht MS
 by_cases h2:x.op=2
 ·simp[h2]at ok;obtain⟨e1,q1⟩:=qq hf ok.1;obtain⟨e2,e3,q2,q3⟩:=zd hf ok.2.1
  have hlo:0<=x.lo->x.lo.toNat<s.aA.length:=λ h=>by
   rcases ok.2.2.1 with h' |h'
   ·omega
   exact(kD hf h').2
  have hhi:0<=x.hi->x.hi.toNat<s.aA.length:=λ h=>by
   rcases ok.2.2.2 with h' |h'
   ·omega
   exact(kD hf h').2
  refine⟨49,by omega,by omega,by omega,?_⟩;have hd:dN s x n=(-1,{s with aD:=s.aD.set x.a.toNat (jD (iV s.w x.id (n+1+1)) (iU s.w x.id (AB s x x.b.toNat x.n.toNat)))}):=by unfold dN;rw[ae h1,ak h2]
  rw[hd];have hB:=Ea s.w x.id (n+1+1);have hB2:=D9 s.w x.id (n+1+1);exact adf (n':=n+10) M (by omega) ha (hf.G6 _ _ (zt (G7 hf.w _ _ (by rw[agM];unfold bm;simp;omega)) _)) q1 rfl rfl rfl (by omega) (by omega) λ S ht MS=>agS x _ _ _ e1 q1 e2 e3 q3 q2 hR hlo hhi ht MS
 by_cases h3:x.op=3
 ·simp[h3]at ok;obtain⟨e1,q1⟩:=qq hf ok.1;refine⟨50,by omega,by omega,by omega,?_⟩
  cases hl:(s.aD[x.a.toNat]).eL with
  |none =>
   have hd:dN s x n=(x.j,s):=by unfold dN;rw[ae h1,ae h2,ak h3,jX q1,hl]
   rw[hd];exact ke (n':=n+1) M (by omega) ha hf rfl rfl rfl λ S ht MS=>abn x _ e1 q1 hl ht MS
  |some l =>
   have hd:dN s x n=(sN l x.j,{s with aD:=s.aD.set x.a.toNat (mH s.aD[x.a.toNat] l)}):=by unfold dN;rw[ae h1,ae h2,ak h3,jX q1,hl]
   have hlf:=(hf.cs _ (bT q1)).l l hl;rw[hd];refine ke (n':=n+3) M (by omega) ha (hf.G6 _ _ (OY hlf)) ?_ rfl rfl λ S ht MS=>ahC x _ e1 q1 l hl hlf ht MS;exact aby q1 hl (zq s.aD[x.a.toNat] l).1 (zq s.aD[x.a.toNat] l).2
 by_cases h4:x.op=4
 ·simp[h4]at ok;obtain⟨e1,q1⟩:=kD hf ok.1;obtain⟨e2,q2⟩:=qq hf ok.2.1;refine⟨51,by omega,by omega,by omega,?_⟩;have hd:dN s x n=(-1,{s with aA:=s.aA.set x.a.toNat (yJ (s.aD[x.b.toNat]).row x.c.toNat)}):=by unfold dN;rw[ae h1,ae h2,ae h3,ak h4,jX q2]
  rw[hd];exact ke (n':=n+3) M (by omega) ha (hf.vU _ _) rfl rfl rfl λ S ht MS=>an4 x _ _ _ e1 q1 e2 q2 (by omega) (by omega) (hf.cs _ (bT q2)).r ht MS
 by_cases h5:x.op=5
 ·simp[h5]at ok;obtain⟨e1,q1⟩:=kD hf ok.1;refine⟨52,by omega,by omega,by omega,?_⟩;have hd:dN s x n=(-1,{s with aA:=s.aA.set x.a.toNat x.v}):=by unfold dN;rw[ae h1,ae h2,ae h3,ae h4,ak h5]
  rw[hd];exact ke (n':=n+1) M (by omega) ha (hf.vU _ _) rfl rfl rfl λ S ht MS=>ab8 x _ e1 q1 ht MS
 by_cases h6:x.op=6
 ·simp[h6]at ok;obtain⟨e1,q1⟩:=kD hf ok.1;obtain⟨e2,q2⟩:=kD hf ok.2.1;refine⟨53,by omega,by omega,by omega,?_⟩
  have hcf:∀r,(hJ s x.a.toNat x.j r).2.aO/\(hJ s x.a.toNat x.j r).2.aD=s.aD/\(hJ s x.a.toNat x.j r).2.rows=s.rows/\(hJ s x.a.toNat x.j r).2.takes=s.takes:=λ r=>by
   unfold hJ
   split
   ·exact⟨hf.alm _,rfl,rfl,rfl⟩
   exact⟨hf.vU _ _,rfl,rfl,rfl⟩
  by_cases h8:x.ex<8
  ·have hd:dN s x n=hJ s x.a.toNat x.j (gi x.ex [s.aA[x.b.toNat]]):=by unfold dN;rw[ae h1,ae h2,ae h3,ae h4,ae h5,ak h6,ak h8,jW q2]
   rw[hd];obtain⟨c1,c2,c3,c4⟩:=hcf (gi x.ex [s.aA[x.b.toNat]]);exact ke (n':=n+10) M (by omega) ha c1 (by rw[c2]) (by rw[c3]) (by rw[c4]) λ S ht MS=>aci x _ _ e1 q1 e2 q2 (by omega) ht MS
  obtain⟨e3,q3⟩:=kD hf (ok.2.2.2.2.1.resolve_left h8);have hd:dN s x n=hJ s x.a.toNat x.j (gi x.ex [s.aA[x.b.toNat],s.aA[x.c.toNat]]):=by unfold dN;rw[ae h1,ae h2,ae h3,ae h4,ae h5,ak h6,ae h8,jW q2,jW q3]
  rw[hd];obtain⟨c1,c2,c3,c4⟩:=hcf (gi x.ex [s.aA[x.b.toNat],s.aA[x.c.toNat]]);exact ke (n':=n+20) M (by omega) ha c1 (by rw[c2]) (by rw[c3]) (by rw[c4]) λ S ht MS=>ach x _ _ e1 q1 e2 q2 _ e3 q3 (by omega) ht MS
 by_cases h7:x.op=7
 ·simp[h7]at ok;obtain⟨e1,q1⟩:=kD hf ok.1;refine⟨54,by omega,by omega,by omega,?_⟩;have hd:dN s x n=ij s s.aA[x.a.toNat] x.j:=by unfold dN;rw[ae h1,ae h2,ae h3,ae h4,ae h5,ae h6,ak h7,jW q1]
  rw[hd]
  have hcf:∀v,(ij s v x.j).2.aO/\(ij s v x.j).2.aD=s.aD/\(ij s v x.j).2.rows=s.rows/\(ij s v x.j).2.takes=s.takes:=λ r=>by
   unfold ij
   split
   ·exact⟨hf,rfl,rfl,rfl⟩
   split
   ·exact⟨hf.alm _,rfl,rfl,rfl⟩
   exact⟨hf,rfl,rfl,rfl⟩
  obtain⟨c1,c2,c3,c4⟩:=hcf s.aA[x.a.toNat];exact ke (n':=n+2) M (by omega) ha c1 (by rw[c2]) (by rw[c3]) (by rw[c4]) λ S ht MS=>aap x _ e1 q1 ht MS
 by_cases h8:x.op=8
 ·simp[h8]at ok;obtain⟨e2,e3,q2,q3⟩:=zd hf ok;refine⟨55,by omega,by omega,by omega,?_⟩;have hd:dN s x n=(-1,ez s x.a.toNat x.n.toNat):=by unfold dN;rw[ae h1,ae h2,ae h3,ae h4,ae h5,ae h6,ae h7,ak h8]
  rw[hd];have hef:=hf.emit x.a.toNat x.n.toNat q2
  by_cases hr:s.roomy
  ·have hlr:(ez s x.a.toNat x.n.toNat).rows.length=s.rows.length+1:=by simp[ez,hr]
   exact ahv (n':=n+10) (b:=n+2) M (by omega) ha hef (by simp[ez,hr]) (by simp[ez,hr]) (by omega) (by omega) λ S ht MS=>by
    rw[hlr];exact aiN x _ _ e2 e3 q3 q2 hR hr ht MS
  exact ke (n':=n+1) M (by omega) ha hef (by simp[ez,hr,MS.e_]) (by simp[ez,hr,MS.e_]) (by simp[ez,hr,MS.e_]) λ S ht MS=>ab4 x _ _ hr ht MS
 by_cases h9:x.op=9
 ·simp[h9]at ok;obtain⟨e1,q1⟩:=qq hf ok.1;obtain⟨e2,e3,q2,q3⟩:=zd hf ok.2;refine⟨56,by omega,by omega,by omega,?_⟩;have hd:dN s x n=(-1,if (s.aD[x.a.toNat]).there=true then (if s.roomy then lL s s.aD[x.a.toNat] x.b.toNat x.n.toNat else s.e_)else s):=by unfold dN;rw[ae h1,ae h2,ae h3,ae h4,ae h5,ae h6,ae h7,ae h8,ak h9,jX q1]
  rw[hd]
  by_cases hth:(s.aD[x.a.toNat]).there=true
  ·by_cases hr:s.roomy
   ·rw[ak hth,ak hr]
    exact abf (n':=n+10) (b:=n+3) M (by omega) ha (hf.take hr _ _ _ q2) rfl rfl (by omega) (by omega) λ S ht MS=>by
     have:=agH x _ _ _ e1 q1 e2 e3 q3 q2 hR hr hth ht MS;simpa[lL]using this
   rw[ak hth,ae hr]
   exact ke (n':=n+2) M (by omega) ha hf.adB rfl rfl rfl λ S ht MS=>by
    have:=KD x _ e1 q1 ht MS (.inr hr)
    rwa [ak hth]at this
  rw[ae hth]
  exact ke (n':=n+2) M (by omega) ha hf rfl rfl rfl λ S ht MS=>by
   have:=KD x _ e1 q1 ht MS (.inl (by simpa using hth))
   rwa [ae hth]at this
 by_cases h10:x.op=10
 ·refine⟨57,by omega,by omega,by omega,?_⟩;have hd:dN s x n=(x.j,s):=by unfold dN;rw[ae h1,ae h2,ae h3,ae h4,ae h5,ae h6,ae h7,ae h8,ae h9,ak h10]
  rw[hd];exact ke (n':=n+1) M (by omega) ha hf rfl rfl rfl λ S ht MS=>ahZ x ht MS
 simp[h1,h2,h3,h4,h5,h6,h7,h8,h9,h10]at ok;refine⟨58,by omega,by omega,by omega,?_⟩;have hd:dN s x n=(-1,{s with ended:=true}):=by unfold dN;rw[ae h1,ae h2,ae h3,ae h4,ae h5,ae h6,ae h7,ae h8,ae h9,ae h10]
 rw[hd];exact ke (n':=n+1) M (by omega) ha hf.as_ rfl rfl rfl λ S ht MS=>anL x ht MS
end
end Go.Abs
namespace Go.Abs
open List
open Go.Proofs
open Classical
set_option maxRecDepth 100000
def E1:List AV:=[.aI .nilFunc,.fn (.func 48) [] [],.fn (.func 49) [] [],.fn (.func 50) [] [],.fn (.func 51) [] [],.fn (.func 52) [] [],.fn (.func 53) [] [],.fn (.func 54) [] [],.fn (.func 55) [] [],.fn (.func 56) [] [],.fn (.func 57) [] [],.fn (.func 58) [] []]
theorem al4:ah pG 27 [] (.agg E1 12):=by
 refine eY c27 (by simp) (by simp[E1]) (by simp[A27]) λ F hF=>?_;simp[A27];exact .pure _ (by simp[E1])
theorem aip (f:Nat)(h1:48<=f)(h2:f<=58):Ib 12 1 false (.agg E1 12) (iI ((f:Int) - 47))=.val (.fn (.func f) [] []):=by
 have e:f=48∨f=49∨f=50∨f=51∨f=52∨f=53∨f=54∨f=55∨f=56∨f=57∨f=58:=by omega
 rcases e with rfl|rfl|rfl|rfl|rfl|rfl|rfl|rfl|rfl|rfl|rfl<;>rfl
theorem acX {s:MS}(x:Ins)(hx:s.c.ok x=true)(n:Nat):(dN s x n).1 = -1∨(0<=(dN s x n).1/\(dN s x n).1<=(s.c.l.length:Int)):=by
 have ok:=hx;unfold aU.ok at ok;have ht:s.c.target x.j=true->(0<=x.j/\x.j<=(s.c.l.length:Int)):=λ h=>by simpa[aU.target]using h
 by_cases h1:x.op=1
 ·exact .inl (by unfold dN;rw[ak h1])
 by_cases h2:x.op=2
 ·exact .inl (by unfold dN;rw[ae h1,ak h2])
 by_cases h3:x.op=3
 ·simp[h3]at ok;have:=ht ok.2;unfold dN;rw[ae h1,ae h2,ak h3]
  split
  ·exact .inr this
  simp only[sN]
  split
  ·exact .inl rfl
  exact .inr this
 by_cases h4:x.op=4
 ·exact .inl (by unfold dN;rw[ae h1,ae h2,ae h3,ak h4])
 by_cases h5:x.op=5
 ·exact .inl (by unfold dN;rw[ae h1,ae h2,ae h3,ae h4,ak h5])
 by_cases h6:x.op=6
 ·simp[h6]at ok;have:=ht ok.2.2.2.2.2;unfold dN;rw[ae h1,ae h2,ae h3,ae h4,ae h5,ak h6];generalize gi x.ex _=r;unfold hJ
  split
  ·exact .inr this
  exact .inl rfl
 by_cases h7:x.op=7
 ·simp[h7]at ok;have:=ht ok.2;unfold dN;rw[ae h1,ae h2,ae h3,ae h4,ae h5,ae h6,ak h7];unfold ij
  split
  ·exact .inl rfl
  split<;>exact .inr this
 by_cases h8:x.op=8
 ·exact .inl (by unfold dN;rw[ae h1,ae h2,ae h3,ae h4,ae h5,ae h6,ae h7,ak h8])
 by_cases h9:x.op=9
 ·exact .inl (by unfold dN;rw[ae h1,ae h2,ae h3,ae h4,ae h5,ae h6,ae h7,ae h8,ak h9])
 by_cases h10:x.op=10
 ·simp[h10]at ok;have:=ht ok;unfold dN;rw[ae h1,ae h2,ae h3,ae h4,ae h5,ae h6,ae h7,ae h8,ae h9,ak h10];exact .inr this
 exact .inl (by unfold dN;rw[ae h1,ae h2,ae h3,ae h4,ae h5,ae h6,ae h7,ae h8,ae h9,ae h10])
def aoU (t s:MS):Prop:=t.c=s.c/\t.w=s.w/\t.at_=s.at_/\t.steps=s.steps
theorem ve (s:MS)(x:Ins)(n:Nat):aoU (dN s x n).2 s:=by
 by_cases h1:x.op=1
 ·unfold dN;rw[ak h1];exact⟨rfl,rfl,rfl,rfl⟩
 by_cases h2:x.op=2
 ·unfold dN;rw[ae h1,ak h2];exact⟨rfl,rfl,rfl,rfl⟩
 by_cases h3:x.op=3
 ·unfold dN;rw[ae h1,ae h2,ak h3]
  split<;>exact⟨rfl,rfl,rfl,rfl⟩
 by_cases h4:x.op=4
 ·unfold dN;rw[ae h1,ae h2,ae h3,ak h4];exact⟨rfl,rfl,rfl,rfl⟩
 by_cases h5:x.op=5
 ·unfold dN;rw[ae h1,ae h2,ae h3,ae h4,ak h5];exact⟨rfl,rfl,rfl,rfl⟩
 by_cases h6:x.op=6
 ·unfold dN;rw[ae h1,ae h2,ae h3,ae h4,ae h5,ak h6];generalize gi x.ex _=r;unfold hJ
  split<;>exact⟨rfl,rfl,rfl,rfl⟩
 by_cases h7:x.op=7
 ·unfold dN;rw[ae h1,ae h2,ae h3,ae h4,ae h5,ae h6,ak h7];unfold ij
  split
  ·exact⟨rfl,rfl,rfl,rfl⟩
  split<;>exact⟨rfl,rfl,rfl,rfl⟩
 by_cases h8:x.op=8
 ·unfold dN;rw[ae h1,ae h2,ae h3,ae h4,ae h5,ae h6,ae h7,ak h8];unfold ez MS.e_
  split<;>exact⟨rfl,rfl,rfl,rfl⟩
 by_cases h9:x.op=9
 ·unfold dN;rw[ae h1,ae h2,ae h3,ae h4,ae h5,ae h6,ae h7,ae h8,ak h9];unfold lL MS.e_
  split
  ·split<;>exact⟨rfl,rfl,rfl,rfl⟩
  exact⟨rfl,rfl,rfl,rfl⟩
 by_cases h10:x.op=10
 ·unfold dN;rw[ae h1,ae h2,ae h3,ae h4,ae h5,ae h6,ae h7,ae h8,ae h9,ak h10];exact⟨rfl,rfl,rfl,rfl⟩
 unfold dN;rw[ae h1,ae h2,ae h3,ae h4,ae h5,ae h6,ae h7,ae h8,ae h9,ae h10];exact⟨rfl,rfl,rfl,rfl⟩
def wH:Ins:=⟨0,0,0,0,0,0,0,0,0,0,false,false,bG⟩
def jw (s:MS)(r:Int×MS):MS:={r.2 with steps:=s.steps+1,at_:=(if r.1<0 then s.at_+1 else r.1),ended:=r.2.ended||decide ((if r.1<0 then s.at_+1 else r.1)=(s.c.l.length:Int))}
def stepS (s:MS)(n:Nat):MS:=if s.ended=true then s else jw s (dN s (s.c.l.getD s.at_.toNat wH) n)
def Qf:List AV:=[iI 0,iI 0,iI 0,iI 0,iI 0,iI 0,iI 0,.int .u32 0,iI 0,iI 0,.bool false,.bool false,iI 0,iI 0,.str []]
theorem al9 {f:FuncId}{args:List AV}{n n' p rb cb:Nat}{rv tv rv' tv':AV}{s s':MS}{v0:AV}{H:Hp}(M:cy H n p rb cb rv tv s)(hn:n<=n')(ha:eg n args)(L':Lay n' p rb cb rv' tv' s')(hf':s'.aO)
  (eZ:∀b∈s'.fp p rb cb rv' tv',b∈s.fp p rb cb rv tv∨n<=b)
  (h:ar pG f args (pick H (s.fp p rb cb rv tv)) n (λ u K k=>u=v0/\ep K (s'.told p rb cb rv' tv')/\k<=n')):r_ H n p rb cb rv tv s f args v0 s':=by
 have hfp:∀b∈s.fp p rb cb rv tv,∃e∈s.told p rb cb rv tv,e.1=b:=λ b hb=>by
  obtain⟨e,h1,h2⟩:=mem_map.1 hb;exact⟨e,h1,h2⟩
 have hlt:∀b∈s.fp p rb cb rv tv,b<n:=λ b hb=>by
  obtain⟨e,h1,rfl⟩:=hfp b hb;exact M.lay.lt e h1
 obtain⟨H',h1,h2,h3⟩:=ar.okL (H:=H) (n:=n) (n':=n') (v0:=v0) (s.fp p rb cb rv tv) (s'.told p rb cb rv' tv') ha hlt (λ b hb=>by
   obtain⟨e,h1,rfl⟩:=hfp b hb;rw[M.told e h1];simp) (λ b hb k hk=>by
   obtain⟨e,h1,rfl⟩:=hfp b hb;rw[M.told e h1]at hk;injection hk with hk;subst hk;exact kN (M.lay.lC M.aO e h1)) hn L'.nd (λ e he=>by
   rcases eZ e.1 (iJ he)with h1|h1
   ·exact .inl h1
   exact .inr ⟨h1,L'.lt e he⟩) h
 exact⟨H',n',rv',tv',h1,hn,⟨L',h2,hf'⟩,λ b hb hb2=>h3 b hb2 (.inl hb),eZ,λ ht b hb=>(h3 b (λ hm=>by have:=hlt b hm;omega) (.inr hb)).trans (ht b (by omega))⟩
theorem cy.done {H:Hp}{n p rb cb:Nat}{rv tv:AV}{s:MS}{K:Hp}(M:cy H n p rb cb rv tv s){at':Int}{st:Nat}{en:Bool}(hp:K.get p=cl 13 (({s with steps:=st,at_:=at',ended:=en}:MS).mc rb cb rv tv))(hk:∀b,b<n->b≠p->K.get b=H.get b):ep K (({s with steps:=st,at_:=at',ended:=en}:MS).told p rb cb rv tv):=by
 obtain⟨y,gr,ho⟩:=M.gr;obtain⟨l1,l2,l3⟩:=M.lt;obtain⟨d1,d2,d3⟩:=M.ne;exact M.my rfl rfl rfl hp ⟨y,(hk rb l2 (Ne.symm d1)).trans gr,ho⟩ λ b h1 h2 _=>hk b h1 h2
theorem agL {H:Hp}{n p rb cb:Nat}{rv tv:AV}{s:MS}(hst:s.steps+1<1000000000)(he:s.ended=false)(M:cy H n p rb cb rv tv s):
  r_ H n p rb cb rv tv s 12 [.ptr p 0] (.aW [.bool (stepS s (n+1)).ended,iI 0]) (stepS s (n+1)):=by
 have hf:=M.aO;have hat:=hf.at_;have hend:=hf.end_ he;obtain⟨c1,c2,c3,c4,c5,c6⟩:=ux hf.ok;have hlt:∀b∈s.fp p rb cb rv tv,b<n:=λ b hb=>by rw[hZ]at hb;exact M.lay.kl b hb
 have ht:=mF (H:=H) hlt;have M0:cy (pick H (s.fp p rb cb rv tv)) n p rb cb rv tv s:=M.frame (aM _) λ b hb=>lN hb;have hii:s.at_.toNat<s.c.l.length:=by omega
 have hai:s.at_=(s.at_.toNat:Int):=by omega
 have hxe:s.c.l.getD s.at_.toNat wH=s.c.l[s.at_.toNat]:=by simp[getD,hii]
 have hss:stepS s (n+1)=jw s (dN s s.c.l[s.at_.toNat] (n+1)):=by unfold stepS;rw[he,hxe];rfl
 have hox:=c6 _ (bT hii);have hix:=rP (k:=.i64) hii;have hld:=λ H=>wz s.c.l[s.at_.toNat] (ew (s.c.l.drop (s.at_.toNat+1))) H;rw[hss];generalize s.c.l[s.at_.toNat]=x at *;rw[<-hai]at hix;have M1:cy (((pick H (s.fp p rb cb rv tv)).put n (cl 15 Qf)).put n (cl 15 x.cells)) (n+1) p rb cb rv tv s:=M0.frame (by omega) λ b hb=>by have:=hlt b hb;simp[show ¬b=n by omega]
 obtain⟨f,hop,hf1,hf2,H',n',rv',tv',hcl,hle,M2,hfr,eZ,_⟩:=arB x hox M1;have hto:=acX x hox (n+1);obtain⟨s1,s2,s3,s4⟩:=ve s x (n+1);have ET:=M2.aO;generalize hr:dN s x (n+1)=r at *
 have hat':0<=(if r.1<0 then s.at_+1 else r.1)/\(if r.1<0 then s.at_+1 else r.1)<=(s.c.l.length:Int):=by
  split<;>omega
 have hfin:(jw s r).aO:=⟨by show r.2.c.chk=0;exact ET.ok,ET.eC,ET.cur,ET.w,hst,ET.cs,by rw[show (jw s r).c=s.c from s1];exact hat',λ e=>by
  simp only[jw,Bool.or_eq_false_iff,decide_eq_false_iff_not]at e;rw[show (jw s r).c=s.c from s1];have:=hat'.2;show (if r.1<0 then s.at_+1 else r.1)<_;omega,ET.rows,ET.rl,ET.tl⟩
 refine al9 (n':=n') M (by omega) (by simpa using M.lt.1) (rv':=rv') (tv':=tv') (.of (s:=jw s r) M2.lay.kn M2.lay.kl M2.lay.rv M2.lay.tv) hfin (λ b hb=>by
  rw[hZ]at hb
  rcases eZ b (by rw[hZ];exact hb)with h|h
  ·exact .inl h
  exact .inr (by omega)) (ar.of c12 (by simp[A12]) λ F hF=>?_)
 have gp:=M0.gp;have gq:=M2.gp;simp only[MS.mc]at gp gq;obtain⟨l1,l2,l3⟩:=M.lt;have q1:=M2.lt.1;have tn:=ht.none;have hxi:=aip f hf1 hf2;rw[<-hop]at hxi;generalize pick H (s.fp p rb cb rv tv)=S at *;simp only[Ins.av,Ins.cells,cons_append,nil_append]at hld hcl hix hfr;simp only[Qf]at hcl hfr;simp[A12,hF,gp,he];refine bD.of (bh (P:=pG)) ?_;simp[ab,hF,gp,hix,hld,br,bI,tn,agf];generalize hK:(Tr.put _ n _:Hp)=K0 at hcl hfr ⊢;have k0:K0.get n=cl 15 x.cells:=by rw[<-hK];simp[Ins.cells]
 simp only[Ins.cells]at k0;refine bD.of (ny (l:=[⟨27,[],K0,n+1,.agg E1 12,K0,n+1⟩,⟨f,[.ptr p 0,.agg [iI x.op,iI x.a,iI x.b,iI x.c,iI x.n,iI x.j,iI x.ex,.int .u32 x.id,iI x.lo,iI x.hi,.bool x.iL,.bool x.lJ,iI x.v.kind,iI x.v.num,.str x.v.s] 15],K0,n+1,yY r.1,H',n'⟩]) ?_) ?_
 ·intro y hy;simp only[mem_cons,not_mem_nil,or_false]at hy
  rcases hy with rfl|rfl
  ·exact al4.BL _ _
  exact hcl
 have toe:yY r.1=.aW [iI r.1,iI 0]:=Eq.trans rfl rfl;have h27:(27:Nat)≠f:=by omega
 have hw1:IntKind.i64.wrap ((s.steps:Int)+1)=((s.steps+1:Nat):Int):=by rw[aY _ (by omega) (by omega)];omega
 have hw2:IntKind.i64.wrap (s.at_+1)=s.at_+1:=aY _ (by omega) (by omega);rw[s1,s2,s3,s4]at gq;simp[ab,hF,k0,lk,TJ h27,hxi,age,agd,toe,gq,YR,fH,hw1]
 have tail:∀(F2:Fr) (K2:Hp) (j:Int),j=(if r.1<0 then s.at_+1 else r.1)->F2.get 0=some (.ptr p 0)->F2.get 5=some (iI j)->K2.get p=cl 13 (({r.2 with steps:=s.steps+1}:MS).mc rb cb rv' tv')->(∀b,b≠p->K2.get b=H'.get b) ->
   VC pG (.seq J0 (.seq JZ (.seq C5 .ret))) F2 K2 n' [] (fQ [aB 2,aB 3] λ u K k=>u=.aW [.bool (jw s r).ended,iI 0]/\ep K ((jw s r).told p rb cb rv' tv')/\k<=n'):=by
  intro F2 K2 j hj f0 f5 kp kb;have kq:=kp;simp only[MS.mc]at kq;simp only[s1,s2,s3]at kq;simp[J0,f0,f5,kq,JZ];refine bD.of (bh (P:=pG)) ?_
  have key:∀K3:Hp,K3.get p=cl 13 ((jw s r).mc rb cb rv' tv')->(∀b,b≠p->K3.get b=H'.get b)->ep K3 ((jw s r).told p rb cb rv' tv'):=λ K3 g1 g2 =>
   M2.done (at':=(if r.1<0 then s.at_+1 else r.1)) (st:=s.steps+1) (en:=r.2.ended||decide ((if r.1<0 then s.at_+1 else r.1)=(s.c.l.length:Int))) g1 λ b h1 h2=>g2 b h2
  cases hen:r.2.ended with
  |true =>
   simp[ab,f0,hen,C5];refine⟨by simp[jw,hen],key _ (by simp[jw,MS.mc,hen,s1,s2,s3,<-hj]) λ b hb=>by simp[hb,kb b hb]⟩
  |false =>
   simp[ab,f0,hen,C5];refine⟨by simp[jw,hen,<-hj],key _ (by simp[jw,MS.mc,hen,s1,s2,s3,<-hj]) λ b hb=>by simp[hb,kb b hb]⟩
 by_cases hneg:r.1<0
 ·simp[hneg,YQ,ab,hF];rw[hw2];exact tail _ _ (s.at_+1) (by rw[ak hneg]) (by simp[ab,hF]) (by simp) (by simp[MS.mc,s1,s2,s3]) λ b hb=>by simp[hb]
 simp[hneg];exact tail _ _ r.1 (by rw[ae hneg]) (by simp[ab,hF]) (by simp) (by simp[MS.mc,s1,s2,s3]) λ b hb=>by simp[hb]
end Go.Abs
