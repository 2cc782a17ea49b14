/- A part. -/
import Derived.Test.YtlhafglnokpioaaGreatBt8
noncomputable section
namespace Go.Abs
open List
open Go.Proofs
open Classical
set_option maxRecDepth 100000
variable {α:Type}{C:Cp α}{P:Program}{a b N:Nat}{d e:Nat->α}
def PvI (C:Cp α)(a b j:Nat)(d:Nat->α):Prop:=a<=j/\j<b/\(∀k:Nat,a<k->k<=j->C.c (d k) (d a)<0)/\∀k:Nat,j<k->k<b->0<=C.c (d k) (d a)
def SN (C:Cp α)(a b j:Nat)(d:Nat->α):Prop:=a<=j/\j<b/\(∀k:Nat,a<=k->k<j->C.c (d k) (d j)<0)/\∀k:Nat,j<k->k<b->0<=C.c (d k) (d j)
theorem PvI.out {j:Nat}(h:PvI C a b j d):SN C a b j (swp d j a):=by
 obtain⟨h1,h2,h3,h4⟩:=h;refine⟨h1,h2,λ k g1 g2=>?_,λ k g1 g2=>?_⟩
 ·rw[tu]
  by_cases e:k=a
  ·rw[e,AG];exact h3 j ae (aK _)
  rw[dj ae e];exact h3 k ae ae
 rw[tu,dj ae ae];exact h4 k g1 g2
theorem aeN (ho:C.Ok pG){H0 H:Hp}{n0 n:Nat}(hd:fc C H0 n0 N d H) (hJ:C.J H0) (hn0:C.lo<n0) (hn:n0<=n) (hE:∀k,k<N->C.El (d k)){pv:Nat}(hap:a<=pv) (hpb:pv<b) (hbN:b<=N) (hN:N<1000000):
  ak pG 281 [.sl C.bk 0 N 1,zI (a:Int),zI (b:Int),zI (pv:Int),C.fv] H n (λ w K j=>(∃mid bl,w=.bo [zI ((mid:Nat):Int),.bool bl]/\∃d',PS a b d d'/\SN C a b mid d'/\fc C H0 n0 N d' K)/\j=n):=by
 refine ak.of c281 (by simp[A281]) λ F hF=>?_;have w1:IntKind.i64.wrap ((a:Int)+1)=((a+1:Nat):Int):=by rw[aN _ ae ae];omega
 have w2:IntKind.i64.wrap ((b:Int) - 1)=((b - 1:Nat):Int):=by rw[aN _ ae ae];omega
 have xa:=bJ (bk:=C.bk) (N:=N) (i:=a) ae;have xp:=bJ (bk:=C.bk) (N:=N) (i:=pv) ae;have la:=hd.ld (i:=a) ae;have lp:=hd.ld (i:=pv) ae;obtain⟨y1,y2,s1,s2,hK⟩:=hd.two ho (i:=a) (j:=pv) ae ae;have ps:PS a b d (swp d a pv):=.one ae ae ae ae;simp[A281];refine bC.of (bh (P:=pG)) ?_;simp[ab,hF,xa,xp,la,lp,s1,s2,abx,w1,w2];generalize hK1:Tr.put _ C.bk (some y2)=K1
 replace hK:fc C H0 n0 N (swp d a pv) K1:=by rw[<-hK1];simpa using hK
 clear hK1 s1 s2 la lp xp;generalize swp d a pv=d1 at *;have hE1:=ps.all hbN hE;refine aep ho hK hJ hn0 hn hE1 ae hN (a:=a) (i:=a+1) (j:=b - 1) ⟨by simp[ab,hF],by simp[ab,hF],by simp[ab,hF],ah,ah⟩ ae ae λ F2 i2 hF2 g1 g2 g3 g4=>?_;clear hF F;simp;refine aeo ho hK hJ hn0 hn hE1 ae hN hF2 ae g2 ae λ F3 j2 hF3 g5 g6 g7 g8=>?_;obtain⟨f0,f1,f4,f12,f13⟩:=hF3;clear hF2
 by_cases hgt:j2<i2
 ·have x1:=bJ (bk:=C.bk) (N:=N) (i:=j2) ae;have l1:=hK.ld (i:=j2) ae;have la:=hK.ld (i:=a) ae;obtain⟨y1,y2,s1,s2,hK2⟩:=hK.two ho (i:=j2) (j:=a) ae ae;have pt:PvI C a b j2 d1:=⟨ae,ae,λ k h1 h2=>g3 k ae ae,λ k h1 h2=>g7 k h1 ae⟩;simp[LR,f12,f13,hgt,abu];refine bC.of (bh (P:=pG)) ?_;simp[ab,f0,f1,f13,x1,xa,l1,la,s1,s2,abt];exact⟨swp d1 j2 a,.sw j2 a ps ae ae ae ae,pt.out,by simpa using hK2⟩
 have hc1:=g4 ae;have hc2:=g8 ae;have hne:i2≠j2:=by rintro rfl;omega
 have w3:IntKind.i64.wrap ((i2:Int)+1)=((i2+1:Nat):Int):=by rw[aN _ ae ae];omega
 have w4:IntKind.i64.wrap ((j2:Int) - 1)=((j2 - 1:Nat):Int):=by rw[aN _ ae ae];omega
 have x1:=bJ (bk:=C.bk) (N:=N) (i:=i2) ae;have x2:=bJ (bk:=C.bk) (N:=N) (i:=j2) ae;have l1:=hK.ld (i:=i2) ae;have l2:=hK.ld (i:=j2) ae;obtain⟨y1,y2,s1,s2,hK2⟩:=hK.two ho (i:=i2) (j:=j2) ae ae;simp[LR,f12,f13,hgt,QL];refine bC.of (bh (P:=pG)) ?_;simp[ab,f0,f12,f13,x1,x2,l1,l2,s1,s2,QK,QJ,w3,w4];generalize hK3:Tr.put _ C.bk (some y2)=K3
 replace hK2:fc C H0 n0 N (swp d1 i2 j2) K3:=by rw[<-hK3];simpa using hK2
 have ps2:PS a b d (swp d1 i2 j2):=.sw i2 j2 ps ae ae ae ae
 have hl2:∀k:Nat,a<k->k<i2+1->C.c (swp d1 i2 j2 k) (swp d1 i2 j2 a)<0:=λ k h1 h2=>by
  rw[dj (k:=a) ae ae]
  by_cases e:k=i2
  ·rw[e,tu];exact hc2
  rw[dj e ae];exact g3 k ae ae
 have hr2:∀k:Nat,j2 - 1<k->k<b->0<=C.c (swp d1 i2 j2 k) (swp d1 i2 j2 a):=λ k h1 h2=>by
  rw[dj (k:=a) ae ae]
  by_cases e:k=j2
  ·rw[e,AG];omega
  rw[dj ae e];exact g7 k ae ae
 clear hK3 s1 s2 l1 l2 hK ps hE1 g3 g4 g7 g8 hc1 hc2;generalize swp d1 i2 j2=d2 at *;refine aE.of (λ t F' K n' ms=>∃i j d',t=j+1 - i/\Fs C N a 12 13 i j F'/\a+1<=i/\i<=j+1/\j<b/\n'=n/\ms=[]/\PS a b d d'/\(∀k:Nat,a<k->k<i->C.c (d' k) (d' a)<0)/\(∀k:Nat,j<k->k<b->0<=C.c (d' k) (d' a))/\fc C H0 n0 N d' K) (j2 - 1+1 - (i2+1)) ⟨i2+1,j2 - 1,d2,rfl,⟨by simp[ab,f0],by simp[ab,f1],by simp[ab,f4],ah,ah⟩,ae,ae,ae,rfl,rfl,ps2,hl2,hr2,hK2⟩ ?_;clear f0 f1 f4 f12 f13 hK2 ps2 hl2 hr2 d2 d1;rintro t F1 K n' ms ⟨i,j,d1,rfl,hF1,hi,hij,hjb,rfl,rfl,ps,hl,hr,hK⟩;have hE1:=ps.all hbN hE;simp[adD];refine aen ho hK hJ hn0 hn hE1 ae hN hF1 ae hij λ F2 i2 hF2 g1 g2 g3 g4=>?_;simp;refine aem ho hK hJ hn0 hn hE1 ae hN hF2 ae g2 ae λ F3 j2 hF3 g5 g6 g7 g8=>?_;obtain⟨f0,f1,f4,f12,f13⟩:=hF3
 have hl2:∀k:Nat,a<k->k<i2->C.c (d1 k) (d1 a)<0:=λ k h1 h2=>by
  by_cases h:k<i
  ·exact hl k h1 h
  exact g3 k ae h2
 have hr2:∀k:Nat,j2<k->k<b->0<=C.c (d1 k) (d1 a):=λ k h1 h2=>by
  by_cases h:k<=j
  ·exact g7 k h1 h
  exact hr k ae h2
 by_cases hgt:j2<i2
 ·have x1:=bJ (bk:=C.bk) (N:=N) (i:=j2) ae;have l1:=hK.ld (i:=j2) ae;have la:=hK.ld (i:=a) ae;obtain⟨y1,y2,s1,s2,hK2⟩:=hK.two ho (i:=j2) (j:=a) ae ae;have pt:PvI C a b j2 d1:=⟨ae,ae,λ k h1 h2=>hl2 k h1 ae,hr2⟩;simp[Ek,f12,f13,hgt,QB];refine bC.of (bh (P:=pG)) ?_;simp[ab,f0,f1,f13,x1,xa,l1,la,s1,s2,Qz];exact⟨swp d1 j2 a,.sw j2 a ps ae ae ae ae,pt.out,by simpa using hK2⟩
 have hc1:=g4 ae;have hc2:=g8 ae;have hne:i2≠j2:=by rintro rfl;omega
 have w3:IntKind.i64.wrap ((i2:Int)+1)=((i2+1:Nat):Int):=by rw[aN _ ae ae];omega
 have w4:IntKind.i64.wrap ((j2:Int) - 1)=((j2 - 1:Nat):Int):=by rw[aN _ ae ae];omega
 have x1:=bJ (bk:=C.bk) (N:=N) (i:=i2) ae;have x2:=bJ (bk:=C.bk) (N:=N) (i:=j2) ae;have l1:=hK.ld (i:=i2) ae;have l2:=hK.ld (i:=j2) ae;obtain⟨y1,y2,s1,s2,hK2⟩:=hK.two ho (i:=i2) (j:=j2) ae ae;simp[Ek,f12,f13,hgt,QG];refine bC.of (bh (P:=pG)) ?_;simp[ab,f0,f12,f13,x1,x2,l1,l2,s1,s2,QF,QE,w3,w4];refine⟨j2 - 1+1 - (i2+1),ae,i2+1,j2 - 1,rfl,⟨by simp[ab,f0],by simp[ab,f1],by simp[ab,f4],ah,ah⟩,ae,ae,ae,swp d1 i2 j2,.sw i2 j2 ps ae ae ae ae,λ k h1 h2=>?_,λ k h1 h2=>?_,by simpa using hK2⟩
 ·rw[dj (k:=a) ae ae]
  by_cases e:k=i2
  ·rw[e,tu];exact hc2
  rw[dj e ae];exact hl2 k h1 ae
 rw[dj (k:=a) ae ae]
 by_cases e:k=j2
 ·rw[e,AG];omega
 rw[dj ae e];exact hr2 k ae h2
end Go.Abs
namespace Go.Abs
open List
open Go.Proofs
open Classical
set_option maxRecDepth 100000
variable {α:Type}{C:Cp α}{P:Program}{a b N:Nat}{d e:Nat->α}
theorem ajO (ho:C.Ok pG){H0 H:Hp}{n0 n:Nat}(hd:fc C H0 n0 N d H)(hab:a<b)(hbN:b<=N)(hN:N<1000000):
  ak pG 278 [.sl C.bk 0 N 1,zI (a:Int),zI (b:Int),C.fv] H n (λ w K j=>w=.bo []/\(∃d',PS a b d d'/\fc C H0 n0 N d' K)/\j=n):=by
 refine ak.of c278 (by simp[A278]) λ F hF=>?_;have w2:IntKind.i64.wrap ((b:Int) - 1)=((b - 1:Nat):Int):=by rw[aN _ ae ae];omega
 simp[A278,hF,w2];refine aE.of (λ t F' K n' ms=>∃i j d',t=j - i/\F'.get 0=some (.sl C.bk 0 N 1)/\F'.get 8=some (zI ((i:Nat):Int))/\F'.get 9=some (zI ((j:Nat):Int))/\a<=i/\i<=j+1/\j<b/\n'=n/\ms=[]/\PS a b d d'/\fc C H0 n0 N d' K) (b - 1 - a) ⟨a,b - 1,d,rfl,by simp[hF],ah,ah,ae,ae,ae,rfl,rfl,.refl d,hd⟩ ?_;clear hF;rintro t F1 K n' ms ⟨i,j,d1,rfl,f0,f8,f9,hi,hij,hjb,rfl,rfl,ps,hK⟩
 by_cases hlt:i<j
 ·have w3:IntKind.i64.wrap ((i:Int)+1)=((i+1:Nat):Int):=by rw[aN _ ae ae];omega
  have w4:IntKind.i64.wrap ((j:Int) - 1)=((j - 1:Nat):Int):=by rw[aN _ ae ae];omega
  have x1:=bJ (bk:=C.bk) (N:=N) (i:=i) ae;have x2:=bJ (bk:=C.bk) (N:=N) (i:=j) ae;have l1:=hK.ld (i:=i) ae;have l2:=hK.ld (i:=j) ae;obtain⟨y1,y2,s1,s2,hK2⟩:=hK.two ho (i:=i) (j:=j) ae ae;simp[M_,f8,f9,hlt];refine bC.of (bh (P:=pG)) ?_;simp[ab,f0,f8,f9,x1,x2,l1,l2,s1,s2,abI,abH,w3,w4];exact⟨j - 1 - (i+1),ae,i+1,j - 1,rfl,ah,rfl,ae,ae,ae,swp d1 i j,.sw i j ps ae ae ae ae,by simpa using hK2⟩
 simp[M_,f8,f9,hlt];exact⟨d1,ps,hK⟩
def Cnt (H:Hp)(q n:Nat)(K:Hp)(j:Nat):Prop:=(∃v,K.get q=aR 1 [zI v])/\(∀c,c≠q->K.get c=H.get c)/\j=n
theorem Cnt.trans {H K L:Hp}{q n:Nat}(h:Cnt H q n K n)(k:Cnt K q n L n):Cnt H q n L n:=⟨k.1,λ c hc=>(k.2.1 c hc).trans (h.2.1 c hc),rfl⟩
theorem Cnt.arr {H0 H K:Hp}{q n j n0:Nat}(ho:C.Ok P)(hq:n0<=q)(hn0:C.lo<n0)(h:Cnt H q n K j)(hd:fc C H0 n0 N d H):fc C H0 n0 N d K:=by
 have:=ho.bl;obtain⟨⟨y,h1,h2⟩,h3⟩:=hd;exact⟨⟨y,(h.2.1 _ ae).trans h1,h2⟩,λ b hb hbn=>(h.2.1 b ae).trans (h3 b hb hbn)⟩
theorem akb (ho:C.Ok pG){H0 H:Hp}{n0 n q:Nat}(hd:fc C H0 n0 N d H)(hJ:C.J H0)(hn0:C.lo<n0)(hq:n0<=q)(hqn:q<n)(hE:∀k,k<N->C.El (d k)){v:Int}(hv:H.get q=aR 1 [zI v]){x y:Nat}(hx:x<N)(hy:y<N):
  ak pG 347 [.sl C.bk 0 N 1,zI (x:Int),zI (y:Int),.ptr q 0,C.fv] H n (λ w K j=>(w=.bo [zI (x:Int),zI (y:Int)]∨w=.bo [zI (y:Int),zI (x:Int)])/\Cnt H q n K j):=by
 refine ak.of c347 (by simp[A347]) λ F hF=>?_;have x1:=bJ (bk:=C.bk) (N:=N) (i:=x) hx;have x2:=bJ (bk:=C.bk) (N:=N) (i:=y) hy;have l1:=hd.ld hx;have l2:=hd.ld hy;have hJ':=hd.J ho hJ hn0;simp[A347];refine bC.of (C.iY ho (hE y hy) (hE x hx)) ?_;simp[ab,hF,Cp.fv,x1,x2,l1,l2,Cp.ed hJ' (show C.lo<n by omega)]
 by_cases hc:C.c (d y) (d x)<0
 ·simp[hc,aa6,ab,hF,hv,aa5];exact⟨⟨IntKind.i64.wrap (v+1),ah⟩,λ c hc=>by rw[Tr.get_put,ai hc],rfl⟩
 simp[hc,aa4,ab,hF];exact⟨⟨v,hv⟩,λ _ _=>rfl,rfl⟩
theorem XL (ho:C.Ok pG){H0 H:Hp}{n0 n q:Nat}(hd:fc C H0 n0 N d H)(hJ:C.J H0)(hn0:C.lo<n0)(hq:n0<=q)(hqn:q<n)(hE:∀k,k<N->C.El (d k))(hv:∃v,H.get q=aR 1 [zI v]){lo hi x y z:Nat}(hN:hi<=N)(hx:lo<=x/\x<hi)(hy:lo<=y/\y<hi)(hz:lo<=z/\z<hi):
  ak pG 327 [.sl C.bk 0 N 1,zI (x:Int),zI (y:Int),zI (z:Int),.ptr q 0,C.fv] H n (λ w K j=>(∃p:Nat,w=zI (p:Int)/\lo<=p/\p<hi)/\Cnt H q n K j):=by
 obtain⟨v,hv⟩:=hv
 have key:∀(K:Hp),Cnt H q n K n->∀x y:Nat,(lo<=x/\x<hi)->(lo<=y/\y<hi)->ak pG 347 [.sl C.bk 0 N 1,zI (x:Int),zI (y:Int),.ptr q 0,C.fv] K n (λ w L j=>(∃x' y':Nat,w=.bo [zI (x':Int),zI (y':Int)]/\(lo<=x'/\x'<hi)/\(lo<=y'/\y'<hi))/\j=n/\Cnt H q n L n):=λ K hc x y hx hy=>by
  obtain⟨v,hv⟩:=hc.1;refine(akb ho (hc.arr ho hq hn0 hd) hJ hn0 hq hqn hE hv (x:=x) (y:=y) ae ae).mono λ w L j ⟨h1,h2⟩=>?_;have e:=h2.2.2;subst e;refine⟨?_,rfl,hc.trans h2⟩
  rcases h1 with h1|h1
  ·exact⟨x,y,h1,hx,hy⟩
  exact⟨y,x,h1,hy,hx⟩
 refine ak.of c327 (by simp[A327]) λ F hF=>?_;simp[A327,hF];refine aB.of (key H ⟨⟨v,hv⟩,λ _ _=>rfl,rfl⟩ x y hx hy) λ w K1 j1 ⟨⟨x1,y1,e1,hx1,hy1⟩,ej,h1⟩=>?_;subst e1 ej;simp[aa',hF];refine aB.of (key K1 h1 y1 z hy1 hz) λ w K2 j2 ⟨⟨y2,z2,e2,hy2,hz2⟩,ej,h2⟩=>?_;subst e2 ej;simp[aa_,hF];refine aB.of (key K2 h2 x1 y2 hx1 hy2) λ w K3 j3 ⟨⟨x3,y3,e3,hx3,hy3⟩,ej,h3⟩=>?_;subst e3 ej;simp[aa9];exact⟨hy3,h3⟩
theorem amo (ho:C.Ok pG){H0 H:Hp}{n0 n q:Nat}(hd:fc C H0 n0 N d H)(hJ:C.J H0)(hn0:C.lo<n0)(hq:n0<=q)(hqn:q<n)(hE:∀k,k<N->C.El (d k))(hv:∃v,H.get q=aR 1 [zI v]){lo hi x:Nat}(hN:hi<=N)(hN2:N<1000000)(hx:lo<x/\x+1<hi):
  ak pG 326 [.sl C.bk 0 N 1,zI (x:Int),.ptr q 0,C.fv] H n (λ w K j=>(∃p:Nat,w=zI (p:Int)/\lo<=p/\p<hi)/\Cnt H q n K j):=by
 refine ak.of c326 (by simp[A326]) λ F hF=>?_;have w1:IntKind.i64.wrap ((x:Int) - 1)=((x - 1:Nat):Int):=by rw[aN _ ae ae];omega
 have w2:IntKind.i64.wrap ((x:Int)+1)=((x+1:Nat):Int):=by rw[aN _ ae ae];omega
 simp[A326,hF];rw[w1,w2];refine aB.of (XL ho hd hJ hn0 hq hqn hE hv hN (lo:=lo) (hi:=hi) (x:=x - 1) (y:=x) (z:=x+1) ae ae ae) λ w K1 j1 ⟨⟨p,e1,hp⟩,h1⟩=>?_;subst e1;have e:=h1.2.2;subst e;simp;exact⟨hp,h1⟩
end Go.Abs
namespace Go.Abs
open List
open Go.Proofs
open Classical
set_option maxRecDepth 100000
variable {α:Type}{C:Cp α}{P:Program}{a b N:Nat}{d e:Nat->α}
theorem aeC (l k:Nat)(hk:0<k)(hl:l<2147483648):bS .quo .i64 (l:Int) (↑k:Int)=.val (zI ((l / k:Nat):Int)):=by
 have e1:(l:Int).tdiv (k:Int)=((l / k:Nat):Int):=by rw[Int.tdiv_eq_ediv_of_nonneg ae];rfl
 have e2:l / k<=l:=Nat.div_le_self _ _;generalize l / k=q at *;simp only[bS];rw[ai ae,e1,aN _ ae ae];simp
theorem aj3 (ho:C.Ok pG){H0 H:Hp}{n0 n:Nat}(hd:fc C H0 n0 N d H) (hJ:C.J H0) (hn0:C.lo<n0) (hn:n0<=n) (hE:∀k,k<N->C.El (d k)) (hab:a+12<b) (hbN:b<=N) (hN:N<1000000):
  ak pG 277 [.sl C.bk 0 N 1,zI (a:Int),zI (b:Int),C.fv] H n (λ w K j=>(∃(p:Nat) (h:Int),w=.bo [zI (p:Int),zI h]/\a<=p/\p<b)/\fc C H0 n0 N d K/\n<=j):=by
 refine ak.of c277 (by simp[A277]) λ F hF=>?_;obtain⟨l,hl⟩:∃l,l=b - a:=⟨_,rfl⟩;obtain⟨m,hm⟩:∃m,m=l / 4:=⟨_,rfl⟩;obtain⟨m2,hm2⟩:∃m2,m2=m*2:=⟨_,rfl⟩;obtain⟨m3,hm3⟩:∃m3,m3=m*3:=⟨_,rfl⟩;obtain⟨i,hi⟩:∃i,i=a+m:=⟨_,rfl⟩;obtain⟨j,hj⟩:∃j,j=a+m2:=⟨_,rfl⟩;obtain⟨k,hk⟩:∃k,k=a+m3:=⟨_,rfl⟩;have w0:IntKind.i64.wrap ((b:Int) - (a:Int))=(l:Int):=by rw[aN _ ae ae];omega
 have q0:bS .quo .i64 (l:Int) 4=.val (zI (m:Int)):=by rw[hm];exact aeC l 4 ae ae
 have v1:IntKind.i64.wrap (m:Int)=(m:Int):=by rw[aN _ ae ae]
 have v2:IntKind.i64.wrap ((m:Int)*2)=(m2:Int):=by rw[aN _ ae ae];omega
 have v3:IntKind.i64.wrap ((m:Int)*3)=(m3:Int):=by rw[aN _ ae ae];omega
 have w1:IntKind.i64.wrap ((a:Int)+(m:Int))=(i:Int):=by rw[aN _ ae ae];omega
 have w2:IntKind.i64.wrap ((a:Int)+(m2:Int))=(j:Int):=by rw[aN _ ae ae];omega
 have w3:IntKind.i64.wrap ((a:Int)+(m3:Int))=(k:Int):=by rw[aN _ ae ae];omega
 have h8:(8:Int)<=(l:Int):=ae;simp[A277,hF,w0,q0,v1,w1,v2,w2,v3,w3,h8];generalize hK1:Tr.put H n _=K1;have kn:K1.get n=aR 1 [zI 0]:=by rw[<-hK1];simp
 have kf:∀c,c<n->K1.get c=H.get c:=λ c hc=>by rw[<-hK1,Tr.get_put,ai ae]
 clear hK1
 have hA1:fc C H0 n0 N d K1:=by
  have:=ho.bl;obtain⟨⟨y,h1,h2⟩,h3⟩:=hd;exact⟨⟨y,(kf _ ae).trans h1,h2⟩,λ c hc hcn=>(kf c ae).trans (h3 c hc hcn)⟩
 have c1:Cnt K1 n (n+1) K1 (n+1):=⟨⟨0,kn⟩,λ _ _=>rfl,rfl⟩
 have tail:∀(K:Hp),Cnt K1 n (n+1) K (n+1)->∀x y z:Nat,(a<=x/\x<b)->(a<=y/\y<b)->(a<=z/\z<b)->ak pG 327 [.sl C.bk 0 N 1,zI (x:Int),zI (y:Int),zI (z:Int),.ptr n 0,C.fv] K (n+1) (λ w L j=>(∃p:Nat,w=zI (p:Int)/\a<=p/\p<b)/\j=n+1/\Cnt K1 n (n+1) L (n+1)):=λ K hc x y z hx hy hz=>by
  refine(XL ho (hc.arr ho hn hn0 hA1) hJ hn0 hn ae hE hc.1 hbN (lo:=a) (hi:=b) hx hy hz).mono λ w L j ⟨h1,h2⟩=>?_;have e:=h2.2.2;subst e;exact⟨h1,rfl,hc.trans h2⟩
 have adj:∀(K:Hp),Cnt K1 n (n+1) K (n+1)->∀x:Nat,(a<x/\x+1<b)->ak pG 326 [.sl C.bk 0 N 1,zI (x:Int),.ptr n 0,C.fv] K (n+1) (λ w L j=>(∃p:Nat,w=zI (p:Int)/\a<=p/\p<b)/\j=n+1/\Cnt K1 n (n+1) L (n+1)):=λ K hc x hx=>by
  refine(amo ho (hc.arr ho hn hn0 hA1) hJ hn0 hn ae hE hc.1 hbN hN (lo:=a) (hi:=b) hx).mono λ w L j ⟨h1,h2⟩=>?_;have e:=h2.2.2;subst e;exact⟨h1,rfl,hc.trans h2⟩
 have fin:∀(K:Hp),Cnt K1 n (n+1) K (n+1)->fc C H0 n0 N d K:=λ K hc=>hc.arr ho hn hn0 hA1
 by_cases h50:50<=l
 ·have ale:(50:Int)<=(l:Int):=ae;simp[LV,ale,abK,hF];refine aB.of (adj K1 c1 i ae) λ w K2 j2 ⟨⟨p2,e2,hp2⟩,ej,c2⟩=>?_;subst e2 ej;simp[abJ,hF];refine aB.of (adj K2 c2 j ae) λ w K3 j3 ⟨⟨p3,e3,hp3⟩,ej,c3⟩=>?_;subst e3 ej;simp[QY,hF];refine aB.of (adj K3 c3 k ae) λ w K4 j4 ⟨⟨p4,e4,hp4⟩,ej,c4⟩=>?_;subst e4 ej;simp[Eu,hF];refine aB.of (tail K4 c4 p2 p3 p4 hp2 hp3 hp4) λ w K5 j5 ⟨⟨p5,e5,hp5⟩,ej,c5⟩=>?_;subst e5 ej;obtain⟨v,hv⟩:=c5.1;simp[Et,hv]
  by_cases e0:v=0
  ·simp[oC,e0,Es];exact⟨hp5,fin _ c5⟩
  by_cases e12:v=12
  ·simp[oC,e12,uf,Ep];exact⟨hp5,fin _ c5⟩
  simp[oC,e0,e12,uf,Eo];exact⟨hp5,fin _ c5⟩
 have ale:¬(50:Int)<=(l:Int):=ae;simp[LV,ale,Eu,hF];refine aB.of (tail K1 c1 i j k ae ae ae) λ w K5 j5 ⟨⟨p5,e5,hp5⟩,ej,c5⟩=>?_;subst e5 ej;obtain⟨v,hv⟩:=c5.1;simp[Et,hv]
 by_cases e0:v=0
 ·simp[oC,e0,Es];exact⟨hp5,fin _ c5⟩
 by_cases e12:v=12
 ·simp[oC,e12,uf,Ep];exact⟨hp5,fin _ c5⟩
 simp[oC,e0,e12,uf,Eo];exact⟨hp5,fin _ c5⟩
end Go.Abs
namespace Go.Abs
open List
open Go.Proofs
open Classical
set_option maxRecDepth 100000
variable {α:Type}{C:Cp α}{P:Program}{a b N:Nat}{d e:Nat->α}
def Um:List Nat:=[0,1,2,2,3,3,3,3,4,4,4,4,4,4,4,4,5,5,5,5,5,5,5,5,5,5,5,5,5,5,5,5,6,6,6,6,6,6,6,6,6,6,6,6,6,6,6,6,6,6,6,6,6,6,6,6,6,6,6,6,6,6,6,6,7,7,7,7,7,7,7,7,7,7,7,7,7,7,7,7,7,7,7,7,7,7,7,7,7,7,7,7,7,7,7,7,7,7,7,7,7,7,7,7,7,7,7,7,7,7,7,7,7,7,7,7,7,7,7,7,7,7,7,7,7,7,7,7,8,8,8,8,8,8,8,8,8,8,8,8,8,8,8,8,8,8,8,8,8,8,8,8,8,8,8,8,8,8,8,8,8,8,8,8,8,8,8,8,8,8,8,8,8,8,8,8,8,8,8,8,8,8,8,8,8,8,8,8,8,8,8,8,8,8,8,8,8,8,8,8,8,8,8,8,8,8,8,8,8,8,8,8,8,8,8,8,8,8,8,8,8,8,8,8,8,8,8,8,8,8,8,8,8,8,8,8,8,8,8,8,8,8,8,8,8,8,8,8,8,8,8,8,8,8,8,8]
theorem Dl:∀k:Fin 256,Um.getD k 0<=8/\(k.1=0/\Um.getD k 0=0∨2 ^ Um.getD k 0<=2*k.1):=by decide
theorem OY:Um.length=256:=by decide
theorem XV {k:Nat}(h:k<256):oZ (.str [0,1,2,2,3,3,3,3,4,4,4,4,4,4,4,4,5,5,5,5,5,5,5,5,5,5,5,5,5,5,5,5,6,6,6,6,6,6,6,6,6,6,6,6,6,6,6,6,6,6,6,6,6,6,6,6,6,6,6,6,6,6,6,6,7,7,7,7,7,7,7,7,7,7,7,7,7,7,7,7,7,7,7,7,7,7,7,7,7,7,7,7,7,7,7,7,7,7,7,7,7,7,7,7,7,7,7,7,7,7,7,7,7,7,7,7,7,7,7,7,7,7,7,7,7,7,7,7,8,8,8,8,8,8,8,8,8,8,8,8,8,8,8,8,8,8,8,8,8,8,8,8,8,8,8,8,8,8,8,8,8,8,8,8,8,8,8,8,8,8,8,8,8,8,8,8,8,8,8,8,8,8,8,8,8,8,8,8,8,8,8,8,8,8,8,8,8,8,8,8,8,8,8,8,8,8,8,8,8,8,8,8,8,8,8,8,8,8,8,8,8,8,8,8,8,8,8,8,8,8,8,8,8,8,8,8,8,8,8,8,8,8,8,8,8,8,8,8,8,8,8,8,8,8,8,8]) (.int .u8 (k:Int))=.val (.int .u8 ((Um.getD k 0:Nat):Int)):=by
 show oZ (.str Um) (.int .u8 (Int.ofNat k))=_;simp only[oZ,nK];rw[cX (by rw[OY];exact h)];simp[getD,cX (show k<Um.length by rw[OY];exact h)]
def IZ (x:Nat):Nat:=if x<256 then Um.getD x 0 else 8+Um.getD (x / 256) 0
theorem XW {x:Nat}(h0:0<x)(h:x<65536):IZ x<=16/\2 ^ IZ x<=2*x:=by
 unfold IZ
 split
 ·rename_i h1;have:=Dl ⟨x,h1⟩;simp only at this;omega
 have:=Dl ⟨x / 256,ae⟩;simp only at this;refine⟨ae,?_⟩;rw[Nat.pow_add];omega
def pwB (x:Nat):Nat:=2 ^ IZ x
theorem W3 {x:Nat}(h0:0<x)(h:x<65536):0<pwB x/\pwB x<=2*x:=⟨Nat.two_pow_pos _,(XW h0 h).2⟩
theorem afm {x:Nat}(h:x<65536):aj pG 283 [.int .u64 (x:Int)] (zI (IZ x:Int)):=by
 refine pv c283 λ F hF=>?_;have u8:∀ {k:Nat},k<256->bV .u8 (.int .u64 (k:Int))=.val (.int .u8 (k:Int)):=λ {k} hk=>by rw[dI,AB hk]
 have i8:∀k:Nat,k<=8->bV .i64 (.int .u8 (k:Int))=.val (zI (k:Int)):=λ k hk=>by rw[dI,aN _ ae ae]
 have n1:¬(4294967296:Int)<=(x:Int):=ae;have n2:¬(65536:Int)<=(x:Int):=ae
 by_cases h1:x<256
 ·have n3:¬(256:Int)<=(x:Int):=ae;have b:=(Dl ⟨x,h1⟩).1;have ix:=XV h1;dsimp only at ix;have e:IZ x=Um.getD x 0:=by unfold IZ;rw[aw h1]
  rw[e];simp only at b;generalize Um.getD x 0=v at *;have w:IntKind.i64.wrap (v:Int)=(v:Int):=aN _ ae ae;simp[A283,hF,n1,n2,n3,u8 h1,ix,i8 v b,w];exact fp
 have n3:(256:Int)<=(x:Int):=ae;have h2:x / 256<256:=ae;have b:=(Dl ⟨x / 256,h2⟩).1;have ix:=XV h2;dsimp only at ix;have e:IZ x=8+Um.getD (x / 256) 0:=by unfold IZ;rw[ai h1]
 have s1:eR .shr (.int .u64 (x:Int)) (.int .u64 8)=.val (.int .u64 ((x / 256:Nat):Int)):=by
  rw[qR _ _ _ _ ae]
  congr 2
  show Int.fdiv (x:Int) 256=_;rw[Int.fdiv_eq_ediv_of_nonneg _ ae];omega
 rw[e];simp only at b;generalize Um.getD (x / 256) 0=v at *;generalize x / 256=y at *;have w:IntKind.i64.wrap (8+(v:Int))=8+(v:Int):=aN _ ae ae;simp[A283,hF,n1,n2,n3,s1,u8 h2,ix,i8 v b,w,aN];exact fp
theorem O1 {x:Nat}(h:x<65536):aj pG 221 [.int .u64 (x:Int)] (zI (IZ x:Int)):=by
 refine pv c221 λ F hF=>?_;simp[A221,hF];refine aB.pure (afm h) ?_;simp;exact fp
theorem aj2 {x:Nat}(h0:0<x)(h:x<65536):aj pG 324 [zI (x:Int)] (.int .u64 (pwB x:Int)):=by
 refine pv c324 λ F hF=>?_;have hb:=XW h0 h
 have hs:eR .shl (.int .u64 1) (zI (IZ x:Int))=.val (.int .u64 (pwB x:Int)):=by
  rw[xb _ _ _ _ ae]
  have:min (IZ x:Int).toNat IntKind.u64.bits=IZ x:=by
   show min (IZ x:Int).toNat 64=_;omega
  rw[this,Int.one_mul];have e:((2:Int) ^ IZ x)=(pwB x:Int):=by unfold pwB;push_cast;rfl
  rw[e,pC (by have:=W3 h0 h;omega)]
 simp[A324,hF,Jb x ae];refine aB.pure (O1 h) ?_;simp[hs];exact fp
end Go.Abs
namespace Go.Abs
open List
open Go.Proofs
open Classical
set_option maxRecDepth 100000
variable {α:Type}{C:Cp α}{P:Program}{a b N:Nat}{d e:Nat->α}
theorem Y' (z:BitVec 64):∃r:Nat,IntKind.u64.wrap (z.toNat:Int)=(r:Int)/\r=z.toNat/\r<18446744073709551616:=⟨z.toNat,pC z.isLt,rfl,z.isLt⟩
theorem ajr (x y:Int):∃r:Nat,bS .xor .u64 x y=.val (.int .u64 (r:Int)):=by
 obtain⟨r,h1,_⟩:=Y' (BitVec.ofInt 64 x ^^^ BitVec.ofInt 64 y);refine⟨r,?_⟩;rw[sV];show bw.val (AV.int .u64 (IntKind.u64.wrap ((BitVec.ofInt 64 x ^^^ BitVec.ofInt 64 y).toNat:Int)))=_;rw[h1]
theorem aoD (x:Int)(k:Nat):∃r:Int,eR .shl (.int .u64 x) (.int .u64 (k:Int))=.val (.int .u64 r):=⟨_,xb _ _ _ _ ae⟩
theorem avd (x:Int)(k:Nat):∃r:Int,eR .shr (.int .u64 x) (.int .u64 (k:Int))=.val (.int .u64 r):=⟨_,qR _ _ _ _ ae⟩
theorem afd {H:Hp}{n q:Nat}(_hqn:q<n){v:Int}(hv:H.get q=aR 1 [.int .u64 v]):
  ak pG 325 [.ptr q 0] H n (λ w K j=>(∃r:Nat,w=.int .u64 (r:Int)/\K.get q=aR 1 [.int .u64 (r:Int)])/\(∀c,c≠q->K.get c=H.get c)/\j=n):=by
 refine ak.of c325 (by simp[A325]) λ F hF=>?_;obtain⟨s1,e1⟩:=aoD v 13;obtain⟨r1,x1⟩:=ajr v s1;obtain⟨s2,e2⟩:=avd r1 7;obtain⟨r2,x2⟩:=ajr r1 s2;obtain⟨s3,e3⟩:=aoD r2 17;obtain⟨r3,x3⟩:=ajr r2 s3;rw[show ((13:Nat):Int)=13 from rfl]at e1;rw[show ((7:Nat):Int)=7 from rfl]at e2;rw[show ((17:Nat):Int)=17 from rfl]at e3;simp[A325];refine bC.of (bh (P:=pG)) ?_;simp[ab,hF,hv,e1,x1,abc];refine bC.of (bh (P:=pG)) ?_;simp[ab,hF,e2,x2,abb];refine bC.of (bh (P:=pG)) ?_;simp[ab,hF,e3,x3,aba];exact λ c hc=>by simp[hc]
theorem axy (x:Int){m:Nat}(hm:m<2147483648):∃r:Nat,bS .and .u64 x (m:Int)=.val (.int .u64 (r:Int))/\r<=m:=by
 obtain⟨r,h1,h2,_⟩:=Y' (BitVec.ofInt 64 x &&& BitVec.ofInt 64 (m:Int));refine⟨r,?_,?_⟩
 ·show kY .u64 (IntKind.u64.wrap ((BitVec.ofInt 64 x &&& BitVec.ofInt 64 (m:Int)).toNat:Int))=_;rw[kG,h1]
 rw[h2,BitVec.toNat_and];refine wo Nat.and_le_right ?_;simp;omega
@[simp] theorem anP:bR .and=uQ (bS .and):=Eq.trans rfl rfl
theorem amc (ho:C.Ok pG){H0 H:Hp}{n0 n:Nat}(hd:fc C H0 n0 N d H)(hn0:C.lo<n0)(hn:n0<=n)(hab:a+12<b)(hbN:b<=N)(hN:N<60000):
  ak pG 276 [.sl C.bk 0 N 1,zI (a:Int),zI (b:Int),C.fv] H n (λ w K j=>w=.bo []/\(∃d',PS a b d d'/\fc C H0 n0 N d' K)/\n<=j):=by
 refine ak.of c276 (by simp[A276]) λ F hF=>?_;obtain⟨l,hl⟩:∃l,l=b - a:=⟨_,rfl⟩;obtain⟨m,hm⟩:∃m,m=l / 4:=⟨_,rfl⟩;obtain⟨m2,hm2⟩:∃m2,m2=m*2:=⟨_,rfl⟩;obtain⟨j,hj⟩:∃j,j=a+m2:=⟨_,rfl⟩;have w0:IntKind.i64.wrap ((b:Int) - (a:Int))=(l:Int):=by rw[aN _ ae ae];omega
 have q0:bS .quo .i64 (l:Int) 4=.val (zI (m:Int)):=by rw[hm];exact aeC l 4 ae ae
 have v2:IntKind.i64.wrap ((m:Int)*2)=(m2:Int):=by rw[aN _ ae ae];omega
 have w2:IntKind.i64.wrap ((a:Int)+(m2:Int))=(j:Int):=by rw[aN _ ae ae];omega
 have w3:IntKind.i64.wrap ((j:Int) - 1)=((j - 1:Nat):Int):=by rw[aN _ ae ae];omega
 have w4:IntKind.i64.wrap ((j:Int)+1)=(j:Int)+1:=by rw[aN _ ae ae]
 have h8:(8:Int)<=(l:Int):=ae;obtain⟨hM0,hM⟩:=W3 (x:=l) ae ae;have hp:=aj2 (x:=l) ae ae;generalize pwB l=M at *;have wM:IntKind.u64.wrap ((M:Int) - 1)=((M - 1:Nat):Int):=by rw[show (M:Int) - 1=((M - 1:Nat):Int) by omega];exact pC ae
 simp[A276,hF,w0,h8,Jb l ae];refine aB.pure hp ?_;simp[abM,hF,q0,v2,w2,w3];generalize hK1:Tr.put _ n (some _)=K1;have kn:K1.get n=aR 1 [.int .u64 (l:Int)]:=by rw[<-hK1];simp
 have kf:∀c,c<n->K1.get c=H.get c:=λ c hc=>by rw[<-hK1];simp[show ¬c=n by omega]
 clear hK1;have hbl:=ho.bl
 have hA1:fc C H0 n0 N d K1:=by
  obtain⟨⟨y,h1,h2⟩,h3⟩:=hd;exact⟨⟨y,(kf _ ae).trans h1,h2⟩,λ c hc hcn=>(kf c ae).trans (h3 c hc hcn)⟩
 refine aE.of (λ t F' K n' ms=>∃i d',t=j+2 - i/\F'.get 0=some (.sl C.bk 0 N 1)/\F'.get 1=some (zI (a:Int))/\F'.get 8=some (zI (l:Int))/\F'.get 9=some (.ptr n 0)/\F'.get 10=some (.int .u64 (M:Int))/\F'.get 11=some (zI ((i:Nat):Int))/\a<=i/\i<=j+2/\n'=n+1/\ms=[]/\(∃v:Int,K.get n=aR 1 [.int .u64 v])/\PS a b d d'/\fc C H0 n0 N d' K) (j+2 - (j - 1)) ⟨j - 1,d,rfl,by simp[hF],by simp[hF],ah,ah,ah,ah,ae,ae,rfl,rfl,⟨_,kn⟩,.refl d,hA1⟩ ?_;clear hF kn kf hA1 hd;rintro t F1 K n' ms ⟨i,d1,rfl,f0,f1,f8,f9,f10,f11,hi,hij,rfl,rfl,⟨v,hv⟩,ps,hK⟩
 by_cases hlt:i<j+2
 ·have hle:(i:Int)<=(j:Int)+1:=ae;simp[NA,f11,f1,f8,q0,v2,w2,w4,hle,f9];refine aB.of (afd (n:=n+1) (q:=n) ae hv) λ w K2 j2 ⟨⟨r,e1,hr⟩,h2,ej⟩=>?_;subst e1 ej;obtain⟨o,ho1,ho2⟩:=axy (r:Int) (m:=M - 1) ae
  have hK2:fc C H0 n0 N d1 K2:=by
   obtain⟨⟨y,h1,h3⟩,h4⟩:=hK;exact⟨⟨y,(h2 _ ae).trans h1,h3⟩,λ c hc hcn=>(h2 c ae).trans (h4 c hc hcn)⟩
  have wi:IntKind.i64.wrap ((i:Int)+1)=((i+1:Nat):Int):=by rw[aN _ ae ae];omega
  have x1:=bJ (bk:=C.bk) (N:=N) (i:=i) ae;have l1:=hK2.ld (i:=i) ae;have done:∀x,x<l->∃X,X=a+x/\IntKind.i64.wrap ((a:Int)+(x:Int))=(X:Int)/\cK 1 (.sl C.bk 0 N 1) (zI (X:Int))=.val (.ptr C.bk X)/\cE (.ptr C.bk X) K2=.val (C.av (d1 X)):=λ x hx=>⟨a+x,rfl,by rw[aN _ ae ae];omega,bJ ae,hK2.ld ae⟩
  by_cases hge:l<=o
  ·obtain⟨x,hx⟩:∃x,x=o - l:=⟨_,rfl⟩;have wx:IntKind.i64.wrap ((o:Int) - (l:Int))=(x:Int):=by rw[aN _ ae ae];omega
   obtain⟨X,hX,wX,x2,l2⟩:=done x ae;obtain⟨y1,y2,s1,s2,hK3⟩:=hK2.two ho (i:=i) (j:=X) ae ae;simp[f10,wM,ho1,UA o ae,LX,f8,hge,abL,wx,LW];refine bC.of (bh (P:=pG)) ?_;simp[ab,f0,f1,f11,wX,x1,x2,l1,l2,s1,s2,Ew,wi];refine⟨j+2 - (i+1),ae,i+1,rfl,f8,f9,f10,ah,ae,ae,⟨(r:Int),?_⟩,swp d1 i X,.sw i X ps ae ae ae ae,by simpa using hK3⟩;simpa[show ¬n=C.bk by omega]using hr
  obtain⟨X,hX,wX,x2,l2⟩:=done o ae;obtain⟨y1,y2,s1,s2,hK3⟩:=hK2.two ho (i:=i) (j:=X) ae ae;simp[f10,wM,ho1,UA o ae,LX,f8,hge,LW];refine bC.of (bh (P:=pG)) ?_;simp[ab,f0,f1,f11,wX,x1,x2,l1,l2,s1,s2,Ew,wi];refine⟨j+2 - (i+1),ae,i+1,rfl,f8,f9,f10,ah,ae,ae,⟨(r:Int),?_⟩,swp d1 i X,.sw i X ps ae ae ae ae,by simpa using hK3⟩;simpa[show ¬n=C.bk by omega]using hr
 have hle:¬(i:Int)<=(j:Int)+1:=ae;simp[NA,f11,f1,f8,q0,v2,w2,w4,hle];exact⟨d1,ps,hK⟩
end Go.Abs
namespace Go.Abs
open List
open Go.Proofs
open Classical
set_option maxRecDepth 100000
variable {α:Type}{C:Cp α}{P:Program}{a b N:Nat}{d e:Nat->α}
def HpL (C:Cp α)(f lo hi:Nat)(d:Nat->α):Prop:=∀k,0<k->k<hi->lo<=(k - 1) / 2->C.c (d (f+k)) (d (f+(k - 1) / 2))<=0
def HpX (C:Cp α)(f lo hi x:Nat)(d:Nat->α):Prop:=(∀k,0<k->k<hi->lo<=(k - 1) / 2->(k - 1) / 2≠x->C.c (d (f+k)) (d (f+(k - 1) / 2))<=0)/\∀k,0<k->k<hi->(k - 1) / 2=x->0<x->lo<=(x - 1) / 2->C.c (d (f+k)) (d (f+(x - 1) / 2))<=0
theorem HpX.of {f lo hi:Nat}(h:HpL C f (lo+1) hi d):HpX C f lo hi lo d:=⟨λ k h1 h2 h3 h4=>h k h1 h2 ae,λ k h1 h2 h3 h4 h5=>ae⟩
theorem HpX.leaf {f lo hi x:Nat}(h:HpX C f lo hi x d)(hx:hi<=2*x+1):HpL C f lo hi d:=λ k h1 h2 h3=>h.1 k h1 h2 h3 ae
theorem HpX.fin {f lo hi x g:Nat}(h:HpX C f lo hi x d)(_hg:C.c (d (f+g)) (d (f+x))<=0)(hs:∀k,(k - 1) / 2=x->0<k->k<hi->C.c (d (f+k)) (d (f+x))<=0):HpL C f lo hi d:=λ k h1 h2 h3=>by
 by_cases e:(k - 1) / 2=x
 ·rw[e];exact hs k e h1 h2
 exact h.1 k h1 h2 h3 e
theorem HpX.step {f lo hi x g:Nat}(h:HpX C f lo hi x d) (hlo:lo<=x) (hgx:(g - 1) / 2=x) (hg0:0<g) (hg:g<hi) (hl:C.c (d (f+x)) (d (f+g))<0) (hs:∀k,(k - 1) / 2=x->0<k->k<hi->C.c (d (f+k)) (d (f+g))<=0):HpX C f lo hi g (swp d (f+x) (f+g)):=by
 refine⟨λ k h1 h2 h3 h4=>?_,λ k h1 h2 h3 h4 h5=>?_⟩
 ·by_cases e1:(k - 1) / 2=x
  ·rw[e1,tu]
   by_cases e2:k=g
   ·rw[e2,AG];omega
   rw[dj ae ae];exact hs k e1 h1 h2
  by_cases e2:k=x
  ·subst e2;rw[tu,dj ae ae];exact h.2 g hg0 hg hgx h1 h3
  rw[dj (k:=f+k) ae ae,dj ae ae];exact h.1 k h1 h2 h3 e1
 rw[hgx,tu,dj ae ae];have:=h.1 k h1 h2 ae ae;rw[h3]at this;exact this
def Zy:CT:=(.seq (.seq LG (.cond (aA 58) .ret .skip)) (.seq LF LD))
theorem apN:adC=(.block 1 (.seq zE (.seq (.seq zD (.cond (aA 18) (.exit 0) .skip)) (.seq (.seq Ee (.cond (aA 40) LH .skip)) Zy)))):=rfl
def Ss (C:Cp α)(N hi f x:Nat)(F:Fr):Prop:=F.get 0=some (.sl C.bk 0 N 1)/\F.get 2=some (zI (hi:Int))/\F.get 3=some (zI (f:Int))/\F.get 4=some C.fv/\F.get 10=some (zI (x:Int))
theorem VW {Q:QA}(ho:C.Ok pG){H0 K:Hp}{n0 n:Nat}(hd:fc C H0 n0 N d K)(hJ:C.J H0)(hn0:C.lo<n0)(hn:n0<=n)(hE:∀k,k<N->C.El (d k))(hN:N<1000000){F:Fr}{hi f x g:Nat}(hF:Ss C N hi f x F)(f11:F.get 11=some (zI (g:Int)))(hx:f+x<N)(hg:f+g<N)
  (hr:0<=C.c (d (f+x)) (d (f+g))->∀F',Q .ret F' K n [])(hq:C.c (d (f+x)) (d (f+g))<0->∀F' K',Ss C N hi f g F'->fc C H0 n0 N (swp d (f+x) (f+g)) K'->Q .normal F' K' n []):VC pG Zy F K n [] Q:=by
 obtain⟨f0,f2,f3,f4,f10⟩:=hF;obtain⟨X,hX⟩:∃X,X=f+x:=⟨_,rfl⟩;obtain⟨G,hG⟩:∃G,G=f+g:=⟨_,rfl⟩;rw[<-hX]at hx hr hq;rw[<-hG]at hg hr hq;have wX:IntKind.i64.wrap ((f:Int)+(x:Int))=(X:Int):=by rw[aN _ ae ae];omega
 have wG:IntKind.i64.wrap ((f:Int)+(g:Int))=(G:Int):=by rw[aN _ ae ae];omega
 have x1:=bJ (bk:=C.bk) (N:=N) (i:=X) hx;have x2:=bJ (bk:=C.bk) (N:=N) (i:=G) hg;have l1:=hd.ld hx;have l2:=hd.ld hg;have hJ':=hd.J ho hJ hn0;obtain⟨y1,y2,s1,s2,hK⟩:=hd.two ho (i:=X) (j:=G) hx hg;simp[Zy,LG];refine bC.of (C.iY ho (hE X hx) (hE G hg)) ?_;simp[ab,f0,f3,f4,f10,f11,wX,wG,Cp.fv,x1,x2,l1,l2,Cp.ed hJ' (show C.lo<n by omega)]
 by_cases hc:C.c (d X) (d G)<0
 ·simp[hc,LF];refine bC.of (bh (P:=pG)) ?_;simp[ab,f0,f3,f10,f11,wX,wG,x1,x2,l1,l2,s1,s2,LD];exact hq hc _ _ ⟨by simp[ab,f0],by simp[ab,f2],by simp[ab,f3],by simp[ab,f4],ah⟩ (by simpa using hK)
 simp[hc];exact hr ae _
theorem On (ho:C.Ok pG){H0 H:Hp}{n0 n:Nat}(hd:fc C H0 n0 N d H) (hJ:C.J H0) (hn0:C.lo<n0) (hn:n0<=n) (hE:∀k,k<N->C.El (d k)){lo hi f:Nat}(hlo:lo<N) (hf:f+hi<=N) (hN:N<60000) (hh:HpL C f (lo+1) hi d):
  ak pG 323 [.sl C.bk 0 N 1,zI (lo:Int),zI (hi:Int),zI (f:Int),C.fv] H n (λ w K j=>w=.bo []/\(∃d',PS (f+lo) (f+hi) d d'/\HpL C f lo hi d'/\fc C H0 n0 N d' K)/\j=n):=by
 refine ak.of c323 (by simp[A323]) λ F hF=>?_;simp[A323,hF];refine aE.of (λ t F' K n' ms=>∃x d',t=N - x/\Ss C N hi f x F'/\lo<=x/\x<N/\n'=n/\ms=[]/\PS (f+lo) (f+hi) d d'/\HpX C f lo hi x d'/\fc C H0 n0 N d' K) (N - lo) ⟨lo,d,rfl,⟨by simp[hF],by simp[hF],by simp[hF],by simp[hF],ah⟩,ae,hlo,rfl,rfl,.refl d,.of hh,hd⟩ ?_;clear hF;rintro t F1 K n' ms ⟨x,d1,rfl,⟨f0,f2,f3,f4,f10⟩,hx,hxN,rfl,rfl,ps,hX,hK⟩;have hE1:=ps.all ae hE;obtain⟨g,hg⟩:∃g,g=2*x+1:=⟨_,rfl⟩;have v1:IntKind.i64.wrap (2*(x:Int))=2*(x:Int):=by rw[aN _ ae ae]
 have w1:IntKind.i64.wrap (2*(x:Int)+1)=(g:Int):=by rw[aN _ ae ae];omega
 by_cases hge:hi<=g
 ·rw[apN];simp[zE,f10,v1,w1,zD,f2,hge];exact⟨d1,ps,hX.leaf ae,hK⟩
 have w2 : IntKind.i64.wrap ((g:Int)+1)=((g+1:Nat):Int):=by rw[aN _ ae ae];omega
 obtain⟨g1,hg1⟩:∃g1,g1=g+1:=⟨_,rfl⟩;rw[<-hg1]at w2;obtain⟨G,hG⟩:∃G,G=f+g:=⟨_,rfl⟩;have wG:IntKind.i64.wrap ((f:Int)+(g:Int))=(G:Int):=by rw[aN _ ae ae];omega
 have wG1:IntKind.i64.wrap ((G:Int)+1)=((G+1:Nat):Int):=by rw[aN _ ae ae];omega
 rw[apN]
 by_cases hs:g1<hi
 ·obtain⟨G1,hG1⟩:∃G1,G1=G+1:=⟨_,rfl⟩;rw[<-hG1]at wG1;have x1:=bJ (bk:=C.bk) (N:=N) (i:=G) ae;have x2:=bJ (bk:=C.bk) (N:=N) (i:=G1) ae;have l1:=hK.ld (i:=G) ae;have l2:=hK.ld (i:=G1) ae;have hJ':=hK.J ho hJ hn0;simp[zE,f10,v1,w1,zD,f2,hge,Ee];refine bC.of (C.iY ho (hE1 G ae) (hE1 G1 ae)) ?_;simp[ab,f0,f2,f3,f4,w2,hs,wG,wG1,Cp.fv,x1,x2,l1,l2,Cp.ed hJ' (show C.lo<n' by omega)]
  by_cases hc:C.c (d1 G) (d1 G1)<0
  ·simp[hc,LH,w2,ab];refine VW ho hK hJ hn0 hn hE1 ae (hi:=hi) (f:=f) (x:=x) (g:=g1) ⟨by simp[ab,f0],by simp[ab,f2],by simp[ab,f3],by simp[ab,f4],by simp[ab,f10]⟩ ah ae ae (λ hr F'=>?_) λ hl F' K' hF' hK'=>?_
   ·have h1:C.c (d1 (f+g1)) (d1 (f+x))<=0:=ho.le (hE1 _ ae) (hE1 _ ae) ae;simp;refine⟨d1,ps,hX.fin h1 λ k k1 k2 k3=>?_,hK⟩
    by_cases e:k=g1
    ·rw[e];exact h1
    have e:k=g:=ae;rw[e];refine ho.trans _ (d1 (f+g1)) _ (hE1 _ ae) (hE1 _ ae) (hE1 _ ae) ?_ h1;rw[show f+g=G by omega,show f+g1=G1 by omega];omega
   simp;refine⟨N - g1,ae,g1,rfl,hF',ae,ae,swp d1 (f+x) (f+g1),.sw _ _ ps ae ae ae ae,hX.step hx ae ae hs hl λ k k1 k2 k3=>?_,hK'⟩
   by_cases e:k=g1
   ·rw[e];have:=ho.Iw (d1 (f+g1)) (d1 (f+g1)) (hE1 _ ae) (hE1 _ ae);omega
   have e:k=g:=ae;rw[e,show f+g=G by omega,show f+g1=G1 by omega];omega
  simp[hc];refine VW ho hK hJ hn0 hn hE1 ae (hi:=hi) (f:=f) (x:=x) (g:=g) ⟨by simp[ab,f0],by simp[ab,f2],by simp[ab,f3],by simp[ab,f4],by simp[ab,f10]⟩ (by simp[ab]) ae ae (λ hr F'=>?_) λ hl F' K' hF' hK'=>?_
  ·have h1:C.c (d1 (f+g)) (d1 (f+x))<=0:=ho.le (hE1 _ ae) (hE1 _ ae) ae;simp;refine⟨d1,ps,hX.fin h1 λ k k1 k2 k3=>?_,hK⟩
   by_cases e:k=g
   ·rw[e];exact h1
   have e:k=g1:=ae;rw[e];refine ho.trans _ (d1 (f+g)) _ (hE1 _ ae) (hE1 _ ae) (hE1 _ ae) ?_ h1;rw[show f+g=G by omega,show f+g1=G1 by omega];exact ho.le (hE1 _ ae) (hE1 _ ae) hc
  simp;refine⟨N - g,ae,g,rfl,hF',ae,ae,swp d1 (f+x) (f+g),.sw _ _ ps ae ae ae ae,hX.step hx ae ae ae hl λ k k1 k2 k3=>?_,hK'⟩
  by_cases e:k=g
  ·rw[e];have:=ho.Iw (d1 (f+g)) (d1 (f+g)) (hE1 _ ae) (hE1 _ ae);omega
  have e:k=g1:=ae;rw[e,show f+g=G by omega,show f+g1=G1 by omega];exact ho.le (hE1 _ ae) (hE1 _ ae) hc
 simp[zE,f10,v1,w1,zD,f2,hge,Ee];refine bC.of (bh (P:=pG)) ?_;simp[ab,f2,w2,hs];refine VW ho hK hJ hn0 hn hE1 ae (hi:=hi) (f:=f) (x:=x) (g:=g) ⟨by simp[ab,f0],by simp[ab,f2],by simp[ab,f3],by simp[ab,f4],by simp[ab,f10]⟩ (by simp[ab]) ae ae (λ hr F'=>?_) λ hl F' K' hF' hK'=>?_
 ·have h1:C.c (d1 (f+g)) (d1 (f+x))<=0:=ho.le (hE1 _ ae) (hE1 _ ae) ae;simp;refine⟨d1,ps,hX.fin h1 λ k k1 k2 k3=>?_,hK⟩;have e:k=g:=ae;rw[e];exact h1
 simp;refine⟨N - g,ae,g,rfl,hF',ae,ae,swp d1 (f+x) (f+g),.sw _ _ ps ae ae ae ae,hX.step hx ae ae ae hl λ k k1 k2 k3=>?_,hK'⟩;have e:k=g:=ae;rw[e];have:=ho.Iw (d1 (f+g)) (d1 (f+g)) (hE1 _ ae) (hE1 _ ae);omega
end Go.Abs
namespace Go.Abs
open List
open Go.Proofs
open Classical
set_option maxRecDepth 100000
variable {α:Type}{C:Cp α}{P:Program}{a b N:Nat}{d e:Nat->α}
theorem Cp.Ok.rf (ho:C.Ok P){x:α}(hx:C.El x):C.c x x<=0:=by
 have:=ho.Iw x x hx hx;omega
theorem HpL.root (ho:C.Ok P)(hE:∀k,k<N->C.El (d k)){f t:Nat}(hf:f+t<=N)(h:HpL C f 0 t d):∀k,k<t->C.c (d (f+k)) (d f)<=0:=by
 intro k
 induction k using Nat.strongRecOn with
 |_ k ih =>
  intro hk
  by_cases h0:k=0
  ·subst h0;exact ho.rf (hE _ ae)
  exact ho.trans _ (d (f+(k - 1) / 2)) _ (hE _ ae) (hE _ ae) (hE _ ae) (h k ae hk (Nat.zero_le _)) (ih ((k - 1) / 2) ae ae)
theorem afH (ho:C.Ok pG){H0 H:Hp}{n0 n:Nat}(hd:fc C H0 n0 N d H) (hJ:C.J H0) (hn0:C.lo<n0) (hn:n0<=n) (hE:∀k,k<N->C.El (d k)) (hab:a<b) (hbN:b<=N) (hN:N<60000):
  ak pG 275 [.sl C.bk 0 N 1,zI (a:Int),zI (b:Int),C.fv] H n (λ w K j=>w=.bo []/\(∃d',PS a b d d'/\ji C a b d'/\fc C H0 n0 N d' K)/\j=n):=by
 refine ak.of c275 (by simp[A275]) λ F hF=>?_;obtain⟨L,hL⟩:∃L,L=b - a:=⟨_,rfl⟩;obtain⟨L1,hL1⟩:∃L1,L1=L - 1:=⟨_,rfl⟩;obtain⟨m,hm⟩:∃m,m=L1 / 2:=⟨_,rfl⟩;have w0:IntKind.i64.wrap ((b:Int) - (a:Int))=(L:Int):=by rw[aN _ ae ae];omega
 have w1:IntKind.i64.wrap ((L:Int) - 1)=(L1:Int):=by rw[aN _ ae ae];omega
 have q0:bS .quo .i64 (L1:Int) 2=.val (zI (m:Int)):=by rw[hm];exact aeC L1 2 ae ae
 simp[A275,hF,w0,w1,q0];refine aE.of (λ t F' K n' ms=>∃d',F'.get 0=some (.sl C.bk 0 N 1)/\F'.get 3=some C.fv/\F'.get 8=some (zI (a:Int))/\F'.get 9=some (zI 0)/\F'.get 10=some (zI (L:Int))/\F'.get 11=some (zI ((t:Int) - 1))/\t<=m+1/\n'=n/\ms=[]/\PS a b d d'/\HpL C a t L d'/\fc C H0 n0 N d' K) (m+1) ⟨d,by simp[hF],by simp[hF],ah,ah,ah,ah,aK _,rfl,rfl,.refl d,λ k h1 h2 h3=>ae,hd⟩ ?_;clear hF hd;rintro t F1 K n' ms ⟨d1,f0,f3,f8,f9,f10,f11,ht,rfl,rfl,ps,hp,hK⟩;have hE1:=ps.all hbN hE
 by_cases h0:0<t
 ·obtain⟨i,hi⟩:∃i,i=t - 1:=⟨_,rfl⟩;rw[show (t:Int) - 1=(i:Int) by omega]at f11;have hge:(0:Int)<=(i:Int):=ae;have wi:IntKind.i64.wrap ((i:Int) - 1)=(i:Int) - 1:=by rw[aN _ ae ae]
  simp[NC,f11,f0,f3,f8,f10];refine aB.of (On ho hK hJ hn0 hn hE1 (lo:=i) (hi:=L) (f:=a) ae ae hN (by rw[show i+1=t by omega];exact hp)) λ w K2 j2 ⟨e1,⟨d2,ps2,hp2,hK2⟩,ej⟩=>?_;subst e1 ej;simp[abO,f11,wi];exact⟨i,ae,f0,f3,f8,f9,f10,ah,ae,d2,ps.trans (ps2.wide ae ae),hp2,hK2⟩
 have e0:t=0:=ae;subst e0;rw[show ((0:Nat):Int) - 1 = -1 from rfl]at f11;have wL:IntKind.i64.wrap ((L:Int) - 1)=(L:Int) - 1:=by rw[aN _ ae ae]
 simp[NC,f11,abN,f10,wL];refine aE.of (λ t F' K n2 ms=>∃d',F'.get 0=some (.sl C.bk 0 N 1)/\F'.get 3=some C.fv/\F'.get 8=some (zI (a:Int))/\F'.get 9=some (zI 0)/\F'.get 12=some (zI ((t:Int) - 1))/\t<=L/\n2=n'/\ms=[]/\PS a b d d'/\HpL C a 0 t d'/\(∀p q:Nat,p<q->t<=q->q<L->C.c (d' (a+p)) (d' (a+q))<=0)/\fc C H0 n0 N d' K) L ⟨d1,by simp[f0],by simp[f3],by simp[f8],by simp[f9],ah,aK _,ae,rfl,ps,hp,λ p q h1 h2 h3=>ae,hK⟩ ?_;clear f0 f3 f8 f9 f10 f11 ps hp hK hE1 d1 wL ht;rintro t F1 K n2 ms ⟨d1,f0,f3,f8,f9,f12,ht,rfl,rfl,ps,hp,ht2,hK⟩;have hE1:=ps.all hbN hE
 by_cases h0:0<t
 ·obtain⟨i,hi⟩:∃i,i=t - 1:=⟨_,rfl⟩;rw[show (t:Int) - 1=(i:Int) by omega]at f12;obtain⟨I,hI⟩:∃I,I=a+i:=⟨_,rfl⟩;have hge:(0:Int)<=(i:Int):=ae;have wi:IntKind.i64.wrap ((i:Int) - 1)=(i:Int) - 1:=by rw[aN _ ae ae]
  have wI:IntKind.i64.wrap ((a:Int)+(i:Int))=(I:Int):=by rw[aN _ ae ae];omega
  have x1:=bJ (bk:=C.bk) (N:=N) (i:=a) ae;have x2:=bJ (bk:=C.bk) (N:=N) (i:=I) ae;have l1:=hK.ld (i:=a) ae;have l2:=hK.ld (i:=I) ae;obtain⟨y1,y2,s1,s2,hK2⟩:=hK.two ho (i:=a) (j:=I) ae ae;simp[NB,f12];refine bC.of (bh (P:=pG)) ?_;simp[ab,f0,f8,f12,wI,x1,x2,l1,l2,s1,s2,Q0,f3,f9];generalize hK3:Tr.put _ C.bk (some y2)=K3
  replace hK2:fc C H0 n0 N (swp d1 a I) K3:=by rw[<-hK3];simpa using hK2
  have ps1:PS a b d (swp d1 a I):=.sw a I ps ae ae ae ae;have hE2:=ps1.all hbN hE
  have hh:HpL C a (0+1) i (swp d1 a I):=λ k h1 h2 h3=>by
   rw[dj ae ae,dj ae ae];exact hp k h1 ae ae
  have sft:=On ho hK2 hJ hn0 hn hE2 (lo:=0) (hi:=i) (f:=a) ae ae hN hh;rw[show ((0:Nat):Int)=0 from rfl]at sft;refine aB.of sft λ w K4 j4 ⟨e1,⟨d3,vJ,hp3,hK4⟩,ej⟩=>?_;subst e1 ej;simp[QZ,f0,f3,f8,f9,f12,wi,ab];refine⟨i,ae,rfl,ae,d3,ps1.trans (vJ.wide ae ae),hp3,λ p q h1 h2 h3=>?_,hK4⟩;have hrt:=hp.root ho hE1 ae
  have hpv:p<i->∃p',p'<t/\d3 (a+p)=d1 (a+p'):=λ h=>by
   obtain⟨k',k1,k2,k3⟩:=vJ.val (k:=a+p) ae ae;rw[k3]
   by_cases e:k'=a
   ·rw[e,tu];exact⟨i,ae,by rw[hI]⟩
   rw[dj e ae];exact⟨k' - a,ae,by rw[show a+(k' - a)=k' by omega]⟩
  have hqv:i<q->d3 (a+q)=d1 (a+q):=λ h=>by
   rw[vJ.out ae,dj ae ae]
  have hiv:d3 (a+i)=d1 a:=by
   rw[vJ.out ae,<-hI,AG]
  by_cases e:q=i
  ·obtain⟨p',g1,g2⟩:=hpv ae;rw[e,hiv,g2];exact hrt p' g1
  rw[hqv ae]
  by_cases g:p<i
  ·obtain⟨p',g1,g2⟩:=hpv g;rw[g2];exact ht2 p' q ae ae h3
  by_cases g2:p=i
  ·rw[g2,hiv];exact ht2 0 q ae ae h3
  rw[vJ.out (k:=a+p) ae,dj ae ae];exact ht2 p q h1 ae h3
 have e0:t=0:=ae;subst e0;rw[show ((0:Nat):Int) - 1 = -1 from rfl]at f12;simp[NB,f12];refine⟨d1,ps,λ p q h1 h2 h3=>?_,hK⟩;have:=ht2 (p - a) (q - a) ae ae ae;rw[show a+(p - a)=p by omega,show a+(q - a)=q by omega]at this;exact this
end Go.Abs
namespace Go.Abs
open List
open Go.Proofs
open Classical
set_option maxRecDepth 100000
variable {α:Type}{C:Cp α}{P:Program}{a b N:Nat}{d e:Nat->α}
theorem ji.snoc (ho:C.Ok P)(hE:∀k,k<N->C.El (d k)){i:Nat}(h:ji C a i d)(hi:a<i)(hN:i<N)(hl:¬C.c (d i) (d (i - 1))<0):ji C a (i+1) d:=λ p q h1 h2 h3=>by
 by_cases e:q=i
 ·subst e;have h3:=ho.le (hE (q - 1) ae) (hE q hN) hl
  by_cases e2:p=q - 1
  ·rw[e2];exact h3
  exact ho.trans _ (d (q - 1)) _ (hE _ ae) (hE _ ae) (hE _ hN) (h p (q - 1) h1 ae ae) h3
 exact h p q h1 h2 ae
def Fi (C:Cp α)(N a b i j:Nat)(F:Fr):Prop:=F.get 0=some (.sl C.bk 0 N 1)/\F.get 1=some (zI (a:Int))/\F.get 2=some (zI (b:Int))/\F.get 3=some C.fv/\F.get 9=some (zI (i:Int))/\F.get 10=some (zI (j:Int))
theorem aet {Q:QA}(ho:C.Ok pG){H0 K:Hp}{n0 n:Nat}(hd:fc C H0 n0 N d K)(hJ:C.J H0)(hn0:C.lo<n0)(hn:n0<=n)(hE:∀k,k<N->C.El (d k))(hbN:b<=N)(hN:N<60000){F:Fr}{i j:Nat}(hF:Fi C N a b i j F)(hi:a<i)(hib:i<=b)(hs:ji C a i d)
  (hQ:∀F' i',Fi C N a b i' j F'->i<=i'->i'<=b->ji C a i' d->(i'<b->C.c (d i') (d (i' - 1))<0)->Q (.exit 2) F' K n []):aE F8 pG F K n [] Q:=by
 refine aE.of (λ t F' K' n' ms=>∃i',t=b - i'/\i<=i'/\i'<=b/\Fi C N a b i' j F'/\K'=K/\n'=n/\ms=[]/\ji C a i' d) (b - i) ⟨i,rfl,aK _,hib,hF,rfl,rfl,rfl,hs⟩ ?_;clear hF hs;rintro t F' K' n' ms ⟨i',rfl,h1,h2,⟨f0,f1,f2,f3,f9,f10⟩,rfl,rfl,rfl,hs⟩
 by_cases hlt:i'<b
 ·have w1:IntKind.i64.wrap ((i':Int) - 1)=((i' - 1:Nat):Int):=by rw[aN _ ae ae];omega
  have w2:IntKind.i64.wrap ((i':Int)+1)=((i'+1:Nat):Int):=by rw[aN _ ae ae];omega
  have x1:=bJ (bk:=C.bk) (N:=N) (i:=i') ae;have x2:=bJ (bk:=C.bk) (N:=N) (i:=i' - 1) ae;have l1:=hd.ld (i:=i') ae;have l2:=hd.ld (i:=i' - 1) ae;have hJ':=hd.J ho hJ hn0;have hsn:=hs.snoc ho hE ae ae;have hst:=hQ F' i' ⟨f0,f1,f2,f3,f9,f10⟩ h1 h2 hs;generalize hi1:i' - 1=i1 at *;simp[F8];refine bC.of (C.iY ho (hE i' ae) (hE i1 ae)) ?_;simp[ab,f0,f2,f3,f9,hlt,w1,Cp.fv,x1,x2,l1,l2,Cp.ed hJ' (show C.lo<n' by omega)]
  by_cases hc:C.c (d i') (d i1)<0
  ·simp[hc];refine hQ _ i' ⟨by simp[ab,f0],by simp[ab,f1],by simp[ab,f2],by simp[ab,f3],by simp[ab,f9],by simp[ab,f10]⟩ h1 h2 hs λ _=>by rw[hi1];exact hc
  simp[hc,abG,ab,f9,w2];exact⟨b - (i'+1),ae,i'+1,rfl,ae,ae,⟨by simp[ab,f0],by simp[ab,f1],by simp[ab,f2],by simp[ab,f3],ah,by simp[ab,f10]⟩,hsn hc⟩
 simp[F8];refine bC.of (bh (P:=pG)) ?_;simp[ab,f2,f9,hlt];exact hQ _ i' ⟨by simp[ab,f0],by simp[ab,f1],by simp[ab,f2],by simp[ab,f3],by simp[ab,f9],by simp[ab,f10]⟩ h1 h2 hs λ h=>ar h hlt
theorem aes {Q:QA}(ho:C.Ok pG){H0 K:Hp}{n0 n:Nat}(hd:fc C H0 n0 N d K)(hJ:C.J H0)(hn0:C.lo<n0)(hn:n0<=n)(hE:∀k,k<N->C.El (d k))(hbN:b<=N)(hN:N<60000){F:Fr}{i j:Nat}(hF:Fi C N a b i j F)(f11:F.get 11=some (zI ((i - 1:Nat):Int)))(hi:a<i)(hib:i<b)(hs:zS C a (i - 1) (i - 1) d)(hg:0<a->∀k,a<=k->k<b->C.c (d (a - 1)) (d k)<=0)
  (hQ:∀F' K' d',Fi C N a b i j F'->PS a b d d'->ji C a i d'->fc C H0 n0 N d' K'->Q (.exit 4) F' K' n []):aE FZ pG F K n [] Q:=by
 refine aE.of (λ t F' K' n' ms=>∃d',t<=i - 1/\a<=t/\Fi C N a b i j F'/\F'.get 11=some (zI (t:Int))/\n'=n/\ms=[]/\PS a b d d'/\zS C a (i - 1) t d'/\fc C H0 n0 N d' K') (i - 1) ⟨d,aK _,ae,hF,f11,rfl,rfl,.refl d,hs,hd⟩ ?_;clear hF f11 hs hd;rintro t F' K' n' ms ⟨d1,h1,h2,⟨f0,f1,f2,f3,f9,f10⟩,f11,rfl,rfl,ps,hs,hd⟩;have hE1:=ps.all hbN hE
 have don:(a<t->¬C.c (d1 t) (d1 (t - 1))<0)->ji C a i d1:=λ h=>by
  have:=hs.fin ho hE1 h2 h1 ae h;rw[show i - 1+1=i by omega]at this;exact this
 by_cases h0:1<=t
 ·have h0':(1:Int)<=(t:Int):=ae;have w1:IntKind.i64.wrap ((t:Int) - 1)=((t - 1:Nat):Int):=by rw[aN _ ae ae];omega
  have x1:=bJ (bk:=C.bk) (N:=N) (i:=t) ae;have x2:=bJ (bk:=C.bk) (N:=N) (i:=t - 1) ae;have l1:=hd.ld (i:=t) ae;have l2:=hd.ld (i:=t - 1) ae;obtain⟨y1,y2,s1,s2,hK2⟩:=hd.two ho (i:=t) (j:=t - 1) ae ae;have hJ':=hd.J ho hJ hn0
  have hgd:C.c (d1 t) (d1 (t - 1))<0->a<t:=λ hc=>by
   refine Nat.lt_of_le_of_ne h2 λ e=>?_;subst e;obtain⟨k',k1,k2,k3⟩:=ps.val (k:=a) (aK _) ae;have:=hg ae k' k1 k2;rw[<-k3,<-ps.out (k:=a - 1) ae]at this;have h3:=ho.Iw (d1 a) (d1 (a - 1)) (hE1 _ ae) (hE1 _ ae);omega
  have stp:=λ hc=>hs.step (hgd hc) h1 hc;generalize ht1:t - 1=t1 at *;simp[FZ,f11,h0'];refine bC.of (C.iY ho (hE1 t ae) (hE1 t1 ae)) ?_;simp[ab,f0,f3,f11,w1,Cp.fv,x1,x2,l1,l2,Cp.ed hJ' (show C.lo<n' by omega)]
  by_cases hc:C.c (d1 t) (d1 t1)<0
  ·simp[hc,QU];refine bC.of (bh (P:=pG)) ?_;simp[ab,f0,f11,w1,x1,x2,l1,l2,s1,s2,QS];have:=hgd hc;refine⟨t1,ae,ae,ae,⟨by simp[ab,f0],by simp[ab,f1],by simp[ab,f2],by simp[ab,f3],by simp[ab,f9],by simp[ab,f10]⟩,rfl,swp d1 t t1,.sw t t1 ps ae ae ae ae,stp hc,by simpa using hK2⟩
  simp[hc];exact hQ _ _ d1 ⟨by simp[ab,f0],by simp[ab,f1],by simp[ab,f2],by simp[ab,f3],by simp[ab,f9],by simp[ab,f10]⟩ ps (don λ _=>hc) hd
 have h0':¬(1:Int)<=(t:Int):=ae;simp[FZ,f11,h0'];exact hQ _ _ d1 ⟨by simp[f0],by simp[f1],by simp[f2],by simp[f3],by simp[f9],by simp[f10]⟩ ps (don λ h=>ae) hd
theorem Oq {Q:QA}(ho:C.Ok pG){H0 K:Hp}{n0 n:Nat}(hd:fc C H0 n0 N d K)(hJ:C.J H0)(hn0:C.lo<n0)(hn:n0<=n)(hE:∀k,k<N->C.El (d k))(hbN:b<=N)(hN:N<60000){F:Fr}{i j:Nat}(hF:Fi C N a b i j F)(f12:F.get 12=some (zI ((i+1:Nat):Int)))(hi:a<i)(hib:i<b)(hs:ji C a i d)
  (hQ:∀F' K' d',Fi C N a b i j F'->PS a b d d'->ji C a i d'->fc C H0 n0 N d' K'->Q (.exit 6) F' K' n []):aE FY pG F K n [] Q:=by
 refine aE.of (λ t F' K' n' ms=>∃x d',t=b - x/\i<x/\x<=b/\Fi C N a b i j F'/\F'.get 12=some (zI ((x:Nat):Int))/\n'=n/\ms=[]/\PS a b d d'/\ji C a i d'/\fc C H0 n0 N d' K') (b - (i+1)) ⟨i+1,d,rfl,ae,ae,hF,f12,rfl,rfl,.refl d,hs,hd⟩ ?_;clear hF f12 hs hd;rintro t F' K' n' ms ⟨x,d1,rfl,h1,h2,⟨f0,f1,f2,f3,f9,f10⟩,f12,rfl,rfl,ps,hs,hd⟩;have hE1:=ps.all hbN hE
 by_cases hlt:x<b
 ·have w1:IntKind.i64.wrap ((x:Int) - 1)=((x - 1:Nat):Int):=by rw[aN _ ae ae];omega
  have w2:IntKind.i64.wrap ((x:Int)+1)=((x+1:Nat):Int):=by rw[aN _ ae ae];omega
  have x1:=bJ (bk:=C.bk) (N:=N) (i:=x) ae;have x2:=bJ (bk:=C.bk) (N:=N) (i:=x - 1) ae;have l1:=hd.ld (i:=x) ae;have l2:=hd.ld (i:=x - 1) ae;obtain⟨y1,y2,s1,s2,hK2⟩:=hd.two ho (i:=x) (j:=x - 1) ae ae;have hJ':=hd.J ho hJ hn0;obtain⟨z,hz⟩:∃z,z=x - 1:=⟨_,rfl⟩;rw[<-hz]at w1 x2 l2 s1 s2 hK2;simp[FY,f12,f2,hlt];refine bC.of (C.iY ho (hE1 x ae) (hE1 z ae)) ?_;simp[ab,f0,f3,f12,w1,Cp.fv,x1,x2,l1,l2,Cp.ed hJ' (show C.lo<n' by omega)]
  by_cases hc:C.c (d1 x) (d1 z)<0
  ·simp[hc,QR];refine bC.of (bh (P:=pG)) ?_;simp[ab,f0,f12,w1,w2,x1,x2,l1,l2,s1,s2,QP];refine⟨b - (x+1),ae,x+1,rfl,ae,ae,⟨by simp[ab,f0],by simp[ab,f1],by simp[ab,f2],by simp[ab,f3],by simp[ab,f9],by simp[ab,f10]⟩,ah,swp d1 x z,.sw x z ps ae ae ae ae,λ p q g1 g2 g3=>?_,by simpa using hK2⟩;rw[dj ae ae,dj ae ae];exact hs p q g1 g2 g3
  simp[hc];exact hQ _ _ d1 ⟨by simp[ab,f0],by simp[ab,f1],by simp[ab,f2],by simp[ab,f3],by simp[ab,f9],by simp[ab,f10]⟩ ps hs hd
 simp[FY,f12,f2,hlt];exact hQ _ _ d1 ⟨by simp[f0],by simp[f1],by simp[f2],by simp[f3],by simp[f9],by simp[f10]⟩ ps hs hd
end Go.Abs
namespace Go.Abs
open List
open Go.Proofs
open Classical
set_option maxRecDepth 100000
variable {α:Type}{C:Cp α}{P:Program}{a b N:Nat}{d e:Nat->α}
def Gd (C:Cp α)(a b:Nat)(d:Nat->α):Prop:=0<a->∀k:Nat,a<=k->k<b->C.c (d (a - 1)) (d k)<=0
theorem Gd.ps (h:Gd C a b d)(ps:PS a b d e):Gd C a b e:=λ h0 k h1 h2=>by
 obtain⟨k',g1,g2,g3⟩:=ps.val h1 h2;rw[ps.out (k:=a - 1) ae,g3];exact h h0 k' g1 g2
theorem aj9 (ho:C.Ok pG){H0 H:Hp}{n0 n:Nat}(hd:fc C H0 n0 N d H)(hJ:C.J H0)(hn0:C.lo<n0)(hn:n0<=n)(hE:∀k,k<N->C.El (d k))(hab:a<b)(hbN:b<=N)(hN:N<60000)(hg:Gd C a b d):
  ak pG 279 [.sl C.bk 0 N 1,zI (a:Int),zI (b:Int),C.fv] H n (λ w K j=>(∃bl,w=.bool bl/\∃d',PS a b d d'/\(bl=true->ji C a b d')/\fc C H0 n0 N d' K)/\j=n):=by
 refine ak.of c279 (by simp[A279]) λ F hF=>?_;have w0:IntKind.i64.wrap ((a:Int)+1)=((a+1:Nat):Int):=by rw[aN _ ae ae];omega
 have wl:IntKind.i64.wrap ((b:Int) - (a:Int))=(b:Int) - (a:Int):=by rw[aN _ ae ae]
 simp[A279,hF,w0];refine aE.of (λ t F' K n' ms=>∃i j d',t=5 - j/\j<=5/\Fi C N a b i j F'/\a<i/\i<=b/\n'=n/\ms=[]/\PS a b d d'/\ji C a i d'/\fc C H0 n0 N d' K) 5 ⟨a+1,0,d,rfl,ae,⟨by simp[hF],by simp[hF],by simp[hF],by simp[hF],ah,ah⟩,ae,ae,rfl,rfl,.refl d,λ p q h1 h2 h3=>ae,hd⟩ ?_;clear hF hd;rintro t F1 K n' ms ⟨i,j,d1,rfl,hj,hF1,hi,hib,rfl,rfl,ps,so,hK⟩;have hE1:=ps.all hbN hE;have wj:IntKind.i64.wrap ((j:Int)+1)=((j+1:Nat):Int):=by rw[aN _ ae ae];omega
 have f10:=hF1.2.2.2.2.2
 by_cases h5:j<5
 ·have h5':(j:Int)<5:=ae;simp[M9,f10,h5'];refine aet ho hK hJ hn0 hn hE1 hbN hN (i:=i) (j:=j) (a:=a) (b:=b) (by obtain⟨f0,f1,f2,f3,f9,f10⟩:=hF1;exact⟨by simp[f0],by simp[f1],by simp[f2],by simp[f3],by simp[f9],by simp[f10]⟩) hi hib so λ F2 i2 hF2 g1 g2 VV g3=>?_;clear f10 hF1 so;obtain⟨f0,f1,f2,f3,f9,f10⟩:=hF2
  by_cases hb:i2=b
  ·have hb':(i2:Int)=(b:Int):=ae;simp[Em,f2,f9,hb',abE];exact⟨d1,ps,λ p q h1 h2 h3=>VV p q h1 h2 ae,hK⟩
  have hb':¬(i2:Int)=(b:Int):=ae;have hlt:=g3 ae;have w1:IntKind.i64.wrap ((i2:Int) - 1)=((i2 - 1:Nat):Int):=by rw[aN _ ae ae];omega
  have w2:IntKind.i64.wrap ((i2:Int)+1)=((i2+1:Nat):Int):=by rw[aN _ ae ae];omega
  have w3:IntKind.i64.wrap ((i2:Int) - (a:Int))=(i2:Int) - (a:Int):=by rw[aN _ ae ae]
  have w4:IntKind.i64.wrap ((b:Int) - (i2:Int))=(b:Int) - (i2:Int):=by rw[aN _ ae ae]
  have x1:=bJ (bk:=C.bk) (N:=N) (i:=i2) ae;have x2:=bJ (bk:=C.bk) (N:=N) (i:=i2 - 1) ae;have l1:=hK.ld (i:=i2) ae;have l2:=hK.ld (i:=i2 - 1) ae;obtain⟨y1,y2,s1,s2,hK2⟩:=hK.two ho (i:=i2) (j:=i2 - 1) ae ae;have ps1:PS a b d (swp d1 i2 (i2 - 1)):=.sw i2 (i2 - 1) ps ae ae ae ae
  have ins:zS C a (i2 - 1) (i2 - 1) (swp d1 i2 (i2 - 1)):=λ p q h1 h2 h3 h4=>by
   rw[dj ae ae,dj ae h4];exact VV p q h1 h2 ae
  have tri:i2=a+1->ji C a i2 (swp d1 i2 (i2 - 1)):=λ e p q h1 h2 h3=>ae
  by_cases h50:(b:Int) - (a:Int)<50
  ·simp[Em,f1,f2,f9,hb',LU,wl,h50,abD];exact⟨d1,ps,hK⟩
  simp[Em,f1,f2,f9,hb',LU,wl,h50,QX];refine bC.of (bh (P:=pG)) ?_;simp[ab,f0,f9,w1,x1,x2,l1,l2,s1,s2,QW,f1,w3];generalize hK3:Tr.put _ C.bk (some y2)=K3
  replace hK2:fc C H0 n0 N (swp d1 i2 (i2 - 1)) K3:=by rw[<-hK3];simpa using hK2
  have hE2:=ps1.all hbN hE;have gd:=hg.ps ps1;clear hK3 s1 s2 l1 l2 hK;generalize swp d1 i2 (i2 - 1)=d2 at *
  by_cases h2l:2<=(i2:Int) - (a:Int)
  ·simp[h2l,QV,f9,ab,w1];refine aes ho hK2 hJ hn0 hn hE2 hbN hN (i:=i2) (j:=j) (a:=a) (b:=b) ⟨by simp[ab,f0],by simp[ab,f1],by simp[ab,f2],by simp[ab,f3],by simp[ab,f9],by simp[ab,f10]⟩ ah ae ae ins gd λ F3 K4 d3 hF3 vJ so3 hK4=>?_;clear f0 f1 f2 f3 f9 f10;obtain⟨f0,f1,f2,f3,f9,f10⟩:=hF3;have ps4:=ps1.trans vJ;have hE3:=ps4.all hbN hE
   by_cases h2r:2<=(b:Int) - (i2:Int)
   ·simp[ue,f2,f9,w4,h2r,En,w2];refine Oq ho hK4 hJ hn0 hn hE3 hbN hN (i:=i2) (j:=j) (a:=a) (b:=b) ⟨by simp[f0],by simp[f1],by simp[f2],by simp[f3],by simp[f9],by simp[f10]⟩ ah ae ae so3 λ F4 K5 d4 HC ps5 so4 hK5=>?_;obtain⟨f0,f1,f2,f3,f9,f10⟩:=HC;simp[ud,f10,wj];exact⟨5 - (j+1),ae,i2,j+1,rfl,ae,⟨by simp[f0],by simp[f1],by simp[f2],by simp[f3],by simp[f9],ah⟩,ae,ae,d4,ps4.trans ps5,so4,hK5⟩
   simp[ue,f2,f9,w4,h2r,ud,f10,wj];exact⟨5 - (j+1),ae,i2,j+1,rfl,ae,⟨by simp[f0],by simp[f1],by simp[f2],by simp[f3],by simp[f9],ah⟩,ae,ae,d3,ps4,so3,hK4⟩
  have so3:=tri ae
  by_cases h2r:2<=(b:Int) - (i2:Int)
  ·simp[h2l,ue,f2,f9,w4,h2r,En,w2,ab];refine Oq ho hK2 hJ hn0 hn hE2 hbN hN (i:=i2) (j:=j) (a:=a) (b:=b) ⟨by simp[ab,f0],by simp[ab,f1],by simp[ab,f2],by simp[ab,f3],by simp[ab,f9],by simp[ab,f10]⟩ ah ae ae so3 λ F4 K5 d4 HC ps5 so4 hK5=>?_;clear f0 f1 f2 f3 f9 f10;obtain⟨f0,f1,f2,f3,f9,f10⟩:=HC;simp[ud,f10,wj];exact⟨5 - (j+1),ae,i2,j+1,rfl,ae,⟨by simp[f0],by simp[f1],by simp[f2],by simp[f3],by simp[f9],ah⟩,ae,ae,d4,ps1.trans ps5,so4,hK5⟩
  simp[h2l,ue,f2,f9,w4,h2r,ud,f10,wj,ab];exact⟨5 - (j+1),ae,i2,j+1,rfl,ae,⟨by simp[ab,f0],by simp[ab,f1],by simp[ab,f2],by simp[ab,f3],by simp[ab,f9],ah⟩,ae,ae,d2,ps1,so3,hK2⟩
 have h5':¬(j:Int)<5:=ae;simp[M9,f10,h5',QO];exact⟨d1,ps,hK⟩
end Go.Abs
namespace Go.Abs
open List
open Go.Proofs
open Classical
set_option maxRecDepth 100000
variable {α:Type}{C:Cp α}{P:Program}{a b N:Nat}{d e:Nat->α}{x y:Nat}
def Out (C:Cp α)(a b x y:Nat)(d:Nat->α):Prop:=∀p q,a<=p->p<q->q<b->(p<x∨y<=q)->C.c (d p) (d q)<=0
theorem Out.ps (h:Out C a b x y d)(ps:PS x y d e)(hax:a<=x)(hyb:y<=b):Out C a b x y e:=λ p q h1 h2 h3 h4=>by
 by_cases hp:p<x∨y<=p
 ·rw[ps.out hp]
  by_cases hq:q<x∨y<=q
  ·rw[ps.out hq];exact h p q h1 h2 h3 h4
  obtain⟨k,g1,g2,g3⟩:=ps.val (k:=q) ae ae;rw[g3];exact h p k h1 ae ae ae
 obtain⟨k,g1,g2,g3⟩:=ps.val (k:=p) ae ae;rw[g3,ps.out (k:=q) ae];exact h k q ae ae h3 ae
theorem Out.fin (h:Out C a b x y d)(so:ji C x y d):ji C a b d:=λ p q h1 h2 h3=>by
 by_cases e:p<x∨y<=q
 ·exact h p q h1 h2 h3 e
 exact so p q ae h2 ae
theorem Out.gd (h:Out C a b x y d)(hg:Gd C a b d)(hax:a<=x)(hyb:y<=b):Gd C x y d:=λ h0 k h1 h2=>by
 by_cases e:x=a
 ·subst e;exact hg h0 k h1 ae
 exact h (x - 1) k ae ae ae ae
theorem Gd.sub {x' y':Nat}(h:Gd C x y d)(hx:x'=x)(hy:y'<=y):Gd C x' y' d:=by
 subst hx;exact λ h0 k h1 h2=>h h0 k h1 ae
theorem Out.eq (ho:C.Ok P) (hE:∀k,k<N->C.El (d k)) (hbN:b<=N) (h:Out C a b x y d) (_hax:a<=x) (_hyb:y<=b){m:Nat}(_hm:x<m) (_hmy:m<=y) (hg:Gd C x y d) (h0:0<x) (hp:C.c (d x) (d (x - 1))<=0) (hl:∀k:Nat,x<k->k<m->0<=C.c (d x) (d k)):Out C a b m y d:=λ p q h1 h2 h3 h4=>by
 by_cases e:p<x∨y<=q
 ·exact h p q h1 h2 h3 e
 have g1:C.c (d p) (d x)<=0:=by
  by_cases e2:p=x
  ·rw[e2];exact ho.rf (hE _ ae)
  refine ho.le (hE _ ae) (hE _ ae) ?_;have:=hl p ae ae;omega
 refine ho.trans _ (d x) _ (hE _ ae) (hE _ ae) (hE _ ae) g1 ?_;exact ho.trans _ (d (x - 1)) _ (hE _ ae) (hE _ ae) (hE _ ae) hp (hg h0 q ae ae)
theorem SN.left {m:Nat}(h:SN C x y m d)(ps:PS x m d e):SN C x y m e:=by
 obtain⟨h1,h2,h3,h4⟩:=h;refine⟨h1,h2,λ k g1 g2=>?_,λ k g1 g2=>?_⟩
 ·obtain⟨k',k1,k2,k3⟩:=ps.val g1 g2;rw[k3,ps.out (k:=m) ae];exact h3 k' k1 k2
 rw[ps.out (k:=k) ae,ps.out (k:=m) ae];exact h4 k g1 g2
theorem SN.right {m:Nat}(h:SN C x y m d)(ps:PS (m+1) y d e):SN C x y m e:=by
 obtain⟨h1,h2,h3,h4⟩:=h;refine⟨h1,h2,λ k g1 g2=>?_,λ k g1 g2=>?_⟩
 ·rw[ps.out (k:=k) ae,ps.out (k:=m) ae];exact h3 k g1 g2
 obtain⟨k',k1,k2,k3⟩:=ps.val (k:=k) ae g2;rw[k3,ps.out (k:=m) ae];exact h4 k' ae k2
theorem SN.le (ho:C.Ok P)(hE:∀k,k<N->C.El (d k)){m:Nat}(Hw:y<=N)(h:SN C x y m d):(∀p,x<=p->p<m->C.c (d p) (d m)<=0)/\(∀q,m<q->q<y->C.c (d m) (d q)<=0)/\∀p q,x<=p->p<m->m<q->q<y->C.c (d p) (d q)<=0:=by
 obtain⟨h1,h2,h3,h4⟩:=h;have k1:∀p,x<=p->p<m->C.c (d p) (d m)<=0:=λ p g1 g2=>by have:=h3 p g1 g2;omega
 have k2:∀q,m<q->q<y->C.c (d m) (d q)<=0:=λ q g1 g2=>ho.le (hE _ ae) (hE _ ae) (by have:=h4 q g1 g2;omega);exact⟨k1,k2,λ p q g1 g2 g3 g4=>ho.trans _ (d m) _ (hE _ ae) (hE _ ae) (hE _ ae) (k1 p g1 g2) (k2 q g3 g4)⟩
theorem Out.left (ho:C.Ok P)(hE:∀k,k<N->C.El (d k)){m:Nat}(Hw:y<=N)(h:Out C a b x y d)(pt:SN C x y m d)(so:ji C x m d):Out C a b (m+1) y d:=λ p q h1 h2 h3 h4=>by
 obtain⟨k1,k2,k3⟩:=pt.le ho hE Hw
 by_cases e:p<x∨y<=q
 ·exact h p q h1 h2 h3 e
 by_cases e1:p<m
 ·rcases Nat.lt_trichotomy q m with g|g|g
  ·exact so p q ae h2 g
  ·rw[g];exact k1 p ae e1
  exact k3 p q ae e1 g ae
 have:p=m:=ae;rw[this];exact k2 q ae ae
theorem Out.right (ho:C.Ok P)(hE:∀k,k<N->C.El (d k)){m:Nat}(Hw:y<=N)(h:Out C a b x y d)(pt:SN C x y m d)(so:ji C (m+1) y d):Out C a b x m d:=λ p q h1 h2 h3 h4=>by
 obtain⟨k1,k2,k3⟩:=pt.le ho hE Hw
 by_cases e:p<x∨y<=q
 ·exact h p q h1 h2 h3 e
 rcases Nat.lt_trichotomy p m with g|g|g
 ·by_cases e1:q=m
  ·rw[e1];exact k1 p ae g
  exact k3 p q ae g ae ae
 ·rw[g];exact k2 q ae ae
 exact so p q ae h2 ae
end Go.Abs
