/- A part. -/
import Derived.Test.YtlhafglnokpioaaGreatBt8
noncomputable section
namespace Go.Abs
open List
open Go.Proofs
open Classical
set_option maxRecDepth 100000
variable {α:Type}{C:Cp α}{P:Program}{a b N:Nat}{d e:Nat->α}
theorem du {i j k:Nat}(h1:k≠i)(h2:k≠j):swp d i j k=d k:=by unfold swp;rw[ak h2,ak h1]
@[simp] theorem AP {i j:Nat}:swp d i j j=d i:=by unfold swp;rw[ay rfl]
@[simp] theorem s8 {i j:Nat}:swp d i j i=d j:=by
 unfold swp
 split
 ·rename_i h;rw[h]
 simp
theorem ae1 (ho:C.Ok pG){H0 H:Hp}{n0 n:Nat}(hd:eW C H0 n0 N d H)(hJ:C.J H0)(hn0:C.lo<n0)(hn:n0<=n)(hE:∀k,k<N->C.El (d k)){pv:Nat}(hap:a<=pv)(hpb:pv<b)(hbN:b<=N)(hN:N<1000000):
  ao pG 280 [.sl C.bk 0 N 1,zI (a:Int),zI (b:Int),zI (pv:Int),C.fv] H n (λ w K j=>(∃(mid:Nat) (d':Nat->α),w=zI (mid:Int)/\a<mid/\mid<=b/\PS a b d d'/\d' a=d pv/\(∀k:Nat,a<k->k<mid->0<=C.c (d' a) (d' k))/\(∀k:Nat,mid<=k->k<b->C.c (d' a) (d' k)<0)/\eW C H0 n0 N d' K)/\j=n):=by
 refine ao.of c280 (by simp[A280]) λ F hF=>?_;have w1:IntKind.i64.wrap ((a:Int)+1)=((a+1:Nat):Int):=by rw[aR _ ah ah];omega
 have w2:IntKind.i64.wrap ((b:Int) - 1)=((b - 1:Nat):Int):=by rw[aR _ ah ah];omega
 have xa:=bK (bk:=C.bk) (N:=N) (i:=a) ah;have xp:=bK (bk:=C.bk) (N:=N) (i:=pv) ah;have la:=hd.ld (i:=a) ah;have lp:=hd.ld (i:=pv) ah;obtain⟨y1,y2,s1,s2,hK⟩:=hd.two ho (i:=a) (j:=pv) ah ah;have ps:PS a b d (swp d a pv):=.one ah ah ah ah;have hpv:swp d a pv a=d pv:=ai;simp[A280];refine bF.of (bq (P:=pG)) ?_;simp[ae,hF,xa,xp,la,lp,s1,s2,abU,w1,w2];generalize hK1:Tr.put _ C.bk (some y2)=K1
 replace hK:eW C H0 n0 N (swp d a pv) K1:=by rw[<-hK1];simpa using hK
 clear hK1 s1 s2 la lp xp;generalize swp d a pv=d1 at *;refine aF.of (λ t F' K n' ms=>∃i j d',t=j+1 - i/\Fs C N a 11 12 i j F'/\a+1<=i/\i<=j+1/\j<b/\n'=n/\ms=[]/\PS a b d d'/\d' a=d pv/\(∀k:Nat,a<k->k<i->0<=C.c (d' a) (d' k))/\(∀k:Nat,j<k->k<b->C.c (d' a) (d' k)<0)/\eW C H0 n0 N d' K) (b - 1+1 - (a+1)) ⟨a+1,b - 1,d1,rfl,⟨by simp[ae,hF],by simp[ae,hF],by simp[ae,hF],ai,ai⟩,ah,ah,ah,rfl,rfl,ps,hpv,λ k h1 h2=>ah,λ k h1 h2=>ah,hK⟩ ?_;clear hF ps hpv hK d1;rintro t F1 K n' ms ⟨i,j,d1,rfl,hF1,hi,hij,hjb,rfl,rfl,ps,hpv,hl,hr,hK⟩;have hE1:=ps.all hbN hE;simp[adV];refine aeG ho hK hJ hn0 hn hE1 ah hN hF1 ah hij λ F2 i2 hF2 g1 g2 g3 g4=>?_;simp;refine aeF ho hK hJ hn0 hn hE1 ah hN hF2 ah g2 ah λ F3 j2 hF3 g5 g6 g7 g8=>?_;obtain⟨f0,f1,f4,f11,f12⟩:=hF3
 have hl2:∀k,a<k->k<i2->0<=C.c (d1 a) (d1 k):=λ k h1 h2=>by
  by_cases h:k<i
  ·exact hl k h1 h
  exact g3 k ah h2
 have hr2:∀k,j2<k->k<b->C.c (d1 a) (d1 k)<0:=λ k h1 h2=>by
  by_cases h:k<=j
  ·exact g7 k h1 h
  exact hr k ah h2
 by_cases hgt:j2<i2
 ·simp[MK,f11,f12,hgt,Q7];exact⟨ah,ah,d1,ps,hpv,hl2,λ k h1 h2=>hr2 k ah h2,hK⟩
 have hc1:=g4 ah;have hc2:=g8 ah;have hne:i2≠j2:=by rintro rfl;omega
 have w3:IntKind.i64.wrap ((i2:Int)+1)=((i2+1:Nat):Int):=by rw[aR _ ah ah];omega
 have w4:IntKind.i64.wrap ((j2:Int) - 1)=((j2 - 1:Nat):Int):=by rw[aR _ ah ah];omega
 have x1:=bK (bk:=C.bk) (N:=N) (i:=i2) ah;have x2:=bK (bk:=C.bk) (N:=N) (i:=j2) ah;have l1:=hK.ld (i:=i2) ah;have l2:=hK.ld (i:=j2) ah;obtain⟨y1,y2,s1,s2,hK2⟩:=hK.two ho (i:=i2) (j:=j2) ah ah;simp[MK,f11,f12,hgt,abR];refine bF.of (bq (P:=pG)) ?_;simp[ae,f0,f11,f12,x1,x2,l1,l2,s1,s2,abQ,Q8,w3,w4];refine⟨j2 - 1+1 - (i2+1),ah,i2+1,j2 - 1,rfl,⟨by simp[ae,f0],by simp[ae,f1],by simp[ae,f4],ai,ai⟩,ah,ah,ah,swp d1 i2 j2,.sw i2 j2 ps ah ah ah ah,(du ah ah).trans hpv,λ k h1 h2=>?_,λ k h1 h2=>?_,by simpa using hK2⟩
 ·rw[du (k:=a) ah ah]
  by_cases e:k=i2
  ·rw[e,s8];exact hc2
  rw[du e ah];exact hl2 k h1 ah
 rw[du (k:=a) ah ah]
 by_cases e:k=j2
 ·rw[e,AP];exact hc1
 rw[du ah e];exact hr2 k ah h2
end Go.Abs
namespace Go.Abs
open List
open Go.Proofs
open Classical
set_option maxRecDepth 100000
variable {α:Type}{C:Cp α}{P:Program}{a b N:Nat}{d e:Nat->α}
def PvI (C:Cp α)(a b j:Nat)(d:Nat->α):Prop:=a<=j/\j<b/\(∀k:Nat,a<k->k<=j->C.c (d k) (d a)<0)/\∀k:Nat,j<k->k<b->0<=C.c (d k) (d a)
def Tm (C:Cp α)(a b j:Nat)(d:Nat->α):Prop:=a<=j/\j<b/\(∀k:Nat,a<=k->k<j->C.c (d k) (d j)<0)/\∀k:Nat,j<k->k<b->0<=C.c (d k) (d j)
theorem PvI.out {j:Nat}(h:PvI C a b j d):Tm C a b j (swp d j a):=by
 obtain⟨h1,h2,h3,h4⟩:=h;refine⟨h1,h2,λ k g1 g2=>?_,λ k g1 g2=>?_⟩
 ·rw[s8]
  by_cases e:k=a
  ·rw[e,AP];exact h3 j ah (aL _)
  rw[du ah e];exact h3 k ah ah
 rw[s8,du ah ah];exact h4 k g1 g2
theorem ae0 (ho:C.Ok pG){H0 H:Hp}{n0 n:Nat}(hd:eW C H0 n0 N d H) (hJ:C.J H0) (hn0:C.lo<n0) (hn:n0<=n) (hE:∀k,k<N->C.El (d k)){pv:Nat}(hap:a<=pv) (hpb:pv<b) (hbN:b<=N) (hN:N<1000000):
  ao pG 281 [.sl C.bk 0 N 1,zI (a:Int),zI (b:Int),zI (pv:Int),C.fv] H n (λ w K j=>(∃mid bl,w=.br [zI ((mid:Nat):Int),.bool bl]/\∃d',PS a b d d'/\Tm C a b mid d'/\eW C H0 n0 N d' K)/\j=n):=by
 refine ao.of c281 (by simp[A281]) λ F hF=>?_;have w1:IntKind.i64.wrap ((a:Int)+1)=((a+1:Nat):Int):=by rw[aR _ ah ah];omega
 have w2:IntKind.i64.wrap ((b:Int) - 1)=((b - 1:Nat):Int):=by rw[aR _ ah ah];omega
 have xa:=bK (bk:=C.bk) (N:=N) (i:=a) ah;have xp:=bK (bk:=C.bk) (N:=N) (i:=pv) ah;have la:=hd.ld (i:=a) ah;have lp:=hd.ld (i:=pv) ah;obtain⟨y1,y2,s1,s2,hK⟩:=hd.two ho (i:=a) (j:=pv) ah ah;have ps:PS a b d (swp d a pv):=.one ah ah ah ah;simp[A281];refine bF.of (bq (P:=pG)) ?_;simp[ae,hF,xa,xp,la,lp,s1,s2,abP,w1,w2];generalize hK1:Tr.put _ C.bk (some y2)=K1
 replace hK:eW C H0 n0 N (swp d a pv) K1:=by rw[<-hK1];simpa using hK
 clear hK1 s1 s2 la lp xp;generalize swp d a pv=d1 at *;have hE1:=ps.all hbN hE;refine aeE ho hK hJ hn0 hn hE1 ah hN (a:=a) (i:=a+1) (j:=b - 1) ⟨by simp[ae,hF],by simp[ae,hF],by simp[ae,hF],ai,ai⟩ ah ah λ F2 i2 hF2 g1 g2 g3 g4=>?_;clear hF F;simp;refine aeD ho hK hJ hn0 hn hE1 ah hN hF2 ah g2 ah λ F3 j2 hF3 g5 g6 g7 g8=>?_;obtain⟨f0,f1,f4,f12,f13⟩:=hF3;clear hF2
 by_cases hgt:j2<i2
 ·have x1:=bK (bk:=C.bk) (N:=N) (i:=j2) ah;have l1:=hK.ld (i:=j2) ah;have la:=hK.ld (i:=a) ah;obtain⟨y1,y2,s1,s2,hK2⟩:=hK.two ho (i:=j2) (j:=a) ah ah;have pt:PvI C a b j2 d1:=⟨ah,ah,λ k h1 h2=>g3 k ah ah,λ k h1 h2=>g7 k h1 ah⟩;simp[MJ,f12,f13,hgt,abM];refine bF.of (bq (P:=pG)) ?_;simp[ae,f0,f1,f13,x1,xa,l1,la,s1,s2,abL];exact⟨swp d1 j2 a,.sw j2 a ps ah ah ah ah,pt.out,by simpa using hK2⟩
 have hc1:=g4 ah;have hc2:=g8 ah;have hne:i2≠j2:=by rintro rfl;omega
 have w3:IntKind.i64.wrap ((i2:Int)+1)=((i2+1:Nat):Int):=by rw[aR _ ah ah];omega
 have w4:IntKind.i64.wrap ((j2:Int) - 1)=((j2 - 1:Nat):Int):=by rw[aR _ ah ah];omega
 have x1:=bK (bk:=C.bk) (N:=N) (i:=i2) ah;have x2:=bK (bk:=C.bk) (N:=N) (i:=j2) ah;have l1:=hK.ld (i:=i2) ah;have l2:=hK.ld (i:=j2) ah;obtain⟨y1,y2,s1,s2,hK2⟩:=hK.two ho (i:=i2) (j:=j2) ah ah;simp[MJ,f12,f13,hgt,Q6];refine bF.of (bq (P:=pG)) ?_;simp[ae,f0,f12,f13,x1,x2,l1,l2,s1,s2,Q5,Q4,w3,w4];generalize hK3:Tr.put _ C.bk (some y2)=K3
 replace hK2:eW C H0 n0 N (swp d1 i2 j2) K3:=by rw[<-hK3];simpa using hK2
 have ps2:PS a b d (swp d1 i2 j2):=.sw i2 j2 ps ah ah ah ah
 have hl2:∀k:Nat,a<k->k<i2+1->C.c (swp d1 i2 j2 k) (swp d1 i2 j2 a)<0:=λ k h1 h2=>by
  rw[du (k:=a) ah ah]
  by_cases e:k=i2
  ·rw[e,s8];exact hc2
  rw[du e ah];exact g3 k ah ah
 have hr2:∀k:Nat,j2 - 1<k->k<b->0<=C.c (swp d1 i2 j2 k) (swp d1 i2 j2 a):=λ k h1 h2=>by
  rw[du (k:=a) ah ah]
  by_cases e:k=j2
  ·rw[e,AP];omega
  rw[du ah e];exact g7 k ah ah
 clear hK3 s1 s2 l1 l2 hK ps hE1 g3 g4 g7 g8 hc1 hc2;generalize swp d1 i2 j2=d2 at *;refine aF.of (λ t F' K n' ms=>∃i j d',t=j+1 - i/\Fs C N a 12 13 i j F'/\a+1<=i/\i<=j+1/\j<b/\n'=n/\ms=[]/\PS a b d d'/\(∀k:Nat,a<k->k<i->C.c (d' k) (d' a)<0)/\(∀k:Nat,j<k->k<b->0<=C.c (d' k) (d' a))/\eW C H0 n0 N d' K) (j2 - 1+1 - (i2+1)) ⟨i2+1,j2 - 1,d2,rfl,⟨by simp[ae,f0],by simp[ae,f1],by simp[ae,f4],ai,ai⟩,ah,ah,ah,rfl,rfl,ps2,hl2,hr2,hK2⟩ ?_;clear f0 f1 f4 f12 f13 hK2 ps2 hl2 hr2 d2 d1;rintro t F1 K n' ms ⟨i,j,d1,rfl,hF1,hi,hij,hjb,rfl,rfl,ps,hl,hr,hK⟩;have hE1:=ps.all hbN hE;simp[adU];refine aeC ho hK hJ hn0 hn hE1 ah hN hF1 ah hij λ F2 i2 hF2 g1 g2 g3 g4=>?_;simp;refine aeB ho hK hJ hn0 hn hE1 ah hN hF2 ah g2 ah λ F3 j2 hF3 g5 g6 g7 g8=>?_;obtain⟨f0,f1,f4,f12,f13⟩:=hF3
 have hl2:∀k:Nat,a<k->k<i2->C.c (d1 k) (d1 a)<0:=λ k h1 h2=>by
  by_cases h:k<i
  ·exact hl k h1 h
  exact g3 k ah h2
 have hr2:∀k:Nat,j2<k->k<b->0<=C.c (d1 k) (d1 a):=λ k h1 h2=>by
  by_cases h:k<=j
  ·exact g7 k h1 h
  exact hr k ah h2
 by_cases hgt:j2<i2
 ·have x1:=bK (bk:=C.bk) (N:=N) (i:=j2) ah;have l1:=hK.ld (i:=j2) ah;have la:=hK.ld (i:=a) ah;obtain⟨y1,y2,s1,s2,hK2⟩:=hK.two ho (i:=j2) (j:=a) ah ah;have pt:PvI C a b j2 d1:=⟨ah,ah,λ k h1 h2=>hl2 k h1 ah,hr2⟩;simp[ED,f12,f13,hgt,QX];refine bF.of (bq (P:=pG)) ?_;simp[ae,f0,f1,f13,x1,xa,l1,la,s1,s2,QW];exact⟨swp d1 j2 a,.sw j2 a ps ah ah ah ah,pt.out,by simpa using hK2⟩
 have hc1:=g4 ah;have hc2:=g8 ah;have hne:i2≠j2:=by rintro rfl;omega
 have w3:IntKind.i64.wrap ((i2:Int)+1)=((i2+1:Nat):Int):=by rw[aR _ ah ah];omega
 have w4:IntKind.i64.wrap ((j2:Int) - 1)=((j2 - 1:Nat):Int):=by rw[aR _ ah ah];omega
 have x1:=bK (bk:=C.bk) (N:=N) (i:=i2) ah;have x2:=bK (bk:=C.bk) (N:=N) (i:=j2) ah;have l1:=hK.ld (i:=i2) ah;have l2:=hK.ld (i:=j2) ah;obtain⟨y1,y2,s1,s2,hK2⟩:=hK.two ho (i:=i2) (j:=j2) ah ah;simp[ED,f12,f13,hgt,Q0];refine bF.of (bq (P:=pG)) ?_;simp[ae,f0,f12,f13,x1,x2,l1,l2,s1,s2,QZ,QY,w3,w4];refine⟨j2 - 1+1 - (i2+1),ah,i2+1,j2 - 1,rfl,⟨by simp[ae,f0],by simp[ae,f1],by simp[ae,f4],ai,ai⟩,ah,ah,ah,swp d1 i2 j2,.sw i2 j2 ps ah ah ah ah,λ k h1 h2=>?_,λ k h1 h2=>?_,by simpa using hK2⟩
 ·rw[du (k:=a) ah ah]
  by_cases e:k=i2
  ·rw[e,s8];exact hc2
  rw[du e ah];exact hl2 k h1 ah
 rw[du (k:=a) ah ah]
 by_cases e:k=j2
 ·rw[e,AP];omega
 rw[du ah e];exact hr2 k ah h2
end Go.Abs
namespace Go.Abs
open List
open Go.Proofs
open Classical
set_option maxRecDepth 100000
variable {α:Type}{C:Cp α}{P:Program}{a b N:Nat}{d e:Nat->α}
theorem ajU (ho:C.Ok pG){H0 H:Hp}{n0 n:Nat}(hd:eW C H0 n0 N d H)(hab:a<b)(hbN:b<=N)(hN:N<1000000):
  ao pG 278 [.sl C.bk 0 N 1,zI (a:Int),zI (b:Int),C.fv] H n (λ w K j=>w=.br []/\(∃d',PS a b d d'/\eW C H0 n0 N d' K)/\j=n):=by
 refine ao.of c278 (by simp[A278]) λ F hF=>?_;have w2:IntKind.i64.wrap ((b:Int) - 1)=((b - 1:Nat):Int):=by rw[aR _ ah ah];omega
 simp[A278,hF,w2];refine aF.of (λ t F' K n' ms=>∃i j d',t=j - i/\F'.get 0=some (.sl C.bk 0 N 1)/\F'.get 8=some (zI ((i:Nat):Int))/\F'.get 9=some (zI ((j:Nat):Int))/\a<=i/\i<=j+1/\j<b/\n'=n/\ms=[]/\PS a b d d'/\eW C H0 n0 N d' K) (b - 1 - a) ⟨a,b - 1,d,rfl,by simp[hF],ai,ai,ah,ah,ah,rfl,rfl,.refl d,hd⟩ ?_;clear hF;rintro t F1 K n' ms ⟨i,j,d1,rfl,f0,f8,f9,hi,hij,hjb,rfl,rfl,ps,hK⟩
 by_cases hlt:i<j
 ·have w3:IntKind.i64.wrap ((i:Int)+1)=((i+1:Nat):Int):=by rw[aR _ ah ah];omega
  have w4:IntKind.i64.wrap ((j:Int) - 1)=((j - 1:Nat):Int):=by rw[aR _ ah ah];omega
  have x1:=bK (bk:=C.bk) (N:=N) (i:=i) ah;have x2:=bK (bk:=C.bk) (N:=N) (i:=j) ah;have l1:=hK.ld (i:=i) ah;have l2:=hK.ld (i:=j) ah;obtain⟨y1,y2,s1,s2,hK2⟩:=hK.two ho (i:=i) (j:=j) ah ah;simp[NX,f8,f9,hlt];refine bF.of (bq (P:=pG)) ?_;simp[ae,f0,f8,f9,x1,x2,l1,l2,s1,s2,abZ,abY,w3,w4];exact⟨j - 1 - (i+1),ah,i+1,j - 1,rfl,ai,rfl,ah,ah,ah,swp d1 i j,.sw i j ps ah ah ah ah,by simpa using hK2⟩
 simp[NX,f8,f9,hlt];exact⟨d1,ps,hK⟩
def Cnt (H:Hp)(q n:Nat)(K:Hp)(j:Nat):Prop:=(∃v,K.get q=aN 1 [zI v])/\(∀c,c≠q->K.get c=H.get c)/\j=n
theorem Cnt.trans {H K L:Hp}{q n:Nat}(h:Cnt H q n K n)(k:Cnt K q n L n):Cnt H q n L n:=⟨k.1,λ c hc=>(k.2.1 c hc).trans (h.2.1 c hc),rfl⟩
theorem Cnt.arr {H0 H K:Hp}{q n j n0:Nat}(ho:C.Ok P)(hq:n0<=q)(hn0:C.lo<n0)(h:Cnt H q n K j)(hd:eW C H0 n0 N d H):eW C H0 n0 N d K:=by
 have:=ho.bl;obtain⟨⟨y,h1,h2⟩,h3⟩:=hd;exact⟨⟨y,(h.2.1 _ ah).trans h1,h2⟩,λ b hb hbn=>(h.2.1 b ah).trans (h3 b hb hbn)⟩
theorem akk (ho:C.Ok pG){H0 H:Hp}{n0 n q:Nat}(hd:eW C H0 n0 N d H)(hJ:C.J H0)(hn0:C.lo<n0)(hq:n0<=q)(hqn:q<n)(hE:∀k,k<N->C.El (d k)){v:Int}(hv:H.get q=aN 1 [zI v]){x y:Nat}(hx:x<N)(hy:y<N):
  ao pG 347 [.sl C.bk 0 N 1,zI (x:Int),zI (y:Int),.ptr q 0,C.fv] H n (λ w K j=>(w=.br [zI (x:Int),zI (y:Int)]∨w=.br [zI (y:Int),zI (x:Int)])/\Cnt H q n K j):=by
 refine ao.of c347 (by simp[A347]) λ F hF=>?_;have x1:=bK (bk:=C.bk) (N:=N) (i:=x) hx;have x2:=bK (bk:=C.bk) (N:=N) (i:=y) hy;have l1:=hd.ld hx;have l2:=hd.ld hy;have hJ':=hd.J ho hJ hn0;simp[A347];refine bF.of (C.iT ho (hE y hy) (hE x hx)) ?_;simp[ae,hF,Cp.fv,x1,x2,l1,l2,Cp.ei hJ' (show C.lo<n by omega)]
 by_cases hc:C.c (d y) (d x)<0
 ·simp[hc,abm,ae,hF,hv,abl];exact⟨⟨IntKind.i64.wrap (v+1),ai⟩,λ c hc=>by rw[Tr.get_put,ak hc],rfl⟩
 simp[hc,abk,ae,hF];exact⟨⟨v,hv⟩,λ _ _=>rfl,rfl⟩
theorem X1 (ho:C.Ok pG){H0 H:Hp}{n0 n q:Nat}(hd:eW C H0 n0 N d H)(hJ:C.J H0)(hn0:C.lo<n0)(hq:n0<=q)(hqn:q<n)(hE:∀k,k<N->C.El (d k))(hv:∃v,H.get q=aN 1 [zI v]){lo hi x y z:Nat}(hN:hi<=N)(hx:lo<=x/\x<hi)(hy:lo<=y/\y<hi)(hz:lo<=z/\z<hi):
  ao pG 327 [.sl C.bk 0 N 1,zI (x:Int),zI (y:Int),zI (z:Int),.ptr q 0,C.fv] H n (λ w K j=>(∃p:Nat,w=zI (p:Int)/\lo<=p/\p<hi)/\Cnt H q n K j):=by
 obtain⟨v,hv⟩:=hv
 have key:∀(K:Hp),Cnt H q n K n->∀x y:Nat,(lo<=x/\x<hi)->(lo<=y/\y<hi)->ao pG 347 [.sl C.bk 0 N 1,zI (x:Int),zI (y:Int),.ptr q 0,C.fv] K n (λ w L j=>(∃x' y':Nat,w=.br [zI (x':Int),zI (y':Int)]/\(lo<=x'/\x'<hi)/\(lo<=y'/\y'<hi))/\j=n/\Cnt H q n L n):=λ K hc x y hx hy=>by
  obtain⟨v,hv⟩:=hc.1;refine(akk ho (hc.arr ho hq hn0 hd) hJ hn0 hq hqn hE hv (x:=x) (y:=y) ah ah).mono λ w L j ⟨h1,h2⟩=>?_;have e:=h2.2.2;subst e;refine⟨?_,rfl,hc.trans h2⟩
  rcases h1 with h1|h1
  ·exact⟨x,y,h1,hx,hy⟩
  exact⟨y,x,h1,hy,hx⟩
 refine ao.of c327 (by simp[A327]) λ F hF=>?_;simp[A327,hF];refine aB.of (key H ⟨⟨v,hv⟩,λ _ _=>rfl,rfl⟩ x y hx hy) λ w K1 j1 ⟨⟨x1,y1,e1,hx1,hy1⟩,ej,h1⟩=>?_;subst e1 ej;simp[abr,hF];refine aB.of (key K1 h1 y1 z hy1 hz) λ w K2 j2 ⟨⟨y2,z2,e2,hy2,hz2⟩,ej,h2⟩=>?_;subst e2 ej;simp[abq,hF];refine aB.of (key K2 h2 x1 y2 hx1 hy2) λ w K3 j3 ⟨⟨x3,y3,e3,hx3,hy3⟩,ej,h3⟩=>?_;subst e3 ej;simp[abp];exact⟨hy3,h3⟩
theorem amD (ho:C.Ok pG){H0 H:Hp}{n0 n q:Nat}(hd:eW C H0 n0 N d H)(hJ:C.J H0)(hn0:C.lo<n0)(hq:n0<=q)(hqn:q<n)(hE:∀k,k<N->C.El (d k))(hv:∃v,H.get q=aN 1 [zI v]){lo hi x:Nat}(hN:hi<=N)(hN2:N<1000000)(hx:lo<x/\x+1<hi):
  ao pG 326 [.sl C.bk 0 N 1,zI (x:Int),.ptr q 0,C.fv] H n (λ w K j=>(∃p:Nat,w=zI (p:Int)/\lo<=p/\p<hi)/\Cnt H q n K j):=by
 refine ao.of c326 (by simp[A326]) λ F hF=>?_;have w1:IntKind.i64.wrap ((x:Int) - 1)=((x - 1:Nat):Int):=by rw[aR _ ah ah];omega
 have w2:IntKind.i64.wrap ((x:Int)+1)=((x+1:Nat):Int):=by rw[aR _ ah ah];omega
 simp[A326,hF];rw[w1,w2];refine aB.of (X1 ho hd hJ hn0 hq hqn hE hv hN (lo:=lo) (hi:=hi) (x:=x - 1) (y:=x) (z:=x+1) ah ah ah) λ w K1 j1 ⟨⟨p,e1,hp⟩,h1⟩=>?_;subst e1;have e:=h1.2.2;subst e;simp;exact⟨hp,h1⟩
end Go.Abs
namespace Go.Abs
open List
open Go.Proofs
open Classical
set_option maxRecDepth 100000
variable {α:Type}{C:Cp α}{P:Program}{a b N:Nat}{d e:Nat->α}
theorem aeQ (l k:Nat)(hk:0<k)(hl:l<2147483648):bS .quo .i64 (l:Int) (↑k:Int)=.val (zI ((l / k:Nat):Int)):=by
 have e1:(l:Int).tdiv (k:Int)=((l / k:Nat):Int):=by rw[Int.tdiv_eq_ediv_of_nonneg ah];rfl
 have e2:l / k<=l:=Nat.div_le_self _ _;generalize l / k=q at *;simp only[bS];rw[ak ah,e1,aR _ ah ah];simp
theorem akc (ho:C.Ok pG){H0 H:Hp}{n0 n:Nat}(hd:eW C H0 n0 N d H) (hJ:C.J H0) (hn0:C.lo<n0) (hn:n0<=n) (hE:∀k,k<N->C.El (d k)) (hab:a+12<b) (hbN:b<=N) (hN:N<1000000):
  ao pG 277 [.sl C.bk 0 N 1,zI (a:Int),zI (b:Int),C.fv] H n (λ w K j=>(∃(p:Nat) (h:Int),w=.br [zI (p:Int),zI h]/\a<=p/\p<b)/\eW C H0 n0 N d K/\n<=j):=by
 refine ao.of c277 (by simp[A277]) λ F hF=>?_;obtain⟨l,hl⟩:∃l,l=b - a:=⟨_,rfl⟩;obtain⟨m,hm⟩:∃m,m=l / 4:=⟨_,rfl⟩;obtain⟨m2,hm2⟩:∃m2,m2=m*2:=⟨_,rfl⟩;obtain⟨m3,hm3⟩:∃m3,m3=m*3:=⟨_,rfl⟩;obtain⟨i,hi⟩:∃i,i=a+m:=⟨_,rfl⟩;obtain⟨j,hj⟩:∃j,j=a+m2:=⟨_,rfl⟩;obtain⟨k,hk⟩:∃k,k=a+m3:=⟨_,rfl⟩;have w0:IntKind.i64.wrap ((b:Int) - (a:Int))=(l:Int):=by rw[aR _ ah ah];omega
 have q0:bS .quo .i64 (l:Int) 4=.val (zI (m:Int)):=by rw[hm];exact aeQ l 4 ah ah
 have v1:IntKind.i64.wrap (m:Int)=(m:Int):=by rw[aR _ ah ah]
 have v2:IntKind.i64.wrap ((m:Int)*2)=(m2:Int):=by rw[aR _ ah ah];omega
 have v3:IntKind.i64.wrap ((m:Int)*3)=(m3:Int):=by rw[aR _ ah ah];omega
 have w1:IntKind.i64.wrap ((a:Int)+(m:Int))=(i:Int):=by rw[aR _ ah ah];omega
 have w2:IntKind.i64.wrap ((a:Int)+(m2:Int))=(j:Int):=by rw[aR _ ah ah];omega
 have w3:IntKind.i64.wrap ((a:Int)+(m3:Int))=(k:Int):=by rw[aR _ ah ah];omega
 have h8:(8:Int)<=(l:Int):=ah;simp[A277,hF,w0,q0,v1,w1,v2,w2,v3,w3,h8];generalize hK1:Tr.put H n _=K1;have kn:K1.get n=aN 1 [zI 0]:=by rw[<-hK1];simp
 have kf:∀c,c<n->K1.get c=H.get c:=λ c hc=>by rw[<-hK1,Tr.get_put,ak ah]
 clear hK1
 have hA1:eW C H0 n0 N d K1:=by
  have:=ho.bl;obtain⟨⟨y,h1,h2⟩,h3⟩:=hd;exact⟨⟨y,(kf _ ah).trans h1,h2⟩,λ c hc hcn=>(kf c ah).trans (h3 c hc hcn)⟩
 have c1:Cnt K1 n (n+1) K1 (n+1):=⟨⟨0,kn⟩,λ _ _=>rfl,rfl⟩
 have tail:∀(K:Hp),Cnt K1 n (n+1) K (n+1)->∀x y z:Nat,(a<=x/\x<b)->(a<=y/\y<b)->(a<=z/\z<b)->ao pG 327 [.sl C.bk 0 N 1,zI (x:Int),zI (y:Int),zI (z:Int),.ptr n 0,C.fv] K (n+1) (λ w L j=>(∃p:Nat,w=zI (p:Int)/\a<=p/\p<b)/\j=n+1/\Cnt K1 n (n+1) L (n+1)):=λ K hc x y z hx hy hz=>by
  refine(X1 ho (hc.arr ho hn hn0 hA1) hJ hn0 hn ah hE hc.1 hbN (lo:=a) (hi:=b) hx hy hz).mono λ w L j ⟨h1,h2⟩=>?_;have e:=h2.2.2;subst e;exact⟨h1,rfl,hc.trans h2⟩
 have adj:∀(K:Hp),Cnt K1 n (n+1) K (n+1)->∀x:Nat,(a<x/\x+1<b)->ao pG 326 [.sl C.bk 0 N 1,zI (x:Int),.ptr n 0,C.fv] K (n+1) (λ w L j=>(∃p:Nat,w=zI (p:Int)/\a<=p/\p<b)/\j=n+1/\Cnt K1 n (n+1) L (n+1)):=λ K hc x hx=>by
  refine(amD ho (hc.arr ho hn hn0 hA1) hJ hn0 hn ah hE hc.1 hbN hN (lo:=a) (hi:=b) hx).mono λ w L j ⟨h1,h2⟩=>?_;have e:=h2.2.2;subst e;exact⟨h1,rfl,hc.trans h2⟩
 have fin:∀(K:Hp),Cnt K1 n (n+1) K (n+1)->eW C H0 n0 N d K:=λ K hc=>hc.arr ho hn hn0 hA1
 by_cases h50:50<=l
 ·have als:(50:Int)<=(l:Int):=ah;simp[MM,als,ab1,hF];refine aB.of (adj K1 c1 i ah) λ w K2 j2 ⟨⟨p2,e2,hp2⟩,ej,c2⟩=>?_;subst e2 ej;simp[ab0,hF];refine aB.of (adj K2 c2 j ah) λ w K3 j3 ⟨⟨p3,e3,hp3⟩,ej,c3⟩=>?_;subst e3 ej;simp[Rr,hF];refine aB.of (adj K3 c3 k ah) λ w K4 j4 ⟨⟨p4,e4,hp4⟩,ej,c4⟩=>?_;subst e4 ej;simp[EK,hF];refine aB.of (tail K4 c4 p2 p3 p4 hp2 hp3 hp4) λ w K5 j5 ⟨⟨p5,e5,hp5⟩,ej,c5⟩=>?_;subst e5 ej;obtain⟨v,hv⟩:=c5.1;simp[EJ,hv]
  by_cases e0:v=0
  ·simp[oH,e0,EI];exact⟨hp5,fin _ c5⟩
  by_cases e12:v=12
  ·simp[oH,e12,uc,EH];exact⟨hp5,fin _ c5⟩
  simp[oH,e0,e12,uc,EG];exact⟨hp5,fin _ c5⟩
 have als:¬(50:Int)<=(l:Int):=ah;simp[MM,als,EK,hF];refine aB.of (tail K1 c1 i j k ah ah ah) λ w K5 j5 ⟨⟨p5,e5,hp5⟩,ej,c5⟩=>?_;subst e5 ej;obtain⟨v,hv⟩:=c5.1;simp[EJ,hv]
 by_cases e0:v=0
 ·simp[oH,e0,EI];exact⟨hp5,fin _ c5⟩
 by_cases e12:v=12
 ·simp[oH,e12,uc,EH];exact⟨hp5,fin _ c5⟩
 simp[oH,e0,e12,uc,EG];exact⟨hp5,fin _ c5⟩
end Go.Abs
namespace Go.Abs
open List
open Go.Proofs
open Classical
set_option maxRecDepth 100000
variable {α:Type}{C:Cp α}{P:Program}{a b N:Nat}{d e:Nat->α}
def UF:List Nat:=[0,1,2,2,3,3,3,3,4,4,4,4,4,4,4,4,5,5,5,5,5,5,5,5,5,5,5,5,5,5,5,5,6,6,6,6,6,6,6,6,6,6,6,6,6,6,6,6,6,6,6,6,6,6,6,6,6,6,6,6,6,6,6,6,7,7,7,7,7,7,7,7,7,7,7,7,7,7,7,7,7,7,7,7,7,7,7,7,7,7,7,7,7,7,7,7,7,7,7,7,7,7,7,7,7,7,7,7,7,7,7,7,7,7,7,7,7,7,7,7,7,7,7,7,7,7,7,7,8,8,8,8,8,8,8,8,8,8,8,8,8,8,8,8,8,8,8,8,8,8,8,8,8,8,8,8,8,8,8,8,8,8,8,8,8,8,8,8,8,8,8,8,8,8,8,8,8,8,8,8,8,8,8,8,8,8,8,8,8,8,8,8,8,8,8,8,8,8,8,8,8,8,8,8,8,8,8,8,8,8,8,8,8,8,8,8,8,8,8,8,8,8,8,8,8,8,8,8,8,8,8,8,8,8,8,8,8,8,8,8,8,8,8,8,8,8,8,8,8,8,8,8,8,8,8,8]
theorem DG:∀k:Fin 256,UF.getD k 0<=8/\(k.1=0/\UF.getD k 0=0∨2 ^ UF.getD k 0<=2*k.1):=by decide
theorem PI:UF.length=256:=by decide
theorem Ya {k:Nat}(h:k<256):pj (.str [0,1,2,2,3,3,3,3,4,4,4,4,4,4,4,4,5,5,5,5,5,5,5,5,5,5,5,5,5,5,5,5,6,6,6,6,6,6,6,6,6,6,6,6,6,6,6,6,6,6,6,6,6,6,6,6,6,6,6,6,6,6,6,6,7,7,7,7,7,7,7,7,7,7,7,7,7,7,7,7,7,7,7,7,7,7,7,7,7,7,7,7,7,7,7,7,7,7,7,7,7,7,7,7,7,7,7,7,7,7,7,7,7,7,7,7,7,7,7,7,7,7,7,7,7,7,7,7,8,8,8,8,8,8,8,8,8,8,8,8,8,8,8,8,8,8,8,8,8,8,8,8,8,8,8,8,8,8,8,8,8,8,8,8,8,8,8,8,8,8,8,8,8,8,8,8,8,8,8,8,8,8,8,8,8,8,8,8,8,8,8,8,8,8,8,8,8,8,8,8,8,8,8,8,8,8,8,8,8,8,8,8,8,8,8,8,8,8,8,8,8,8,8,8,8,8,8,8,8,8,8,8,8,8,8,8,8,8,8,8,8,8,8,8,8,8,8,8,8,8,8,8,8,8,8,8]) (.int .u8 (k:Int))=.val (.int .u8 ((UF.getD k 0:Nat):Int)):=by
 show pj (.str UF) (.int .u8 (Int.ofNat k))=_;simp only[pj,nQ];rw[cY (by rw[PI];exact h)];simp[getD,cY (show k<UF.length by rw[PI];exact h)]
def Jf (x:Nat):Nat:=if x<256 then UF.getD x 0 else 8+UF.getD (x / 256) 0
theorem Yb {x:Nat}(h0:0<x)(h:x<65536):Jf x<=16/\2 ^ Jf x<=2*x:=by
 unfold Jf
 split
 ·rename_i h1;have:=DG ⟨x,h1⟩;simp only at this;omega
 have:=DG ⟨x / 256,ah⟩;simp only at this;refine⟨ah,?_⟩;rw[Nat.pow_add];omega
def pwB (x:Nat):Nat:=2 ^ Jf x
theorem Xq {x:Nat}(h0:0<x)(h:x<65536):0<pwB x/\pwB x<=2*x:=⟨Nat.two_pow_pos _,(Yb h0 h).2⟩
theorem afw {x:Nat}(h:x<65536):aj pG 283 [.int .u64 (x:Int)] (zI (Jf x:Int)):=by
 refine pv c283 λ F hF=>?_;have u8:∀ {k:Nat},k<256->bZ .u8 (.int .u64 (k:Int))=.val (.int .u8 (k:Int)):=λ {k} hk=>by rw[dN,AL hk]
 have i8:∀k:Nat,k<=8->bZ .i64 (.int .u8 (k:Int))=.val (zI (k:Int)):=λ k hk=>by rw[dN,aR _ ah ah]
 have n1:¬(4294967296:Int)<=(x:Int):=ah;have n2:¬(65536:Int)<=(x:Int):=ah
 by_cases h1:x<256
 ·have n3:¬(256:Int)<=(x:Int):=ah;have b:=(DG ⟨x,h1⟩).1;have ix:=Ya h1;dsimp only at ix;have e:Jf x=UF.getD x 0:=by unfold Jf;rw[ay h1]
  rw[e];simp only at b;generalize UF.getD x 0=v at *;have w:IntKind.i64.wrap (v:Int)=(v:Int):=aR _ ah ah;simp[A283,hF,n1,n2,n3,u8 h1,ix,i8 v b,w];exact fp
 have n3:(256:Int)<=(x:Int):=ah;have h2:x / 256<256:=ah;have b:=(DG ⟨x / 256,h2⟩).1;have ix:=Ya h2;dsimp only at ix;have e:Jf x=8+UF.getD (x / 256) 0:=by unfold Jf;rw[ak h1]
 have s1:eO .shr (.int .u64 (x:Int)) (.int .u64 8)=.val (.int .u64 ((x / 256:Nat):Int)):=by
  rw[qR _ _ _ _ ah]
  congr 2
  show Int.fdiv (x:Int) 256=_;rw[Int.fdiv_eq_ediv_of_nonneg _ ah];omega
 rw[e];simp only at b;generalize UF.getD (x / 256) 0=v at *;generalize x / 256=y at *;have w:IntKind.i64.wrap (8+(v:Int))=8+(v:Int):=aR _ ah ah;simp[A283,hF,n1,n2,n3,s1,u8 h2,ix,i8 v b,w,aR];exact fp
theorem PM {x:Nat}(h:x<65536):aj pG 221 [.int .u64 (x:Int)] (zI (Jf x:Int)):=by
 refine pv c221 λ F hF=>?_;simp[A221,hF];refine aB.pure (afw h) ?_;simp;exact fp
theorem akb {x:Nat}(h0:0<x)(h:x<65536):aj pG 324 [zI (x:Int)] (.int .u64 (pwB x:Int)):=by
 refine pv c324 λ F hF=>?_;have hb:=Yb h0 h
 have hs:eO .shl (.int .u64 1) (zI (Jf x:Int))=.val (.int .u64 (pwB x:Int)):=by
  rw[wQ _ _ _ _ ah]
  have:min (Jf x:Int).toNat IntKind.u64.bits=Jf x:=by
   show min (Jf x:Int).toNat 64=_;omega
  rw[this,Int.one_mul];have e:((2:Int) ^ Jf x)=(pwB x:Int):=by unfold pwB;push_cast;rfl
  rw[e,pE (by have:=Xq h0 h;omega)]
 simp[A324,hF,Jp x ah];refine aB.pure (PM h) ?_;simp[hs];exact fp
end Go.Abs
namespace Go.Abs
open List
open Go.Proofs
open Classical
set_option maxRecDepth 100000
variable {α:Type}{C:Cp α}{P:Program}{a b N:Nat}{d e:Nat->α}
theorem Zp (z:BitVec 64):∃r:Nat,IntKind.u64.wrap (z.toNat:Int)=(r:Int)/\r=z.toNat/\r<18446744073709551616:=⟨z.toNat,pE z.isLt,rfl,z.isLt⟩
theorem ajy (x y:Int):∃r:Nat,bS .xor .u64 x y=.val (.int .u64 (r:Int)):=by
 obtain⟨r,h1,_⟩:=Zp (BitVec.ofInt 64 x ^^^ BitVec.ofInt 64 y);refine⟨r,?_⟩;rw[sR];show bD.val (AV.int .u64 (IntKind.u64.wrap ((BitVec.ofInt 64 x ^^^ BitVec.ofInt 64 y).toNat:Int)))=_;rw[h1]
theorem aoT (x:Int)(k:Nat):∃r:Int,eO .shl (.int .u64 x) (.int .u64 (k:Int))=.val (.int .u64 r):=⟨_,wQ _ _ _ _ ah⟩
theorem avy (x:Int)(k:Nat):∃r:Int,eO .shr (.int .u64 x) (.int .u64 (k:Int))=.val (.int .u64 r):=⟨_,qR _ _ _ _ ah⟩
theorem afo {H:Hp}{n q:Nat}(_hqn:q<n){v:Int}(hv:H.get q=aN 1 [.int .u64 v]):
  ao pG 325 [.ptr q 0] H n (λ w K j=>(∃r:Nat,w=.int .u64 (r:Int)/\K.get q=aN 1 [.int .u64 (r:Int)])/\(∀c,c≠q->K.get c=H.get c)/\j=n):=by
 refine ao.of c325 (by simp[A325]) λ F hF=>?_;obtain⟨s1,e1⟩:=aoT v 13;obtain⟨r1,x1⟩:=ajy v s1;obtain⟨s2,e2⟩:=avy r1 7;obtain⟨r2,x2⟩:=ajy r1 s2;obtain⟨s3,e3⟩:=aoT r2 17;obtain⟨r3,x3⟩:=ajy r2 s3;rw[show ((13:Nat):Int)=13 from rfl]at e1;rw[show ((7:Nat):Int)=7 from rfl]at e2;rw[show ((17:Nat):Int)=17 from rfl]at e3;simp[A325];refine bF.of (bq (P:=pG)) ?_;simp[ae,hF,hv,e1,x1,abv];refine bF.of (bq (P:=pG)) ?_;simp[ae,hF,e2,x2,abu];refine bF.of (bq (P:=pG)) ?_;simp[ae,hF,e3,x3,abt];exact λ c hc=>by simp[hc]
theorem ax6 (x:Int){m:Nat}(hm:m<2147483648):∃r:Nat,bS .and .u64 x (m:Int)=.val (.int .u64 (r:Int))/\r<=m:=by
 obtain⟨r,h1,h2,_⟩:=Zp (BitVec.ofInt 64 x &&& BitVec.ofInt 64 (m:Int));refine⟨r,?_,?_⟩
 ·show kO .u64 (IntKind.u64.wrap ((BitVec.ofInt 64 x &&& BitVec.ofInt 64 (m:Int)).toNat:Int))=_;rw[kh,h1]
 rw[h2,BitVec.toNat_and];refine vY Nat.and_le_right ?_;simp;omega
@[simp] theorem an_:bQ .and=uJ (bS .and):=Eq.trans rfl rfl
theorem amq (ho:C.Ok pG){H0 H:Hp}{n0 n:Nat}(hd:eW C H0 n0 N d H)(hn0:C.lo<n0)(hn:n0<=n)(hab:a+12<b)(hbN:b<=N)(hN:N<60000):
  ao pG 276 [.sl C.bk 0 N 1,zI (a:Int),zI (b:Int),C.fv] H n (λ w K j=>w=.br []/\(∃d',PS a b d d'/\eW C H0 n0 N d' K)/\n<=j):=by
 refine ao.of c276 (by simp[A276]) λ F hF=>?_;obtain⟨l,hl⟩:∃l,l=b - a:=⟨_,rfl⟩;obtain⟨m,hm⟩:∃m,m=l / 4:=⟨_,rfl⟩;obtain⟨m2,hm2⟩:∃m2,m2=m*2:=⟨_,rfl⟩;obtain⟨j,hj⟩:∃j,j=a+m2:=⟨_,rfl⟩;have w0:IntKind.i64.wrap ((b:Int) - (a:Int))=(l:Int):=by rw[aR _ ah ah];omega
 have q0:bS .quo .i64 (l:Int) 4=.val (zI (m:Int)):=by rw[hm];exact aeQ l 4 ah ah
 have v2:IntKind.i64.wrap ((m:Int)*2)=(m2:Int):=by rw[aR _ ah ah];omega
 have w2:IntKind.i64.wrap ((a:Int)+(m2:Int))=(j:Int):=by rw[aR _ ah ah];omega
 have w3:IntKind.i64.wrap ((j:Int) - 1)=((j - 1:Nat):Int):=by rw[aR _ ah ah];omega
 have w4:IntKind.i64.wrap ((j:Int)+1)=(j:Int)+1:=by rw[aR _ ah ah]
 have h8:(8:Int)<=(l:Int):=ah;obtain⟨hM0,hM⟩:=Xq (x:=l) ah ah;have hp:=akb (x:=l) ah ah;generalize pwB l=M at *;have wM:IntKind.u64.wrap ((M:Int) - 1)=((M - 1:Nat):Int):=by rw[show (M:Int) - 1=((M - 1:Nat):Int) by omega];exact pE ah
 simp[A276,hF,w0,h8,Jp l ah];refine aB.pure hp ?_;simp[ab3,hF,q0,v2,w2,w3];generalize hK1:Tr.put _ n (some _)=K1;have kn:K1.get n=aN 1 [.int .u64 (l:Int)]:=by rw[<-hK1];simp
 have kf:∀c,c<n->K1.get c=H.get c:=λ c hc=>by rw[<-hK1];simp[show ¬c=n by omega]
 clear hK1;have hbl:=ho.bl
 have hA1:eW C H0 n0 N d K1:=by
  obtain⟨⟨y,h1,h2⟩,h3⟩:=hd;exact⟨⟨y,(kf _ ah).trans h1,h2⟩,λ c hc hcn=>(kf c ah).trans (h3 c hc hcn)⟩
 refine aF.of (λ t F' K n' ms=>∃i d',t=j+2 - i/\F'.get 0=some (.sl C.bk 0 N 1)/\F'.get 1=some (zI (a:Int))/\F'.get 8=some (zI (l:Int))/\F'.get 9=some (.ptr n 0)/\F'.get 10=some (.int .u64 (M:Int))/\F'.get 11=some (zI ((i:Nat):Int))/\a<=i/\i<=j+2/\n'=n+1/\ms=[]/\(∃v:Int,K.get n=aN 1 [.int .u64 v])/\PS a b d d'/\eW C H0 n0 N d' K) (j+2 - (j - 1)) ⟨j - 1,d,rfl,by simp[hF],by simp[hF],ai,ai,ai,ai,ah,ah,rfl,rfl,⟨_,kn⟩,.refl d,hA1⟩ ?_;clear hF kn kf hA1 hd;rintro t F1 K n' ms ⟨i,d1,rfl,f0,f1,f8,f9,f10,f11,hi,hij,rfl,rfl,⟨v,hv⟩,ps,hK⟩
 by_cases hlt:i<j+2
 ·have hle:(i:Int)<=(j:Int)+1:=ah;simp[NY,f11,f1,f8,q0,v2,w2,w4,hle,f9];refine aB.of (afo (n:=n+1) (q:=n) ah hv) λ w K2 j2 ⟨⟨r,e1,hr⟩,h2,ej⟩=>?_;subst e1 ej;obtain⟨o,ho1,ho2⟩:=ax6 (r:Int) (m:=M - 1) ah
  have hK2:eW C H0 n0 N d1 K2:=by
   obtain⟨⟨y,h1,h3⟩,h4⟩:=hK;exact⟨⟨y,(h2 _ ah).trans h1,h3⟩,λ c hc hcn=>(h2 c ah).trans (h4 c hc hcn)⟩
  have wi:IntKind.i64.wrap ((i:Int)+1)=((i+1:Nat):Int):=by rw[aR _ ah ah];omega
  have x1:=bK (bk:=C.bk) (N:=N) (i:=i) ah;have l1:=hK2.ld (i:=i) ah;have done:∀x,x<l->∃X,X=a+x/\IntKind.i64.wrap ((a:Int)+(x:Int))=(X:Int)/\bW 1 (.sl C.bk 0 N 1) (zI (X:Int))=.val (.ptr C.bk X)/\cN (.ptr C.bk X) K2=.val (C.av (d1 X)):=λ x hx=>⟨a+x,rfl,by rw[aR _ ah ah];omega,bK ah,hK2.ld ah⟩
  by_cases hge:l<=o
  ·obtain⟨x,hx⟩:∃x,x=o - l:=⟨_,rfl⟩;have wx:IntKind.i64.wrap ((o:Int) - (l:Int))=(x:Int):=by rw[aR _ ah ah];omega
   obtain⟨X,hX,wX,x2,l2⟩:=done x ah;obtain⟨y1,y2,s1,s2,hK3⟩:=hK2.two ho (i:=i) (j:=X) ah ah;simp[f10,wM,ho1,US o ah,MO,f8,hge,ab2,wx,MN];refine bF.of (bq (P:=pG)) ?_;simp[ae,f0,f1,f11,wX,x1,x2,l1,l2,s1,s2,EL,wi];refine⟨j+2 - (i+1),ah,i+1,rfl,f8,f9,f10,ai,ah,ah,⟨(r:Int),?_⟩,swp d1 i X,.sw i X ps ah ah ah ah,by simpa using hK3⟩;simpa[show ¬n=C.bk by omega]using hr
  obtain⟨X,hX,wX,x2,l2⟩:=done o ah;obtain⟨y1,y2,s1,s2,hK3⟩:=hK2.two ho (i:=i) (j:=X) ah ah;simp[f10,wM,ho1,US o ah,MO,f8,hge,MN];refine bF.of (bq (P:=pG)) ?_;simp[ae,f0,f1,f11,wX,x1,x2,l1,l2,s1,s2,EL,wi];refine⟨j+2 - (i+1),ah,i+1,rfl,f8,f9,f10,ai,ah,ah,⟨(r:Int),?_⟩,swp d1 i X,.sw i X ps ah ah ah ah,by simpa using hK3⟩;simpa[show ¬n=C.bk by omega]using hr
 have hle:¬(i:Int)<=(j:Int)+1:=ah;simp[NY,f11,f1,f8,q0,v2,w2,w4,hle];exact⟨d1,ps,hK⟩
end Go.Abs
namespace Go.Abs
open List
open Go.Proofs
open Classical
set_option maxRecDepth 100000
variable {α:Type}{C:Cp α}{P:Program}{a b N:Nat}{d e:Nat->α}
def HpL (C:Cp α)(f lo hi:Nat)(d:Nat->α):Prop:=∀k,0<k->k<hi->lo<=(k - 1) / 2->C.c (d (f+k)) (d (f+(k - 1) / 2))<=0
def HpX (C:Cp α)(f lo hi x:Nat)(d:Nat->α):Prop:=(∀k,0<k->k<hi->lo<=(k - 1) / 2->(k - 1) / 2≠x->C.c (d (f+k)) (d (f+(k - 1) / 2))<=0)/\∀k,0<k->k<hi->(k - 1) / 2=x->0<x->lo<=(x - 1) / 2->C.c (d (f+k)) (d (f+(x - 1) / 2))<=0
theorem HpX.of {f lo hi:Nat}(h:HpL C f (lo+1) hi d):HpX C f lo hi lo d:=⟨λ k h1 h2 h3 h4=>h k h1 h2 ah,λ k h1 h2 h3 h4 h5=>ah⟩
theorem HpX.leaf {f lo hi x:Nat}(h:HpX C f lo hi x d)(hx:hi<=2*x+1):HpL C f lo hi d:=λ k h1 h2 h3=>h.1 k h1 h2 h3 ah
theorem HpX.fin {f lo hi x g:Nat}(h:HpX C f lo hi x d)(_hg:C.c (d (f+g)) (d (f+x))<=0)(hs:∀k,(k - 1) / 2=x->0<k->k<hi->C.c (d (f+k)) (d (f+x))<=0):HpL C f lo hi d:=λ k h1 h2 h3=>by
 by_cases e:(k - 1) / 2=x
 ·rw[e];exact hs k e h1 h2
 exact h.1 k h1 h2 h3 e
theorem HpX.step {f lo hi x g:Nat}(h:HpX C f lo hi x d) (hlo:lo<=x) (hgx:(g - 1) / 2=x) (hg0:0<g) (hg:g<hi) (hl:C.c (d (f+x)) (d (f+g))<0) (hs:∀k,(k - 1) / 2=x->0<k->k<hi->C.c (d (f+k)) (d (f+g))<=0):HpX C f lo hi g (swp d (f+x) (f+g)):=by
 refine⟨λ k h1 h2 h3 h4=>?_,λ k h1 h2 h3 h4 h5=>?_⟩
 ·by_cases e1:(k - 1) / 2=x
  ·rw[e1,s8]
   by_cases e2:k=g
   ·rw[e2,AP];omega
   rw[du ah ah];exact hs k e1 h1 h2
  by_cases e2:k=x
  ·subst e2;rw[s8,du ah ah];exact h.2 g hg0 hg hgx h1 h3
  rw[du (k:=f+k) ah ah,du ah ah];exact h.1 k h1 h2 h3 e1
 rw[hgx,s8,du ah ah];have:=h.1 k h1 h2 ah ah;rw[h3]at this;exact this
def ZP:CT:=(.seq (.seq Me (.cond (aA 58) .ret .skip)) (.seq Md Mc))
theorem apV:adT=(.block 1 (.seq zL (.seq (.seq zK (.cond (aA 18) (.exit 0) .skip)) (.seq (.seq Ew (.cond (aA 40) MA .skip)) ZP)))):=rfl
def Ss (C:Cp α)(N hi f x:Nat)(F:Fr):Prop:=F.get 0=some (.sl C.bk 0 N 1)/\F.get 2=some (zI (hi:Int))/\F.get 3=some (zI (f:Int))/\F.get 4=some C.fv/\F.get 10=some (zI (x:Int))
theorem V4 {Q:QA}(ho:C.Ok pG){H0 K:Hp}{n0 n:Nat}(hd:eW C H0 n0 N d K)(hJ:C.J H0)(hn0:C.lo<n0)(hn:n0<=n)(hE:∀k,k<N->C.El (d k))(hN:N<1000000){F:Fr}{hi f x g:Nat}(hF:Ss C N hi f x F)(f11:F.get 11=some (zI (g:Int)))(hx:f+x<N)(hg:f+g<N)
  (hr:0<=C.c (d (f+x)) (d (f+g))->∀F',Q .ret F' K n [])(hq:C.c (d (f+x)) (d (f+g))<0->∀F' K',Ss C N hi f g F'->eW C H0 n0 N (swp d (f+x) (f+g)) K'->Q .normal F' K' n []):VC pG ZP F K n [] Q:=by
 obtain⟨f0,f2,f3,f4,f10⟩:=hF;obtain⟨X,hX⟩:∃X,X=f+x:=⟨_,rfl⟩;obtain⟨G,hG⟩:∃G,G=f+g:=⟨_,rfl⟩;rw[<-hX]at hx hr hq;rw[<-hG]at hg hr hq;have wX:IntKind.i64.wrap ((f:Int)+(x:Int))=(X:Int):=by rw[aR _ ah ah];omega
 have wG:IntKind.i64.wrap ((f:Int)+(g:Int))=(G:Int):=by rw[aR _ ah ah];omega
 have x1:=bK (bk:=C.bk) (N:=N) (i:=X) hx;have x2:=bK (bk:=C.bk) (N:=N) (i:=G) hg;have l1:=hd.ld hx;have l2:=hd.ld hg;have hJ':=hd.J ho hJ hn0;obtain⟨y1,y2,s1,s2,hK⟩:=hd.two ho (i:=X) (j:=G) hx hg;simp[ZP,Me];refine bF.of (C.iT ho (hE X hx) (hE G hg)) ?_;simp[ae,f0,f3,f4,f10,f11,wX,wG,Cp.fv,x1,x2,l1,l2,Cp.ei hJ' (show C.lo<n by omega)]
 by_cases hc:C.c (d X) (d G)<0
 ·simp[hc,Md];refine bF.of (bq (P:=pG)) ?_;simp[ae,f0,f3,f10,f11,wX,wG,x1,x2,l1,l2,s1,s2,Mc];exact hq hc _ _ ⟨by simp[ae,f0],by simp[ae,f2],by simp[ae,f3],by simp[ae,f4],ai⟩ (by simpa using hK)
 simp[hc];exact hr ah _
theorem OQ (ho:C.Ok pG){H0 H:Hp}{n0 n:Nat}(hd:eW C H0 n0 N d H) (hJ:C.J H0) (hn0:C.lo<n0) (hn:n0<=n) (hE:∀k,k<N->C.El (d k)){lo hi f:Nat}(hlo:lo<N) (hf:f+hi<=N) (hN:N<60000) (hh:HpL C f (lo+1) hi d):
  ao pG 323 [.sl C.bk 0 N 1,zI (lo:Int),zI (hi:Int),zI (f:Int),C.fv] H n (λ w K j=>w=.br []/\(∃d',PS (f+lo) (f+hi) d d'/\HpL C f lo hi d'/\eW C H0 n0 N d' K)/\j=n):=by
 refine ao.of c323 (by simp[A323]) λ F hF=>?_;simp[A323,hF];refine aF.of (λ t F' K n' ms=>∃x d',t=N - x/\Ss C N hi f x F'/\lo<=x/\x<N/\n'=n/\ms=[]/\PS (f+lo) (f+hi) d d'/\HpX C f lo hi x d'/\eW C H0 n0 N d' K) (N - lo) ⟨lo,d,rfl,⟨by simp[hF],by simp[hF],by simp[hF],by simp[hF],ai⟩,ah,hlo,rfl,rfl,.refl d,.of hh,hd⟩ ?_;clear hF;rintro t F1 K n' ms ⟨x,d1,rfl,⟨f0,f2,f3,f4,f10⟩,hx,hxN,rfl,rfl,ps,hX,hK⟩;have hE1:=ps.all ah hE;obtain⟨g,hg⟩:∃g,g=2*x+1:=⟨_,rfl⟩;have v1:IntKind.i64.wrap (2*(x:Int))=2*(x:Int):=by rw[aR _ ah ah]
 have w1:IntKind.i64.wrap (2*(x:Int)+1)=(g:Int):=by rw[aR _ ah ah];omega
 by_cases hge:hi<=g
 ·rw[apV];simp[zL,f10,v1,w1,zK,f2,hge];exact⟨d1,ps,hX.leaf ah,hK⟩
 have w2 : IntKind.i64.wrap ((g:Int)+1)=((g+1:Nat):Int):=by rw[aR _ ah ah];omega
 obtain⟨g1,hg1⟩:∃g1,g1=g+1:=⟨_,rfl⟩;rw[<-hg1]at w2;obtain⟨G,hG⟩:∃G,G=f+g:=⟨_,rfl⟩;have wG:IntKind.i64.wrap ((f:Int)+(g:Int))=(G:Int):=by rw[aR _ ah ah];omega
 have wG1:IntKind.i64.wrap ((G:Int)+1)=((G+1:Nat):Int):=by rw[aR _ ah ah];omega
 rw[apV]
 by_cases hs:g1<hi
 ·obtain⟨G1,hG1⟩:∃G1,G1=G+1:=⟨_,rfl⟩;rw[<-hG1]at wG1;have x1:=bK (bk:=C.bk) (N:=N) (i:=G) ah;have x2:=bK (bk:=C.bk) (N:=N) (i:=G1) ah;have l1:=hK.ld (i:=G) ah;have l2:=hK.ld (i:=G1) ah;have hJ':=hK.J ho hJ hn0;simp[zL,f10,v1,w1,zK,f2,hge,Ew];refine bF.of (C.iT ho (hE1 G ah) (hE1 G1 ah)) ?_;simp[ae,f0,f2,f3,f4,w2,hs,wG,wG1,Cp.fv,x1,x2,l1,l2,Cp.ei hJ' (show C.lo<n' by omega)]
  by_cases hc:C.c (d1 G) (d1 G1)<0
  ·simp[hc,MA,w2,ae];refine V4 ho hK hJ hn0 hn hE1 ah (hi:=hi) (f:=f) (x:=x) (g:=g1) ⟨by simp[ae,f0],by simp[ae,f2],by simp[ae,f3],by simp[ae,f4],by simp[ae,f10]⟩ ai ah ah (λ hr F'=>?_) λ hl F' K' hF' hK'=>?_
   ·have h1:C.c (d1 (f+g1)) (d1 (f+x))<=0:=ho.le (hE1 _ ah) (hE1 _ ah) ah;simp;refine⟨d1,ps,hX.fin h1 λ k k1 k2 k3=>?_,hK⟩
    by_cases e:k=g1
    ·rw[e];exact h1
    have e:k=g:=ah;rw[e];refine ho.trans _ (d1 (f+g1)) _ (hE1 _ ah) (hE1 _ ah) (hE1 _ ah) ?_ h1;rw[show f+g=G by omega,show f+g1=G1 by omega];omega
   simp;refine⟨N - g1,ah,g1,rfl,hF',ah,ah,swp d1 (f+x) (f+g1),.sw _ _ ps ah ah ah ah,hX.step hx ah ah hs hl λ k k1 k2 k3=>?_,hK'⟩
   by_cases e:k=g1
   ·rw[e];have:=ho.IK (d1 (f+g1)) (d1 (f+g1)) (hE1 _ ah) (hE1 _ ah);omega
   have e:k=g:=ah;rw[e,show f+g=G by omega,show f+g1=G1 by omega];omega
  simp[hc];refine V4 ho hK hJ hn0 hn hE1 ah (hi:=hi) (f:=f) (x:=x) (g:=g) ⟨by simp[ae,f0],by simp[ae,f2],by simp[ae,f3],by simp[ae,f4],by simp[ae,f10]⟩ (by simp[ae]) ah ah (λ hr F'=>?_) λ hl F' K' hF' hK'=>?_
  ·have h1:C.c (d1 (f+g)) (d1 (f+x))<=0:=ho.le (hE1 _ ah) (hE1 _ ah) ah;simp;refine⟨d1,ps,hX.fin h1 λ k k1 k2 k3=>?_,hK⟩
   by_cases e:k=g
   ·rw[e];exact h1
   have e:k=g1:=ah;rw[e];refine ho.trans _ (d1 (f+g)) _ (hE1 _ ah) (hE1 _ ah) (hE1 _ ah) ?_ h1;rw[show f+g=G by omega,show f+g1=G1 by omega];exact ho.le (hE1 _ ah) (hE1 _ ah) hc
  simp;refine⟨N - g,ah,g,rfl,hF',ah,ah,swp d1 (f+x) (f+g),.sw _ _ ps ah ah ah ah,hX.step hx ah ah ah hl λ k k1 k2 k3=>?_,hK'⟩
  by_cases e:k=g
  ·rw[e];have:=ho.IK (d1 (f+g)) (d1 (f+g)) (hE1 _ ah) (hE1 _ ah);omega
  have e:k=g1:=ah;rw[e,show f+g=G by omega,show f+g1=G1 by omega];exact ho.le (hE1 _ ah) (hE1 _ ah) hc
 simp[zL,f10,v1,w1,zK,f2,hge,Ew];refine bF.of (bq (P:=pG)) ?_;simp[ae,f2,w2,hs];refine V4 ho hK hJ hn0 hn hE1 ah (hi:=hi) (f:=f) (x:=x) (g:=g) ⟨by simp[ae,f0],by simp[ae,f2],by simp[ae,f3],by simp[ae,f4],by simp[ae,f10]⟩ (by simp[ae]) ah ah (λ hr F'=>?_) λ hl F' K' hF' hK'=>?_
 ·have h1:C.c (d1 (f+g)) (d1 (f+x))<=0:=ho.le (hE1 _ ah) (hE1 _ ah) ah;simp;refine⟨d1,ps,hX.fin h1 λ k k1 k2 k3=>?_,hK⟩;have e:k=g:=ah;rw[e];exact h1
 simp;refine⟨N - g,ah,g,rfl,hF',ah,ah,swp d1 (f+x) (f+g),.sw _ _ ps ah ah ah ah,hX.step hx ah ah ah hl λ k k1 k2 k3=>?_,hK'⟩;have e:k=g:=ah;rw[e];have:=ho.IK (d1 (f+g)) (d1 (f+g)) (hE1 _ ah) (hE1 _ ah);omega
end Go.Abs
namespace Go.Abs
open List
open Go.Proofs
open Classical
set_option maxRecDepth 100000
variable {α:Type}{C:Cp α}{P:Program}{a b N:Nat}{d e:Nat->α}
theorem Cp.Ok.rf (ho:C.Ok P){x:α}(hx:C.El x):C.c x x<=0:=by
 have:=ho.IK x x hx hx;omega
theorem HpL.root (ho:C.Ok P)(hE:∀k,k<N->C.El (d k)){f t:Nat}(hf:f+t<=N)(h:HpL C f 0 t d):∀k,k<t->C.c (d (f+k)) (d f)<=0:=by
 intro k
 induction k using Nat.strongRecOn with
 |_ k ih =>
  intro hk
  by_cases h0:k=0
  ·subst h0;exact ho.rf (hE _ ah)
  exact ho.trans _ (d (f+(k - 1) / 2)) _ (hE _ ah) (hE _ ah) (hE _ ah) (h k ah hk (Nat.zero_le _)) (ih ((k - 1) / 2) ah ah)
theorem afQ (ho:C.Ok pG){H0 H:Hp}{n0 n:Nat}(hd:eW C H0 n0 N d H) (hJ:C.J H0) (hn0:C.lo<n0) (hn:n0<=n) (hE:∀k,k<N->C.El (d k)) (hab:a<b) (hbN:b<=N) (hN:N<60000):
  ao pG 275 [.sl C.bk 0 N 1,zI (a:Int),zI (b:Int),C.fv] H n (λ w K j=>w=.br []/\(∃d',PS a b d d'/\jd C a b d'/\eW C H0 n0 N d' K)/\j=n):=by
 refine ao.of c275 (by simp[A275]) λ F hF=>?_;obtain⟨L,hL⟩:∃L,L=b - a:=⟨_,rfl⟩;obtain⟨L1,hL1⟩:∃L1,L1=L - 1:=⟨_,rfl⟩;obtain⟨m,hm⟩:∃m,m=L1 / 2:=⟨_,rfl⟩;have w0:IntKind.i64.wrap ((b:Int) - (a:Int))=(L:Int):=by rw[aR _ ah ah];omega
 have w1:IntKind.i64.wrap ((L:Int) - 1)=(L1:Int):=by rw[aR _ ah ah];omega
 have q0:bS .quo .i64 (L1:Int) 2=.val (zI (m:Int)):=by rw[hm];exact aeQ L1 2 ah ah
 simp[A275,hF,w0,w1,q0];refine aF.of (λ t F' K n' ms=>∃d',F'.get 0=some (.sl C.bk 0 N 1)/\F'.get 3=some C.fv/\F'.get 8=some (zI (a:Int))/\F'.get 9=some (zI 0)/\F'.get 10=some (zI (L:Int))/\F'.get 11=some (zI ((t:Int) - 1))/\t<=m+1/\n'=n/\ms=[]/\PS a b d d'/\HpL C a t L d'/\eW C H0 n0 N d' K) (m+1) ⟨d,by simp[hF],by simp[hF],ai,ai,ai,ai,aL _,rfl,rfl,.refl d,λ k h1 h2 h3=>ah,hd⟩ ?_;clear hF hd;rintro t F1 K n' ms ⟨d1,f0,f3,f8,f9,f10,f11,ht,rfl,rfl,ps,hp,hK⟩;have hE1:=ps.all hbN hE
 by_cases h0:0<t
 ·obtain⟨i,hi⟩:∃i,i=t - 1:=⟨_,rfl⟩;rw[show (t:Int) - 1=(i:Int) by omega]at f11;have hge:(0:Int)<=(i:Int):=ah;have wi:IntKind.i64.wrap ((i:Int) - 1)=(i:Int) - 1:=by rw[aR _ ah ah]
  simp[N7,f11,f0,f3,f8,f10];refine aB.of (OQ ho hK hJ hn0 hn hE1 (lo:=i) (hi:=L) (f:=a) ah ah hN (by rw[show i+1=t by omega];exact hp)) λ w K2 j2 ⟨e1,⟨d2,ps2,hp2,hK2⟩,ej⟩=>?_;subst e1 ej;simp[ab5,f11,wi];exact⟨i,ah,f0,f3,f8,f9,f10,ai,ah,d2,ps.trans (ps2.wide ah ah),hp2,hK2⟩
 have e0:t=0:=ah;subst e0;rw[show ((0:Nat):Int) - 1 = -1 from rfl]at f11;have wL:IntKind.i64.wrap ((L:Int) - 1)=(L:Int) - 1:=by rw[aR _ ah ah]
 simp[N7,f11,ab4,f10,wL];refine aF.of (λ t F' K n2 ms=>∃d',F'.get 0=some (.sl C.bk 0 N 1)/\F'.get 3=some C.fv/\F'.get 8=some (zI (a:Int))/\F'.get 9=some (zI 0)/\F'.get 12=some (zI ((t:Int) - 1))/\t<=L/\n2=n'/\ms=[]/\PS a b d d'/\HpL C a 0 t d'/\(∀p q:Nat,p<q->t<=q->q<L->C.c (d' (a+p)) (d' (a+q))<=0)/\eW C H0 n0 N d' K) L ⟨d1,by simp[f0],by simp[f3],by simp[f8],by simp[f9],ai,aL _,ah,rfl,ps,hp,λ p q h1 h2 h3=>ah,hK⟩ ?_;clear f0 f3 f8 f9 f10 f11 ps hp hK hE1 d1 wL ht;rintro t F1 K n2 ms ⟨d1,f0,f3,f8,f9,f12,ht,rfl,rfl,ps,hp,ht2,hK⟩;have hE1:=ps.all hbN hE
 by_cases h0:0<t
 ·obtain⟨i,hi⟩:∃i,i=t - 1:=⟨_,rfl⟩;rw[show (t:Int) - 1=(i:Int) by omega]at f12;obtain⟨I,hI⟩:∃I,I=a+i:=⟨_,rfl⟩;have hge:(0:Int)<=(i:Int):=ah;have wi:IntKind.i64.wrap ((i:Int) - 1)=(i:Int) - 1:=by rw[aR _ ah ah]
  have wI:IntKind.i64.wrap ((a:Int)+(i:Int))=(I:Int):=by rw[aR _ ah ah];omega
  have x1:=bK (bk:=C.bk) (N:=N) (i:=a) ah;have x2:=bK (bk:=C.bk) (N:=N) (i:=I) ah;have l1:=hK.ld (i:=a) ah;have l2:=hK.ld (i:=I) ah;obtain⟨y1,y2,s1,s2,hK2⟩:=hK.two ho (i:=a) (j:=I) ah ah;simp[NZ,f12];refine bF.of (bq (P:=pG)) ?_;simp[ae,f0,f8,f12,wI,x1,x2,l1,l2,s1,s2,Ru,f3,f9];generalize hK3:Tr.put _ C.bk (some y2)=K3
  replace hK2:eW C H0 n0 N (swp d1 a I) K3:=by rw[<-hK3];simpa using hK2
  have ps1:PS a b d (swp d1 a I):=.sw a I ps ah ah ah ah;have hE2:=ps1.all hbN hE
  have hh:HpL C a (0+1) i (swp d1 a I):=λ k h1 h2 h3=>by
   rw[du ah ah,du ah ah];exact hp k h1 ah ah
  have sft:=OQ ho hK2 hJ hn0 hn hE2 (lo:=0) (hi:=i) (f:=a) ah ah hN hh;rw[show ((0:Nat):Int)=0 from rfl]at sft;refine aB.of sft λ w K4 j4 ⟨e1,⟨d3,vz,hp3,hK4⟩,ej⟩=>?_;subst e1 ej;simp[Rt,f0,f3,f8,f9,f12,wi,ae];refine⟨i,ah,rfl,ah,d3,ps1.trans (vz.wide ah ah),hp3,λ p q h1 h2 h3=>?_,hK4⟩;have hrt:=hp.root ho hE1 ah
  have hpv:p<i->∃p',p'<t/\d3 (a+p)=d1 (a+p'):=λ h=>by
   obtain⟨k',k1,k2,k3⟩:=vz.val (k:=a+p) ah ah;rw[k3]
   by_cases e:k'=a
   ·rw[e,s8];exact⟨i,ah,by rw[hI]⟩
   rw[du e ah];exact⟨k' - a,ah,by rw[show a+(k' - a)=k' by omega]⟩
  have hqv:i<q->d3 (a+q)=d1 (a+q):=λ h=>by
   rw[vz.out ah,du ah ah]
  have hiv:d3 (a+i)=d1 a:=by
   rw[vz.out ah,<-hI,AP]
  by_cases e:q=i
  ·obtain⟨p',g1,g2⟩:=hpv ah;rw[e,hiv,g2];exact hrt p' g1
  rw[hqv ah]
  by_cases g:p<i
  ·obtain⟨p',g1,g2⟩:=hpv g;rw[g2];exact ht2 p' q ah ah h3
  by_cases g2:p=i
  ·rw[g2,hiv];exact ht2 0 q ah ah h3
  rw[vz.out (k:=a+p) ah,du ah ah];exact ht2 p q h1 ah h3
 have e0:t=0:=ah;subst e0;rw[show ((0:Nat):Int) - 1 = -1 from rfl]at f12;simp[NZ,f12];refine⟨d1,ps,λ p q h1 h2 h3=>?_,hK⟩;have:=ht2 (p - a) (q - a) ah ah ah;rw[show a+(p - a)=p by omega,show a+(q - a)=q by omega]at this;exact this
end Go.Abs
namespace Go.Abs
open List
open Go.Proofs
open Classical
set_option maxRecDepth 100000
variable {α:Type}{C:Cp α}{P:Program}{a b N:Nat}{d e:Nat->α}
theorem jd.snoc (ho:C.Ok P)(hE:∀k,k<N->C.El (d k)){i:Nat}(h:jd C a i d)(hi:a<i)(hN:i<N)(hl:¬C.c (d i) (d (i - 1))<0):jd C a (i+1) d:=λ p q h1 h2 h3=>by
 by_cases e:q=i
 ·subst e;have h3:=ho.le (hE (q - 1) ah) (hE q hN) hl
  by_cases e2:p=q - 1
  ·rw[e2];exact h3
  exact ho.trans _ (d (q - 1)) _ (hE _ ah) (hE _ ah) (hE _ hN) (h p (q - 1) h1 ah ah) h3
 exact h p q h1 h2 ah
def Fi (C:Cp α)(N a b i j:Nat)(F:Fr):Prop:=F.get 0=some (.sl C.bk 0 N 1)/\F.get 1=some (zI (a:Int))/\F.get 2=some (zI (b:Int))/\F.get 3=some C.fv/\F.get 9=some (zI (i:Int))/\F.get 10=some (zI (j:Int))
theorem aeI {Q:QA}(ho:C.Ok pG){H0 K:Hp}{n0 n:Nat}(hd:eW C H0 n0 N d K)(hJ:C.J H0)(hn0:C.lo<n0)(hn:n0<=n)(hE:∀k,k<N->C.El (d k))(hbN:b<=N)(hN:N<60000){F:Fr}{i j:Nat}(hF:Fi C N a b i j F)(hi:a<i)(hib:i<=b)(hs:jd C a i d)
  (hQ:∀F' i',Fi C N a b i' j F'->i<=i'->i'<=b->jd C a i' d->(i'<b->C.c (d i') (d (i' - 1))<0)->Q (.exit 2) F' K n []):aF Gs pG F K n [] Q:=by
 refine aF.of (λ t F' K' n' ms=>∃i',t=b - i'/\i<=i'/\i'<=b/\Fi C N a b i' j F'/\K'=K/\n'=n/\ms=[]/\jd C a i' d) (b - i) ⟨i,rfl,aL _,hib,hF,rfl,rfl,rfl,hs⟩ ?_;clear hF hs;rintro t F' K' n' ms ⟨i',rfl,h1,h2,⟨f0,f1,f2,f3,f9,f10⟩,rfl,rfl,rfl,hs⟩
 by_cases hlt:i'<b
 ·have w1:IntKind.i64.wrap ((i':Int) - 1)=((i' - 1:Nat):Int):=by rw[aR _ ah ah];omega
  have w2:IntKind.i64.wrap ((i':Int)+1)=((i'+1:Nat):Int):=by rw[aR _ ah ah];omega
  have x1:=bK (bk:=C.bk) (N:=N) (i:=i') ah;have x2:=bK (bk:=C.bk) (N:=N) (i:=i' - 1) ah;have l1:=hd.ld (i:=i') ah;have l2:=hd.ld (i:=i' - 1) ah;have hJ':=hd.J ho hJ hn0;have hsn:=hs.snoc ho hE ah ah;have hst:=hQ F' i' ⟨f0,f1,f2,f3,f9,f10⟩ h1 h2 hs;generalize hi1:i' - 1=i1 at *;simp[Gs];refine bF.of (C.iT ho (hE i' ah) (hE i1 ah)) ?_;simp[ae,f0,f2,f3,f9,hlt,w1,Cp.fv,x1,x2,l1,l2,Cp.ei hJ' (show C.lo<n' by omega)]
  by_cases hc:C.c (d i') (d i1)<0
  ·simp[hc];refine hQ _ i' ⟨by simp[ae,f0],by simp[ae,f1],by simp[ae,f2],by simp[ae,f3],by simp[ae,f9],by simp[ae,f10]⟩ h1 h2 hs λ _=>by rw[hi1];exact hc
  simp[hc,abX,ae,f9,w2];exact⟨b - (i'+1),ah,i'+1,rfl,ah,ah,⟨by simp[ae,f0],by simp[ae,f1],by simp[ae,f2],by simp[ae,f3],ai,by simp[ae,f10]⟩,hsn hc⟩
 simp[Gs];refine bF.of (bq (P:=pG)) ?_;simp[ae,f2,f9,hlt];exact hQ _ i' ⟨by simp[ae,f0],by simp[ae,f1],by simp[ae,f2],by simp[ae,f3],by simp[ae,f9],by simp[ae,f10]⟩ h1 h2 hs λ h=>aw h hlt
theorem aeH {Q:QA}(ho:C.Ok pG){H0 K:Hp}{n0 n:Nat}(hd:eW C H0 n0 N d K)(hJ:C.J H0)(hn0:C.lo<n0)(hn:n0<=n)(hE:∀k,k<N->C.El (d k))(hbN:b<=N)(hN:N<60000){F:Fr}{i j:Nat}(hF:Fi C N a b i j F)(f11:F.get 11=some (zI ((i - 1:Nat):Int)))(hi:a<i)(hib:i<b)(hs:zX C a (i - 1) (i - 1) d)(hg:0<a->∀k,a<=k->k<b->C.c (d (a - 1)) (d k)<=0)
  (hQ:∀F' K' d',Fi C N a b i j F'->PS a b d d'->jd C a i d'->eW C H0 n0 N d' K'->Q (.exit 4) F' K' n []):aF Gq pG F K n [] Q:=by
 refine aF.of (λ t F' K' n' ms=>∃d',t<=i - 1/\a<=t/\Fi C N a b i j F'/\F'.get 11=some (zI (t:Int))/\n'=n/\ms=[]/\PS a b d d'/\zX C a (i - 1) t d'/\eW C H0 n0 N d' K') (i - 1) ⟨d,aL _,ah,hF,f11,rfl,rfl,.refl d,hs,hd⟩ ?_;clear hF f11 hs hd;rintro t F' K' n' ms ⟨d1,h1,h2,⟨f0,f1,f2,f3,f9,f10⟩,f11,rfl,rfl,ps,hs,hd⟩;have hE1:=ps.all hbN hE
 have don:(a<t->¬C.c (d1 t) (d1 (t - 1))<0)->jd C a i d1:=λ h=>by
  have:=hs.fin ho hE1 h2 h1 ah h;rw[show i - 1+1=i by omega]at this;exact this
 by_cases h0:1<=t
 ·have h0':(1:Int)<=(t:Int):=ah;have w1:IntKind.i64.wrap ((t:Int) - 1)=((t - 1:Nat):Int):=by rw[aR _ ah ah];omega
  have x1:=bK (bk:=C.bk) (N:=N) (i:=t) ah;have x2:=bK (bk:=C.bk) (N:=N) (i:=t - 1) ah;have l1:=hd.ld (i:=t) ah;have l2:=hd.ld (i:=t - 1) ah;obtain⟨y1,y2,s1,s2,hK2⟩:=hd.two ho (i:=t) (j:=t - 1) ah ah;have hJ':=hd.J ho hJ hn0
  have hgd:C.c (d1 t) (d1 (t - 1))<0->a<t:=λ hc=>by
   refine Nat.lt_of_le_of_ne h2 λ e=>?_;subst e;obtain⟨k',k1,k2,k3⟩:=ps.val (k:=a) (aL _) ah;have:=hg ah k' k1 k2;rw[<-k3,<-ps.out (k:=a - 1) ah]at this;have h3:=ho.IK (d1 a) (d1 (a - 1)) (hE1 _ ah) (hE1 _ ah);omega
  have stp:=λ hc=>hs.step (hgd hc) h1 hc;generalize ht1:t - 1=t1 at *;simp[Gq,f11,h0'];refine bF.of (C.iT ho (hE1 t ah) (hE1 t1 ah)) ?_;simp[ae,f0,f3,f11,w1,Cp.fv,x1,x2,l1,l2,Cp.ei hJ' (show C.lo<n' by omega)]
  by_cases hc:C.c (d1 t) (d1 t1)<0
  ·simp[hc,Rm];refine bF.of (bq (P:=pG)) ?_;simp[ae,f0,f11,w1,x1,x2,l1,l2,s1,s2,Rl];have:=hgd hc;refine⟨t1,ah,ah,ah,⟨by simp[ae,f0],by simp[ae,f1],by simp[ae,f2],by simp[ae,f3],by simp[ae,f9],by simp[ae,f10]⟩,rfl,swp d1 t t1,.sw t t1 ps ah ah ah ah,stp hc,by simpa using hK2⟩
  simp[hc];exact hQ _ _ d1 ⟨by simp[ae,f0],by simp[ae,f1],by simp[ae,f2],by simp[ae,f3],by simp[ae,f9],by simp[ae,f10]⟩ ps (don λ _=>hc) hd
 have h0':¬(1:Int)<=(t:Int):=ah;simp[Gq,f11,h0'];exact hQ _ _ d1 ⟨by simp[f0],by simp[f1],by simp[f2],by simp[f3],by simp[f9],by simp[f10]⟩ ps (don λ h=>ah) hd
theorem OU {Q:QA}(ho:C.Ok pG){H0 K:Hp}{n0 n:Nat}(hd:eW C H0 n0 N d K)(hJ:C.J H0)(hn0:C.lo<n0)(hn:n0<=n)(hE:∀k,k<N->C.El (d k))(hbN:b<=N)(hN:N<60000){F:Fr}{i j:Nat}(hF:Fi C N a b i j F)(f12:F.get 12=some (zI ((i+1:Nat):Int)))(hi:a<i)(hib:i<b)(hs:jd C a i d)
  (hQ:∀F' K' d',Fi C N a b i j F'->PS a b d d'->jd C a i d'->eW C H0 n0 N d' K'->Q (.exit 6) F' K' n []):aF Gp pG F K n [] Q:=by
 refine aF.of (λ t F' K' n' ms=>∃x d',t=b - x/\i<x/\x<=b/\Fi C N a b i j F'/\F'.get 12=some (zI ((x:Nat):Int))/\n'=n/\ms=[]/\PS a b d d'/\jd C a i d'/\eW C H0 n0 N d' K') (b - (i+1)) ⟨i+1,d,rfl,ah,ah,hF,f12,rfl,rfl,.refl d,hs,hd⟩ ?_;clear hF f12 hs hd;rintro t F' K' n' ms ⟨x,d1,rfl,h1,h2,⟨f0,f1,f2,f3,f9,f10⟩,f12,rfl,rfl,ps,hs,hd⟩;have hE1:=ps.all hbN hE
 by_cases hlt:x<b
 ·have w1:IntKind.i64.wrap ((x:Int) - 1)=((x - 1:Nat):Int):=by rw[aR _ ah ah];omega
  have w2:IntKind.i64.wrap ((x:Int)+1)=((x+1:Nat):Int):=by rw[aR _ ah ah];omega
  have x1:=bK (bk:=C.bk) (N:=N) (i:=x) ah;have x2:=bK (bk:=C.bk) (N:=N) (i:=x - 1) ah;have l1:=hd.ld (i:=x) ah;have l2:=hd.ld (i:=x - 1) ah;obtain⟨y1,y2,s1,s2,hK2⟩:=hd.two ho (i:=x) (j:=x - 1) ah ah;have hJ':=hd.J ho hJ hn0;obtain⟨z,hz⟩:∃z,z=x - 1:=⟨_,rfl⟩;rw[<-hz]at w1 x2 l2 s1 s2 hK2;simp[Gp,f12,f2,hlt];refine bF.of (C.iT ho (hE1 x ah) (hE1 z ah)) ?_;simp[ae,f0,f3,f12,w1,Cp.fv,x1,x2,l1,l2,Cp.ei hJ' (show C.lo<n' by omega)]
  by_cases hc:C.c (d1 x) (d1 z)<0
  ·simp[hc,Rk];refine bF.of (bq (P:=pG)) ?_;simp[ae,f0,f12,w1,w2,x1,x2,l1,l2,s1,s2,Rj];refine⟨b - (x+1),ah,x+1,rfl,ah,ah,⟨by simp[ae,f0],by simp[ae,f1],by simp[ae,f2],by simp[ae,f3],by simp[ae,f9],by simp[ae,f10]⟩,ai,swp d1 x z,.sw x z ps ah ah ah ah,λ p q g1 g2 g3=>?_,by simpa using hK2⟩;rw[du ah ah,du ah ah];exact hs p q g1 g2 g3
  simp[hc];exact hQ _ _ d1 ⟨by simp[ae,f0],by simp[ae,f1],by simp[ae,f2],by simp[ae,f3],by simp[ae,f9],by simp[ae,f10]⟩ ps hs hd
 simp[Gp,f12,f2,hlt];exact hQ _ _ d1 ⟨by simp[f0],by simp[f1],by simp[f2],by simp[f3],by simp[f9],by simp[f10]⟩ ps hs hd
end Go.Abs
namespace Go.Abs
open List
open Go.Proofs
open Classical
set_option maxRecDepth 100000
variable {α:Type}{C:Cp α}{P:Program}{a b N:Nat}{d e:Nat->α}
def Gd (C:Cp α)(a b:Nat)(d:Nat->α):Prop:=0<a->∀k:Nat,a<=k->k<b->C.c (d (a - 1)) (d k)<=0
theorem Gd.ps (h:Gd C a b d)(ps:PS a b d e):Gd C a b e:=λ h0 k h1 h2=>by
 obtain⟨k',g1,g2,g3⟩:=ps.val h1 h2;rw[ps.out (k:=a - 1) ah,g3];exact h h0 k' g1 g2
theorem akg (ho:C.Ok pG){H0 H:Hp}{n0 n:Nat}(hd:eW C H0 n0 N d H)(hJ:C.J H0)(hn0:C.lo<n0)(hn:n0<=n)(hE:∀k,k<N->C.El (d k))(hab:a<b)(hbN:b<=N)(hN:N<60000)(hg:Gd C a b d):
  ao pG 279 [.sl C.bk 0 N 1,zI (a:Int),zI (b:Int),C.fv] H n (λ w K j=>(∃bl,w=.bool bl/\∃d',PS a b d d'/\(bl=true->jd C a b d')/\eW C H0 n0 N d' K)/\j=n):=by
 refine ao.of c279 (by simp[A279]) λ F hF=>?_;have w0:IntKind.i64.wrap ((a:Int)+1)=((a+1:Nat):Int):=by rw[aR _ ah ah];omega
 have wl:IntKind.i64.wrap ((b:Int) - (a:Int))=(b:Int) - (a:Int):=by rw[aR _ ah ah]
 simp[A279,hF,w0];refine aF.of (λ t F' K n' ms=>∃i j d',t=5 - j/\j<=5/\Fi C N a b i j F'/\a<i/\i<=b/\n'=n/\ms=[]/\PS a b d d'/\jd C a i d'/\eW C H0 n0 N d' K) 5 ⟨a+1,0,d,rfl,ah,⟨by simp[hF],by simp[hF],by simp[hF],by simp[hF],ai,ai⟩,ah,ah,rfl,rfl,.refl d,λ p q h1 h2 h3=>ah,hd⟩ ?_;clear hF hd;rintro t F1 K n' ms ⟨i,j,d1,rfl,hj,hF1,hi,hib,rfl,rfl,ps,so,hK⟩;have hE1:=ps.all hbN hE;have wj:IntKind.i64.wrap ((j:Int)+1)=((j+1:Nat):Int):=by rw[aR _ ah ah];omega
 have f10:=hF1.2.2.2.2.2
 by_cases h5:j<5
 ·have h5':(j:Int)<5:=ah;simp[NW,f10,h5'];refine aeI ho hK hJ hn0 hn hE1 hbN hN (i:=i) (j:=j) (a:=a) (b:=b) (by obtain⟨f0,f1,f2,f3,f9,f10⟩:=hF1;exact⟨by simp[f0],by simp[f1],by simp[f2],by simp[f3],by simp[f9],by simp[f10]⟩) hi hib so λ F2 i2 hF2 g1 g2 V3 g3=>?_;clear f10 hF1 so;obtain⟨f0,f1,f2,f3,f9,f10⟩:=hF2
  by_cases hb:i2=b
  ·have hb':(i2:Int)=(b:Int):=ah;simp[EE,f2,f9,hb',abW];exact⟨d1,ps,λ p q h1 h2 h3=>V3 p q h1 h2 ah,hK⟩
  have hb':¬(i2:Int)=(b:Int):=ah;have hlt:=g3 ah;have w1:IntKind.i64.wrap ((i2:Int) - 1)=((i2 - 1:Nat):Int):=by rw[aR _ ah ah];omega
  have w2:IntKind.i64.wrap ((i2:Int)+1)=((i2+1:Nat):Int):=by rw[aR _ ah ah];omega
  have w3:IntKind.i64.wrap ((i2:Int) - (a:Int))=(i2:Int) - (a:Int):=by rw[aR _ ah ah]
  have w4:IntKind.i64.wrap ((b:Int) - (i2:Int))=(b:Int) - (i2:Int):=by rw[aR _ ah ah]
  have x1:=bK (bk:=C.bk) (N:=N) (i:=i2) ah;have x2:=bK (bk:=C.bk) (N:=N) (i:=i2 - 1) ah;have l1:=hK.ld (i:=i2) ah;have l2:=hK.ld (i:=i2 - 1) ah;obtain⟨y1,y2,s1,s2,hK2⟩:=hK.two ho (i:=i2) (j:=i2 - 1) ah ah;have ps1:PS a b d (swp d1 i2 (i2 - 1)):=.sw i2 (i2 - 1) ps ah ah ah ah
  have ins:zX C a (i2 - 1) (i2 - 1) (swp d1 i2 (i2 - 1)):=λ p q h1 h2 h3 h4=>by
   rw[du ah ah,du ah h4];exact V3 p q h1 h2 ah
  have tri:i2=a+1->jd C a i2 (swp d1 i2 (i2 - 1)):=λ e p q h1 h2 h3=>ah
  by_cases h50:(b:Int) - (a:Int)<50
  ·simp[EE,f1,f2,f9,hb',ML,wl,h50,abV];exact⟨d1,ps,hK⟩
  simp[EE,f1,f2,f9,hb',ML,wl,h50,Rq];refine bF.of (bq (P:=pG)) ?_;simp[ae,f0,f9,w1,x1,x2,l1,l2,s1,s2,Ro,f1,w3];generalize hK3:Tr.put _ C.bk (some y2)=K3
  replace hK2:eW C H0 n0 N (swp d1 i2 (i2 - 1)) K3:=by rw[<-hK3];simpa using hK2
  have hE2:=ps1.all hbN hE;have gd:=hg.ps ps1;clear hK3 s1 s2 l1 l2 hK;generalize swp d1 i2 (i2 - 1)=d2 at *
  by_cases h2l:2<=(i2:Int) - (a:Int)
  ·simp[h2l,Rn,f9,ae,w1];refine aeH ho hK2 hJ hn0 hn hE2 hbN hN (i:=i2) (j:=j) (a:=a) (b:=b) ⟨by simp[ae,f0],by simp[ae,f1],by simp[ae,f2],by simp[ae,f3],by simp[ae,f9],by simp[ae,f10]⟩ ai ah ah ins gd λ F3 K4 d3 hF3 vz so3 hK4=>?_;clear f0 f1 f2 f3 f9 f10;obtain⟨f0,f1,f2,f3,f9,f10⟩:=hF3;have ps4:=ps1.trans vz;have hE3:=ps4.all hbN hE
   by_cases h2r:2<=(b:Int) - (i2:Int)
   ·simp[ub,f2,f9,w4,h2r,EF,w2];refine OU ho hK4 hJ hn0 hn hE3 hbN hN (i:=i2) (j:=j) (a:=a) (b:=b) ⟨by simp[f0],by simp[f1],by simp[f2],by simp[f3],by simp[f9],by simp[f10]⟩ ai ah ah so3 λ F4 K5 d4 HM ps5 so4 hK5=>?_;obtain⟨f0,f1,f2,f3,f9,f10⟩:=HM;simp[ua,f10,wj];exact⟨5 - (j+1),ah,i2,j+1,rfl,ah,⟨by simp[f0],by simp[f1],by simp[f2],by simp[f3],by simp[f9],ai⟩,ah,ah,d4,ps4.trans ps5,so4,hK5⟩
   simp[ub,f2,f9,w4,h2r,ua,f10,wj];exact⟨5 - (j+1),ah,i2,j+1,rfl,ah,⟨by simp[f0],by simp[f1],by simp[f2],by simp[f3],by simp[f9],ai⟩,ah,ah,d3,ps4,so3,hK4⟩
  have so3:=tri ah
  by_cases h2r:2<=(b:Int) - (i2:Int)
  ·simp[h2l,ub,f2,f9,w4,h2r,EF,w2,ae];refine OU ho hK2 hJ hn0 hn hE2 hbN hN (i:=i2) (j:=j) (a:=a) (b:=b) ⟨by simp[ae,f0],by simp[ae,f1],by simp[ae,f2],by simp[ae,f3],by simp[ae,f9],by simp[ae,f10]⟩ ai ah ah so3 λ F4 K5 d4 HM ps5 so4 hK5=>?_;clear f0 f1 f2 f3 f9 f10;obtain⟨f0,f1,f2,f3,f9,f10⟩:=HM;simp[ua,f10,wj];exact⟨5 - (j+1),ah,i2,j+1,rfl,ah,⟨by simp[f0],by simp[f1],by simp[f2],by simp[f3],by simp[f9],ai⟩,ah,ah,d4,ps1.trans ps5,so4,hK5⟩
  simp[h2l,ub,f2,f9,w4,h2r,ua,f10,wj,ae];exact⟨5 - (j+1),ah,i2,j+1,rfl,ah,⟨by simp[ae,f0],by simp[ae,f1],by simp[ae,f2],by simp[ae,f3],by simp[ae,f9],ai⟩,ah,ah,d2,ps1,so3,hK2⟩
 have h5':¬(j:Int)<5:=ah;simp[NW,f10,h5',Q9];exact⟨d1,ps,hK⟩
end Go.Abs
namespace Go.Abs
open List
open Go.Proofs
open Classical
set_option maxRecDepth 100000
variable {α:Type}{C:Cp α}{P:Program}{a b N:Nat}{d e:Nat->α}{x y:Nat}
def Out (C:Cp α)(a b x y:Nat)(d:Nat->α):Prop:=∀p q,a<=p->p<q->q<b->(p<x∨y<=q)->C.c (d p) (d q)<=0
theorem Out.ps (h:Out C a b x y d)(ps:PS x y d e)(hax:a<=x)(hyb:y<=b):Out C a b x y e:=λ p q h1 h2 h3 h4=>by
 by_cases hp:p<x∨y<=p
 ·rw[ps.out hp]
  by_cases hq:q<x∨y<=q
  ·rw[ps.out hq];exact h p q h1 h2 h3 h4
  obtain⟨k,g1,g2,g3⟩:=ps.val (k:=q) ah ah;rw[g3];exact h p k h1 ah ah ah
 obtain⟨k,g1,g2,g3⟩:=ps.val (k:=p) ah ah;rw[g3,ps.out (k:=q) ah];exact h k q ah ah h3 ah
theorem Out.fin (h:Out C a b x y d)(so:jd C x y d):jd C a b d:=λ p q h1 h2 h3=>by
 by_cases e:p<x∨y<=q
 ·exact h p q h1 h2 h3 e
 exact so p q ah h2 ah
theorem Out.gd (h:Out C a b x y d)(hg:Gd C a b d)(hax:a<=x)(hyb:y<=b):Gd C x y d:=λ h0 k h1 h2=>by
 by_cases e:x=a
 ·subst e;exact hg h0 k h1 ah
 exact h (x - 1) k ah ah ah ah
theorem Gd.sub {x' y':Nat}(h:Gd C x y d)(hx:x'=x)(hy:y'<=y):Gd C x' y' d:=by
 subst hx;exact λ h0 k h1 h2=>h h0 k h1 ah
theorem Out.eq (ho:C.Ok P) (hE:∀k,k<N->C.El (d k)) (hbN:b<=N) (h:Out C a b x y d) (_hax:a<=x) (_hyb:y<=b){m:Nat}(_hm:x<m) (_hmy:m<=y) (hg:Gd C x y d) (h0:0<x) (hp:C.c (d x) (d (x - 1))<=0) (hl:∀k:Nat,x<k->k<m->0<=C.c (d x) (d k)):Out C a b m y d:=λ p q h1 h2 h3 h4=>by
 by_cases e:p<x∨y<=q
 ·exact h p q h1 h2 h3 e
 have g1:C.c (d p) (d x)<=0:=by
  by_cases e2:p=x
  ·rw[e2];exact ho.rf (hE _ ah)
  refine ho.le (hE _ ah) (hE _ ah) ?_;have:=hl p ah ah;omega
 refine ho.trans _ (d x) _ (hE _ ah) (hE _ ah) (hE _ ah) g1 ?_;exact ho.trans _ (d (x - 1)) _ (hE _ ah) (hE _ ah) (hE _ ah) hp (hg h0 q ah ah)
theorem Tm.left {m:Nat}(h:Tm C x y m d)(ps:PS x m d e):Tm C x y m e:=by
 obtain⟨h1,h2,h3,h4⟩:=h;refine⟨h1,h2,λ k g1 g2=>?_,λ k g1 g2=>?_⟩
 ·obtain⟨k',k1,k2,k3⟩:=ps.val g1 g2;rw[k3,ps.out (k:=m) ah];exact h3 k' k1 k2
 rw[ps.out (k:=k) ah,ps.out (k:=m) ah];exact h4 k g1 g2
theorem Tm.right {m:Nat}(h:Tm C x y m d)(ps:PS (m+1) y d e):Tm C x y m e:=by
 obtain⟨h1,h2,h3,h4⟩:=h;refine⟨h1,h2,λ k g1 g2=>?_,λ k g1 g2=>?_⟩
 ·rw[ps.out (k:=k) ah,ps.out (k:=m) ah];exact h3 k g1 g2
 obtain⟨k',k1,k2,k3⟩:=ps.val (k:=k) ah g2;rw[k3,ps.out (k:=m) ah];exact h4 k' ah k2
theorem Tm.le (ho:C.Ok P)(hE:∀k,k<N->C.El (d k)){m:Nat}(HK:y<=N)(h:Tm C x y m d):(∀p,x<=p->p<m->C.c (d p) (d m)<=0)/\(∀q,m<q->q<y->C.c (d m) (d q)<=0)/\∀p q,x<=p->p<m->m<q->q<y->C.c (d p) (d q)<=0:=by
 obtain⟨h1,h2,h3,h4⟩:=h;have k1:∀p,x<=p->p<m->C.c (d p) (d m)<=0:=λ p g1 g2=>by have:=h3 p g1 g2;omega
 have k2:∀q,m<q->q<y->C.c (d m) (d q)<=0:=λ q g1 g2=>ho.le (hE _ ah) (hE _ ah) (by have:=h4 q g1 g2;omega);exact⟨k1,k2,λ p q g1 g2 g3 g4=>ho.trans _ (d m) _ (hE _ ah) (hE _ ah) (hE _ ah) (k1 p g1 g2) (k2 q g3 g4)⟩
theorem Out.left (ho:C.Ok P)(hE:∀k,k<N->C.El (d k)){m:Nat}(HK:y<=N)(h:Out C a b x y d)(pt:Tm C x y m d)(so:jd C x m d):Out C a b (m+1) y d:=λ p q h1 h2 h3 h4=>by
 obtain⟨k1,k2,k3⟩:=pt.le ho hE HK
 by_cases e:p<x∨y<=q
 ·exact h p q h1 h2 h3 e
 by_cases e1:p<m
 ·rcases Nat.lt_trichotomy q m with g|g|g
  ·exact so p q ah h2 g
  ·rw[g];exact k1 p ah e1
  exact k3 p q ah e1 g ah
 have:p=m:=ah;rw[this];exact k2 q ah ah
theorem Out.right (ho:C.Ok P)(hE:∀k,k<N->C.El (d k)){m:Nat}(HK:y<=N)(h:Out C a b x y d)(pt:Tm C x y m d)(so:jd C (m+1) y d):Out C a b x m d:=λ p q h1 h2 h3 h4=>by
 obtain⟨k1,k2,k3⟩:=pt.le ho hE HK
 by_cases e:p<x∨y<=q
 ·exact h p q h1 h2 h3 e
 rcases Nat.lt_trichotomy p m with g|g|g
 ·by_cases e1:q=m
  ·rw[e1];exact k1 p ah g
  exact k3 p q ah g ah ah
 ·rw[g];exact k2 q ah ah
 exact so p q ah h2 ah
end Go.Abs
