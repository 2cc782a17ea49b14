/- A part. -/
import Derived.Test.YtlhafglnokpioaaGreatBt9
noncomputable section
namespace Go.Abs
open List
open Go.Proofs
open Classical
set_option maxRecDepth 100000
variable {α:Type}{C:Cp α}{P:Program}{a b N:Nat}{d e:Nat->α}{x y:Nat}
def QJ:CT:=(.seq EU (.cond (aA 39) (.seq M_ M9) .skip))
def QI:CT:=(.seq wU (.cond (aA 56) (.seq Fh (.seq Fg Fe)) .skip))
def CM:CT:=(.seq qV (.cond (aA 75) (.seq Fb (.cond (aA 80) .ret .skip)) .skip))
def QH:CT:=(.seq wT (.cond (aA 97) (.seq Fa (.seq E' (.exit 1))) .skip))
def ZQ:CT:=(.seq E9 (.seq E8 (.seq E7 (.seq E6 (.seq E4 (.cond (aA 125) (.seq E3 (.seq E2 E1)) (.seq EZ (.seq EY EX))))))))
theorem awf:Ol=(.block 1 (.seq vf (.seq (.seq ve (.cond (aA 25) (.seq EW .ret) .skip)) (.seq (.seq EV (.cond (aA 32) (.seq NA .ret) .skip)) (.seq QJ (.seq Fj (.seq QI (.seq CM (.seq QH ZQ)))))))))  := rfl
def Fq (C:Cp α)(N x y:Nat)(F:Fr):Prop:=F.get 0=some (.sl C.bk 0 N 1)/\F.get 1=some (zI (x:Int))/\F.get 2=some (zI (y:Int))/\F.get 4=some C.fv/\(∃l,F.get 3=some (zI l))/\(∃w,F.get 10=some (.bool w))/\∃w,F.get 11=some (.bool w)
section
variable {Q:QA}{H0 K:Hp}{n0 n:Nat}{F:Fr}
theorem ao1 (ho:C.Ok pG)(hd:eW C H0 n0 N d K)(hn0:C.lo<n0)(hn:n0<=n)(hxy:x+12<y)(HK:y<=N)(hN:N<60000)(hF:Fq C N x y F)
  (hQ:∀F' K' n' d',Fq C N x y F'->F'.get 12=F.get 12->PS x y d d'->eW C H0 n0 N d' K'->n<=n'->Q .normal F' K' n' []):VC pG QJ F K n [] Q:=by
 obtain⟨f0,f1,f2,f4,⟨l,f3⟩,⟨wb,f10⟩,⟨wp,f11⟩⟩:=hF
 cases wb with
 |true =>
  simp[QJ,EU,f10];exact hQ _ _ _ d ⟨by simp[f0],by simp[f1],by simp[f2],by simp[f4],⟨l,by simp[f3]⟩,⟨true,by simp[f10]⟩,⟨wp,by simp[f11]⟩⟩ ai (.refl d) hd (aL _)
 |false =>
  simp[QJ,EU,f10,M_,f0,f1,f2,f4];refine aB.of (amq ho hd hn0 hn hxy HK hN) λ w K1 n1 ⟨e1,⟨d1,ps,hd1⟩,h1⟩=>?_;subst e1;simp[M9,f3];exact hQ _ _ _ d1 ⟨by simp[f0],by simp[f1],by simp[f2],by simp[f4],⟨IntKind.i64.wrap (l - 1),ai⟩,⟨false,by simp[f10]⟩,⟨wp,by simp[f11]⟩⟩ ai ps hd1 h1
theorem ao0 (ho:C.Ok pG)(hd:eW C H0 n0 N d K)(hxy:x+12<y)(HK:y<=N)(hN:N<60000)(hF:Fq C N x y F){pv:Nat}{h:Int}(hp1:x<=pv)(hp2:pv<y)(f13:F.get 13=some (zI (pv:Int)))(f14:F.get 14=some (zI h))
  (hQ:∀F' K' d' (pv':Nat)(h':Int),Fq C N x y F'->F'.get 12=F.get 12->PS x y d d'->eW C H0 n0 N d' K'->x<=pv'->pv'<y->F'.get 13=some (zI (pv':Int))->F'.get 14=some (zI h')->Q .normal F' K' n []):VC pG QI F K n [] Q:=by
 obtain⟨f0,f1,f2,f4,⟨l,f3⟩,⟨wb,f10⟩,⟨wp,f11⟩⟩:=hF
 by_cases h2:h=2
 ·subst h2;simp[QI,wU,f14,Fh,f0,f1,f2,f4];refine aB.of (ajU ho hd ah HK ah) λ w K1 n1 ⟨e1,⟨d1,ps,hd1⟩,h1⟩=>?_;subst e1 h1;obtain⟨y1,hy1⟩:∃y1,y1=y - 1:=⟨_,rfl⟩;obtain⟨z,hz⟩:∃z,z=pv - x:=⟨_,rfl⟩;obtain⟨p',hp'⟩:∃p',p'=y1 - z:=⟨_,rfl⟩;have w1:IntKind.i64.wrap ((y:Int) - 1)=(y1:Int):=by rw[aR _ ah ah];omega
  have w2:IntKind.i64.wrap ((pv:Int) - (x:Int))=(z:Int):=by rw[aR _ ah ah];omega
  have w3:IntKind.i64.wrap ((y1:Int) - (z:Int))=(p':Int):=by rw[aR _ ah ah];omega
  simp[Fg,f1,f2,f13,w1,w2,w3,Fe];exact hQ _ _ d1 p' 1 ⟨by simp[f0],by simp[f1],by simp[f2],by simp[f4],⟨l,by simp[f3]⟩,⟨wb,by simp[f10]⟩,⟨wp,by simp[f11]⟩⟩ ai ps hd1 ah ah ai ai
 simp[QI,wU,f14,h2];exact hQ _ _ d pv h ⟨by simp[f0],by simp[f1],by simp[f2],by simp[f4],⟨l,by simp[f3]⟩,⟨wb,by simp[f10]⟩,⟨wp,by simp[f11]⟩⟩ ai (.refl d) hd hp1 hp2 (by simp[f13]) (by simp[f14])
theorem aoZ (ho:C.Ok pG) (hd:eW C H0 n0 N d K) (hJ:C.J H0) (hn0:C.lo<n0) (hn:n0<=n) (hE:∀k,k<N->C.El (d k)) (hxy:x+12<y) (HK:y<=N) (hN:N<60000) (hg:Gd C x y d) (hF:Fq C N x y F){pv:Nat}{h:Int}(f13:F.get 13=some (zI (pv:Int))) (f14:F.get 14=some (zI h))
  (hR:∀F' K' d',PS x y d d'->jd C x y d'->eW C H0 n0 N d' K'->Q .ret F' K' n [])
  (hQ:∀F' K' d',Fq C N x y F'->F'.get 12=F.get 12->PS x y d d'->eW C H0 n0 N d' K'->F'.get 13=some (zI (pv:Int))->Q .normal F' K' n []):VC pG CM F K n [] Q:=by
 obtain⟨f0,f1,f2,f4,⟨l,f3⟩,⟨wb,f10⟩,⟨wp,f11⟩⟩:=hF
 cases wb with
 |false =>
  simp[CM,qV,f10];exact hQ _ _ d ⟨by simp[f0],by simp[f1],by simp[f2],by simp[f4],⟨l,by simp[f3]⟩,⟨false,by simp[f10]⟩,⟨wp,by simp[f11]⟩⟩ ai (.refl d) hd (by simp[f13])
 |true=>cases wp with
  |false =>
   simp[CM,qV,f10,f11];exact hQ _ _ d ⟨by simp[f0],by simp[f1],by simp[f2],by simp[f4],⟨l,by simp[f3]⟩,⟨true,by simp[f10]⟩,⟨false,by simp[f11]⟩⟩ ai (.refl d) hd (by simp[f13])
  |true =>
   by_cases h1:h=1
   ·subst h1;simp[CM,qV,f10,f11,f14,Fb,f0,f1,f2,f4];refine aB.of (akg ho hd hJ hn0 hn hE ah HK hN hg) λ w K1 n1 ⟨⟨bl,e1,d1,ps,so,hd1⟩,h1⟩=>?_;subst e1 h1
    cases bl with
    |true =>
     simp;exact hR _ _ d1 ps (so rfl) hd1
    |false =>
     simp;exact hQ _ _ d1 ⟨by simp[f0],by simp[f1],by simp[f2],by simp[f4],⟨l,by simp[f3]⟩,⟨true,by simp[f10]⟩,⟨true,by simp[f11]⟩⟩ ai ps hd1 (by simp[f13])
   simp[CM,qV,f10,f11,f14,h1];exact hQ _ _ d ⟨by simp[f0],by simp[f1],by simp[f2],by simp[f4],⟨l,by simp[f3]⟩,⟨true,by simp[f10]⟩,⟨true,by simp[f11]⟩⟩ ai (.refl d) hd (by simp[f13])
theorem aoY (ho:C.Ok pG)(hd:eW C H0 n0 N d K)(hJ:C.J H0)(hn0:C.lo<n0)(hn:n0<=n)(hE:∀k,k<N->C.El (d k))(hxy:x+12<y)(HK:y<=N)(hN:N<60000)(hF:Fq C N x y F){pv:Nat}(hp1:x<=pv)(hp2:pv<y)(f13:F.get 13=some (zI (pv:Int)))
  (hX:∀F' K' d' (m:Nat),Fq C N m y F'->PS x y d d'->x<m->m<=y->0<x->C.c (d' x) (d' (x - 1))<=0->(∀k:Nat,x<k->k<m->0<=C.c (d' x) (d' k))->eW C H0 n0 N d' K'->Q (.exit 1) F' K' n [])
  (hQ:∀F',Fq C N x y F'->F'.get 12=F.get 12->F'.get 13=some (zI (pv:Int))->Q .normal F' K n []):VC pG QH F K n [] Q:=by
 obtain⟨f0,f1,f2,f4,⟨l,f3⟩,⟨wb,f10⟩,⟨wp,f11⟩⟩:=hF
 by_cases h0:0<x
 ·have h0':(0:Int)<(x:Int):=ah;have w1:IntKind.i64.wrap ((x:Int) - 1)=((x - 1:Nat):Int):=by rw[aR _ ah ah];omega
  have x1:=bK (bk:=C.bk) (N:=N) (i:=x - 1) ah;have x2:=bK (bk:=C.bk) (N:=N) (i:=pv) ah;have l1:=hd.ld (i:=x - 1) ah;have l2:=hd.ld (i:=pv) ah;have hJ':=hd.J ho hJ hn0;obtain⟨z,hz⟩:∃z,z=x - 1:=⟨_,rfl⟩;rw[<-hz]at w1 x1 l1;simp[QH,wT];refine bF.of (C.iT ho (hE z ah) (hE pv ah)) ?_;simp[ae,f0,f1,f4,f13,h0,w1,Cp.fv,x1,x2,l1,l2,Cp.ei hJ' (show C.lo<n by omega)]
  by_cases hc:C.c (d z) (d pv)<0
  ·simp[hc];exact hQ _ ⟨by simp[ae,f0],by simp[ae,f1],by simp[ae,f2],by simp[ae,f4],⟨l,by simp[ae,f3]⟩,⟨wb,by simp[ae,f10]⟩,⟨wp,by simp[ae,f11]⟩⟩ (by simp[ae]) (by simp[ae,f13])
  simp[hc,Fa,ae,f0,f1,f2,f4,f13];refine aB.of (ae1 ho hd hJ hn0 hn hE hp1 hp2 HK ah) λ w K1 n1 ⟨⟨m,d1,e1,hm1,hm2,ps,hdx,hl,_,hd1⟩,h1⟩=>?_;subst e1 h1;simp[E'];refine hX _ _ d1 m ⟨by simp[ae,f0],ai,by simp[ae,f2],by simp[ae,f4],⟨l,by simp[ae,f3]⟩,⟨wb,by simp[ae,f10]⟩,⟨wp,by simp[ae,f11]⟩⟩ ps hm1 hm2 h0 ?_ hl hd1;rw[hdx,ps.out (k:=x - 1) ah,<-hz];exact ho.le (hE _ ah) (hE _ ah) hc
 have h0':¬(0:Int)<(x:Int):=ah;simp[QH,wT];refine bF.of (bq (P:=pG)) ?_;simp[ae,f1,h0];exact hQ _ ⟨by simp[ae,f0],by simp[ae,f1],by simp[ae,f2],by simp[ae,f4],⟨l,by simp[ae,f3]⟩,⟨wb,by simp[ae,f10]⟩,⟨wp,by simp[ae,f11]⟩⟩ (by simp[ae]) (by simp[ae,f13])
end
end Go.Abs
namespace Go.Abs
open List
open Go.Proofs
open Classical
set_option maxRecDepth 100000
variable {α:Type}{C:Cp α}{P:Program}{a b N:Nat}{d e:Nat->α}{x y:Nat}
def Pdq (C:Cp α)(H0:Hp)(n0 N len:Nat):Prop:=∀(a b:Nat)(d:Nat->α)(H:Hp)(n:Nat)(l:Int),b - a<len->a<=b->b<=N->eW C H0 n0 N d H->n0<=n->(∀k,k<N->C.El (d k))->Gd C a b d ->
 ao pG 220 [.sl C.bk 0 N 1,zI (a:Int),zI (b:Int),zI l,C.fv] H n (λ w K j=>w=.br []/\(∃d',PS a b d d'/\jd C a b d'/\eW C H0 n0 N d' K)/\n<=j)
theorem aoX {Q:QA}{H0 K:Hp}{n0 n:Nat}{F:Fr}(ho:C.Ok pG)(hd:eW C H0 n0 N d K)(hJ:C.J H0)(hn0:C.lo<n0)(hn:n0<=n)(hE:∀k,k<N->C.El (d k))(hxy:x+12<y)(HK:y<=N)(hN:N<60000)(ih:Pdq C H0 n0 N (y - x))(hg:Gd C x y d)(hF:Fq C N x y F){pv:Nat}(hp1:x<=pv)(hp2:pv<y)(f13:F.get 13=some (zI (pv:Int)))(f12:F.get 12=some (zI ((y - x:Nat):Int)))
  (hL:∀F' K' n' d' (m:Nat),Fq C N (m+1) y F'->PS x y d d'->Tm C x y m d'->jd C x m d'->eW C H0 n0 N d' K'->n<=n'->Q .normal F' K' n' [])
  (hR:∀F' K' n' d' (m:Nat),Fq C N x m F'->PS x y d d'->Tm C x y m d'->jd C (m+1) y d'->eW C H0 n0 N d' K'->n<=n'->Q .normal F' K' n' []):VC pG ZQ F K n [] Q:=by
 obtain⟨f0,f1,f2,f4,⟨l,f3⟩,⟨wb,f10⟩,⟨wp,f11⟩⟩:=hF;obtain⟨L,hL'⟩:∃L,L=y - x:=⟨_,rfl⟩;rw[<-hL']at f12;obtain⟨th,hth⟩:∃th,th=L / 8:=⟨_,rfl⟩;have q0:bS .quo .i64 (L:Int) 8=.val (zI (th:Int)):=by rw[hth];exact aeQ L 8 ah ah
 simp[ZQ,E9,f0,f1,f2,f4,f13];refine aB.of (ae0 ho hd hJ hn0 hn hE hp1 hp2 HK ah) λ w K1 n1 ⟨⟨m,bl,e1,d1,ps,pt,hd1⟩,h1⟩=>?_;subst e1 h1;have pt1:=pt.1;have pt2:=pt.2.1;have hE1:=ps.all HK hE;have gd:=hg.ps ps;obtain⟨u,hu⟩:∃u,u=m - x:=⟨_,rfl⟩;obtain⟨v,hv⟩:∃v,v=y - m:=⟨_,rfl⟩;obtain⟨m1,hm1⟩:∃m1,m1=m+1:=⟨_,rfl⟩;have w1:IntKind.i64.wrap ((m:Int) - (x:Int))=(u:Int):=by rw[aR _ ah ah];omega
 have w2:IntKind.i64.wrap ((y:Int) - (m:Int))=(v:Int):=by rw[aR _ ah ah];omega
 have w3:IntKind.i64.wrap ((m:Int)+1)=(m1:Int):=by rw[aR _ ah ah];omega
 simp[E8,E7,f1,f2,w1,w2,E6,f12,q0,E4]
 by_cases hlt:u<v
 ·simp[hlt,E3,E2,f0,f1,f4,f3];refine aB.of (ih x m d1 K1 n1 l ah pt1 ah hd1 hn hE1 (gd.sub rfl ah)) λ w K2 n2 ⟨e1,⟨d2,ps2,V3,hd2⟩,h1⟩=>?_;subst e1;simp[E1,w3];exact hL _ _ _ d2 m ⟨by simp[f0],by simp[hm1],by simp[f2],by simp[f4],⟨l,by simp[f3]⟩,⟨_,by simp;rfl⟩,⟨bl,ai⟩⟩ (ps.trans (ps2.wide (aL _) ah)) (pt.left ps2) V3 hd2 h1
 simp[hlt,EZ,EY,f0,f2,f4,f3,w3]
 have g2:Gd C m1 y d1:=λ h0 k k1 k2=>by
  rw[show m1 - 1=m by omega];exact(pt.le ho hE1 HK).2.1 k ah k2
 refine aB.of (ih m1 y d1 K1 n1 l ah ah HK hd1 hn hE1 g2) λ w K2 n2 ⟨e1,⟨d2,ps2,V3,hd2⟩,h1⟩=>?_;subst e1;simp[EX];rw[hm1]at ps2 V3;exact hR _ _ _ d2 m ⟨by simp[f0],by simp[f1],ai,by simp[f4],⟨l,by simp[f3]⟩,⟨_,by simp;rfl⟩,⟨bl,ai⟩⟩ (ps.trans (ps2.wide ah (aL _))) (pt.right ps2) V3 hd2 h1
theorem O7 (ho:C.Ok pG){H0:Hp}{n0:Nat}(hJ:C.J H0) (hn0:C.lo<n0) (hN:N<60000):∀len,Pdq C H0 n0 N len
 |0=>λ a b d H n l h=>ah
 |len + 1 => λ a b d H n l hlen hab hbN hd hn hE hg=>by
  have ih:=O7 ho hJ hn0 hN len;refine ao.of c220 (by simp[A220]) λ F hF=>?_;simp[A220];refine aF.of (λ t F' K n' ms=>∃x y d',t=y - x/\a<=x/\x<=y/\y<=b/\Fq C N x y F'/\n<=n'/\ms=[]/\PS a b d d'/\Out C a b x y d'/\eW C H0 n0 N d' K) (b - a) ⟨a,b,d,rfl,ah,hab,ah,⟨by simp[hF],by simp[hF],by simp[hF],by simp[hF],⟨l,by simp[hF]⟩,⟨true,ai⟩,⟨true,ai⟩⟩,aL _,rfl,.refl d,λ p q h1 h2 h3 h4=>ah,hd⟩ ?_;clear hF hd;rintro t F1 K n1 ms ⟨x,y,d1,rfl,hax,hxy,hyb,hF1,hn1,rfl,ps,ou,hK⟩;have hE1:=ps.all hbN hE;have hg1:=hg.ps ps;obtain⟨f0,f1,f2,f4,⟨l1,f3⟩,⟨wb,f10⟩,⟨wp,f11⟩⟩:=hF1;obtain⟨L,hL⟩:∃L,L=y - x:=⟨_,rfl⟩;have w0:IntKind.i64.wrap ((y:Int) - (x:Int))=(L:Int):=by rw[aR _ ah ah];omega
  rw[awf]
  by_cases h12:L<=12
  ·have afW:(L:Int)<=12:=ah;simp[vf,f0,f1,f2,f4,w0,ve,afW,EW];refine aB.of (ak4 ho hK hJ hn0 ah hE1 hxy ah ah) λ w K2 n2 ⟨e1,⟨d2,ps2,V3,hK2⟩,h1⟩=>?_;subst e1 h1;simp;exact⟨⟨d2,ps.trans (ps2.wide hax hyb),(ou.ps ps2 hax hyb).fin V3,hK2⟩,hn1⟩
  have afW:¬(L:Int)<=12:=ah
  by_cases hl0:l1=0
  ·simp[vf,f0,f1,f2,f4,w0,ve,afW,EV,f3,hl0,NA];refine aB.of (afQ ho hK hJ hn0 ah hE1 ah ah hN) λ w K2 n2 ⟨e1,⟨d2,ps2,V3,hK2⟩,h1⟩=>?_;subst e1 h1;simp;exact⟨⟨d2,ps.trans (ps2.wide hax hyb),(ou.ps ps2 hax hyb).fin V3,hK2⟩,hn1⟩
  simp[vf,f1,f2,w0,ve,afW,EV,f3,hl0];refine ao1 ho hK hn0 ah (x:=x) (y:=y) ah ah hN ⟨by simp[f0],by simp[f1],by simp[f2],by simp[f4],⟨l1,by simp[f3]⟩,⟨wb,by simp[f10]⟩,⟨wp,by simp[f11]⟩⟩ λ F2 K2 n2 d2 hF2 e12 ps2 hK2 hn2=>?_;have f12:F2.get 12=some (zI (L:Int)):=by rw[e12];simp
  clear f0 f1 f2 f3 f4 f10 f11 e12;have hE2:=ps2.all (N:=N) ah hE1;have q0:=hF2.1;have q1:=hF2.2.1;have q2:=hF2.2.2.1;have q4:=hF2.2.2.2.1;simp[Fj,q0,q1,q2,q4];refine aB.of (akc ho hK2 hJ hn0 ah hE2 ah ah ah) λ w K3 n3 ⟨⟨pv,h,e1,hp1,hp2⟩,hK3,hn3⟩=>?_;subst e1;simp;refine ao0 ho hK3 (x:=x) (y:=y) (pv:=pv) (h:=h) ah ah hN (by obtain⟨f0,f1,f2,f4,⟨l,f3⟩,⟨wb,f10⟩,⟨wp,f11⟩⟩:=hF2;exact⟨by simp[f0],by simp[f1],by simp[f2],by simp[f4],⟨l,by simp[f3]⟩,⟨wb,by simp[f10]⟩,⟨wp,by simp[f11]⟩⟩) hp1 hp2 ai ai λ F3 K4 d3 pv h hF3 e12 vz hK4 hp1 hp2 f13 f14=>?_;have f12:F3.get 12=some (zI (L:Int)):=by rw[e12];simp[f12]
  clear e12 q0 q1 q2 q4 hF2;have ps4:=ps2.trans vz;have ou4:=ou.ps ps4 hax hyb;have hE3:=ps4.all (N:=N) ah hE1;have ps5:=ps.trans (ps4.wide hax hyb);have gd5:=hg.ps ps5;simp;refine aoZ ho hK4 hJ hn0 ah hE3 ah ah hN (ou4.gd gd5 hax hyb) hF3 f13 f14 (λ F4 K5 d4 ps6 so6 hK5=>?_) λ F4 K5 d4 HM e12 ps6 hK5 f13=>?_
  ·simp;exact⟨⟨d4,ps5.trans (ps6.wide hax hyb),(ou4.ps ps6 hax hyb).fin so6,hK5⟩,ah⟩
  have f12:F4.get 12=some (zI (L:Int)):=by rw[e12];exact f12
  clear e12 hF3 f14;have ou6:=ou4.ps ps6 hax hyb;have ps7:=ps5.trans (ps6.wide hax hyb);have gd7:=hg.ps ps7;have hE4:=ps6.all (N:=N) ah hE3;simp;refine aoY ho hK5 hJ hn0 ah hE4 ah ah hN HM hp1 hp2 f13 (λ F5 K6 d5 m Jg Xs hm1 hm2 h0 hc hl hK6=>?_) λ F5 Jg e12 f13=>?_
  ·have hE5:=Xs.all (N:=N) ah hE4;have ps9:=ps7.trans (Xs.wide hax hyb);have ou8:=ou6.ps Xs hax hyb;simp;exact⟨y - m,ah,m,y,rfl,ah,ah,ah,Jg,ah,d5,ps9,ou8.eq ho hE5 hbN hax hyb hm1 hm2 (ou8.gd (hg.ps ps9) hax hyb) h0 hc hl,hK6⟩
  have f12:F5.get 12=some (zI ((y - x:Nat):Int)):=by rw[e12,f12,hL]
  simp;refine aoX ho hK5 hJ hn0 ah hE4 ah ah hN (λ a b d H n l h=>ih a b d H n l ah) (ou6.gd gd7 hax hyb) Jg hp1 hp2 f13 f12 (λ F6 K6 n6 d6 m hF6 Xs pt so hK6 hn6=>?_) λ F6 K6 n6 d6 m hF6 Xs pt so hK6 hn6=>?_
  ·have hE5:=Xs.all (N:=N) ah hE4;have p1:=pt.1;have p2:=pt.2.1;simp;exact⟨y - (m+1),ah,m+1,y,rfl,ah,ah,ah,hF6,ah,d6,ps7.trans (Xs.wide hax hyb),(ou6.ps Xs hax hyb).left ho hE5 ah pt so,hK6⟩
  have hE5:=Xs.all (N:=N) ah hE4;have p1:=pt.1;have p2:=pt.2.1;simp;exact⟨m - x,ah,x,m,rfl,ah,ah,ah,hF6,ah,d6,ps7.trans (Xs.wide hax hyb),(ou6.ps Xs hax hyb).right ho hE5 ah pt so,hK6⟩
end Go.Abs
namespace Go.Abs
open List
open Go.Proofs
open Classical
set_option maxRecDepth 100000
theorem TX (L:List (List Val)):bo (aQ L)=true:=by
 induction L with
 |nil=>rfl
 |cons r L ih=>simp only[aQ,map_cons]at ih ⊢;simp[bo,AV.one,aC,ih]
theorem XT:jy apG []:=⟨.inr ⟨rfl,rfl⟩,by unfold aU;simp⟩
theorem apL (a:Int):je a 0=a:=by
 unfold je
 by_cases h:a=0
 ·subst h;rfl
 simp[h]
theorem aD.awb {H:Hp}{n:Nat}{v:AV}{l:List AV}{len sz:Nat}(h:aD H n v l len sz):bg v=.val (zI (len:Int)):=by
 obtain⟨_,⟨rfl,rfl⟩|⟨b,k,rfl,_⟩⟩:=h
 ·rfl
 rfl
mutual
theorem G6 {n m:Nat}(h:n<=m):∀ {v:AV},iF n v->iF m v
 |.int _ _,_=>ai
 |.bool _,_=>ai
 |.str _,_=>ai
 |.aV _,_=>ai
 |.agg _ _,k=>by simp only[O1]at k ⊢;exact fC h k
 |.br _,k=>by simp only[OY]at k ⊢;exact fC h k
 |.oQ _ _,k=>by simp only[O0]at k ⊢;exact G6 h k
 |.ptr _ _,k=>by simp only[OZ]at k ⊢;omega
 |.sl _ _ _ _,k=>by simp only[ajZ]at k ⊢;omega
 |.map _,k=>by simp only[aeP]at k ⊢;omega
 |.iZ _,k=>by simp only[iF]at k ⊢;omega
 |.fn _ _ _,k=>by simp only[iF]at k ⊢;exact⟨fC h k.1,fC h k.2⟩
 |.ds _ _ _,k=>by simp only[aj0]at k ⊢;exact fC h k
 |.dp _,k=>by simp only[aj1]at k ⊢;exact fC h k
theorem fC {n m:Nat}(h:n<=m):∀ {l:List AV},dO n l->dO m l
 |[],_=>ai
 |_::_,k=>by simp only[iw]at k ⊢;exact⟨G6 h k.1,fC h k.2⟩
end
theorem VL (L:List (List Val)):bg (dR L)=.val (zI (L.length:Int)):=by
 unfold dR
 by_cases h:L=[]
 ·subst h;simp
 simp[h]
theorem aev {L:List (List Val)}{i:Nat}(h:i<L.length):bW 1 (dR L) (zI (i:Int))=.val (.dp (aC L[i]::aQ (L.drop (i+1)))):=by
 unfold dR;rw[ak (λ e=>by subst e;simp at h)];exact kz h
theorem aws (l:List Nat):pj (.str (0::l)) (.int .u8 0)=.val (.int .u8 0):=by unfold pj;rfl
theorem toI (k j:IntKind)(a:Int):bZ k (.int j a)=.val (.int k (k.wrap a)):=by
 simp only[bZ,kh]
theorem VA (k:IntKind):k.wrap 0=0:=by cases k<;>decide
theorem akP:aj pG 283 [.int .u64 0] (zI 0):=by
 refine pv c283 λ F hF=>?_;simp[A283,hF,toI,VA,aws];exact fp
theorem akQ:aj pG 221 [.int .u64 0] (zI 0):=by
 refine pv c221 λ F hF=>?_;simp[A221,hF];refine aB.pure akP ?_;simp;exact fp
theorem ak3 (f:AV)(H:Hp)(n:Nat):ao pG 265 [nS,zI 0,zI 0,f] H n (λ _u K k=>K=H/\k=n):=by
 refine ao.of c265 (by simp[A265]) λ F hF=>?_;simp[A265,hF];refine aF.XO 0 (eT.step ?_);simp[vj,zS,hF]
theorem ake (f:AV)(H:Hp)(n:Nat):ao pG 220 [nS,zI 0,zI 0,zI 0,f] H n (λ _u K k=>K=H/\k=n):=by
 refine ao.of c220 (by simp[A220]) λ F hF=>?_;simp[A220];refine aF.XO 0 (eT.step ?_);simp[Ol,vf,hF,ve,EW,VA];refine aB.of (ak3 f H n) λ u K k ⟨e1,e2⟩=>?_;subst e1 e2;simp
theorem aex (f:AV)(H:Hp)(n:Nat):ao pG 153 [nS,f] H n (λ u K k=>u=.br []/\K=H/\k=n):=by
 refine ao.of c153 (by simp[A153]) λ F hF=>?_;simp[A153,hF,toI,VA];refine aB.pure akQ ?_;simp[hF];refine aB.of (ake f H n) λ u K k ⟨e1,e2⟩=>?_;subst e1 e2;simp
theorem alz {id:Int}(t x:bR)(H:Hp)(n q:Nat)(hq:H.get q=aN 4 (aM.cells x))(hid:x.id=id)(ht:dm H n):
  ao pG 214 [aM.av t,.ptr q 0] H n (λ u K k=>u=.bool (decide (t.id=id))/\K=H/\k=n):=by
 subst hid;refine ao.forget ai (ao.of c214 (by simp[A214]) λ F hF=>?_);have e1:¬q=n:=by have:=ht.lt hq;omega
 rw[fc]at hq;simp[A214,hF,bf.av,fc,e1,hq];intro b hb;have:¬b=n:=λ e=>hb (by rw[e];exact ht n (aL _));simp[this]
theorem ahA (f:AV)(p:Nat)(H:Hp)(n:Nat)(h1:f.len=1/\f.cells=[f]/\f.one=true):ao pG 149 [.ptr p 0,zI 0,f] H n (λ u K k=>u=.fn (.func 213) [] []/\(∀c,c<n->K.get c=H.get c)/\k=n+3/\(dm H n->dm K (n+3))):=by
 refine ao.of c149 (by simp[A149]) λ F hF=>?_;simp[A149,hF,h1.1,h1.2.1];refine⟨λ c hc=>?_,λ ht c hc=>?_⟩
 ·simp[show ¬c=n by omega,show ¬c=n+1 by omega,show ¬c=n+2 by omega]
 simp[show ¬c=n by omega,show ¬c=n+1 by omega,show ¬c=n+2 by omega,ht c ah]
structure ays (p n:Nat)(j i:Int)(f:AV)(H K:Hp):Prop where
 k0:K.get n=aN 1 [.ptr p 0]
 k1:K.get (n+1)=aN 1 [zI j]
 k2:K.get (n+2)=aN 1 [f]
 k4:K.get (n+4)=aN 1 [zI i]
 kf:∀c,c<n->K.get c=H.get c
theorem P8 {s:cG}{iM:List bR}(hst:s.tables.length<=aU)(f:AV)(h1:f.len=1/\f.cells=[f]/\f.one=true)(j:Nat)(hj:j<iM.length)(hj2:j<1000)(p:Nat)(D:List AV)(d0:D[0]?=some (aM.ds s.tables))(d18:D[18]?=some (aM.ds iM))(H:Hp)(n:Nat)(hp:H.get p=aN 32 D)(ht:dm H n):
  ao pG 149 [.ptr p 0,zI ((j:Int)+1),f] H n (λ u K k=>u=.fn (.func 215) [] [.ptr n 0,.ptr (n+1) 0,.ptr (n+2) 0,.ptr (n+4) 0]/\ays p n ((j:Int)+1) (atI s iM[j].id) f H K/\k=n+5/\dm K (n+5)):=by
 refine ao.of c149 (by simp[A149]) λ F hF=>?_;have hpn:p<n:=ht.lt hp;simp[A149,hF,h1.1,h1.2.1,show ¬((j:Int)+1=0) by omega];generalize hK:Tr.put (Tr.put (Tr.put H n _) (n+1) _) (n+2) _=K;have k0:K.get n=aN 1 [.ptr p 0]:=by rw[<-hK];simp
 have k1:K.get (n+1)=aN 1 [zI ((j:Int)+1)]:=by rw[<-hK];simp
 have k2:K.get (n+2)=aN 1 [f]:=by rw[<-hK];simp
 have kf:∀c,c<n->K.get c=H.get c:=λ c hc=>by rw[<-hK];simp[show ¬c=n by omega,show ¬c=n+1 by omega,show ¬c=n+2 by omega]
 have kt:dm K (n+3):=λ c hc=>by rw[<-hK];simp[show ¬c=n by omega,show ¬c=n+1 by omega,show ¬c=n+2 by omega,ht c ah]
 clear hK hF;have kp:=(kf p hpn).trans hp;have hx:=aM.ix (ik:=.i64) hj;have hl4:(aM.av iM[j]).len=4:=rfl;have hc4:(aM.av iM[j]).cells=[.int .u32 iM[j].id,.str iM[j].name,dV.ds iM[j].cols,.int .u32 iM[j].head]:=rfl;have nn:K.get (n+1+1+1)=none:=kt _ ah;have hco:(dV.ds iM[j].cols).one=true:=rfl;simp[adm];refine bF.of (bq (P:=pG)) ?_;have w1:IntKind.i64.wrap (j:Int)=(j:Int):=by simp[IntKind.wrap,IntKind.signed,IntKind.bits];omega
 simp[ae,k0,k1,kp,d18,w1,hx,aM.pT,hl4,hc4,bX,cS,nn,hco];generalize hK2:Tr.put (Tr.put K _ _) _ _=K2;have e2:∀c,c≠n+3->K2.get c=K.get c:=λ c hc=>by rw[<-hK2];simp[show ¬c=n+1+1+1 from hc]
 have q3:K2.get (n+3)=aN 4 (aM.cells iM[j]):=by rw[<-hK2,fc];simp
 have t4:dm K2 (n+4):=λ c hc=>by rw[e2 c ah];exact kt c ah
 clear hK2;have p2:=(e2 p ah).trans kp;simp[adl,ae,k0,d0,e2 n ah,p2];refine aB.same (rZ (xs:=s.tables) (el:=aM.av) (f:=214) (first:=[]) (cap:=[.ptr (n+3) 0]) (p:=λ t:bR=>decide (t.id=iM[j].id)) c161 hst (aM.aT _) (λ i h=>⟨_,aM.ix h,λ F H n rq=>by simp[rq,aM.pT]⟩) λ t _=>alz t iM[j] K2 (n+4) (n+3) q3 rfl t4) ?_;simp[adk,ae];refine⟨⟨?_,?_,?_,?_,λ c hc=>?_⟩,λ c hc=>?_⟩
 ·simp[e2 n ah,k0]
 ·simp[e2 (n+1) ah,k1]
 ·simp[e2 (n+2) ah,k2]
 ·simp[atI]
 ·simp[show ¬c=n+4 by omega,e2 c ah,kf c hc]
 simp[show ¬c=n+4 by omega,t4 c ah]
theorem al9 (l:List (List Nat))(hl:l.length<=aU):aj pG 148 [dz.ds l] (dz.ds l):=tX (z:=[.str []]) (sz:=1) (gp:=16) c148 ah ah ah _ _ hl ai ai ai
def Za (p:Nat) (D:List AV) (j i:Int) (f:AV):Hp->Nat->hU:=λ H n =>
 if H.get p=aN 32 D/\p<n/\dO n D/\iF n f then .mk (.fn (.func 215) [] [.ptr n 0,.ptr (n+1) 0,.ptr (n+2) 0,.ptr (n+4) 0])
  (((((H.put n (aN 1 [.ptr p 0])).put (n+1) (aN 1 [zI j])).put (n+2) (aN 1 [f])).put (n+3) none).put (n+4) (aN 1 [zI i])) (n+5)else .fail
theorem Zc {s : cG}{iM:List bR}(hst:s.tables.length<=aU) (f:AV) (h1:f.len=1/\f.cells=[f]/\f.one=true) (j:Nat) (hj:j<iM.length) (hj2:j<1000) (p:Nat) (D:List AV) (d0:D[0]?=some (aM.ds s.tables)) (d18:D[18]?=some (aM.ds iM)):
  ∀H n v H' n',Za p D ((j:Int)+1) (atI s iM[j].id) f H n=.mk v H' n'->bC pG 149 [.ptr p 0,zI ((j:Int)+1),f] H n v H' n':=by
 intro H n v H' n' h;unfold Za at h
 by_cases hc:H.get p=aN 32 D/\p<n/\dO n D/\iF n f
 ·rw[ay hc]at h;injection h with e1 e2 e3;subst e1 e2 e3;obtain⟨hp,pn,rd,rf⟩:=hc;have hp0:(pick H [p]).get p=aN 32 D:=by rw[fK ai];exact hp
  have top:dm (pick H [p]) n:=kW λ b hb=>by simp at hb;omega
  have np:∀e,¬p=n+e:=λ e=>ah;refine ao.okS (S:=pick H [p]) (S':=(((((pick H [p]).put n (aN 1 [.ptr p 0])).put (n+1) (aN 1 [zI ((j:Int)+1)])).put (n+2) (aN 1 [f])).put (n+4) (aN 1 [zI (atI s iM[j].id)]))) ((P8 hst f h1 j hj hj2 p D d0 d18 (pick H [p]) n hp0 top).mono λ u K k ⟨q1,q2,q3,_⟩=>⟨q1,λ b y hb=>?_,ah⟩) ah (by simp[pn,rf]) (λ b k hk=>?_) (λ b k hk=>?_) (λ b hb=>?_) (λ b hb hb2=>?_)
  ·simp only[Tr.get_put]at hb
   split at hb
   ·rename_i e;subst e;injection hb with hb;subst hb;exact⟨_,q2.k4,BLe.refl _⟩
   split at hb
   ·rename_i e;subst e;injection hb with hb;subst hb;exact⟨_,q2.k2,BLe.refl _⟩
   split at hb
   ·rename_i e;subst e;injection hb with hb;subst hb;exact⟨_,q2.k1,BLe.refl _⟩
   split at hb
   ·rename_i e;subst e;injection hb with hb;subst hb;exact⟨_,q2.k0,BLe.refl _⟩
   have hbn:b<n:=Nat.lt_of_not_le λ h=>by rw[top b h]at hb;cases hb
   exact⟨y,(q2.kf b hbn).trans hb,BLe.refl _⟩
  ·rw[eM]at hk
   split at hk
   ·rename_i hm;have:b=p:=by simpa using hm
    subst this;rw[hp]at hk;injection hk with hk;subst hk;exact⟨pn,bV rd⟩
   cases hk
  ·rw[eM]at hk
   split at hk
   ·exact hk
   cases hk
  ·have:b=p∨(n<=b/\b<n+5):=by
    rcases hb with hb|hb
    ·rw[eM]at hb
     split at hb
     ·rename_i hm;left;simpa using hm
     exact aw rfl hb
    exact .inr hb
   simp only[Tr.get_put]
   rcases this with rfl|hb
   ·simp[show ¬b=n+4 by omega,show ¬b=n+3 by omega,show ¬b=n+2 by omega,show ¬b=n+1 by omega,show ¬b=n by omega,hp0,hp]
   have hb:b=n∨b=n+1∨b=n+2∨b=n+3∨b=n+4:=ah
   rcases hb with rfl|rfl|rfl|rfl|rfl<;>simp
   exact(top (n+3) ah).symm
  simp only[Tr.get_put];simp[show ¬b=n+4 by omega,show ¬b=n+3 by omega,show ¬b=n+2 by omega,show ¬b=n+1 by omega,show ¬b=n by omega]
 rw[ak hc]at h;cases h
def GQ (p:Nat):Hp->Nat->hU:=λ H n=>if p<n then .mk (.br []) H n else .fail
theorem V1 (p:Nat):∀H n v H' n',GQ p H n=.mk v H' n'->bC pG 153 [nS,.fn (.func 154) [.ptr p 0] []] H n v H' n':=by
 intro H n v H' n' h;unfold GQ at h
 by_cases hc:p<n
 ·rw[ay hc]at h;injection h with e1 e2 e3;subst e1 e2 e3;refine ao.Aj [] (by simp[iF];exact hc) ai ai λ H0 ht hL=>?_;refine(aex (.fn (.func 154) [.ptr p 0] []) H0 n).mono λ u K k ⟨q1,q2,q3⟩=>?_;subst q1 q2 q3;exact⟨.pure _ ai,λ _ _=>rfl⟩
 rw[ak hc]at h;cases h
theorem eG.norm (F:Fr){K:Hp}{p:Nat}{y:bJ}{L:List AV}(hy:K.get p=some y)(ho:OwnB y L):eG (λ _=>none) F K F (K.put p (some (.cells L.length [] L .nil))):=
 ⟨λ b x h=>by simp at h,λ b h=>aw rfl h,λ t v h=>⟨v,h,.inl rfl⟩,λ b x h=>by
  rw[Tr.get_put]at h
  by_cases e:b=p
  ·subst e;rw[ay rfl]at h;injection h with h;subst h;obtain⟨u,z,bs,t',rfl,q1,q3,_⟩:=ho;exact⟨_,hy,.inr ⟨u,z,bs,t',L,rfl,by rw[q1],q1.symm,λ i x hx=>⟨x,by rw[q3];exact hx,.inl rfl⟩⟩⟩
  rw[ak e]at h;exact⟨x,h,.inl rfl⟩⟩
def resV (T I R N C W:AV)(c e:Int):AV:=.br [.agg [T,I,R] 3,.agg [N,C,W,zI c] 4,zI e]
def JA (e:Int):AV:=resV nS nS nS nS nS nS 0 e
theorem mQ (e:Int):Pure (JA e):=by simp[JA,resV]
theorem ZA (w:qf)(hw:w.gA)(x:dE)(hb:aj pG 23 [lj.av w.aY,x.av] (.br [.agg (cu w.aY x).1.cells 25,zI (cu w.aY x).2]))(h:¬iV w∨(cu w.aY x).2≠0):aj pG 10 [mX.av w,x.av] (JA (if iV w then (cu w.aY x).2 else 1)):=by
 refine gf c10 ai (mQ _) (by simp[A10]) λ F hF=>?_;have hm:=ag7 w hw;have hav:x.av=.agg x.cells 31:=Eq.trans rfl rfl;have hwv:mX.av w=.agg [aM.ds w.aY.tables,bw.ds w.aY.indexes,iO.ds w.rows] 3:=Eq.trans rfl rfl;have hsv:lj.av w.aY=.agg [aM.ds w.aY.tables,bw.ds w.aY.indexes] 2:=Eq.trans rfl rfl;have xl:=x.bm;rw[hav,hsv]at hb;rw[hwv]at hm;rw[hav,hwv]at hF;clear hav hwv hsv
 by_cases ok:iV w
 ·have he:(cu w.aY x).2≠0:=h.resolve_left (λ h=>h ok);rw[ay ok];simp only[ok,decide_true]at hm;generalize cu w.aY x=R at *;have hR:(R.1.cells).length=25:=rfl;generalize x.cells=xs at *;simp[A10,hF];simp[Tj];refine aB.pure hm ?_;simp[adD];refine aB.pure hb ?_;simp[hR,oU.one,adC,he,ajf];exact .pure _ (mQ _)
 rw[ak ok];simp only[ok,decide_false]at hm;generalize x.cells=xs at *;simp[A10,hF];simp[Tj];refine aB.pure hm ?_;simp[ajg];exact .pure _ (mQ 1)
theorem HZ {s:cG}{t:bR}{L:List (List Val)}(h0:vH s t L=0):∀r∈L,sH t.cols r=0:=λ r hr=>by
 rw[oc,CG]at h0;exact GM (h0.1 r hr)
theorem HY {s:cG}{t:bR}{L:List (List Val)}(h0:vH s t L=0):∀r∈L,iI r:=λ r hr=>(tP (HZ h0 r hr)).2.2.2.2
theorem xG:∀ {L:List (List Val)},(∀r∈L,iI r)->lD L->dQ L
 |[],_,_=>by simp[dQ]
 |[_],_,_=>by simp[dQ]
 |a :: b::L,hm,hs=>by
  have ih:dQ (b::L):=xG (λ r hr=>hm r (by simp[hr])) λ k h=>hs (k+1) (by simp at h ⊢;omega);have ha:=hm a ai;have hb:=hm b ai
  have h0:dP a b<=0:=by
   have:=hs 0 ai;have e:=jD hb ha;simp at this;have e2:=jD ha hb;omega
  simp only[dQ,pairwise_cons]at ih ⊢;refine⟨λ y hy=>?_,ih⟩
  rcases mem_cons.1 hy with rfl|hy
  ·exact h0
  exact kT ha hb (hm y (by simp[hy])) h0 (ih.1 y hy)
theorem Ll.fits {s:cG}{t:bR}{L:List (List Val)}(h:Ll s t L):vH s t L=0:=(oc _ _ _).2 ⟨h.w,h.uq⟩
theorem DL {e:Int}(h:e≠0)(a:Int)(b:Bool):keep e a b=e:=by simp[keep,h]
theorem fN.at {s:cG}(h:fN s)(hg:s.pq){t:bR}(ht:t∈s.tables):∃k,∃hk:k<s.tables.length,s.tables[k]=t/\atI s t.id=(k:Int):=by
 have ha:=(xE s.tables hg.t).1 h.tabs;obtain⟨i,hi,rfl⟩:=getElem_of_mem ht;refine⟨i,hi,rfl,uK hi ai λ j hj=>?_⟩;have:=((ha i) hi).2.2.2 j hj;simp;omega
theorem ajO (h:Hf)(L:List (List Val)):FJ h (dR L) (dB L):=by
 by_cases h0:L=[]
 ·subst h0;intro φ D w x _ hx;have e:dR []=.ds [] 0 0:=by simp[dR]
  rw[e]at hx;show VR _ _ (.ds [] 0 1) x
  cases hx with
  |ds cs len sz cap cb co cells l a b c d e=>exact .pY _ _ _
  |pY sz cap ad=>exact .pY _ _ _
 have e:dR L=dB L:=by simp[dR,dB,h0]
 rw[e];exact FJ.refl _ _
theorem CY (h:Hf):∀L:List (List (List Val)),FJL h (L.map dR) (iO.l L)
 |[]=>.nil
 |a::r=>.cons _ _ _ _ (ajO h a) (CY h r)
end Go.Abs
namespace Go.Abs
open List
open Go.Proofs
open Classical
set_option maxRecDepth 100000
section
variable {w:qf}{table:List Nat}{rows:List (List Ex)}{k:Nat}{L0:List (List Val)}
end
end Go.Abs
namespace Go.Abs
open List
open Go.Proofs
open Classical
set_option maxRecDepth 100000
def hvR:List (List (List Val))->Nat->Bool
 |[],_=>false
 |L::r,a=>if 5000<a+L.length then true else hvR r (a+L.length)
theorem Yu (L:List (List Val))(r:List (List (List Val)))(a:Nat):hvR (L::r) a=if 5000<a+L.length then true else hvR r (a+L.length):=rfl
theorem aj.nl {g:FuncId}{v R:AV}{l l':List AV}{n:Nat}(h:aj pG g [v,.agg l' n] R)(hp:aS [v,.agg l n])(hn:NL l l'):aj pG g [v,.agg l n] R:=by
 refine h.conv hp λ D xs hv=>?_
 cases hv with
 |cons _ y0 _ ys h0 hv =>
 cases hv with
 |cons _ y1 _ ys h1 hv =>
 refine .cons _ _ _ _ h0 (.cons _ _ _ _ ?_ hv)
 cases h1 with
 |agg _ l _ a b=>exact .agg _ _ _ (hn.vW a) (by rw[hn.len];exact b)
def Yields (y:Nat)(v:AV)(H:Hp)(n:Nat)(R:Bool->Hp->Nat->Prop):Prop:=wu pG y [v] H n λ u H' n'=>∃b,u=.bool b/\R b H' n'
theorem Yields.v {y:Nat}{v:AV}{H:Hp}{n:Nat}{R:Bool->Hp->Nat->Prop}{pd:Pd}{r:List (Option GO)}{F:Fr}{m:List Dm}{Q:QA}(h:Yields y v H n R)(hs:∀b H' n',R b H' n'->fE pG r (pd.f (.bool b) F) H' n' m Q):IQ y [v] pd r pG F H n m Q:=
 wu.mono h λ u H' n' ⟨b,hu,hr⟩=>by subst hu;exact hs b H' n' hr
theorem Yields.of {q:Nat}{v:AV}{H:Hp}{n:Nat}{R:Bool->Hp->Nat->Prop}{st:LoopState}{j:lG}{nt:Nat}{F0 F1:Fr}{ps:List Nat}{a b:Code}(hq:H.get q=some (.loop st j nt F0 ps a b))(hp:mS nt ps [v] F0=some F1)
  (ha:VC pG (eN pG nt true a) F1 H n [] λ o F2 H2 n2 m2=>o=.normal/\m2=[]/\∃j2 Bt G2 ps2 a2 b2,H2.get q=some (.loop .ready j2 Bt G2 ps2 a2 b2)/\VC pG (eN pG nt true b) F2 (H2.put q (some (.loop .busy j2 Bt G2 ps2 a2 b2))) n2 [] λ j3 _ H3 n3 _=>u4 q (λ u H' n'=>∃b,u=.bool b/\R b H' n') j3 H3 n3):Yields q v H n R:=by
 refine⟨st,j,nt,F0,ps,a,b,F1,hq,hp,λ cb=>?_⟩;refine λ φ D ac w C4 hf QQ hQ=>fR (r:=some cb) a F1 H n [] _ ha φ D ac w C4 hf QQ λ o F' H' n' m' φ' D' a' w' px h e s pp=>hQ o F' H' n' m' φ' D' a' w' px ?_ e s pp;obtain⟨h1,h2,j2,Bt,G2,ps2,a2,b2,h3,h4⟩:=h;exact⟨h1,h2,j2,Bt,G2,ps2,a2,b2,h3,GG.of h4⟩
structure Cons (S:Type) where
 J:S->(Nat->Prop)->Hp->Nat->Prop
 acc:S->Int
 E:S->Int->S
 Y:S->List Val->S
 go:S->Bool
def Post {S:Type}(C:Cons S)(s:S)(own:Nat->Prop)(H:Hp)(n:Nat)(K:Hp)(m:Nat):Prop:=∃own',C.J s own' K m/\dm K m/\n<=m/\(∀c,c<n->¬own c->K.get c=H.get c)/\∀c,own' c->own c∨(n<=c/\c<m)
structure oJ where
 aY:cG
 iM:List bR
 on:List (List Ex)
 tabs:List (List (List Val))
 RC:List AV
 p:Nat
 q:Nat
 r:Nat
 D:List AV
structure oJ.ok (X:oJ):Prop where
 st:X.aY.tables.length<=aU
 fl:X.iM.length<=100
 ol:X.on.length=X.iM.length
 tl:X.tabs.length=X.iM.length
 d0:X.D[0]?=some (aM.ds X.aY.tables)
 d18:X.D[18]?=some (aM.ds X.iM)
 ix:∀j (h:j<X.iM.length),∃k,∃hk:k<X.RC.length,atI X.aY X.iM[j].id=(k:Int)/\X.RC[k]=dR (X.tabs[j]'ah)
 os:∀l∈X.on,l.length<=aU/\∀e∈l,e.sz<=aU
 ts:∀t∈X.tabs,t.length<=100000/\∀r∈t,r≠[]/\r.length<=1000
structure qj {S:Type}(X:oJ)(C:Cons S)(y bd:Nat):Prop where
 lt:∀ {s own K m},C.J s own K m->∀c,own c->c<m
 qo:∀ {s own K m},C.J s own K m->own X.q/\K.get X.q=aN 1 [zI (C.acc s)]
 pd:∀ {s own K m},C.J s own K m->own X.p/\∃k D,K.get X.p=some k/\OwnB k D/\(0<X.iM.length->D[2]?=some (.sl X.r 0 X.RC.length 1))/\D[19]?=some (pe.ds X.on)
 rd:∀ {s own K m},C.J s own K m->own X.r/\K.get X.r=some (.cells X.RC.length [] X.RC .nil)
 fr:∀ {s own K m K' m'},C.J s own K m->(∀c,own c->K'.get c=K.get c)->m<=m'->C.J s own K' m'
 ey:∀ {s own K m K' m' e},C.J s own K m->K'.get X.q=aN 1 [zI (je (C.acc s) e)]->(∀c,own c->c≠X.q->K'.get c=K.get c)->m<=m'->C.J (C.E s e) own K' m'
 eg:∀s e,C.go (C.E s e)=C.go s
 yl:∀ {s own K m} {rv:AV} {row:List Val},C.J s own K m->C.go s=true->dm K m->jy rv row->row.length<=bd->Yields y rv K m λ b K' m'=>b=C.go (C.Y s row)/\Post C (C.Y s row) own K m K' m'
end Go.Abs
namespace Go.Abs
open List
open Go.Proofs
open Classical
set_option maxRecDepth 100000
variable {S:Type}
def cQ (C:Cons S)(on:List Ex)(row:List Val):List (List Val)->S->S
 |[],s=>s
 |r::rs,s=>if (bL (row++r) on).1=true then (if C.go (C.Y (C.E s (bL (row++r) on).2) (row++r))=true then cQ C on row rs (C.Y (C.E s (bL (row++r) on).2) (row++r))else C.Y (C.E s (bL (row++r) on).2) (row++r))else cQ C on row rs (C.E s (bL (row++r) on).2)
def oW (on:List (List Ex))(tabs:List (List (List Val))):Nat->(C:Cons S)->S->S
 |0,C,s=>C.Y s []
 |j+1,C,s=>oW on tabs j {C with Y:=λ s row=>cQ C (on.getD j []) row (tabs.getD j []) s} s
def Clo (X:oJ) (own:Nat->Prop) (H:Hp) (n:Nat):Nat->FuncId->List AV->Prop
 |0,g,caps=>g=213/\caps=[]
 |j+1,g,caps=>∃a b c d,g=215/\caps=[.ptr a 0,.ptr b 0,.ptr c 0,.ptr d 0]/\H.get a=aN 1 [.ptr X.p 0]/\H.get b=aN 1 [zI ((j:Int)+1)]/\H.get c=aN 1 [.fn (.func 165) [] [.ptr X.q 0]] /\
  (∀t,X.iM[j]?=some t->H.get d=aN 1 [zI (atI X.aY t.id)])/\(a<n/\b<n/\c<n/\d<n)/\¬own a/\¬own b/\¬own c/\¬own d
theorem agc {X:oJ}(ok:X.ok)(j:Nat)(hj:j<=X.iM.length)(own:Nat->Prop)(H:Hp)(n:Nat)(hlt:∀c,own c->c<n)(hp:H.get X.p=aN 32 X.D)(ht:dm H n):
  ao pG 149 [.ptr X.p 0,zI (j:Int),.fn (.func 165) [] [.ptr X.q 0]] H n (λ u K m=>∃g caps,u=.fn (.func g) [] caps/\Clo X own K m j g caps/\(∀c,c<n->K.get c=H.get c)/\n<=m/\dm K m):=by
 cases j with
 |zero =>
  exact(ahA (.fn (.func 165) [] [.ptr X.q 0]) X.p H n ⟨rfl,rfl,rfl⟩).mono λ u K m ⟨q1,q2,q3,q4⟩=>⟨213,[],q1,⟨rfl,rfl⟩,q2,ah,by rw[q3];exact q4 ht⟩
 |succ j =>
  have hfl:=ok.fl;have:=P8 ok.st (.fn (.func 165) [] [.ptr X.q 0]) ⟨rfl,rfl,rfl⟩ j ah ah X.p X.D ok.d0 ok.d18 H n hp ht;rw[show ((j+1:Nat):Int)=(j:Int)+1 by omega];have no:∀c,¬own (n+c):=λ c h=>by have:=hlt _ h;omega
  refine this.mono λ u K m ⟨q1,q2,q3,q4⟩=>⟨215,_,q1,⟨n,n+1,n+2,n+4,rfl,rfl,q2.k0,q2.k1,q2.k2,λ t h=>?_,ah,no 0,no 1,no 2,no 4⟩,q2.kf,ah,by rw[q3];exact q4⟩;rw[cY ah]at h;injection h with h;subst h;exact q2.k4
theorem ap9 {X:oJ}{C:Cons S}{y bd:Nat}(ok:qj X C y bd){s:S}{own:Nat->Prop}{H:Hp}{n:Nat}(hJ:C.J s own H n)(hg:C.go s=true)(ht:dm H n):ao pG 213 [.iZ y] H n (λ _ K m=>Post C (C.Y s []) own H n K m):=by
 refine ao.of c213 (by simp[A213]) λ F hF=>?_;simp[A213,hF];refine(ok.yl hJ hg ht XT ai).v λ b K m ⟨_,hP⟩=>?_;simp;exact hP
end Go.Abs
namespace Go.Abs
open List
open Go.Proofs
open Classical
set_option maxRecDepth 100000
variable {S:Type}
structure InB (X:oJ)(y j M e a b c d:Nat)(kd:Int)(F1:Fr):Prop where
 o:a<e/\b<e/\c<e/\d<e/\e<M
 f1:F1.get 1=some (.ptr a 0)
 f2:F1.get 2=some (.ptr b 0)
 f3:F1.get 3=some (.ptr c 0)
 f4:F1.get 4=some (.ptr d 0)
 f5:F1.get 5=some (.ptr e 0)
structure InK (X:oJ)(y j M e a b c d:Nat)(kd:Int)(K:Hp):Prop where
 ka:K.get a=aN 1 [.ptr X.p 0]
 kb:K.get b=aN 1 [zI ((j:Int)+1)]
 kc:K.get c=aN 1 [.fn (.func 165) [] [.ptr X.q 0]]
 kd:K.get d=aN 1 [zI kd]
 ke:K.get e=aN 1 [.iZ y]
 km:K.get (M+1)=some .jN
def qh (M e a b c d x:Nat):Prop:=x=M∨x=M+1∨x=e∨x=a∨x=b∨x=c∨x=d
def CmJ (X:oJ)(C:Cons S)(y j M e a b c d:Nat)(kd:Int)(F1:Fr):S->(Nat->Prop)->Hp->Nat->Prop:=λ s own K m =>
 ∃eC,C.J s eC K m/\(∀x,own x↔eC x∨qh M e a b c d x)/\(∀x,qh M e a b c d x->¬eC x)/\M+1<m/\InK X y j M e a b c d kd K/\K.get M=some (.loop (if C.go s=true then .ready else .done) (if C.go s=true then .normal else .ret) 60 F1 [17] ep.1 ep.2)
def inC (X:oJ)(C:Cons S)(y j M e a b c d:Nat)(kd:Int)(F1:Fr):Cons S:={C with J:=CmJ X C y j M e a b c d kd F1,Y:=λ s row=>cQ C (X.on.getD j []) row (X.tabs.getD j []) s}
theorem InK.fr {X:oJ}{y j M e a b c d:Nat}{kd:Int}{K K':Hp}(h:InK X y j M e a b c d kd K)(hs:∀x,qh M e a b c d x->x≠M->K'.get x=K.get x)(ho:a<e/\b<e/\c<e/\d<e/\e<M):InK X y j M e a b c d kd K':=
 ⟨(hs a (by simp[qh]) ah).trans h.ka,(hs b (by simp[qh]) ah).trans h.kb,(hs c (by simp[qh]) ah).trans h.kc,(hs d (by simp[qh]) ah).trans h.kd,(hs e (by simp[qh]) ah).trans h.ke,(hs (M+1) (by simp[qh]) ah).trans h.km⟩
theorem ak6 {X:oJ}{C:Cons S}{y j M e a b c d:Nat}{kd:Int}{F1:Fr}(B:InB X y j M e a b c d kd F1){s':S}{own eC iJ:Nat->Prop}{K K4 K':Hp}{m m':Nat}
  (hown:∀x,own x↔eC x∨qh M e a b c d x)(hnot:∀x,qh M e a b c d x->¬eC x)(hM:M+1<m)(hK:InK X y j M e a b c d kd K)(h4:∀x,x≠M->K4.get x=K.get x)(hb4:K4.get M=some (.loop .busy .normal 60 F1 [17] ep.1 ep.2))(fr:∀ {s own K m K' m'},C.J s own K m->(∀c,own c->K'.get c=K.get c)->m<=m'->C.J s own K' m')
  (hJ:C.J s' iJ K' m')(ht:dm K' m')(hm:m<=m')(hf:∀x,x<m->¬eC x->K'.get x=K4.get x)(ho:∀x,iJ x->eC x∨(m<=x/\x<m'))(o:lG)(hgo:(C.go s'=true/\o=.normal)∨(C.go s'=false/\o=.ret)):
  u4 M (λ u H' n'=>∃b0,u=.bool b0/\(b0=C.go s'/\Post (inC X C y j M e a b c d kd F1) s' own K m H' n')) o K' m':=by
 have hM4:K'.get M=some (.loop .busy .normal 60 F1 [17] ep.1 ep.2):=(hf M ah (hnot M (by simp[qh]))).trans hb4;have hn1:¬iJ M:=λ h=>(ho M h).elim (λ h=>hnot M (by simp[qh]) h) (λ h=>ah)
 have key:∀st jj,(st=if C.go s'=true then LoopState.ready else .done)->(jj=if C.go s'=true then lG.normal else .ret)->Post (inC X C y j M e a b c d kd F1) s' own K m (K'.put M (some (.loop st jj 60 F1 [17] ep.1 ep.2))) m':=by
  intro st jj e1 e2;have g:∀x,x≠M->(K'.put M (some (.loop st jj 60 F1 [17] ep.1 ep.2))).get x=K'.get x:=λ x hx=>by rw[Tr.get_put,ak hx]
  refine⟨λ x=>iJ x∨qh M e a b c d x,⟨iJ,fr hJ (λ x hx=>g x (λ e=>hn1 (e▸hx))) (aL _),λ x=>Iff.rfl,λ x hx h=>?_,ah,hK.fr (λ x hx hxM=>?_) B.o,?_⟩,λ x hx=>?_,hm,λ x hx hnx=>?_,λ x hx=>?_⟩
  ·rcases ho x h with h|h
   ·exact hnot x hx h
   have hB:=B.o;simp only[qh]at hx;omega
  ·have hxm:x<m:=by have hB:=B.o;simp only[qh]at hx;omega
   exact(g x hxM).trans ((hf x hxm (hnot x hx)).trans (h4 x hxM))
  ·rw[Tr.get_put,ay rfl,e1,e2]
  ·rw[g x ah];exact ht x hx
  ·have hxM:x≠M:=λ e=>hnx ((hown x).2 (.inr (by simp[qh,e])));exact(g x hxM).trans ((hf x hx (λ h=>hnx ((hown x).2 (.inl h)))).trans (h4 x hxM))
  rcases hx with hx|hx
  ·exact(ho x hx).imp (λ h=>(hown x).2 (.inl h)) id
  exact .inl ((hown x).2 (.inr hx))
 unfold u4;refine⟨_,_,_,_,_,_,_,hM4,?_⟩
 rcases hgo with⟨h1,rfl⟩|⟨h1,rfl⟩
 ·exact⟨true,rfl,h1.symm,key _ _ (by simp[h1]) (by simp[h1])⟩
 exact⟨false,rfl,h1.symm,key _ _ (by simp[h1]) (by simp[h1])⟩
end Go.Abs
namespace Go.Abs
open List
open Go.Proofs
open Classical
set_option maxRecDepth 100000
variable {S:Type}
structure InF (a b c e:Nat)(rv:AV)(L:List (List Val))(i:Nat)(F:Fr):Prop where
 f1:F.get 1=some (.ptr a 0)
 f2:F.get 2=some (.ptr b 0)
 f3:F.get 3=some (.ptr c 0)
 f5:F.get 5=some (.ptr e 0)
 f6:F.get 6=some rv
 f25:F.get 25=some (dR L)
 f26:F.get 26=some (zI (L.length:Int))
 f27:F.get 27=some (zI (i:Int))
structure Vm (C:Cons S)(eC:Nat->Prop)(K4:Hp)(m0:Nat)(s:S)(iJ:Nat->Prop)(K:Hp)(m:Nat):Prop where
 J:C.J s iJ K m
 t:dm K m
 mm:m0<=m
 f:∀x,x<m0->¬eC x->K.get x=K4.get x
 o:∀x,iJ x->eC x∨(m0<=x/\x<m)
theorem Vm.next {C:Cons S}{eC iJ:Nat->Prop}{K4 K K':Hp}{m0 m m':Nat}{s s':S}(h:Vm C eC K4 m0 s iJ K m)(hp:Post C s' iJ K m K' m'):∃lH,Vm C eC K4 m0 s' lH K' m':=by
 obtain⟨lH,q1,q2,q3,q4,q5⟩:=hp;have hm:=h.mm;refine⟨lH,q1,q2,ah,λ x h1 h2=>?_,λ x hx=>?_⟩
 ·refine(q4 x ah λ hx=>?_).trans (h.f x h1 h2)
  rcases h.o x hx with h3|h3
  ·exact h2 h3
  omega
 rcases q5 x hx with h3|h3
 ·exact(h.o x h3).imp id λ h4=>⟨h4.1,ah⟩
 exact .inr ⟨ah,h3.2⟩
theorem U9 {rv:AV}{row:List Val}(h:jy rv row)(H:Hp)(n:Nat):ao pG 135 [rv] H n (CpR H n row):=by
 rcases h.1 with rfl|⟨rfl,rfl⟩
 ·exact Qr row (by have:=h.2;unfold aU at this;omega) H n
 exact clone_nil H n
theorem KL {rv:AV}{row:List Val}(h:jy rv row)(H:Hp)(n:Nat):ao pG 135 [rv] H n (λ v K m=>CpR H n row v K m/\dm K m):=by
 refine(U9 h H n).zs λ v K m ⟨q1,q2,q3,q4⟩=>?_;have hg:∀x,x<m->(pick K (range m)).get x=K.get x:=λ x hx=>fK (by simpa using hx);refine⟨λ _=>none,pick K (range m),v,rz.some _ ai ai,FJ.refl _ _,⟨q1,q2.frame (aL _) λ c hc=>hg c (q2.db hc),λ b k hb hk=>?_,λ b hb=>?_⟩,kW λ b hb=>by simpa using hb⟩
 ·refine q3 b k hb ?_;rw[eM]at hk
  split at hk
  ·exact hk
  cases hk
 rw[hg b ah];exact q4 b hb
theorem eG.row {F F2:Fr}{K:Hp}{b len sz:Nat}{l:List AV}{k:bJ}(hk:K.get b=some k)(ho:OwnB k l)(hl:l.length=len*sz)(hp:aS l)(hF:∀t v,F2.get t=some v->F.get t=some v∨(F.get t=some (.sl b 0 len sz)/\v=.ds l len sz)):eG (λ x=>if x=b then K.get x else none) F K F2 (K.put b none):=by
 have hfz:fj (λ x=>if x=b then K.get x else none) (.sl b 0 len sz) (.ds l len sz):=by
  obtain⟨u,z,bs,t',rfl,hg⟩:=ho.jT (o:=0) (c:=len*sz) ah;refine .sl _ _ _ _ _ _ _ _ _ _ (by rw[ay rfl];exact hk) hg ?_;rw[drop_zero,fZ ah];exact bp.pure hp
 refine⟨λ x y h=>?_,λ x h=>?_,λ t v h=>?_,λ x y h=>?_⟩
 ·by_cases e:x=b
  ·simpa[e]using h
  simp[e]at h
 ·by_cases e:x=b
  ·rw[e,Tr.get_put,ay rfl]
  simp[e]at h
 ·rcases hF t v h with h1|⟨h1,rfl⟩
  ·exact⟨v,h1,.inl rfl⟩
  exact⟨_,h1,.inr hfz⟩
 rw[Tr.get_put]at h
 split at h
 ·cases h
 exact⟨y,h,.inl rfl⟩
theorem ak5 {X:oJ}(ok:X.ok){C:Cons S}{y bd:Nat}(qC:qj X C y bd) (hbd:bd<=100000){j:Nat}(hj:j<X.iM.length){a b c e:Nat}{rv:AV}{row:List Val}(PT:jy rv row) (hrl:row.length+1000<=bd){L:List (List Val)}{i:Nat}(hi:i<L.length) (hr:L[i]≠[]/\L[i].length<=1000)
  {eC iJ:Nat->Prop}{K4:Hp}{m0:Nat}{s:S}{F:Fr}{K:Hp}{m:Nat}(hF:InF a b c e rv L i F) (h8:F.get 8=some (aC L[i])) (I:Vm C eC K4 m0 s iJ K m) (hg:C.go s=true)
  (ha:a<m0/\¬eC a)(hb:b<m0/\¬eC b)(hc:c<m0/\¬eC c)(he:e<m0/\¬eC e)
  (ka:K4.get a=aN 1 [.ptr X.p 0])(kb:K4.get b=aN 1 [zI ((j:Int)+1)])(kc:K4.get c=aN 1 [.fn (.func 165) [] [.ptr X.q 0]])(ke:K4.get e=aN 1 [.iZ y])(Q:QA)
  (hN:∀s' lH F' K' m',InF a b c e rv L i F'->Vm C eC K4 m0 s' lH K' m'->C.go s'=true->(∀rs,cQ C (X.on.getD j []) row (L[i]::rs) s=cQ C (X.on.getD j []) row rs s')->Q .normal F' K' m' [])
  (hR:∀s' lH F' K' m',Vm C eC K4 m0 s' lH K' m'->C.go s'=false->(∀rs,cQ C (X.on.getD j []) row (L[i]::rs) s=s')->Q .ret F' K' m' []):
  VC pG (.seq NF (.seq ND (.seq NC (.seq FC (.cond (aA 58) .ret .skip))))) F K m [] Q:=by
 obtain⟨f1,f2,f3,f5,f6,f25,f26,f27⟩:=hF;have hm0:=I.mm;simp[NF,f6];refine aB.of (KL PT K m) λ u K5 m5 ⟨⟨q1,q2,q3,q4⟩,t5⟩=>?_;simp[h8];have hl:=hr.2;have hpos:0<L[i].length:=length_pos_iff.2 hr.1
 have hul:∀x,blk u=some x->m<=x/\x<m5:=λ x hx=>by
  obtain⟨_,⟨hu,_⟩|⟨b0,k0,hu,hb0,hk0,_⟩⟩:=q2
  ·rw[hu]at hx;simp at hx
  have:=q3 _ _ hu hk0;rw[hu]at hx;simp at hx;omega
 refine aD.Vf (k:=L[i].length) (new:=dF L[i]) q2 (by simp[aC]) (by simp[aC,sliceLen]) ai ah hpos (by unfold big;omega) ah (AG _) λ K6 o6 g6=>?_;simp;generalize hnx:row++L[i]=nx;have hlen:row.length+L[i].length=nx.length:=by rw[<-hnx];simp
 rw[hlen]at o6 ⊢;have hlc:(dF row++dF L[i])=dF nx:=by rw[<-hnx,AH]
 rw[hlc]at o6;obtain⟨hol,⟨hh,_⟩|⟨b9,k9,hb9,_,hk9,ho9⟩⟩:=o6
 ·cases hh
 injection hb9 with hb9;subst hb9
 have sh:eG (λ x=>if x=m5 then K6.get x else none) (Fp 9 (AV.sl m5 0 nx.length 3) (Fp 34 (AV.sl m5 0 nx.length 3) (Fp 33 (aC L[i]) (Fp 32 u (Fp 31 rv F))))) K6 ((((((Fp 9 (aC nx) F:Fr).put 31 none).put 32 none).put 33 none).put 34 none)) (K6.put m5 none):=
  eG.row hk9 ho9 hol (vu nx) λ t v h=>by
   by_cases h34:t=34
   ·simp[h34]at h
   by_cases h33:t=33
   ·simp[h33]at h
   by_cases h32:t=32
   ·simp[h32]at h
   by_cases h31:t=31
   ·simp[h31]at h
   by_cases h9:t=9
   ·subst h9;simp at h;subst h;exact .inr ⟨ai,rfl⟩
   simp[h34,h33,h32,h31,h9]at h ⊢;exact .inl h
 generalize hF2:((((((Fp 9 (aC nx) F:Fr).put 31 none).put 32 none).put 33 none).put 34 none))=F2 at sh;have g1:F2.get 1=some (.ptr a 0):=by rw[<-hF2];simp[f1]
 have g2:F2.get 2=some (.ptr b 0):=by rw[<-hF2];simp[f2]
 have g3:F2.get 3=some (.ptr c 0):=by rw[<-hF2];simp[f3]
 have g5:F2.get 5=some (.ptr e 0):=by rw[<-hF2];simp[f5]
 have PX:F2.get 6=some rv:=by rw[<-hF2];simp[f6]
 have g9:F2.get 9=some (aC nx):=by rw[<-hF2];simp
 have g25:F2.get 25=some (dR L):=by rw[<-hF2];simp[f25]
 have g26:F2.get 26=some (zI (L.length:Int)):=by rw[<-hF2];simp[f26]
 have g27:F2.get 27=some (zI (i:Int)):=by rw[<-hF2];simp[f27]
 clear hF2;generalize hH2:K6.put m5 none=H2 at sh
 have hK6:∀x,x<m->H2.get x=K.get x:=λ x hx=>by
  rw[<-hH2,Tr.get_put,ak ah];exact(g6 x ah λ hv=>by have:=hul x hv;omega).trans (q4 x hx)
 have tH2:dm H2 (m5+1):=λ x hx=>by
  rw[<-hH2,Tr.get_put,ak ah,g6 x ah λ hv=>by have:=hul x hv;omega];exact t5 x ah
 clear hH2 g6;have J2:C.J s iJ H2 (m5+1):=qC.fr I.J (λ x hx=>hK6 x (qC.lt I.J x hx)) ah;have hx4:∀x,x<m0->¬eC x->H2.get x=K4.get x:=λ x h1 h2=>(hK6 x ah).trans (I.f x h1 h2);have la:=(hx4 a ha.1 ha.2).trans ka;have lb:=(hx4 b hb.1 hb.2).trans kb;have lc:=(hx4 c hc.1 hc.2).trans kc;have le:=(hx4 e he.1 he.2).trans ke;obtain⟨_,kp,Dp,hkp,hop,_,aqs⟩:=qC.pd J2;have aqr:19<Dp.length:=(nL.1 aqs).1;have ahe:=nP hkp hop aqr;rw[(nL.1 aqs).2]at ahe;have hjo:j<X.on.length:=by have:=ok.ol;omega
 have hx:=pe.ix (ik:=.i64) hjo;have hx':bW 1 (pe.ds X.on) (zI (j:Int))=.val (.dp (jc.ds X.on[j]::pe.l (X.on.drop (j+1)))):=hx;have hos:=ok.os _ (dy hjo);have hgd:X.on.getD j []=X.on[j]:=by simp[getD,hjo]
 have nxl:nx.length<=aU:=by rw[<-hlen];unfold aU;omega
 have Kp:=Ja (rv:=aC nx) (row:=nx) ⟨.inl rfl,nxl⟩ X.on[j] hos.1 hos.2;have oe:(jc.ds X.on[j]).len=1/\(jc.ds X.on[j]).cells=[jc.ds X.on[j]]:=⟨rfl,rfl⟩;have wj:IntKind.i64.wrap (j:Int)=(j:Int):=by have:=ok.fl;simp[IntKind.wrap,IntKind.signed,IntKind.bits];omega
 rw[hgd]at hN hR;generalize hre:bL nx X.on[j]=re at Kp;unfold afS at Kp;simp[ND];refine bF.ofZ (dX (l:=[(150,[jc.ds X.on[j],aC nx],λ H n=>.mk (.br [.bool re.1,zI re.2]) H n)]) ?_) sh ?_
 ·intro z hz;simp only[mc]at hz;subst hz;exact cy Kp
 simp[ae,g1,g2,g9,la,lb,ahe,hx',wj,bY];generalize hF3:(Fp 11 _ _:Fr)=F3;have i1:F3.get 1=some (.ptr a 0):=by rw[<-hF3];simp[ae,g1]
 have i2:F3.get 2=some (.ptr b 0):=by rw[<-hF3];simp[ae,g2]
 have i3:F3.get 3=some (.ptr c 0):=by rw[<-hF3];simp[ae,g3]
 have i5:F3.get 5=some (.ptr e 0):=by rw[<-hF3];simp[ae,g5]
 have i6:F3.get 6=some rv:=by rw[<-hF3];simp[ae,PX]
 have i9:F3.get 9=some (aC nx):=by rw[<-hF3];simp[ae,g9]
 have i10:F3.get 10=some (.bool re.1):=by rw[<-hF3];simp
 have i11:F3.get 11=some (zI re.2):=by rw[<-hF3];simp
 have i25:F3.get 25=some (dR L):=by rw[<-hF3];simp[ae,g25]
 have i26:F3.get 26=some (zI (L.length:Int)):=by rw[<-hF3];simp[ae,g26]
 have i27:F3.get 27=some (zI (i:Int)):=by rw[<-hF3];simp[ae,g27]
 clear hF3;obtain⟨oq,hq⟩:=qC.qo J2;simp[NC,i3,lc,i11];refine aB.of (lh (C.acc s) re.2 hq) λ u2 K8 m8 ⟨hu2,a8,hm8,f8⟩=>?_;subst hu2 hm8;have J8:C.J (C.E s re.2) iJ K8 (m5+1):=qC.ey J2 a8 (λ x _ hxq=>f8 x hxq) (aL _);have hqm:=qC.lt I.J _ oq;have t8:dm K8 (m5+1):=λ x hx=>by rw[f8 x ah];exact tH2 x hx
 have nq:∀x,x<m0->¬eC x->x≠X.q:=λ x h1 h2 e=>by
  subst e
  rcases I.o _ oq with h|h
  ·exact h2 h
  omega
 have I8:Vm C eC K4 m0 (C.E s re.2) iJ K8 (m5+1):=⟨J8,t8,ah,λ x h1 h2=>(f8 x (nq x h1 h2)).trans (hx4 x h1 h2),λ x hx=>(I.o x hx).imp id λ h=>⟨h.1,ah⟩⟩;have g8:C.go (C.E s re.2)=true:=(qC.eg _ _).trans hg;have le8:=(I8.f e he.1 he.2).trans ke;simp;generalize HM:(Fp 51 _ _:Fr)=F4;have e1:F4.get 1=some (.ptr a 0):=by rw[<-HM];simp[i1]
 have e2:F4.get 2=some (.ptr b 0):=by rw[<-HM];simp[i2]
 have e3:F4.get 3=some (.ptr c 0):=by rw[<-HM];simp[i3]
 have e5:F4.get 5=some (.ptr e 0):=by rw[<-HM];simp[i5]
 have e6:F4.get 6=some rv:=by rw[<-HM];simp[i6]
 have e9:F4.get 9=some (aC nx):=by rw[<-HM];simp[i9]
 have e10:F4.get 10=some (.bool re.1):=by rw[<-HM];simp[i10]
 have e25:F4.get 25=some (dR L):=by rw[<-HM];simp[i25]
 have e26:F4.get 26=some (zI (L.length:Int)):=by rw[<-HM];simp[i26]
 have e27:F4.get 27=some (zI (i:Int)):=by rw[<-HM];simp[i27]
 clear HM;have hrs:∀rs,cQ C X.on[j] row (L[i]::rs) s=if re.1=true then (if C.go (C.Y (C.E s re.2) nx)=true then cQ C X.on[j] row rs (C.Y (C.E s re.2) nx)else C.Y (C.E s re.2) nx)else cQ C X.on[j] row rs (C.E s re.2):=λ rs=>by rw[cQ,hnx,hre]
 cases hb:re.1 with
 |false =>
  rw[hb]at e10;simp only[hb]at hrs;simp[FC,e10];refine hN _ _ _ K8 (m5+1) ⟨by simp[e1],by simp[e2],by simp[e3],by simp[e5],by simp[e6],by simp[e25],by simp[e26],by simp[e27]⟩ I8 g8 λ rs=>by rw[hrs];simp
 |true =>
  rw[hb]at e10;simp only[hb,if_true]at hrs;simp[FC,e10,e5,le8,e9];refine(qC.yl J8 g8 t8 (rv:=aC nx) (row:=nx) ⟨.inl rfl,nxl⟩ ah).v λ b0 K9 m9 ⟨hb0,hP⟩=>?_;obtain⟨lH,I9⟩:=I8.next hP;subst hb0
  cases hgo:C.go (C.Y (C.E s re.2) nx)with
  |true =>
   simp only[hgo,if_true]at hrs;simp;exact hN _ _ _ K9 m9 ⟨by simp[e1],by simp[e2],by simp[e3],by simp[e5],by simp[e6],by simp[e25],by simp[e26],by simp[e27]⟩ I9 hgo hrs
  |false =>
   simp only[hgo]at hrs;simp;exact hR _ _ _ K9 m9 I9 hgo λ rs=>by rw[hrs];simp
end Go.Abs
namespace Go.Abs
open List
open Go.Proofs
open Classical
set_option maxRecDepth 100000
variable {S:Type}
theorem afK {X:oJ}(ok:X.ok){C:Cons S}{y bd:Nat}(qC:qj X C y bd)(hbd:bd<=100000){j:Nat}(hj:j<X.iM.length){a b c e:Nat}{rv:AV}{row:List Val}(PT:jy rv row)(hrl:row.length+1000<=bd){L:List (List Val)}(hL:L.length<=100000)(hr:∀r∈L,r≠[]/\r.length<=1000)
  {eC iJ:Nat->Prop}{K4:Hp}{m0:Nat}{s0:S}{F:Fr}{K:Hp}{m:Nat}(hF:InF a b c e rv L 0 F) (I:Vm C eC K4 m0 s0 iJ K m) (hg:C.go s0=true)
  (ha:a<m0/\¬eC a)(hb:b<m0/\¬eC b)(hc:c<m0/\¬eC c)(he:e<m0/\¬eC e)
  (ka:K4.get a=aN 1 [.ptr X.p 0])(kb:K4.get b=aN 1 [zI ((j:Int)+1)])(kc:K4.get c=aN 1 [.fn (.func 165) [] [.ptr X.q 0]])(ke:K4.get e=aN 1 [.iZ y])(Q:QA)
  (hN:∀lH F' K' m',Vm C eC K4 m0 (cQ C (X.on.getD j []) row L s0) lH K' m'->C.go (cQ C (X.on.getD j []) row L s0)=true->Q .normal F' K' m' [])
  (hR:∀lH F' K' m',Vm C eC K4 m0 (cQ C (X.on.getD j []) row L s0) lH K' m'->C.go (cQ C (X.on.getD j []) row L s0)=false->Q .ret F' K' m' []):
  aF Gx pG F K m [] (ig 2 Q):=by
 refine aF.of (λ t F K m ms=>∃(i:Nat) (s:S) (iJ:Nat->Prop),t=L.length - i/\i<=L.length/\InF a b c e rv L i F/\Vm C eC K4 m0 s iJ K m/\C.go s=true/\cQ C (X.on.getD j []) row (L.drop i) s=cQ C (X.on.getD j []) row L s0/\ms=[]) L.length ⟨0,s0,iJ,ah,ah,hF,I,hg,rfl,rfl⟩ ?_;clear hF I hg F K m iJ;rintro t F K m ms ⟨i,s,iJ,rfl,hi,⟨f1,f2,f3,f5,f6,f25,f26,f27⟩,I,hg,hs,rfl⟩
 by_cases hlt:i<L.length
 ·have hx:=aev hlt;have r1:(aC L[i]).len=1/\(aC L[i]).cells=[aC L[i]]:=⟨rfl,rfl⟩;have wi:=aE i ah;rw[gu hlt]at hs;simp[-getD_eq_getElem?_getD,Gx,f27,f26,hlt,f25,hx];rw[<-ux];refine ak5 ok qC hbd hj PT hrl hlt (hr _ (dy hlt)) ⟨by simp[f1],by simp[f2],by simp[f3],by simp[f5],by simp[f6],by simp[f25],by simp[f26],by simp[f27]⟩ ai I hg ha hb hc he ka kb kc ke _ (λ s' lH F' K' m' hF' I' hg' h'=>?_) (λ s' lH F' K' m' I' hg' h'=>?_)
  ·simp[-getD_eq_getElem?_getD,RV,hF'.f27,wi];exact⟨L.length - (i+1),ah,i+1,rfl,ah,⟨by simp[hF'.f1],by simp[hF'.f2],by simp[hF'.f3],by simp[hF'.f5],by simp[hF'.f6],by simp[hF'.f25],by simp[hF'.f26],ai⟩,s',⟨lH,I'⟩,hg',by rw[<-h',hs]⟩
  have e1:s'=cQ C (X.on.getD j []) row L s0:=by rw[<-hs,h']
  simp;exact hR lH _ K' m' (e1▸I') (e1▸hg')
 obtain rfl:i=L.length:=ah;rw[drop_length]at hs;have hs':s=cQ C (X.on.getD j []) row L s0:=hs;simp[Gx,f27,f26];exact hN iJ _ K m (hs'▸I) (hs'▸hg)
end Go.Abs
namespace Go.Abs
open List
open Go.Proofs
open Classical
set_option maxRecDepth 100000
variable {S:Type}
set_option maxHeartbeats 1000000 in
theorem aqc {X:oJ}(ok:X.ok){C:Cons S}{y bd:Nat}(qC:qj X C y (bd+1000))(hbd:bd+1000<=100000){j:Nat}(hj:j<X.iM.length){M e a b c d kd:Nat}{F1:Fr}(B:InB X y j M e a b c d (kd:Int) F1)(hkl:kd<X.RC.length)(hR:X.RC[kd]=dR (X.tabs.getD j [])){s:S}{own:Nat->Prop}{K:Hp}{m:Nat}{rv:AV}{row:List Val}(hJ:CmJ X C y j M e a b c d (kd:Int) F1 s own K m)(hg':C.go s=true)(ht:dm K m)(PT:jy rv row)(hrl:row.length<=bd):
  Yields M rv K m (λ b0 K' m'=>b0=C.go (cQ C (X.on.getD j []) row (X.tabs.getD j []) s)/\Post (inC X C y j M e a b c d (kd:Int) F1) (cQ C (X.on.getD j []) row (X.tabs.getD j []) s) own K m K' m'):=by
 obtain⟨eC,J0,hown,hnot,hM,hK,hl⟩:=hJ;have hB:=B.o
 have fin:∀(K4:Hp) (iJ:Nat->Prop) (K':Hp) (m':Nat),(∀x,x≠M->K4.get x=K.get x)->K4.get M=some (.loop .busy .normal 60 F1 [17] ep.1 ep.2)->Vm C eC K4 m (cQ C (X.on.getD j []) row (X.tabs.getD j []) s) iJ K' m'->∀o:lG,((C.go (cQ C (X.on.getD j []) row (X.tabs.getD j []) s)=true/\o=.normal)∨(C.go (cQ C (X.on.getD j []) row (X.tabs.getD j []) s)=false/\o=.ret)) ->
   u4 M (λ u H' n'=>∃b0,u=.bool b0/\(b0=C.go (cQ C (X.on.getD j []) row (X.tabs.getD j []) s)/\Post (inC X C y j M e a b c d (kd:Int) F1) (cQ C (X.on.getD j []) row (X.tabs.getD j []) s) own K m H' n')) o K' m':=
  λ K4 iJ K' m' h4 hb4 I o h=>ak6 B hown hnot hM hK h4 hb4 (λ h1 h2 h3=>qC.fr h1 h2 h3) I.J I.t I.mm I.f I.o o h
 have hRR:∃RR0:Bool->Hp->Nat->Prop,RR0=(λ(b0:Bool) (K':Hp) (m':Nat)=>b0=C.go (cQ C (X.on.getD j []) row (X.tabs.getD j []) s)/\Post (inC X C y j M e a b c d (kd:Int) F1) (cQ C (X.on.getD j []) row (X.tabs.getD j []) s) own K m K' m'):=⟨_,rfl⟩;obtain⟨RR0,hRR⟩:=hRR;rw[<-hRR]
 have fin:∀(K4:Hp) (iJ:Nat->Prop) (K':Hp) (m':Nat),(∀x,x≠M->K4.get x=K.get x)->K4.get M=some (.loop .busy .normal 60 F1 [17] ep.1 ep.2)->Vm C eC K4 m (cQ C (X.on.getD j []) row (X.tabs.getD j []) s) iJ K' m'->∀o:lG,((C.go (cQ C (X.on.getD j []) row (X.tabs.getD j []) s)=true/\o=.normal)∨(C.go (cQ C (X.on.getD j []) row (X.tabs.getD j []) s)=false/\o=.ret))->u4 M (λ u H' n'=>∃b0,u=.bool b0/\RR0 b0 H' n') o K' m':=by
  rw[hRR];exact fin
 clear hRR;rw[ay hg',ay hg']at hl;refine Yields.of hl (by simp[mS];rfl) ?_;generalize hRU:(λ(u:AV) (H':Hp) (n':Nat)=>∃b0,u=.bool b0/\RR0 b0 H' n')=RU at fin ⊢;clear hRU;rw[aen];simp[acA,hl];refine⟨_,_,_,_,_,_,⟨rfl,rfl,rfl,rfl,rfl,rfl⟩,?_⟩;rw[aem];generalize hF2:(Fp 6 _ _:Fr)=F2;have g1:F2.get 1=some (.ptr a 0):=by rw[<-hF2];simp[B.f1]
 have g2:F2.get 2=some (.ptr b 0):=by rw[<-hF2];simp[B.f2]
 have g3:F2.get 3=some (.ptr c 0):=by rw[<-hF2];simp[B.f3]
 have g4:F2.get 4=some (.ptr d 0):=by rw[<-hF2];simp[B.f4]
 have g5:F2.get 5=some (.ptr e 0):=by rw[<-hF2];simp[B.f5]
 have g6:F2.get 6=some rv:=by rw[<-hF2];simp
 clear hF2;generalize hK4:Tr.put K M _=K4;have h4:∀x,x≠M->K4.get x=K.get x:=λ x hx=>by rw[<-hK4,Tr.get_put,ak hx]
 have hb4:K4.get M=some (.loop .busy .normal 60 F1 [17] ep.1 ep.2):=by rw[<-hK4];simp
 clear hK4;have nM:¬eC M:=hnot M (by simp[qh]);have J4:C.J s eC K4 m:=qC.fr J0 (λ c hc=>h4 c (λ e=>nM (e▸hc))) (aL _);have t4:dm K4 m:=λ x hx=>by rw[h4 x ah];exact ht x hx
 have ka:=(h4 a ah).trans hK.ka;have kb:=(h4 b ah).trans hK.kb;have kc:=(h4 c ah).trans hK.kc;have kd':=(h4 d ah).trans hK.kd;have ke:=(h4 e ah).trans hK.ke;obtain⟨_,kp,Dp,hkp,hop,hd2,_⟩:=qC.pd J4
 replace hd2:=hd2 ah
 obtain⟨_,hkr⟩:=qC.rd J4;have awN:2<Dp.length:=(nL.1 hd2).1;have aqm:=nP hkp hop awN;rw[(nL.1 hd2).2]at aqm;have hix:=bK (bk:=X.r) (N:=X.RC.length) hkl;have aql:=nP hkr (OwnB.list rfl) hkl;rw[hR]at aql;have hll:bg (dR (X.tabs.getD j []))=.val (zI ((X.tabs.getD j []).length:Int)):=VL _;have hjt:j<X.tabs.length:=by have:=ok.tl;omega
 have hgt:X.tabs.getD j []=X.tabs[j]:=by simp[getD,hjt]
 have hts:=ok.ts _ (dy hjt);rw[<-hgt]at hts;have fin1:=λ lH K' m' I o h=>fin K4 lH K' m' h4 hb4 I o h;clear fin;generalize hsF:cQ C (X.on.getD j []) row (X.tabs.getD j []) s=sF at fin1;generalize hTT:X.tabs.getD j []=TT at *;simp[acz];refine bF.of (bq (P:=pG)) ?_;simp[ae,g1,g4,ka,kd',aqm,hix,aql,hll];generalize hF3:(Fp 27 _ _:Fr)=F3;have i1:F3.get 1=some (.ptr a 0):=by rw[<-hF3];simp[ae,g1]
 have i2:F3.get 2=some (.ptr b 0):=by rw[<-hF3];simp[ae,g2]
 have i3:F3.get 3=some (.ptr c 0):=by rw[<-hF3];simp[ae,g3]
 have i5:F3.get 5=some (.ptr e 0):=by rw[<-hF3];simp[ae,g5]
 have i6:F3.get 6=some rv:=by rw[<-hF3];simp[ae,g6]
 have i25:F3.get 25=some (dR TT):=by rw[<-hF3];simp
 have i26:F3.get 26=some (zI (TT.length:Int)):=by rw[<-hF3];simp
 have i27:F3.get 27=some (zI ((0:Nat):Int)):=by rw[<-hF3];simp
 clear hF3;refine afK ok qC hbd hj PT ah hts.1 hts.2 ⟨i1,i2,i3,i5,i6,i25,i26,i27⟩ ⟨J4,t4,aL _,λ _ _ _=>rfl,λ x hx=>.inl hx⟩ hg' ⟨ah,hnot a (by simp[qh])⟩ ⟨ah,hnot b (by simp[qh])⟩ ⟨ah,hnot c (by simp[qh])⟩ ⟨ah,hnot e (by simp[qh])⟩ ka kb kc ke _ (λ lH F' K' m' I hgo=>?_) (λ lH F' K' m' I hgo=>?_)
 ·rw[hsF]at I hgo;simpa using fin1 lH K' m' I .normal (.inl ⟨hgo,rfl⟩)
 rw[hsF]at I hgo;simpa using fin1 lH K' m' I .ret (.inr ⟨hgo,rfl⟩)
theorem aqd {X:oJ}(ok:X.ok){C:Cons S}{y bd:Nat}(qC:qj X C y (bd+1000))(hbd:bd+1000<=100000){j:Nat}(hj:j<X.iM.length){M e a b c d kd:Nat}{F1:Fr}(B:InB X y j M e a b c d (kd:Int) F1)(hkl:kd<X.RC.length)(hR:X.RC[kd]=dR (X.tabs.getD j [])):
  qj X (inC X C y j M e a b c d (kd:Int) F1) M bd where
 lt:=by
  rintro s own K m ⟨eC,J0,hown,hnot,hM,hK,hl⟩ x hx;have hB:=B.o
  rcases(hown x).1 hx with h|h
  ·exact qC.lt J0 x h
  simp only[qh]at h;omega
 qo:=by
  rintro s own K m ⟨eC,J0,hown,hnot,hM,hK,hl⟩;obtain⟨h1,h2⟩:=qC.qo J0;exact⟨(hown _).2 (.inl h1),h2⟩
 pd:=by
  rintro s own K m ⟨eC,J0,hown,hnot,hM,hK,hl⟩;obtain⟨h1,h2⟩:=qC.pd J0;exact⟨(hown _).2 (.inl h1),h2⟩
 rd:=by
  rintro s own K m ⟨eC,J0,hown,hnot,hM,hK,hl⟩;obtain⟨h1,h2⟩:=qC.rd J0;exact⟨(hown _).2 (.inl h1),h2⟩
 fr:=by
  rintro s own K m K' m' ⟨eC,J0,hown,hnot,hM,hK,hl⟩ h hm;exact⟨eC,qC.fr J0 (λ c hc=>h c ((hown c).2 (.inl hc))) hm,hown,hnot,ah,hK.fr (λ x hx _=>h x ((hown x).2 (.inr hx))) B.o,(h M ((hown M).2 (.inr (by simp[qh])))).trans hl⟩
 ey:=by
  rintro s own K m K' m' er ⟨eC,J0,hown,hnot,hM,hK,hl⟩ hq h hm;have hqo:=(qC.qo J0).1;have ne:∀x,qh M e a b c d x->x≠X.q:=λ x hx e=>hnot x hx (e▸hqo);refine⟨eC,qC.ey J0 hq (λ c hc hcq=>h c ((hown c).2 (.inl hc)) hcq) hm,hown,hnot,ah,hK.fr (λ x hx _=>h x ((hown x).2 (.inr hx)) (ne x hx)) B.o,?_⟩;rw[h M ((hown M).2 (.inr (by simp[qh]))) (ne M (by simp[qh])),hl];show _=some (bJ.loop (if C.go (C.E s er)=true then .ready else .done) (if C.go (C.E s er)=true then .normal else .ret) 60 F1 [17] ep.1 ep.2);rw[qC.eg]
 eg:=qC.eg
 yl:=λ hJ hg ht PT hrl=>aqc ok qC hbd hj B hkl hR hJ hg ht PT hrl
end Go.Abs
