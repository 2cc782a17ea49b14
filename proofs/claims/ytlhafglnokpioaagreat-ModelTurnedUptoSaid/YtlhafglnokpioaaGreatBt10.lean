/- A part. -/
import Derived.Test.YtlhafglnokpioaaGreatBt9
noncomputable section
namespace Go.Abs
open List
open Go.Proofs
open Classical
set_option maxRecDepth 100000
variable {α:Type}{C:Cp α}{P:Program}{a b N:Nat}{d e:Nat->α}{x y:Nat}
def P8:CT:=(.seq EF (.cond (aA 39) (.seq MH MG) .skip))
def P7:CT:=(.seq xh (.cond (aA 56) (.seq EZ (.seq EY EX)) .skip))
def CE:CT:=(.seq qV (.cond (aA 75) (.seq EW (.cond (aA 80) .ret .skip)) .skip))
def P6:CT:=(.seq xg (.cond (aA 97) (.seq EV (.seq EU (.exit 1))) .skip))
def Zz:CT:=(.seq ET (.seq ES (.seq ER (.seq EP (.seq EO (.cond (aA 125) (.seq EN (.seq EM EL)) (.seq EK (.seq EJ EI))))))))
theorem avQ:NG=(.block 1 (.seq vu (.seq (.seq vq (.cond (aA 25) (.seq EH .ret) .skip)) (.seq (.seq EG (.cond (aA 32) (.seq MI .ret) .skip)) (.seq P8 (.seq E3 (.seq P7 (.seq CE (.seq P6 Zz)))))))))  := rfl
def Fq (C:Cp α)(N x y:Nat)(F:Fr):Prop:=F.get 0=some (.sl C.bk 0 N 1)/\F.get 1=some (zI (x:Int))/\F.get 2=some (zI (y:Int))/\F.get 4=some C.fv/\(∃l,F.get 3=some (zI l))/\(∃w,F.get 10=some (.bool w))/\∃w,F.get 11=some (.bool w)
section
variable {Q:QA}{H0 K:Hp}{n0 n:Nat}{F:Fr}
theorem aoM (ho:C.Ok pG)(hd:fc C H0 n0 N d K)(hn0:C.lo<n0)(hn:n0<=n)(hxy:x+12<y)(Hw:y<=N)(hN:N<60000)(hF:Fq C N x y F)
  (hQ:∀F' K' n' d',Fq C N x y F'->F'.get 12=F.get 12->PS x y d d'->fc C H0 n0 N d' K'->n<=n'->Q .normal F' K' n' []):VC pG P8 F K n [] Q:=by
 obtain⟨f0,f1,f2,f4,⟨l,f3⟩,⟨wb,f10⟩,⟨wp,f11⟩⟩:=hF
 cases wb with
 |true =>
  simp[P8,EF,f10];exact hQ _ _ _ d ⟨by simp[f0],by simp[f1],by simp[f2],by simp[f4],⟨l,by simp[f3]⟩,⟨true,by simp[f10]⟩,⟨wp,by simp[f11]⟩⟩ ah (.refl d) hd (aK _)
 |false =>
  simp[P8,EF,f10,MH,f0,f1,f2,f4];refine aB.of (amc ho hd hn0 hn hxy Hw hN) λ w K1 n1 ⟨e1,⟨d1,ps,hd1⟩,h1⟩=>?_;subst e1;simp[MG,f3];exact hQ _ _ _ d1 ⟨by simp[f0],by simp[f1],by simp[f2],by simp[f4],⟨IntKind.i64.wrap (l - 1),ah⟩,⟨false,by simp[f10]⟩,⟨wp,by simp[f11]⟩⟩ ah ps hd1 h1
theorem aoL (ho:C.Ok pG)(hd:fc C H0 n0 N d K)(hxy:x+12<y)(Hw:y<=N)(hN:N<60000)(hF:Fq C N x y F){pv:Nat}{h:Int}(hp1:x<=pv)(hp2:pv<y)(f13:F.get 13=some (zI (pv:Int)))(f14:F.get 14=some (zI h))
  (hQ:∀F' K' d' (pv':Nat)(h':Int),Fq C N x y F'->F'.get 12=F.get 12->PS x y d d'->fc C H0 n0 N d' K'->x<=pv'->pv'<y->F'.get 13=some (zI (pv':Int))->F'.get 14=some (zI h')->Q .normal F' K' n []):VC pG P7 F K n [] Q:=by
 obtain⟨f0,f1,f2,f4,⟨l,f3⟩,⟨wb,f10⟩,⟨wp,f11⟩⟩:=hF
 by_cases h2:h=2
 ·subst h2;simp[P7,xh,f14,EZ,f0,f1,f2,f4];refine aB.of (ajO ho hd ae Hw ae) λ w K1 n1 ⟨e1,⟨d1,ps,hd1⟩,h1⟩=>?_;subst e1 h1;obtain⟨y1,hy1⟩:∃y1,y1=y - 1:=⟨_,rfl⟩;obtain⟨z,hz⟩:∃z,z=pv - x:=⟨_,rfl⟩;obtain⟨p',hp'⟩:∃p',p'=y1 - z:=⟨_,rfl⟩;have w1:IntKind.i64.wrap ((y:Int) - 1)=(y1:Int):=by rw[aN _ ae ae];omega
  have w2:IntKind.i64.wrap ((pv:Int) - (x:Int))=(z:Int):=by rw[aN _ ae ae];omega
  have w3:IntKind.i64.wrap ((y1:Int) - (z:Int))=(p':Int):=by rw[aN _ ae ae];omega
  simp[EY,f1,f2,f13,w1,w2,w3,EX];exact hQ _ _ d1 p' 1 ⟨by simp[f0],by simp[f1],by simp[f2],by simp[f4],⟨l,by simp[f3]⟩,⟨wb,by simp[f10]⟩,⟨wp,by simp[f11]⟩⟩ ah ps hd1 ae ae ah ah
 simp[P7,xh,f14,h2];exact hQ _ _ d pv h ⟨by simp[f0],by simp[f1],by simp[f2],by simp[f4],⟨l,by simp[f3]⟩,⟨wb,by simp[f10]⟩,⟨wp,by simp[f11]⟩⟩ ah (.refl d) hd hp1 hp2 (by simp[f13]) (by simp[f14])
theorem aoK (ho:C.Ok pG) (hd:fc C H0 n0 N d K) (hJ:C.J H0) (hn0:C.lo<n0) (hn:n0<=n) (hE:∀k,k<N->C.El (d k)) (hxy:x+12<y) (Hw:y<=N) (hN:N<60000) (hg:Gd C x y d) (hF:Fq C N x y F){pv:Nat}{h:Int}(f13:F.get 13=some (zI (pv:Int))) (f14:F.get 14=some (zI h))
  (hR:∀F' K' d',PS x y d d'->ji C x y d'->fc C H0 n0 N d' K'->Q .ret F' K' n [])
  (hQ:∀F' K' d',Fq C N x y F'->F'.get 12=F.get 12->PS x y d d'->fc C H0 n0 N d' K'->F'.get 13=some (zI (pv:Int))->Q .normal F' K' n []):VC pG CE F K n [] Q:=by
 obtain⟨f0,f1,f2,f4,⟨l,f3⟩,⟨wb,f10⟩,⟨wp,f11⟩⟩:=hF
 cases wb with
 |false =>
  simp[CE,qV,f10];exact hQ _ _ d ⟨by simp[f0],by simp[f1],by simp[f2],by simp[f4],⟨l,by simp[f3]⟩,⟨false,by simp[f10]⟩,⟨wp,by simp[f11]⟩⟩ ah (.refl d) hd (by simp[f13])
 |true=>cases wp with
  |false =>
   simp[CE,qV,f10,f11];exact hQ _ _ d ⟨by simp[f0],by simp[f1],by simp[f2],by simp[f4],⟨l,by simp[f3]⟩,⟨true,by simp[f10]⟩,⟨false,by simp[f11]⟩⟩ ah (.refl d) hd (by simp[f13])
  |true =>
   by_cases h1:h=1
   ·subst h1;simp[CE,qV,f10,f11,f14,EW,f0,f1,f2,f4];refine aB.of (aj9 ho hd hJ hn0 hn hE ae Hw hN hg) λ w K1 n1 ⟨⟨bl,e1,d1,ps,so,hd1⟩,h1⟩=>?_;subst e1 h1
    cases bl with
    |true =>
     simp;exact hR _ _ d1 ps (so rfl) hd1
    |false =>
     simp;exact hQ _ _ d1 ⟨by simp[f0],by simp[f1],by simp[f2],by simp[f4],⟨l,by simp[f3]⟩,⟨true,by simp[f10]⟩,⟨true,by simp[f11]⟩⟩ ah ps hd1 (by simp[f13])
   simp[CE,qV,f10,f11,f14,h1];exact hQ _ _ d ⟨by simp[f0],by simp[f1],by simp[f2],by simp[f4],⟨l,by simp[f3]⟩,⟨true,by simp[f10]⟩,⟨true,by simp[f11]⟩⟩ ah (.refl d) hd (by simp[f13])
theorem aoJ (ho:C.Ok pG)(hd:fc C H0 n0 N d K)(hJ:C.J H0)(hn0:C.lo<n0)(hn:n0<=n)(hE:∀k,k<N->C.El (d k))(hxy:x+12<y)(Hw:y<=N)(hN:N<60000)(hF:Fq C N x y F){pv:Nat}(hp1:x<=pv)(hp2:pv<y)(f13:F.get 13=some (zI (pv:Int)))
  (hX:∀F' K' d' (m:Nat),Fq C N m y F'->PS x y d d'->x<m->m<=y->0<x->C.c (d' x) (d' (x - 1))<=0->(∀k:Nat,x<k->k<m->0<=C.c (d' x) (d' k))->fc C H0 n0 N d' K'->Q (.exit 1) F' K' n [])
  (hQ:∀F',Fq C N x y F'->F'.get 12=F.get 12->F'.get 13=some (zI (pv:Int))->Q .normal F' K n []):VC pG P6 F K n [] Q:=by
 obtain⟨f0,f1,f2,f4,⟨l,f3⟩,⟨wb,f10⟩,⟨wp,f11⟩⟩:=hF
 by_cases h0:0<x
 ·have h0':(0:Int)<(x:Int):=ae;have w1:IntKind.i64.wrap ((x:Int) - 1)=((x - 1:Nat):Int):=by rw[aN _ ae ae];omega
  have x1:=bJ (bk:=C.bk) (N:=N) (i:=x - 1) ae;have x2:=bJ (bk:=C.bk) (N:=N) (i:=pv) ae;have l1:=hd.ld (i:=x - 1) ae;have l2:=hd.ld (i:=pv) ae;have hJ':=hd.J ho hJ hn0;obtain⟨z,hz⟩:∃z,z=x - 1:=⟨_,rfl⟩;rw[<-hz]at w1 x1 l1;simp[P6,xg];refine bC.of (C.iY ho (hE z ae) (hE pv ae)) ?_;simp[ab,f0,f1,f4,f13,h0,w1,Cp.fv,x1,x2,l1,l2,Cp.ed hJ' (show C.lo<n by omega)]
  by_cases hc:C.c (d z) (d pv)<0
  ·simp[hc];exact hQ _ ⟨by simp[ab,f0],by simp[ab,f1],by simp[ab,f2],by simp[ab,f4],⟨l,by simp[ab,f3]⟩,⟨wb,by simp[ab,f10]⟩,⟨wp,by simp[ab,f11]⟩⟩ (by simp[ab]) (by simp[ab,f13])
  simp[hc,EV,ab,f0,f1,f2,f4,f13];refine aB.of (aeO ho hd hJ hn0 hn hE hp1 hp2 Hw ae) λ w K1 n1 ⟨⟨m,d1,e1,hm1,hm2,ps,hdx,hl,_,hd1⟩,h1⟩=>?_;subst e1 h1;simp[EU];refine hX _ _ d1 m ⟨by simp[ab,f0],ah,by simp[ab,f2],by simp[ab,f4],⟨l,by simp[ab,f3]⟩,⟨wb,by simp[ab,f10]⟩,⟨wp,by simp[ab,f11]⟩⟩ ps hm1 hm2 h0 ?_ hl hd1;rw[hdx,ps.out (k:=x - 1) ae,<-hz];exact ho.le (hE _ ae) (hE _ ae) hc
 have h0':¬(0:Int)<(x:Int):=ae;simp[P6,xg];refine bC.of (bh (P:=pG)) ?_;simp[ab,f1,h0];exact hQ _ ⟨by simp[ab,f0],by simp[ab,f1],by simp[ab,f2],by simp[ab,f4],⟨l,by simp[ab,f3]⟩,⟨wb,by simp[ab,f10]⟩,⟨wp,by simp[ab,f11]⟩⟩ (by simp[ab]) (by simp[ab,f13])
end
end Go.Abs
namespace Go.Abs
open List
open Go.Proofs
open Classical
set_option maxRecDepth 100000
variable {α:Type}{C:Cp α}{P:Program}{a b N:Nat}{d e:Nat->α}{x y:Nat}
def Pdq (C:Cp α)(H0:Hp)(n0 N len:Nat):Prop:=∀(a b:Nat)(d:Nat->α)(H:Hp)(n:Nat)(l:Int),b - a<len->a<=b->b<=N->fc C H0 n0 N d H->n0<=n->(∀k,k<N->C.El (d k))->Gd C a b d ->
 ak pG 220 [.sl C.bk 0 N 1,zI (a:Int),zI (b:Int),zI l,C.fv] H n (λ w K j=>w=.bo []/\(∃d',PS a b d d'/\ji C a b d'/\fc C H0 n0 N d' K)/\n<=j)
theorem aoI {Q:QA}{H0 K:Hp}{n0 n:Nat}{F:Fr}(ho:C.Ok pG)(hd:fc C H0 n0 N d K)(hJ:C.J H0)(hn0:C.lo<n0)(hn:n0<=n)(hE:∀k,k<N->C.El (d k))(hxy:x+12<y)(Hw:y<=N)(hN:N<60000)(ih:Pdq C H0 n0 N (y - x))(hg:Gd C x y d)(hF:Fq C N x y F){pv:Nat}(hp1:x<=pv)(hp2:pv<y)(f13:F.get 13=some (zI (pv:Int)))(f12:F.get 12=some (zI ((y - x:Nat):Int)))
  (hL:∀F' K' n' d' (m:Nat),Fq C N (m+1) y F'->PS x y d d'->SN C x y m d'->ji C x m d'->fc C H0 n0 N d' K'->n<=n'->Q .normal F' K' n' [])
  (hR:∀F' K' n' d' (m:Nat),Fq C N x m F'->PS x y d d'->SN C x y m d'->ji C (m+1) y d'->fc C H0 n0 N d' K'->n<=n'->Q .normal F' K' n' []):VC pG Zz F K n [] Q:=by
 obtain⟨f0,f1,f2,f4,⟨l,f3⟩,⟨wb,f10⟩,⟨wp,f11⟩⟩:=hF;obtain⟨L,hL'⟩:∃L,L=y - x:=⟨_,rfl⟩;rw[<-hL']at f12;obtain⟨th,hth⟩:∃th,th=L / 8:=⟨_,rfl⟩;have q0:bS .quo .i64 (L:Int) 8=.val (zI (th:Int)):=by rw[hth];exact aeC L 8 ae ae
 simp[Zz,ET,f0,f1,f2,f4,f13];refine aB.of (aeN ho hd hJ hn0 hn hE hp1 hp2 Hw ae) λ w K1 n1 ⟨⟨m,bl,e1,d1,ps,pt,hd1⟩,h1⟩=>?_;subst e1 h1;have pt1:=pt.1;have pt2:=pt.2.1;have hE1:=ps.all Hw hE;have gd:=hg.ps ps;obtain⟨u,hu⟩:∃u,u=m - x:=⟨_,rfl⟩;obtain⟨v,hv⟩:∃v,v=y - m:=⟨_,rfl⟩;obtain⟨m1,hm1⟩:∃m1,m1=m+1:=⟨_,rfl⟩;have w1:IntKind.i64.wrap ((m:Int) - (x:Int))=(u:Int):=by rw[aN _ ae ae];omega
 have w2:IntKind.i64.wrap ((y:Int) - (m:Int))=(v:Int):=by rw[aN _ ae ae];omega
 have w3:IntKind.i64.wrap ((m:Int)+1)=(m1:Int):=by rw[aN _ ae ae];omega
 simp[ES,ER,f1,f2,w1,w2,EP,f12,q0,EO]
 by_cases hlt:u<v
 ·simp[hlt,EN,EM,f0,f1,f4,f3];refine aB.of (ih x m d1 K1 n1 l ae pt1 ae hd1 hn hE1 (gd.sub rfl ae)) λ w K2 n2 ⟨e1,⟨d2,ps2,VV,hd2⟩,h1⟩=>?_;subst e1;simp[EL,w3];exact hL _ _ _ d2 m ⟨by simp[f0],by simp[hm1],by simp[f2],by simp[f4],⟨l,by simp[f3]⟩,⟨_,by simp;rfl⟩,⟨bl,ah⟩⟩ (ps.trans (ps2.wide (aK _) ae)) (pt.left ps2) VV hd2 h1
 simp[hlt,EK,EJ,f0,f2,f4,f3,w3]
 have g2:Gd C m1 y d1:=λ h0 k k1 k2=>by
  rw[show m1 - 1=m by omega];exact(pt.le ho hE1 Hw).2.1 k ae k2
 refine aB.of (ih m1 y d1 K1 n1 l ae ae Hw hd1 hn hE1 g2) λ w K2 n2 ⟨e1,⟨d2,ps2,VV,hd2⟩,h1⟩=>?_;subst e1;simp[EI];rw[hm1]at ps2 VV;exact hR _ _ _ d2 m ⟨by simp[f0],by simp[f1],ah,by simp[f4],⟨l,by simp[f3]⟩,⟨_,by simp;rfl⟩,⟨bl,ah⟩⟩ (ps.trans (ps2.wide ae (aK _))) (pt.right ps2) VV hd2 h1
theorem OI (ho:C.Ok pG){H0:Hp}{n0:Nat}(hJ:C.J H0) (hn0:C.lo<n0) (hN:N<60000):∀len,Pdq C H0 n0 N len
 |0=>λ a b d H n l h=>ae
 |len + 1 => λ a b d H n l hlen hab hbN hd hn hE hg=>by
  have ih:=OI ho hJ hn0 hN len;refine ak.of c220 (by simp[A220]) λ F hF=>?_;simp[A220];refine aE.of (λ t F' K n' ms=>∃x y d',t=y - x/\a<=x/\x<=y/\y<=b/\Fq C N x y F'/\n<=n'/\ms=[]/\PS a b d d'/\Out C a b x y d'/\fc C H0 n0 N d' K) (b - a) ⟨a,b,d,rfl,ae,hab,ae,⟨by simp[hF],by simp[hF],by simp[hF],by simp[hF],⟨l,by simp[hF]⟩,⟨true,ah⟩,⟨true,ah⟩⟩,aK _,rfl,.refl d,λ p q h1 h2 h3 h4=>ae,hd⟩ ?_;clear hF hd;rintro t F1 K n1 ms ⟨x,y,d1,rfl,hax,hxy,hyb,hF1,hn1,rfl,ps,ou,hK⟩;have hE1:=ps.all hbN hE;have hg1:=hg.ps ps;obtain⟨f0,f1,f2,f4,⟨l1,f3⟩,⟨wb,f10⟩,⟨wp,f11⟩⟩:=hF1;obtain⟨L,hL⟩:∃L,L=y - x:=⟨_,rfl⟩;have w0:IntKind.i64.wrap ((y:Int) - (x:Int))=(L:Int):=by rw[aN _ ae ae];omega
  rw[avQ]
  by_cases h12:L<=12
  ·have afN:(L:Int)<=12:=ae;simp[vu,f0,f1,f2,f4,w0,vq,afN,EH];refine aB.of (akS ho hK hJ hn0 ae hE1 hxy ae ae) λ w K2 n2 ⟨e1,⟨d2,ps2,VV,hK2⟩,h1⟩=>?_;subst e1 h1;simp;exact⟨⟨d2,ps.trans (ps2.wide hax hyb),(ou.ps ps2 hax hyb).fin VV,hK2⟩,hn1⟩
  have afN:¬(L:Int)<=12:=ae
  by_cases hl0:l1=0
  ·simp[vu,f0,f1,f2,f4,w0,vq,afN,EG,f3,hl0,MI];refine aB.of (afH ho hK hJ hn0 ae hE1 ae ae hN) λ w K2 n2 ⟨e1,⟨d2,ps2,VV,hK2⟩,h1⟩=>?_;subst e1 h1;simp;exact⟨⟨d2,ps.trans (ps2.wide hax hyb),(ou.ps ps2 hax hyb).fin VV,hK2⟩,hn1⟩
  simp[vu,f1,f2,w0,vq,afN,EG,f3,hl0];refine aoM ho hK hn0 ae (x:=x) (y:=y) ae ae hN ⟨by simp[f0],by simp[f1],by simp[f2],by simp[f4],⟨l1,by simp[f3]⟩,⟨wb,by simp[f10]⟩,⟨wp,by simp[f11]⟩⟩ λ F2 K2 n2 d2 hF2 e12 ps2 hK2 hn2=>?_;have f12:F2.get 12=some (zI (L:Int)):=by rw[e12];simp
  clear f0 f1 f2 f3 f4 f10 f11 e12;have hE2:=ps2.all (N:=N) ae hE1;have q0:=hF2.1;have q1:=hF2.2.1;have q2:=hF2.2.2.1;have q4:=hF2.2.2.2.1;simp[E3,q0,q1,q2,q4];refine aB.of (aj3 ho hK2 hJ hn0 ae hE2 ae ae ae) λ w K3 n3 ⟨⟨pv,h,e1,hp1,hp2⟩,hK3,hn3⟩=>?_;subst e1;simp;refine aoL ho hK3 (x:=x) (y:=y) (pv:=pv) (h:=h) ae ae hN (by obtain⟨f0,f1,f2,f4,⟨l,f3⟩,⟨wb,f10⟩,⟨wp,f11⟩⟩:=hF2;exact⟨by simp[f0],by simp[f1],by simp[f2],by simp[f4],⟨l,by simp[f3]⟩,⟨wb,by simp[f10]⟩,⟨wp,by simp[f11]⟩⟩) hp1 hp2 ah ah λ F3 K4 d3 pv h hF3 e12 vJ hK4 hp1 hp2 f13 f14=>?_;have f12:F3.get 12=some (zI (L:Int)):=by rw[e12];simp[f12]
  clear e12 q0 q1 q2 q4 hF2;have ps4:=ps2.trans vJ;have ou4:=ou.ps ps4 hax hyb;have hE3:=ps4.all (N:=N) ae hE1;have ps5:=ps.trans (ps4.wide hax hyb);have gd5:=hg.ps ps5;simp;refine aoK ho hK4 hJ hn0 ae hE3 ae ae hN (ou4.gd gd5 hax hyb) hF3 f13 f14 (λ F4 K5 d4 ps6 so6 hK5=>?_) λ F4 K5 d4 HC e12 ps6 hK5 f13=>?_
  ·simp;exact⟨⟨d4,ps5.trans (ps6.wide hax hyb),(ou4.ps ps6 hax hyb).fin so6,hK5⟩,ae⟩
  have f12:F4.get 12=some (zI (L:Int)):=by rw[e12];exact f12
  clear e12 hF3 f14;have ou6:=ou4.ps ps6 hax hyb;have ps7:=ps5.trans (ps6.wide hax hyb);have gd7:=hg.ps ps7;have hE4:=ps6.all (N:=N) ae hE3;simp;refine aoJ ho hK5 hJ hn0 ae hE4 ae ae hN HC hp1 hp2 f13 (λ F5 K6 d5 m I1 W5 hm1 hm2 h0 hc hl hK6=>?_) λ F5 I1 e12 f13=>?_
  ·have hE5:=W5.all (N:=N) ae hE4;have ps9:=ps7.trans (W5.wide hax hyb);have ou8:=ou6.ps W5 hax hyb;simp;exact⟨y - m,ae,m,y,rfl,ae,ae,ae,I1,ae,d5,ps9,ou8.eq ho hE5 hbN hax hyb hm1 hm2 (ou8.gd (hg.ps ps9) hax hyb) h0 hc hl,hK6⟩
  have f12:F5.get 12=some (zI ((y - x:Nat):Int)):=by rw[e12,f12,hL]
  simp;refine aoI ho hK5 hJ hn0 ae hE4 ae ae hN (λ a b d H n l h=>ih a b d H n l ae) (ou6.gd gd7 hax hyb) I1 hp1 hp2 f13 f12 (λ F6 K6 n6 d6 m hF6 W5 pt so hK6 hn6=>?_) λ F6 K6 n6 d6 m hF6 W5 pt so hK6 hn6=>?_
  ·have hE5:=W5.all (N:=N) ae hE4;have p1:=pt.1;have p2:=pt.2.1;simp;exact⟨y - (m+1),ae,m+1,y,rfl,ae,ae,ae,hF6,ae,d6,ps7.trans (W5.wide hax hyb),(ou6.ps W5 hax hyb).left ho hE5 ae pt so,hK6⟩
  have hE5:=W5.all (N:=N) ae hE4;have p1:=pt.1;have p2:=pt.2.1;simp;exact⟨m - x,ae,x,m,rfl,ae,ae,ae,hF6,ae,d6,ps7.trans (W5.wide hax hyb),(ou6.ps W5 hax hyb).right ho hE5 ae pt so,hK6⟩
end Go.Abs
namespace Go.Abs
open List
open Go.Proofs
open Classical
set_option maxRecDepth 100000
theorem XG:jD apx []:=⟨.inr ⟨rfl,rfl⟩,by unfold aU;simp⟩
theorem apC (a:Int):gQ a 0=a:=by
 unfold gQ
 by_cases h:a=0
 ·subst h;rfl
 simp[h]
theorem aC.avM {H:Hp}{n:Nat}{v:AV}{l:List AV}{len sz:Nat}(h:aC H n v l len sz):bm v=.val (zI (len:Int)):=by
 obtain⟨_,⟨rfl,rfl⟩|⟨b,k,rfl,_⟩⟩:=h
 ·rfl
 rfl
mutual
theorem GQ {n m:Nat}(h:n<=m):∀ {v:AV},iK n v->iK m v
 |.int _ _,_=>ah
 |.bool _,_=>ah
 |.str _,_=>ah
 |.aV _,_=>ah
 |.agg _ _,k=>by simp only[OC]at k ⊢;exact fA h k
 |.bo _,k=>by simp only[Oz]at k ⊢;exact fA h k
 |.oO _ _,k=>by simp only[OB]at k ⊢;exact GQ h k
 |.ptr _ _,k=>by simp only[OA]at k ⊢;omega
 |.sl _ _ _ _,k=>by simp only[ajS]at k ⊢;omega
 |.map _,k=>by simp only[aeB]at k ⊢;omega
 |.jd _,k=>by simp only[iK]at k ⊢;omega
 |.fn _ _ _,k=>by simp only[iK]at k ⊢;exact⟨fA h k.1,fA h k.2⟩
 |.ds _ _ _,k=>by simp only[ajT]at k ⊢;exact fA h k
 |.dp _,k=>by simp only[ajU]at k ⊢;exact fA h k
theorem fA {n m:Nat}(h:n<=m):∀ {l:List AV},dJ n l->dJ m l
 |[],_=>ah
 |_::_,k=>by simp only[iE]at k ⊢;exact⟨GQ h k.1,fA h k.2⟩
end
theorem VD (L:List (List Val)):bm (dN L)=.val (zI (L.length:Int)):=by
 unfold dN
 by_cases h:L=[]
 ·subst h;simp
 simp[h]
theorem aef {L:List (List Val)}{i:Nat}(h:i<L.length):cK 1 (dN L) (zI (i:Int))=.val (.dp (ay L[i]::aJ (L.drop (i+1)))):=by
 unfold dN;rw[ai (λ e=>by subst e;simp at h)];exact iQ h
theorem av2 (l:List Nat):oZ (.str (0::l)) (.int .u8 0)=.val (.int .u8 0):=by unfold oZ;rfl
theorem toI (k j:IntKind)(a:Int):bV k (.int j a)=.val (.int k (k.wrap a)):=by
 simp only[bV,kG]
theorem Vo (k:IntKind):k.wrap 0=0:=by cases k<;>decide
theorem akE:aj pG 283 [.int .u64 0] (zI 0):=by
 refine pv c283 λ F hF=>?_;simp[A283,hF,toI,Vo,av2];exact fp
theorem akF:aj pG 221 [.int .u64 0] (zI 0):=by
 refine pv c221 λ F hF=>?_;simp[A221,hF];refine aB.pure akE ?_;simp;exact fp
theorem akR (f:AV)(H:Hp)(n:Nat):ak pG 265 [nS,zI 0,zI 0,f] H n (λ _u K k=>K=H/\k=n):=by
 refine ak.of c265 (by simp[A265]) λ F hF=>?_;simp[A265,hF];refine aE.XC 0 (fL.step ?_);simp[vz,zM,hF]
theorem aj7 (f:AV)(H:Hp)(n:Nat):ak pG 220 [nS,zI 0,zI 0,zI 0,f] H n (λ _u K k=>K=H/\k=n):=by
 refine ak.of c220 (by simp[A220]) λ F hF=>?_;simp[A220];refine aE.XC 0 (fL.step ?_);simp[NG,vu,hF,vq,EH,Vo];refine aB.of (akR f H n) λ u K k ⟨e1,e2⟩=>?_;subst e1 e2;simp
theorem aeh (f:AV)(H:Hp)(n:Nat):ak pG 153 [nS,f] H n (λ u K k=>u=.bo []/\K=H/\k=n):=by
 refine ak.of c153 (by simp[A153]) λ F hF=>?_;simp[A153,hF,toI,Vo];refine aB.pure akF ?_;simp[hF];refine aB.of (aj7 f H n) λ u K k ⟨e1,e2⟩=>?_;subst e1 e2;simp
theorem alk {id:Int}(t x:bK)(H:Hp)(n q:Nat)(hq:H.get q=aR 4 (aH.cells x))(hid:x.id=id)(ht:dh H n):
  ak pG 214 [aH.av t,.ptr q 0] H n (λ u K k=>u=.bool (decide (t.id=id))/\K=H/\k=n):=by
 subst hid;refine ak.forget ah (ak.of c214 (by simp[A214]) λ F hF=>?_);have e1:¬q=n:=by have:=ht.lt hq;omega
 rw[eK]at hq;simp[A214,hF,aZ.av,eK,e1,hq];intro b hb;have:¬b=n:=λ e=>hb (by rw[e];exact ht n (aK _));simp[this]
theorem ahq (f:AV)(p:Nat)(H:Hp)(n:Nat)(h1:f.len=1/\f.cells=[f]/\f.one=true):ak pG 149 [.ptr p 0,zI 0,f] H n (λ u K k=>u=.fn (.func 213) [] []/\(∀c,c<n->K.get c=H.get c)/\k=n+3/\(dh H n->dh K (n+3))):=by
 refine ak.of c149 (by simp[A149]) λ F hF=>?_;simp[A149,hF,h1.1,h1.2.1];refine⟨λ c hc=>?_,λ ht c hc=>?_⟩
 ·simp[show ¬c=n by omega,show ¬c=n+1 by omega,show ¬c=n+2 by omega]
 simp[show ¬c=n by omega,show ¬c=n+1 by omega,show ¬c=n+2 by omega,ht c ae]
structure axW (p n:Nat)(j i:Int)(f:AV)(H K:Hp):Prop where
 k0:K.get n=aR 1 [.ptr p 0]
 k1:K.get (n+1)=aR 1 [zI j]
 k2:K.get (n+2)=aR 1 [f]
 k4:K.get (n+4)=aR 1 [zI i]
 kf:∀c,c<n->K.get c=H.get c
theorem PL {s:cn}{iR:List bK}(hst:s.tables.length<=aU)(f:AV)(h1:f.len=1/\f.cells=[f]/\f.one=true)(j:Nat)(hj:j<iR.length)(hj2:j<1000)(p:Nat)(D:List AV)(d0:D[0]?=some (aH.ds s.tables))(d18:D[18]?=some (aH.ds iR))(H:Hp)(n:Nat)(hp:H.get p=aR 32 D)(ht:dh H n):
  ak pG 149 [.ptr p 0,zI ((j:Int)+1),f] H n (λ u K k=>u=.fn (.func 215) [] [.ptr n 0,.ptr (n+1) 0,.ptr (n+2) 0,.ptr (n+4) 0]/\axW p n ((j:Int)+1) (D9 s iR[j].id) f H K/\k=n+5/\dh K (n+5)):=by
 refine ak.of c149 (by simp[A149]) λ F hF=>?_;have hpn:p<n:=ht.lt hp;simp[A149,hF,h1.1,h1.2.1,show ¬((j:Int)+1=0) by omega];generalize hK:Tr.put (Tr.put (Tr.put H n _) (n+1) _) (n+2) _=K;have k0:K.get n=aR 1 [.ptr p 0]:=by rw[<-hK];simp
 have k1:K.get (n+1)=aR 1 [zI ((j:Int)+1)]:=by rw[<-hK];simp
 have k2:K.get (n+2)=aR 1 [f]:=by rw[<-hK];simp
 have kf:∀c,c<n->K.get c=H.get c:=λ c hc=>by rw[<-hK];simp[show ¬c=n by omega,show ¬c=n+1 by omega,show ¬c=n+2 by omega]
 have kt:dh K (n+3):=λ c hc=>by rw[<-hK];simp[show ¬c=n by omega,show ¬c=n+1 by omega,show ¬c=n+2 by omega,ht c ae]
 clear hK hF;have kp:=(kf p hpn).trans hp;have hx:=aH.ix (ik:=.i64) hj;have hl4:(aH.av iR[j]).len=4:=rfl;have hc4:(aH.av iR[j]).cells=[.int .u32 iR[j].id,.str iR[j].name,dL.ds iR[j].cols,.int .u32 iR[j].head]:=rfl;have nn:K.get (n+1+1+1)=none:=kt _ ae;have hco:(dL.ds iR[j].cols).one=true:=rfl;simp[ac4];refine bC.of (bh (P:=pG)) ?_;have w1:IntKind.i64.wrap (j:Int)=(j:Int):=by simp[IntKind.wrap,IntKind.signed,IntKind.bits];omega
 simp[ab,k0,k1,kp,d18,w1,hx,aH.pQ,hl4,hc4,cN,dm,nn,hco];generalize hK2:Tr.put (Tr.put K _ _) _ _=K2;have e2:∀c,c≠n+3->K2.get c=K.get c:=λ c hc=>by rw[<-hK2];simp[show ¬c=n+1+1+1 from hc]
 have q3:K2.get (n+3)=aR 4 (aH.cells iR[j]):=by rw[<-hK2,eK];simp
 have t4:dh K2 (n+4):=λ c hc=>by rw[e2 c ae];exact kt c ae
 clear hK2;have p2:=(e2 p ae).trans kp;simp[ac3,ab,k0,d0,e2 n ae,p2];refine aB.same (r_ (xs:=s.tables) (el:=aH.av) (f:=214) (first:=[]) (cap:=[.ptr (n+3) 0]) (p:=λ t:bK=>decide (t.id=iR[j].id)) c161 hst (aH.aM _) (λ i h=>⟨_,aH.ix h,λ F H n uS=>by simp[uS,aH.pQ]⟩) λ t _=>alk t iR[j] K2 (n+4) (n+3) q3 rfl t4) ?_;simp[ac2,ab];refine⟨⟨?_,?_,?_,?_,λ c hc=>?_⟩,λ c hc=>?_⟩
 ·simp[e2 n ae,k0]
 ·simp[e2 (n+1) ae,k1]
 ·simp[e2 (n+2) ae,k2]
 ·simp[D9]
 ·simp[show ¬c=n+4 by omega,e2 c ae,kf c hc]
 simp[show ¬c=n+4 by omega,t4 c ae]
theorem alX (l:List (List Nat))(hl:l.length<=aU):aj pG 148 [dy.ds l] (dy.ds l):=t_ (z:=[.str []]) (sz:=1) (gq:=16) c148 ae ae ae _ _ hl ah ah ah
def YX (p:Nat) (D:List AV) (j i:Int) (f:AV):Hp->Nat->iC:=λ H n =>
 if H.get p=aR 32 D/\p<n/\dJ n D/\iK n f then .mk (.fn (.func 215) [] [.ptr n 0,.ptr (n+1) 0,.ptr (n+2) 0,.ptr (n+4) 0])
  (((((H.put n (aR 1 [.ptr p 0])).put (n+1) (aR 1 [zI j])).put (n+2) (aR 1 [f])).put (n+3) none).put (n+4) (aR 1 [zI i])) (n+5)else .fail
theorem YZ {s : cn}{iR:List bK}(hst:s.tables.length<=aU) (f:AV) (h1:f.len=1/\f.cells=[f]/\f.one=true) (j:Nat) (hj:j<iR.length) (hj2:j<1000) (p:Nat) (D:List AV) (d0:D[0]?=some (aH.ds s.tables)) (d18:D[18]?=some (aH.ds iR)):
  ∀H n v H' n',YX p D ((j:Int)+1) (D9 s iR[j].id) f H n=.mk v H' n'->bu pG 149 [.ptr p 0,zI ((j:Int)+1),f] H n v H' n':=by
 intro H n v H' n' h;unfold YX at h
 by_cases hc:H.get p=aR 32 D/\p<n/\dJ n D/\iK n f
 ·rw[aw hc]at h;injection h with e1 e2 e3;subst e1 e2 e3;obtain⟨hp,pn,rd,rf⟩:=hc;have hp0:(pick H [p]).get p=aR 32 D:=by rw[fH ah];exact hp
  have top:dh (pick H [p]) n:=lx λ b hb=>by simp at hb;omega
  have np:∀e,¬p=n+e:=λ e=>ae;refine ak.okS (S:=pick H [p]) (S':=(((((pick H [p]).put n (aR 1 [.ptr p 0])).put (n+1) (aR 1 [zI ((j:Int)+1)])).put (n+2) (aR 1 [f])).put (n+4) (aR 1 [zI (D9 s iR[j].id)]))) ((PL hst f h1 j hj hj2 p D d0 d18 (pick H [p]) n hp0 top).mono λ u K k ⟨q1,q2,q3,_⟩=>⟨q1,λ b y hb=>?_,ae⟩) ae (by simp[pn,rf]) (λ b k hk=>?_) (λ b k hk=>?_) (λ b hb=>?_) (λ b hb hb2=>?_)
  ·simp only[Tr.get_put]at hb
   split at hb
   ·rename_i e;subst e;injection hb with hb;subst hb;exact⟨_,q2.k4,BLe.refl _⟩
   split at hb
   ·rename_i e;subst e;injection hb with hb;subst hb;exact⟨_,q2.k2,BLe.refl _⟩
   split at hb
   ·rename_i e;subst e;injection hb with hb;subst hb;exact⟨_,q2.k1,BLe.refl _⟩
   split at hb
   ·rename_i e;subst e;injection hb with hb;subst hb;exact⟨_,q2.k0,BLe.refl _⟩
   have hbn:b<n:=Nat.lt_of_not_le λ h=>by rw[top b h]at hb;cases hb
   exact⟨y,(q2.kf b hbn).trans hb,BLe.refl _⟩
  ·rw[eP]at hk
   split at hk
   ·rename_i hm;have:b=p:=by simpa using hm
    subst this;rw[hp]at hk;injection hk with hk;subst hk;exact⟨pn,bU rd⟩
   cases hk
  ·rw[eP]at hk
   split at hk
   ·exact hk
   cases hk
  ·have:b=p∨(n<=b/\b<n+5):=by
    rcases hb with hb|hb
    ·rw[eP]at hb
     split at hb
     ·rename_i hm;left;simpa using hm
     exact ar rfl hb
    exact .inr hb
   simp only[Tr.get_put]
   rcases this with rfl|hb
   ·simp[show ¬b=n+4 by omega,show ¬b=n+3 by omega,show ¬b=n+2 by omega,show ¬b=n+1 by omega,show ¬b=n by omega,hp0,hp]
   have hb:b=n∨b=n+1∨b=n+2∨b=n+3∨b=n+4:=ae
   rcases hb with rfl|rfl|rfl|rfl|rfl<;>simp
   exact(top (n+3) ae).symm
  simp only[Tr.get_put];simp[show ¬b=n+4 by omega,show ¬b=n+3 by omega,show ¬b=n+2 by omega,show ¬b=n+1 by omega,show ¬b=n by omega]
 rw[ai hc]at h;cases h
def Gy (p:Nat):Hp->Nat->iC:=λ H n=>if p<n then .mk (.bo []) H n else .fail
theorem VT (p:Nat):∀H n v H' n',Gy p H n=.mk v H' n'->bu pG 153 [nS,.fn (.func 154) [.ptr p 0] []] H n v H' n':=by
 intro H n v H' n' h;unfold Gy at h
 by_cases hc:p<n
 ·rw[aw hc]at h;injection h with e1 e2 e3;subst e1 e2 e3;refine ak.vL [] (by simp[iK];exact hc) ah ah λ H0 ht hL=>?_;refine(aeh (.fn (.func 154) [.ptr p 0] []) H0 n).mono λ u K k ⟨q1,q2,q3⟩=>?_;subst q1 q2 q3;exact⟨.pure _ ah,λ _ _=>rfl⟩
 rw[ai hc]at h;cases h
theorem dQ.norm (F:Fr){K:Hp}{p:Nat}{y:bG}{L:List AV}(hy:K.get p=some y)(ho:OwnB y L):dQ (λ _=>none) F K F (K.put p (some (.cells L.length [] L .nil))):=
 ⟨λ b x h=>by simp at h,λ b h=>ar rfl h,λ t v h=>⟨v,h,.inl rfl⟩,λ b x h=>by
  rw[Tr.get_put]at h
  by_cases e:b=p
  ·subst e;rw[aw rfl]at h;injection h with h;subst h;obtain⟨u,z,bs,t',rfl,q1,q3,_⟩:=ho;exact⟨_,hy,.inr ⟨u,z,bs,t',L,rfl,by rw[q1],q1.symm,λ i x hx=>⟨x,by rw[q3];exact hx,.inl rfl⟩⟩⟩
  rw[ai e]at h;exact⟨x,h,.inl rfl⟩⟩
def resV (T I R N C W:AV)(c e:Int):AV:=.bo [.agg [T,I,R] 3,.agg [N,C,W,zI c] 4,zI e]
def TP (e:Int):AV:=resV nS nS nS nS nS nS 0 e
theorem mS (e:Int):Pure (TP e):=by simp[TP,resV]
theorem Zh (w:pe)(hw:w.gG)(x:dE)(hb:aj pG 23 [kQ.av w.aL,x.av] (.bo [.agg (bN w.aL x).1.cells 25,zI (bN w.aL x).2]))(h:¬fW w∨(bN w.aL x).2≠0):aj pG 10 [oW.av w,x.av] (TP (if fW w then (bN w.aL x).2 else 1)):=by
 refine gW c10 ah (mS _) (by simp[A10]) λ F hF=>?_;have hm:=ag3 w hw;have hav:x.av=.agg x.cells 31:=Eq.trans rfl rfl;have hwv:oW.av w=.agg [aH.ds w.aL.tables,bp.ds w.aL.indexes,iH.ds w.rows] 3:=Eq.trans rfl rfl;have hsv:kQ.av w.aL=.agg [aH.ds w.aL.tables,bp.ds w.aL.indexes] 2:=Eq.trans rfl rfl;have xl:=x.bq;rw[hav,hsv]at hb;rw[hwv]at hm;rw[hav,hwv]at hF;clear hav hwv hsv
 by_cases ok:fW w
 ·have he:(bN w.aL x).2≠0:=h.resolve_left (λ h=>h ok);rw[aw ok];simp only[ok,decide_true]at hm;generalize bN w.aL x=R at *;have hR:(R.1.cells).length=25:=rfl;generalize x.cells=xs at *;simp[A10,hF];simp[SL];refine aB.pure hm ?_;simp[adm];refine aB.pure hb ?_;simp[hR,oH.one,adl,he,ai8];exact .pure _ (mS _)
 rw[ai ok];simp only[ok,decide_false]at hm;generalize x.cells=xs at *;simp[A10,hF];simp[SL];refine aB.pure hm ?_;simp[ai9];exact .pure _ (mS 1)
theorem yS {s:cn}{t:bK}{L:List (List Val)}(h0:vS s t L=0):∀r∈L,sK t.cols r=0:=λ r hr=>by
 rw[nW,Ci]at h0;exact Gu (h0.1 r hr)
theorem HL {s:cn}{t:bK}{L:List (List Val)}(h0:vS s t L=0):∀r∈L,eI r:=λ r hr=>(qM (yS h0 r hr)).2.2.2.2
theorem xN:∀ {L:List (List Val)},(∀r∈L,eI r)->lN L->dM L
 |[],_,_=>by simp[dM]
 |[_],_,_=>by simp[dM]
 |a :: b::L,hm,hs=>by
  have ih:dM (b::L):=xN (λ r hr=>hm r (by simp[hr])) λ k h=>hs (k+1) (by simp at h ⊢;omega);have ha:=hm a ah;have hb:=hm b ah
  have h0:dK a b<=0:=by
   have:=hs 0 ah;have e:=jI hb ha;simp at this;have e2:=jI ha hb;omega
  simp only[dM,pairwise_cons]at ih ⊢;refine⟨λ y hy=>?_,ih⟩
  rcases mem_cons.1 hy with rfl|hy
  ·exact h0
  exact lg ha hb (hm y (by simp[hy])) h0 (ih.1 y hy)
theorem KH.fits {s:cn}{t:bK}{L:List (List Val)}(h:KH s t L):vS s t L=0:=(nW _ _ _).2 ⟨h.w,h.uq⟩
theorem afu {e:Int}(h:e≠0)(a:Int)(b:Bool):keep e a b=e:=by simp[keep,h]
theorem eW.at {s:cn}(h:eW s)(hg:s.nD){t:bK}(ht:t∈s.tables):∃k,∃hk:k<s.tables.length,s.tables[k]=t/\D9 s t.id=(k:Int):=by
 have ha:=(rI s.tables hg.t).1 h.tabs;obtain⟨i,hi,rfl⟩:=getElem_of_mem ht;refine⟨i,hi,rfl,uR hi ah λ j hj=>?_⟩;have:=((ha i) hi).2.2.2 j hj;simp;omega
theorem ajF (h:Hf)(L:List (List Val)):FJ h (dN L) (dx L):=by
 by_cases h0:L=[]
 ·subst h0;intro φ D w x _ hx;have e:dN []=.ds [] 0 0:=by simp[dN]
  rw[e]at hx;show VR _ _ (.ds [] 0 1) x
  cases hx with
  |ds cs len sz cap cb co cells l a b c d e=>exact .pW _ _ _
  |pW sz cap ad=>exact .pW _ _ _
 have e:dN L=dx L:=by simp[dN,dx,h0]
 rw[e];exact FJ.refl _ _
theorem CQ (h:Hf):∀L:List (List (List Val)),FJL h (L.map dN) (iH.l L)
 |[]=>.nil
 |a::r=>.cons _ _ _ _ (ajF h a) (CQ h r)
theorem holds_nil {r:List Val}(h:eI r):dX r []=(true,0):=by
 have:r.all Val.may=true:=all_eq_true.2 h;simp[dX,this,Ex.Bj,holdL]
end Go.Abs
namespace Go.Abs
open List
open Go.Proofs
open Classical
set_option maxRecDepth 100000
section
variable {w:pe}{table:List Nat}{rows:List (List Ex)}{k:Nat}{L0:List (List Val)}
end
end Go.Abs
namespace Go.Abs
open List
open Go.Proofs
open Classical
set_option maxRecDepth 100000
def hvR:List (List (List Val))->Nat->Bool
 |[],_=>false
 |L::r,a=>if 5000<a+L.length then true else hvR r (a+L.length)
theorem Yf (L:List (List Val))(r:List (List (List Val)))(a:Nat):hvR (L::r) a=if 5000<a+L.length then true else hvR r (a+L.length):=rfl
theorem aj.nl {g:FuncId}{v R:AV}{l l':List AV}{n:Nat}(h:aj pG g [v,.agg l' n] R)(hp:aP [v,.agg l n])(hn:NL l l'):aj pG g [v,.agg l n] R:=by
 refine h.conv hp λ D xs hv=>?_
 cases hv with
 |cons _ y0 _ ys h0 hv =>
 cases hv with
 |cons _ y1 _ ys h1 hv =>
 refine .cons _ _ _ _ h0 (.cons _ _ _ _ ?_ hv)
 cases h1 with
 |agg _ l _ a b=>exact .agg _ _ _ (hn.uy a) (by rw[hn.len];exact b)
def Yields (y:Nat)(v:AV)(H:Hp)(n:Nat)(R:Bool->Hp->Nat->Prop):Prop:=wK pG y [v] H n λ u H' n'=>∃b,u=.bool b/\R b H' n'
theorem Yields.v {y:Nat}{v:AV}{H:Hp}{n:Nat}{R:Bool->Hp->Nat->Prop}{pd:Pd}{r:List (Option GO)}{F:Fr}{m:List Dm}{Q:QA}(h:Yields y v H n R)(hs:∀b H' n',R b H' n'->fE pG r (pd.f (.bool b) F) H' n' m Q):IA y [v] pd r pG F H n m Q:=
 wK.mono h λ u H' n' ⟨b,hu,hr⟩=>by subst hu;exact hs b H' n' hr
theorem Yields.of {q:Nat}{v:AV}{H:Hp}{n:Nat}{R:Bool->Hp->Nat->Prop}{st:LoopState}{j:lO}{nt:Nat}{F0 F1:Fr}{ps:List Nat}{a b:Code}(hq:H.get q=some (.loop st j nt F0 ps a b))(hp:mU nt ps [v] F0=some F1)
  (ha:VC pG (eQ pG nt true a) F1 H n [] λ o F2 H2 n2 m2=>o=.normal/\m2=[]/\∃j2 Bl G2 ps2 a2 b2,H2.get q=some (.loop .ready j2 Bl G2 ps2 a2 b2)/\VC pG (eQ pG nt true b) F2 (H2.put q (some (.loop .busy j2 Bl G2 ps2 a2 b2))) n2 [] λ j3 _ H3 n3 _=>vj q (λ u H' n'=>∃b,u=.bool b/\R b H' n') j3 H3 n3):Yields q v H n R:=by
 refine⟨st,j,nt,F0,ps,a,b,F1,hq,hp,λ cb=>?_⟩;refine λ φ D ac w CU hf QQ hQ=>fP (r:=some cb) a F1 H n [] _ ha φ D ac w CU hf QQ λ o F' H' n' m' φ' D' a' w' px h e s pp=>hQ o F' H' n' m' φ' D' a' w' px ?_ e s pp;obtain⟨h1,h2,j2,Bl,G2,ps2,a2,b2,h3,h4⟩:=h;exact⟨h1,h2,j2,Bl,G2,ps2,a2,b2,h3,Gm.of h4⟩
structure Cons (S:Type) where
 J:S->(Nat->Prop)->Hp->Nat->Prop
 acc:S->Int
 E:S->Int->S
 Y:S->List Val->S
 go:S->Bool
def Post {S:Type}(C:Cons S)(s:S)(own:Nat->Prop)(H:Hp)(n:Nat)(K:Hp)(m:Nat):Prop:=∃own',C.J s own' K m/\dh K m/\n<=m/\(∀c,c<n->¬own c->K.get c=H.get c)/\∀c,own' c->own c∨(n<=c/\c<m)
structure oD where
 aL:cn
 iR:List bK
 on:List (List Ex)
 tabs:List (List (List Val))
 RC:List AV
 p:Nat
 q:Nat
 r:Nat
 D:List AV
structure oD.ok (X:oD):Prop where
 st:X.aL.tables.length<=aU
 fl:X.iR.length<=100
 ol:X.on.length=X.iR.length
 tl:X.tabs.length=X.iR.length
 d0:X.D[0]?=some (aH.ds X.aL.tables)
 d18:X.D[18]?=some (aH.ds X.iR)
 ix:∀j (h:j<X.iR.length),∃k,∃hk:k<X.RC.length,D9 X.aL X.iR[j].id=(k:Int)/\X.RC[k]=dN (X.tabs[j]'ae)
 os:∀l∈X.on,l.length<=aU/\∀e∈l,e.sz<=aU
 ts:∀t∈X.tabs,t.length<=100000/\∀r∈t,r≠[]/\r.length<=1000
structure qi {S:Type}(X:oD)(C:Cons S)(y bd:Nat):Prop where
 lt:∀ {s own K m},C.J s own K m->∀c,own c->c<m
 qo:∀ {s own K m},C.J s own K m->own X.q/\K.get X.q=aR 1 [zI (C.acc s)]
 pd:∀ {s own K m},C.J s own K m->own X.p/\∃k D,K.get X.p=some k/\OwnB k D/\(0<X.iR.length->D[2]?=some (.sl X.r 0 X.RC.length 1))/\D[19]?=some (oY.ds X.on)
 rd:∀ {s own K m},C.J s own K m->own X.r/\K.get X.r=some (.cells X.RC.length [] X.RC .nil)
 fr:∀ {s own K m K' m'},C.J s own K m->(∀c,own c->K'.get c=K.get c)->m<=m'->C.J s own K' m'
 ey:∀ {s own K m K' m' e},C.J s own K m->K'.get X.q=aR 1 [zI (gQ (C.acc s) e)]->(∀c,own c->c≠X.q->K'.get c=K.get c)->m<=m'->C.J (C.E s e) own K' m'
 eg:∀s e,C.go (C.E s e)=C.go s
 yl:∀ {s own K m} {rv:AV} {row:List Val},C.J s own K m->C.go s=true->dh K m->jD rv row->row.length<=bd->Yields y rv K m λ b K' m'=>b=C.go (C.Y s row)/\Post C (C.Y s row) own K m K' m'
end Go.Abs
namespace Go.Abs
open List
open Go.Proofs
open Classical
set_option maxRecDepth 100000
variable {S:Type}
def cH (C:Cons S)(on:List Ex)(row:List Val):List (List Val)->S->S
 |[],s=>s
 |r::rs,s=>if (dX (row++r) on).1=true then (if C.go (C.Y (C.E s (dX (row++r) on).2) (row++r))=true then cH C on row rs (C.Y (C.E s (dX (row++r) on).2) (row++r))else C.Y (C.E s (dX (row++r) on).2) (row++r))else cH C on row rs (C.E s (dX (row++r) on).2)
def pJ (on:List (List Ex))(tabs:List (List (List Val))):Nat->(C:Cons S)->S->S
 |0,C,s=>C.Y s []
 |j+1,C,s=>pJ on tabs j {C with Y:=λ s row=>cH C (on.getD j []) row (tabs.getD j []) s} s
def Clo (X:oD) (own:Nat->Prop) (H:Hp) (n:Nat):Nat->FuncId->List AV->Prop
 |0,g,caps=>g=213/\caps=[]
 |j+1,g,caps=>∃a b c d,g=215/\caps=[.ptr a 0,.ptr b 0,.ptr c 0,.ptr d 0]/\H.get a=aR 1 [.ptr X.p 0]/\H.get b=aR 1 [zI ((j:Int)+1)]/\H.get c=aR 1 [.fn (.func 165) [] [.ptr X.q 0]] /\
  (∀t,X.iR[j]?=some t->H.get d=aR 1 [zI (D9 X.aL t.id)])/\(a<n/\b<n/\c<n/\d<n)/\¬own a/\¬own b/\¬own c/\¬own d
theorem af6 {X:oD}(ok:X.ok)(j:Nat)(hj:j<=X.iR.length)(own:Nat->Prop)(H:Hp)(n:Nat)(hlt:∀c,own c->c<n)(hp:H.get X.p=aR 32 X.D)(ht:dh H n):
  ak pG 149 [.ptr X.p 0,zI (j:Int),.fn (.func 165) [] [.ptr X.q 0]] H n (λ u K m=>∃g caps,u=.fn (.func g) [] caps/\Clo X own K m j g caps/\(∀c,c<n->K.get c=H.get c)/\n<=m/\dh K m):=by
 cases j with
 |zero =>
  exact(ahq (.fn (.func 165) [] [.ptr X.q 0]) X.p H n ⟨rfl,rfl,rfl⟩).mono λ u K m ⟨q1,q2,q3,q4⟩=>⟨213,[],q1,⟨rfl,rfl⟩,q2,ae,by rw[q3];exact q4 ht⟩
 |succ j =>
  have hfl:=ok.fl;have:=PL ok.st (.fn (.func 165) [] [.ptr X.q 0]) ⟨rfl,rfl,rfl⟩ j ae ae X.p X.D ok.d0 ok.d18 H n hp ht;rw[show ((j+1:Nat):Int)=(j:Int)+1 by omega];have no:∀c,¬own (n+c):=λ c h=>by have:=hlt _ h;omega
  refine this.mono λ u K m ⟨q1,q2,q3,q4⟩=>⟨215,_,q1,⟨n,n+1,n+2,n+4,rfl,rfl,q2.k0,q2.k1,q2.k2,λ t h=>?_,ae,no 0,no 1,no 2,no 4⟩,q2.kf,ae,by rw[q3];exact q4⟩;rw[cX ae]at h;injection h with h;subst h;exact q2.k4
theorem apY {X:oD}{C:Cons S}{y bd:Nat}(ok:qi X C y bd){s:S}{own:Nat->Prop}{H:Hp}{n:Nat}(hJ:C.J s own H n)(hg:C.go s=true)(ht:dh H n):ak pG 213 [.jd y] H n (λ _ K m=>Post C (C.Y s []) own H n K m):=by
 refine ak.of c213 (by simp[A213]) λ F hF=>?_;simp[A213,hF];refine(ok.yl hJ hg ht XG ah).v λ b K m ⟨_,hP⟩=>?_;simp;exact hP
end Go.Abs
namespace Go.Abs
open List
open Go.Proofs
open Classical
set_option maxRecDepth 100000
variable {S:Type}
structure InB (X:oD)(y j M e a b c d:Nat)(kd:Int)(F1:Fr):Prop where
 o:a<e/\b<e/\c<e/\d<e/\e<M
 f1:F1.get 1=some (.ptr a 0)
 f2:F1.get 2=some (.ptr b 0)
 f3:F1.get 3=some (.ptr c 0)
 f4:F1.get 4=some (.ptr d 0)
 f5:F1.get 5=some (.ptr e 0)
structure InK (X:oD)(y j M e a b c d:Nat)(kd:Int)(K:Hp):Prop where
 ka:K.get a=aR 1 [.ptr X.p 0]
 kb:K.get b=aR 1 [zI ((j:Int)+1)]
 kc:K.get c=aR 1 [.fn (.func 165) [] [.ptr X.q 0]]
 kd:K.get d=aR 1 [zI kd]
 ke:K.get e=aR 1 [.jd y]
 km:K.get (M+1)=some .jS
def qe (M e a b c d x:Nat):Prop:=x=M∨x=M+1∨x=e∨x=a∨x=b∨x=c∨x=d
def CmJ (X:oD)(C:Cons S)(y j M e a b c d:Nat)(kd:Int)(F1:Fr):S->(Nat->Prop)->Hp->Nat->Prop:=λ s own K m =>
 ∃ez,C.J s ez K m/\(∀x,own x↔ez x∨qe M e a b c d x)/\(∀x,qe M e a b c d x->¬ez x)/\M+1<m/\InK X y j M e a b c d kd K/\K.get M=some (.loop (if C.go s=true then .ready else .done) (if C.go s=true then .normal else .ret) 60 F1 [17] ei.1 ei.2)
def inC (X:oD)(C:Cons S)(y j M e a b c d:Nat)(kd:Int)(F1:Fr):Cons S:={C with J:=CmJ X C y j M e a b c d kd F1,Y:=λ s row=>cH C (X.on.getD j []) row (X.tabs.getD j []) s}
theorem InK.fr {X:oD}{y j M e a b c d:Nat}{kd:Int}{K K':Hp}(h:InK X y j M e a b c d kd K)(hs:∀x,qe M e a b c d x->x≠M->K'.get x=K.get x)(ho:a<e/\b<e/\c<e/\d<e/\e<M):InK X y j M e a b c d kd K':=
 ⟨(hs a (by simp[qe]) ae).trans h.ka,(hs b (by simp[qe]) ae).trans h.kb,(hs c (by simp[qe]) ae).trans h.kc,(hs d (by simp[qe]) ae).trans h.kd,(hs e (by simp[qe]) ae).trans h.ke,(hs (M+1) (by simp[qe]) ae).trans h.km⟩
theorem akU {X:oD}{C:Cons S}{y j M e a b c d:Nat}{kd:Int}{F1:Fr}(B:InB X y j M e a b c d kd F1){s':S}{own ez iN:Nat->Prop}{K K4 K':Hp}{m m':Nat}
  (hown:∀x,own x↔ez x∨qe M e a b c d x)(hnot:∀x,qe M e a b c d x->¬ez x)(hM:M+1<m)(hK:InK X y j M e a b c d kd K)(h4:∀x,x≠M->K4.get x=K.get x)(hb4:K4.get M=some (.loop .busy .normal 60 F1 [17] ei.1 ei.2))(fr:∀ {s own K m K' m'},C.J s own K m->(∀c,own c->K'.get c=K.get c)->m<=m'->C.J s own K' m')
  (hJ:C.J s' iN K' m')(ht:dh K' m')(hm:m<=m')(hf:∀x,x<m->¬ez x->K'.get x=K4.get x)(ho:∀x,iN x->ez x∨(m<=x/\x<m'))(o:lO)(hgo:(C.go s'=true/\o=.normal)∨(C.go s'=false/\o=.ret)):
  vj M (λ u H' n'=>∃b0,u=.bool b0/\(b0=C.go s'/\Post (inC X C y j M e a b c d kd F1) s' own K m H' n')) o K' m':=by
 have hM4:K'.get M=some (.loop .busy .normal 60 F1 [17] ei.1 ei.2):=(hf M ae (hnot M (by simp[qe]))).trans hb4;have hn1:¬iN M:=λ h=>(ho M h).elim (λ h=>hnot M (by simp[qe]) h) (λ h=>ae)
 have key:∀st jj,(st=if C.go s'=true then LoopState.ready else .done)->(jj=if C.go s'=true then lO.normal else .ret)->Post (inC X C y j M e a b c d kd F1) s' own K m (K'.put M (some (.loop st jj 60 F1 [17] ei.1 ei.2))) m':=by
  intro st jj e1 e2;have g:∀x,x≠M->(K'.put M (some (.loop st jj 60 F1 [17] ei.1 ei.2))).get x=K'.get x:=λ x hx=>by rw[Tr.get_put,ai hx]
  refine⟨λ x=>iN x∨qe M e a b c d x,⟨iN,fr hJ (λ x hx=>g x (λ e=>hn1 (e▸hx))) (aK _),λ x=>Iff.rfl,λ x hx h=>?_,ae,hK.fr (λ x hx hxM=>?_) B.o,?_⟩,λ x hx=>?_,hm,λ x hx hnx=>?_,λ x hx=>?_⟩
  ·rcases ho x h with h|h
   ·exact hnot x hx h
   have hB:=B.o;simp only[qe]at hx;omega
  ·have hxm:x<m:=by have hB:=B.o;simp only[qe]at hx;omega
   exact(g x hxM).trans ((hf x hxm (hnot x hx)).trans (h4 x hxM))
  ·rw[Tr.get_put,aw rfl,e1,e2]
  ·rw[g x ae];exact ht x hx
  ·have hxM:x≠M:=λ e=>hnx ((hown x).2 (.inr (by simp[qe,e])));exact(g x hxM).trans ((hf x hx (λ h=>hnx ((hown x).2 (.inl h)))).trans (h4 x hxM))
  rcases hx with hx|hx
  ·exact(ho x hx).imp (λ h=>(hown x).2 (.inl h)) id
  exact .inl ((hown x).2 (.inr hx))
 unfold vj;refine⟨_,_,_,_,_,_,_,hM4,?_⟩
 rcases hgo with⟨h1,rfl⟩|⟨h1,rfl⟩
 ·exact⟨true,rfl,h1.symm,key _ _ (by simp[h1]) (by simp[h1])⟩
 exact⟨false,rfl,h1.symm,key _ _ (by simp[h1]) (by simp[h1])⟩
end Go.Abs
namespace Go.Abs
open List
open Go.Proofs
open Classical
set_option maxRecDepth 100000
variable {S:Type}
structure InF (a b c e:Nat)(rv:AV)(L:List (List Val))(i:Nat)(F:Fr):Prop where
 f1:F.get 1=some (.ptr a 0)
 f2:F.get 2=some (.ptr b 0)
 f3:F.get 3=some (.ptr c 0)
 f5:F.get 5=some (.ptr e 0)
 f6:F.get 6=some rv
 f25:F.get 25=some (dN L)
 f26:F.get 26=some (zI (L.length:Int))
 f27:F.get 27=some (zI (i:Int))
structure U_ (C:Cons S)(ez:Nat->Prop)(K4:Hp)(m0:Nat)(s:S)(iN:Nat->Prop)(K:Hp)(m:Nat):Prop where
 J:C.J s iN K m
 t:dh K m
 mm:m0<=m
 f:∀x,x<m0->¬ez x->K.get x=K4.get x
 o:∀x,iN x->ez x∨(m0<=x/\x<m)
theorem U_.next {C:Cons S}{ez iN:Nat->Prop}{K4 K K':Hp}{m0 m m':Nat}{s s':S}(h:U_ C ez K4 m0 s iN K m)(hp:Post C s' iN K m K' m'):∃lQ,U_ C ez K4 m0 s' lQ K' m':=by
 obtain⟨lQ,q1,q2,q3,q4,q5⟩:=hp;have hm:=h.mm;refine⟨lQ,q1,q2,ae,λ x h1 h2=>?_,λ x hx=>?_⟩
 ·refine(q4 x ae λ hx=>?_).trans (h.f x h1 h2)
  rcases h.o x hx with h3|h3
  ·exact h2 h3
  omega
 rcases q5 x hx with h3|h3
 ·exact(h.o x h3).imp id λ h4=>⟨h4.1,ae⟩
 exact .inr ⟨ae,h3.2⟩
theorem UU {rv:AV}{row:List Val}(h:jD rv row)(H:Hp)(n:Nat):ak pG 135 [rv] H n (CpR H n row):=by
 rcases h.1 with rfl|⟨rfl,rfl⟩
 ·exact PQ row (by have:=h.2;unfold aU at this;omega) H n
 exact clone_nil H n
theorem Kr {rv:AV}{row:List Val}(h:jD rv row)(H:Hp)(n:Nat):ak pG 135 [rv] H n (λ v K m=>CpR H n row v K m/\dh K m):=by
 refine(UU h H n).zs λ v K m ⟨q1,q2,q3,q4⟩=>?_;have hg:∀x,x<m->(pick K (range m)).get x=K.get x:=λ x hx=>fH (by simpa using hx);refine⟨λ _=>none,pick K (range m),v,rq.some _ ah ah,FJ.refl _ _,⟨q1,q2.frame (aK _) λ c hc=>hg c (q2.df hc),λ b k hb hk=>?_,λ b hb=>?_⟩,lx λ b hb=>by simpa using hb⟩
 ·refine q3 b k hb ?_;rw[eP]at hk
  split at hk
  ·exact hk
  cases hk
 rw[hg b ae];exact q4 b hb
theorem dQ.row {F F2:Fr}{K:Hp}{b len sz:Nat}{l:List AV}{k:bG}(hk:K.get b=some k)(ho:OwnB k l)(hl:l.length=len*sz)(hp:aP l)(hF:∀t v,F2.get t=some v->F.get t=some v∨(F.get t=some (.sl b 0 len sz)/\v=.ds l len sz)):dQ (λ x=>if x=b then K.get x else none) F K F2 (K.put b none):=by
 have hfz:e_ (λ x=>if x=b then K.get x else none) (.sl b 0 len sz) (.ds l len sz):=by
  obtain⟨u,z,bs,t',rfl,hg⟩:=ho.jN (o:=0) (c:=len*sz) ae;refine .sl _ _ _ _ _ _ _ _ _ _ (by rw[aw rfl];exact hk) hg ?_;rw[drop_zero,fN ae];exact bc.pure hp
 refine⟨λ x y h=>?_,λ x h=>?_,λ t v h=>?_,λ x y h=>?_⟩
 ·by_cases e:x=b
  ·simpa[e]using h
  simp[e]at h
 ·by_cases e:x=b
  ·rw[e,Tr.get_put,aw rfl]
  simp[e]at h
 ·rcases hF t v h with h1|⟨h1,rfl⟩
  ·exact⟨v,h1,.inl rfl⟩
  exact⟨_,h1,.inr hfz⟩
 rw[Tr.get_put]at h
 split at h
 ·cases h
 exact⟨y,h,.inl rfl⟩
theorem akT {X:oD}(ok:X.ok){C:Cons S}{y bd:Nat}(qD:qi X C y bd) (hbd:bd<=100000){j:Nat}(hj:j<X.iR.length){a b c e:Nat}{rv:AV}{row:List Val}(O9:jD rv row) (hrl:row.length+1000<=bd){L:List (List Val)}{i:Nat}(hi:i<L.length) (hr:L[i]≠[]/\L[i].length<=1000)
  {ez iN:Nat->Prop}{K4:Hp}{m0:Nat}{s:S}{F:Fr}{K:Hp}{m:Nat}(hF:InF a b c e rv L i F) (h8:F.get 8=some (ay L[i])) (I:U_ C ez K4 m0 s iN K m) (hg:C.go s=true)
  (ha:a<m0/\¬ez a)(hb:b<m0/\¬ez b)(hc:c<m0/\¬ez c)(he:e<m0/\¬ez e)
  (ka:K4.get a=aR 1 [.ptr X.p 0])(kb:K4.get b=aR 1 [zI ((j:Int)+1)])(kc:K4.get c=aR 1 [.fn (.func 165) [] [.ptr X.q 0]])(ke:K4.get e=aR 1 [.jd y])(Q:QA)
  (hN:∀s' lQ F' K' m',InF a b c e rv L i F'->U_ C ez K4 m0 s' lQ K' m'->C.go s'=true->(∀rs,cH C (X.on.getD j []) row (L[i]::rs) s=cH C (X.on.getD j []) row rs s')->Q .normal F' K' m' [])
  (hR:∀s' lQ F' K' m',U_ C ez K4 m0 s' lQ K' m'->C.go s'=false->(∀rs,cH C (X.on.getD j []) row (L[i]::rs) s=s')->Q .ret F' K' m' []):
  VC pG (.seq MM (.seq ML (.seq MK (.seq E' (.cond (aA 58) .ret .skip))))) F K m [] Q:=by
 obtain⟨f1,f2,f3,f5,f6,f25,f26,f27⟩:=hF;have hm0:=I.mm;simp[MM,f6];refine aB.of (Kr O9 K m) λ u K5 m5 ⟨⟨q1,q2,q3,q4⟩,t5⟩=>?_;simp[h8];have hl:=hr.2;have hpos:0<L[i].length:=length_pos_iff.2 hr.1
 have hul:∀x,blk u=some x->m<=x/\x<m5:=λ x hx=>by
  obtain⟨_,⟨hu,_⟩|⟨b0,k0,hu,hb0,hk0,_⟩⟩:=q2
  ·rw[hu]at hx;simp at hx
  have:=q3 _ _ hu hk0;rw[hu]at hx;simp at hx;omega
 refine aC.U2 (k:=L[i].length) (new:=cM L[i]) q2 (by simp[ay]) (by simp[ay,sliceLen]) ah ae hpos (by unfold big;omega) ae (Ax _) λ K6 o6 g6=>?_;simp;generalize hnx:row++L[i]=nx;have hlen:row.length+L[i].length=nx.length:=by rw[<-hnx];simp
 rw[hlen]at o6 ⊢;have hlc:(cM row++cM L[i])=cM nx:=by rw[<-hnx,Az]
 rw[hlc]at o6;obtain⟨hol,⟨hh,_⟩|⟨b9,k9,hb9,_,hk9,ho9⟩⟩:=o6
 ·cases hh
 injection hb9 with hb9;subst hb9
 have sh:dQ (λ x=>if x=m5 then K6.get x else none) (Fp 9 (AV.sl m5 0 nx.length 3) (Fp 34 (AV.sl m5 0 nx.length 3) (Fp 33 (ay L[i]) (Fp 32 u (Fp 31 rv F))))) K6 ((((((Fp 9 (ay nx) F:Fr).put 31 none).put 32 none).put 33 none).put 34 none)) (K6.put m5 none):=
  dQ.row hk9 ho9 hol (vF nx) λ t v h=>by
   by_cases h34:t=34
   ·simp[h34]at h
   by_cases h33:t=33
   ·simp[h33]at h
   by_cases h32:t=32
   ·simp[h32]at h
   by_cases h31:t=31
   ·simp[h31]at h
   by_cases h9:t=9
   ·subst h9;simp at h;subst h;exact .inr ⟨ah,rfl⟩
   simp[h34,h33,h32,h31,h9]at h ⊢;exact .inl h
 generalize hF2:((((((Fp 9 (ay nx) F:Fr).put 31 none).put 32 none).put 33 none).put 34 none))=F2 at sh;have g1:F2.get 1=some (.ptr a 0):=by rw[<-hF2];simp[f1]
 have g2:F2.get 2=some (.ptr b 0):=by rw[<-hF2];simp[f2]
 have g3:F2.get 3=some (.ptr c 0):=by rw[<-hF2];simp[f3]
 have g5:F2.get 5=some (.ptr e 0):=by rw[<-hF2];simp[f5]
 have g6':F2.get 6=some rv:=by rw[<-hF2];simp[f6]
 have g9:F2.get 9=some (ay nx):=by rw[<-hF2];simp
 have g25:F2.get 25=some (dN L):=by rw[<-hF2];simp[f25]
 have g26:F2.get 26=some (zI (L.length:Int)):=by rw[<-hF2];simp[f26]
 have g27:F2.get 27=some (zI (i:Int)):=by rw[<-hF2];simp[f27]
 clear hF2;generalize hH2:K6.put m5 none=H2 at sh
 have hK6:∀x,x<m->H2.get x=K.get x:=λ x hx=>by
  rw[<-hH2,Tr.get_put,ai ae];exact(g6 x ae λ hv=>by have:=hul x hv;omega).trans (q4 x hx)
 have tH2:dh H2 (m5+1):=λ x hx=>by
  rw[<-hH2,Tr.get_put,ai ae,g6 x ae λ hv=>by have:=hul x hv;omega];exact t5 x ae
 clear hH2 g6;have J2:C.J s iN H2 (m5+1):=qD.fr I.J (λ x hx=>hK6 x (qD.lt I.J x hx)) ae;have hx4:∀x,x<m0->¬ez x->H2.get x=K4.get x:=λ x h1 h2=>(hK6 x ae).trans (I.f x h1 h2);have la:=(hx4 a ha.1 ha.2).trans ka;have lb:=(hx4 b hb.1 hb.2).trans kb;have lc:=(hx4 c hc.1 hc.2).trans kc;have le:=(hx4 e he.1 he.2).trans ke;obtain⟨_,kp,Dp,hkp,hop,_,aqj⟩:=qD.pd J2;have aqi:19<Dp.length:=(nH.1 aqj).1;have ag_:=nJ hkp hop aqi;rw[(nH.1 aqj).2]at ag_;have hjo:j<X.on.length:=by have:=ok.ol;omega
 have hx:=oY.ix (ik:=.i64) hjo;have hx':cK 1 (oY.ds X.on) (zI (j:Int))=.val (.dp (jg.ds X.on[j]::oY.l (X.on.drop (j+1)))):=hx;have hos:=ok.os _ (dw hjo);have hgd:X.on.getD j []=X.on[j]:=by simp[getD,hjo]
 have nxl:nx.length<=aU:=by rw[<-hlen];unfold aU;omega
 have JL:=IU (rv:=ay nx) (row:=nx) ⟨.inl rfl,nxl⟩ X.on[j] hos.1 hos.2;have oe:(jg.ds X.on[j]).len=1/\(jg.ds X.on[j]).cells=[jg.ds X.on[j]]:=⟨rfl,rfl⟩;have wj:IntKind.i64.wrap (j:Int)=(j:Int):=by have:=ok.fl;simp[IntKind.wrap,IntKind.signed,IntKind.bits];omega
 rw[hgd]at hN hR;generalize hre:dX nx X.on[j]=re at JL;unfold afJ at JL;simp[ML];refine bC.ofZ (eh (l:=[(150,[jg.ds X.on[j],ay nx],λ H n=>.mk (.bo [.bool re.1,zI re.2]) H n)]) ?_) sh ?_
 ·intro z hz;simp only[mi]at hz;subst hz;exact cR JL
 simp[ab,g1,g2,g9,la,lb,ag_,hx',wj,bX];generalize hF3:(Fp 11 _ _:Fr)=F3;have i1:F3.get 1=some (.ptr a 0):=by rw[<-hF3];simp[ab,g1]
 have i2:F3.get 2=some (.ptr b 0):=by rw[<-hF3];simp[ab,g2]
 have i3:F3.get 3=some (.ptr c 0):=by rw[<-hF3];simp[ab,g3]
 have i5:F3.get 5=some (.ptr e 0):=by rw[<-hF3];simp[ab,g5]
 have i6:F3.get 6=some rv:=by rw[<-hF3];simp[ab,g6']
 have i9:F3.get 9=some (ay nx):=by rw[<-hF3];simp[ab,g9]
 have i10:F3.get 10=some (.bool re.1):=by rw[<-hF3];simp
 have i11:F3.get 11=some (zI re.2):=by rw[<-hF3];simp
 have i25:F3.get 25=some (dN L):=by rw[<-hF3];simp[ab,g25]
 have i26:F3.get 26=some (zI (L.length:Int)):=by rw[<-hF3];simp[ab,g26]
 have i27:F3.get 27=some (zI (i:Int)):=by rw[<-hF3];simp[ab,g27]
 clear hF3;obtain⟨oq,hq⟩:=qD.qo J2;simp[MK,i3,lc,i11];refine aB.of (lH (C.acc s) re.2 hq) λ u2 K8 m8 ⟨hu2,a8,hm8,f8⟩=>?_;subst hu2 hm8;have J8:C.J (C.E s re.2) iN K8 (m5+1):=qD.ey J2 a8 (λ x _ hxq=>f8 x hxq) (aK _);have hqm:=qD.lt I.J _ oq;have t8:dh K8 (m5+1):=λ x hx=>by rw[f8 x ae];exact tH2 x hx
 have nq:∀x,x<m0->¬ez x->x≠X.q:=λ x h1 h2 e=>by
  subst e
  rcases I.o _ oq with h|h
  ·exact h2 h
  omega
 have I8:U_ C ez K4 m0 (C.E s re.2) iN K8 (m5+1):=⟨J8,t8,ae,λ x h1 h2=>(f8 x (nq x h1 h2)).trans (hx4 x h1 h2),λ x hx=>(I.o x hx).imp id λ h=>⟨h.1,ae⟩⟩;have g8:C.go (C.E s re.2)=true:=(qD.eg _ _).trans hg;have le8:=(I8.f e he.1 he.2).trans ke;simp;generalize HC:(Fp 51 _ _:Fr)=F4;have e1:F4.get 1=some (.ptr a 0):=by rw[<-HC];simp[i1]
 have e2:F4.get 2=some (.ptr b 0):=by rw[<-HC];simp[i2]
 have e3:F4.get 3=some (.ptr c 0):=by rw[<-HC];simp[i3]
 have e5:F4.get 5=some (.ptr e 0):=by rw[<-HC];simp[i5]
 have e6:F4.get 6=some rv:=by rw[<-HC];simp[i6]
 have e9:F4.get 9=some (ay nx):=by rw[<-HC];simp[i9]
 have e10:F4.get 10=some (.bool re.1):=by rw[<-HC];simp[i10]
 have e25:F4.get 25=some (dN L):=by rw[<-HC];simp[i25]
 have e26:F4.get 26=some (zI (L.length:Int)):=by rw[<-HC];simp[i26]
 have e27:F4.get 27=some (zI (i:Int)):=by rw[<-HC];simp[i27]
 clear HC;have hrs:∀rs,cH C X.on[j] row (L[i]::rs) s=if re.1=true then (if C.go (C.Y (C.E s re.2) nx)=true then cH C X.on[j] row rs (C.Y (C.E s re.2) nx)else C.Y (C.E s re.2) nx)else cH C X.on[j] row rs (C.E s re.2):=λ rs=>by rw[cH,hnx,hre]
 cases hb:re.1 with
 |false =>
  rw[hb]at e10;simp only[hb]at hrs;simp[E',e10];refine hN _ _ _ K8 (m5+1) ⟨by simp[e1],by simp[e2],by simp[e3],by simp[e5],by simp[e6],by simp[e25],by simp[e26],by simp[e27]⟩ I8 g8 λ rs=>by rw[hrs];simp
 |true =>
  rw[hb]at e10;simp only[hb,if_true]at hrs;simp[E',e10,e5,le8,e9];refine(qD.yl J8 g8 t8 (rv:=ay nx) (row:=nx) ⟨.inl rfl,nxl⟩ ae).v λ b0 K9 m9 ⟨hb0,hP⟩=>?_;obtain⟨lQ,I9⟩:=I8.next hP;subst hb0
  cases hgo:C.go (C.Y (C.E s re.2) nx)with
  |true =>
   simp only[hgo,if_true]at hrs;simp;exact hN _ _ _ K9 m9 ⟨by simp[e1],by simp[e2],by simp[e3],by simp[e5],by simp[e6],by simp[e25],by simp[e26],by simp[e27]⟩ I9 hgo hrs
  |false =>
   simp only[hgo]at hrs;simp;exact hR _ _ _ K9 m9 I9 hgo λ rs=>by rw[hrs];simp
end Go.Abs
namespace Go.Abs
open List
open Go.Proofs
open Classical
set_option maxRecDepth 100000
variable {S:Type}
theorem afC {X:oD}(ok:X.ok){C:Cons S}{y bd:Nat}(qD:qi X C y bd)(hbd:bd<=100000){j:Nat}(hj:j<X.iR.length){a b c e:Nat}{rv:AV}{row:List Val}(O9:jD rv row)(hrl:row.length+1000<=bd){L:List (List Val)}(hL:L.length<=100000)(hr:∀r∈L,r≠[]/\r.length<=1000)
  {ez iN:Nat->Prop}{K4:Hp}{m0:Nat}{s0:S}{F:Fr}{K:Hp}{m:Nat}(hF:InF a b c e rv L 0 F) (I:U_ C ez K4 m0 s0 iN K m) (hg:C.go s0=true)
  (ha:a<m0/\¬ez a)(hb:b<m0/\¬ez b)(hc:c<m0/\¬ez c)(he:e<m0/\¬ez e)
  (ka:K4.get a=aR 1 [.ptr X.p 0])(kb:K4.get b=aR 1 [zI ((j:Int)+1)])(kc:K4.get c=aR 1 [.fn (.func 165) [] [.ptr X.q 0]])(ke:K4.get e=aR 1 [.jd y])(Q:QA)
  (hN:∀lQ F' K' m',U_ C ez K4 m0 (cH C (X.on.getD j []) row L s0) lQ K' m'->C.go (cH C (X.on.getD j []) row L s0)=true->Q .normal F' K' m' [])
  (hR:∀lQ F' K' m',U_ C ez K4 m0 (cH C (X.on.getD j []) row L s0) lQ K' m'->C.go (cH C (X.on.getD j []) row L s0)=false->Q .ret F' K' m' []):
  aE Gg pG F K m [] (jE 2 Q):=by
 refine aE.of (λ t F K m ms=>∃(i:Nat) (s:S) (iN:Nat->Prop),t=L.length - i/\i<=L.length/\InF a b c e rv L i F/\U_ C ez K4 m0 s iN K m/\C.go s=true/\cH C (X.on.getD j []) row (L.drop i) s=cH C (X.on.getD j []) row L s0/\ms=[]) L.length ⟨0,s0,iN,ae,ae,hF,I,hg,rfl,rfl⟩ ?_;clear hF I hg F K m iN;rintro t F K m ms ⟨i,s,iN,rfl,hi,⟨f1,f2,f3,f5,f6,f25,f26,f27⟩,I,hg,hs,rfl⟩
 by_cases hlt:i<L.length
 ·have hx:=aef hlt;have r1:(ay L[i]).len=1/\(ay L[i]).cells=[ay L[i]]:=⟨rfl,rfl⟩;have wi:=aD i ae;rw[ga hlt]at hs;simp[-getD_eq_getElem?_getD,Gg,f27,f26,hlt,f25,hx];rw[<-uD];refine akT ok qD hbd hj O9 hrl hlt (hr _ (dw hlt)) ⟨by simp[f1],by simp[f2],by simp[f3],by simp[f5],by simp[f6],by simp[f25],by simp[f26],by simp[f27]⟩ ah I hg ha hb hc he ka kb kc ke _ (λ s' lQ F' K' m' hF' I' hg' h'=>?_) (λ s' lQ F' K' m' I' hg' h'=>?_)
  ·simp[-getD_eq_getElem?_getD,Rt,hF'.f27,wi];exact⟨L.length - (i+1),ae,i+1,rfl,ae,⟨by simp[hF'.f1],by simp[hF'.f2],by simp[hF'.f3],by simp[hF'.f5],by simp[hF'.f6],by simp[hF'.f25],by simp[hF'.f26],ah⟩,s',⟨lQ,I'⟩,hg',by rw[<-h',hs]⟩
  have e1:s'=cH C (X.on.getD j []) row L s0:=by rw[<-hs,h']
  simp;exact hR lQ _ K' m' (e1▸I') (e1▸hg')
 obtain rfl:i=L.length:=ae;rw[drop_length]at hs;have hs':s=cH C (X.on.getD j []) row L s0:=hs;simp[Gg,f27,f26];exact hN iN _ K m (hs'▸I) (hs'▸hg)
end Go.Abs
namespace Go.Abs
open List
open Go.Proofs
open Classical
set_option maxRecDepth 100000
variable {S:Type}
set_option maxHeartbeats 1000000 in
theorem ap2 {X:oD}(ok:X.ok){C:Cons S}{y bd:Nat}(qD:qi X C y (bd+1000))(hbd:bd+1000<=100000){j:Nat}(hj:j<X.iR.length){M e a b c d kd:Nat}{F1:Fr}(B:InB X y j M e a b c d (kd:Int) F1)(hkl:kd<X.RC.length)(hR:X.RC[kd]=dN (X.tabs.getD j [])){s:S}{own:Nat->Prop}{K:Hp}{m:Nat}{rv:AV}{row:List Val}(hJ:CmJ X C y j M e a b c d (kd:Int) F1 s own K m)(hg':C.go s=true)(ht:dh K m)(O9:jD rv row)(hrl:row.length<=bd):
  Yields M rv K m (λ b0 K' m'=>b0=C.go (cH C (X.on.getD j []) row (X.tabs.getD j []) s)/\Post (inC X C y j M e a b c d (kd:Int) F1) (cH C (X.on.getD j []) row (X.tabs.getD j []) s) own K m K' m'):=by
 obtain⟨ez,J0,hown,hnot,hM,hK,hl⟩:=hJ;have hB:=B.o
 have fin:∀(K4:Hp) (iN:Nat->Prop) (K':Hp) (m':Nat),(∀x,x≠M->K4.get x=K.get x)->K4.get M=some (.loop .busy .normal 60 F1 [17] ei.1 ei.2)->U_ C ez K4 m (cH C (X.on.getD j []) row (X.tabs.getD j []) s) iN K' m'->∀o:lO,((C.go (cH C (X.on.getD j []) row (X.tabs.getD j []) s)=true/\o=.normal)∨(C.go (cH C (X.on.getD j []) row (X.tabs.getD j []) s)=false/\o=.ret)) ->
   vj M (λ u H' n'=>∃b0,u=.bool b0/\(b0=C.go (cH C (X.on.getD j []) row (X.tabs.getD j []) s)/\Post (inC X C y j M e a b c d (kd:Int) F1) (cH C (X.on.getD j []) row (X.tabs.getD j []) s) own K m H' n')) o K' m':=
  λ K4 iN K' m' h4 hb4 I o h=>akU B hown hnot hM hK h4 hb4 (λ h1 h2 h3=>qD.fr h1 h2 h3) I.J I.t I.mm I.f I.o o h
 have hRR:∃RR0:Bool->Hp->Nat->Prop,RR0=(λ(b0:Bool) (K':Hp) (m':Nat)=>b0=C.go (cH C (X.on.getD j []) row (X.tabs.getD j []) s)/\Post (inC X C y j M e a b c d (kd:Int) F1) (cH C (X.on.getD j []) row (X.tabs.getD j []) s) own K m K' m'):=⟨_,rfl⟩;obtain⟨RR0,hRR⟩:=hRR;rw[<-hRR]
 have fin:∀(K4:Hp) (iN:Nat->Prop) (K':Hp) (m':Nat),(∀x,x≠M->K4.get x=K.get x)->K4.get M=some (.loop .busy .normal 60 F1 [17] ei.1 ei.2)->U_ C ez K4 m (cH C (X.on.getD j []) row (X.tabs.getD j []) s) iN K' m'->∀o:lO,((C.go (cH C (X.on.getD j []) row (X.tabs.getD j []) s)=true/\o=.normal)∨(C.go (cH C (X.on.getD j []) row (X.tabs.getD j []) s)=false/\o=.ret))->vj M (λ u H' n'=>∃b0,u=.bool b0/\RR0 b0 H' n') o K' m':=by
  rw[hRR];exact fin
 clear hRR;rw[aw hg',aw hg']at hl;refine Yields.of hl (by simp[mU];rfl) ?_;generalize hRU:(λ(u:AV) (H':Hp) (n':Nat)=>∃b0,u=.bool b0/\RR0 b0 H' n')=RU at fin ⊢;clear hRU;rw[ad9];simp[ach,hl];refine⟨_,_,_,_,_,_,⟨rfl,rfl,rfl,rfl,rfl,rfl⟩,?_⟩;rw[ad8];generalize hF2:(Fp 6 _ _:Fr)=F2;have g1:F2.get 1=some (.ptr a 0):=by rw[<-hF2];simp[B.f1]
 have g2:F2.get 2=some (.ptr b 0):=by rw[<-hF2];simp[B.f2]
 have g3:F2.get 3=some (.ptr c 0):=by rw[<-hF2];simp[B.f3]
 have g4:F2.get 4=some (.ptr d 0):=by rw[<-hF2];simp[B.f4]
 have g5:F2.get 5=some (.ptr e 0):=by rw[<-hF2];simp[B.f5]
 have g6:F2.get 6=some rv:=by rw[<-hF2];simp
 clear hF2;generalize hK4:Tr.put K M _=K4;have h4:∀x,x≠M->K4.get x=K.get x:=λ x hx=>by rw[<-hK4,Tr.get_put,ai hx]
 have hb4:K4.get M=some (.loop .busy .normal 60 F1 [17] ei.1 ei.2):=by rw[<-hK4];simp
 clear hK4;have nM:¬ez M:=hnot M (by simp[qe]);have J4:C.J s ez K4 m:=qD.fr J0 (λ c hc=>h4 c (λ e=>nM (e▸hc))) (aK _);have t4:dh K4 m:=λ x hx=>by rw[h4 x ae];exact ht x hx
 have ka:=(h4 a ae).trans hK.ka;have kb:=(h4 b ae).trans hK.kb;have kc:=(h4 c ae).trans hK.kc;have kd':=(h4 d ae).trans hK.kd;have ke:=(h4 e ae).trans hK.ke;obtain⟨_,kp,Dp,hkp,hop,hd2,_⟩:=qD.pd J4
 replace hd2:=hd2 ae
 obtain⟨_,hkr⟩:=qD.rd J4;have awm:2<Dp.length:=(nH.1 hd2).1;have aqd:=nJ hkp hop awm;rw[(nH.1 hd2).2]at aqd;have hix:=bJ (bk:=X.r) (N:=X.RC.length) hkl;have aqc:=nJ hkr (OwnB.list rfl) hkl;rw[hR]at aqc;have hll:bm (dN (X.tabs.getD j []))=.val (zI ((X.tabs.getD j []).length:Int)):=VD _;have hjt:j<X.tabs.length:=by have:=ok.tl;omega
 have hgt:X.tabs.getD j []=X.tabs[j]:=by simp[getD,hjt]
 have hts:=ok.ts _ (dw hjt);rw[<-hgt]at hts;have fin1:=λ lQ K' m' I o h=>fin K4 lQ K' m' h4 hb4 I o h;clear fin;generalize hsF:cH C (X.on.getD j []) row (X.tabs.getD j []) s=sF at fin1;generalize hTT:X.tabs.getD j []=TT at *;simp[acg];refine bC.of (bh (P:=pG)) ?_;simp[ab,g1,g4,ka,kd',aqd,hix,aqc,hll];generalize hF3:(Fp 27 _ _:Fr)=F3;have i1:F3.get 1=some (.ptr a 0):=by rw[<-hF3];simp[ab,g1]
 have i2:F3.get 2=some (.ptr b 0):=by rw[<-hF3];simp[ab,g2]
 have i3:F3.get 3=some (.ptr c 0):=by rw[<-hF3];simp[ab,g3]
 have i5:F3.get 5=some (.ptr e 0):=by rw[<-hF3];simp[ab,g5]
 have i6:F3.get 6=some rv:=by rw[<-hF3];simp[ab,g6]
 have i25:F3.get 25=some (dN TT):=by rw[<-hF3];simp
 have i26:F3.get 26=some (zI (TT.length:Int)):=by rw[<-hF3];simp
 have i27:F3.get 27=some (zI ((0:Nat):Int)):=by rw[<-hF3];simp
 clear hF3;refine afC ok qD hbd hj O9 ae hts.1 hts.2 ⟨i1,i2,i3,i5,i6,i25,i26,i27⟩ ⟨J4,t4,aK _,λ _ _ _=>rfl,λ x hx=>.inl hx⟩ hg' ⟨ae,hnot a (by simp[qe])⟩ ⟨ae,hnot b (by simp[qe])⟩ ⟨ae,hnot c (by simp[qe])⟩ ⟨ae,hnot e (by simp[qe])⟩ ka kb kc ke _ (λ lQ F' K' m' I hgo=>?_) (λ lQ F' K' m' I hgo=>?_)
 ·rw[hsF]at I hgo;simpa using fin1 lQ K' m' I .normal (.inl ⟨hgo,rfl⟩)
 rw[hsF]at I hgo;simpa using fin1 lQ K' m' I .ret (.inr ⟨hgo,rfl⟩)
theorem ap3 {X:oD}(ok:X.ok){C:Cons S}{y bd:Nat}(qD:qi X C y (bd+1000))(hbd:bd+1000<=100000){j:Nat}(hj:j<X.iR.length){M e a b c d kd:Nat}{F1:Fr}(B:InB X y j M e a b c d (kd:Int) F1)(hkl:kd<X.RC.length)(hR:X.RC[kd]=dN (X.tabs.getD j [])):
  qi X (inC X C y j M e a b c d (kd:Int) F1) M bd where
 lt:=by
  rintro s own K m ⟨ez,J0,hown,hnot,hM,hK,hl⟩ x hx;have hB:=B.o
  rcases(hown x).1 hx with h|h
  ·exact qD.lt J0 x h
  simp only[qe]at h;omega
 qo:=by
  rintro s own K m ⟨ez,J0,hown,hnot,hM,hK,hl⟩;obtain⟨h1,h2⟩:=qD.qo J0;exact⟨(hown _).2 (.inl h1),h2⟩
 pd:=by
  rintro s own K m ⟨ez,J0,hown,hnot,hM,hK,hl⟩;obtain⟨h1,h2⟩:=qD.pd J0;exact⟨(hown _).2 (.inl h1),h2⟩
 rd:=by
  rintro s own K m ⟨ez,J0,hown,hnot,hM,hK,hl⟩;obtain⟨h1,h2⟩:=qD.rd J0;exact⟨(hown _).2 (.inl h1),h2⟩
 fr:=by
  rintro s own K m K' m' ⟨ez,J0,hown,hnot,hM,hK,hl⟩ h hm;exact⟨ez,qD.fr J0 (λ c hc=>h c ((hown c).2 (.inl hc))) hm,hown,hnot,ae,hK.fr (λ x hx _=>h x ((hown x).2 (.inr hx))) B.o,(h M ((hown M).2 (.inr (by simp[qe])))).trans hl⟩
 ey:=by
  rintro s own K m K' m' er ⟨ez,J0,hown,hnot,hM,hK,hl⟩ hq h hm;have hqo:=(qD.qo J0).1;have ne:∀x,qe M e a b c d x->x≠X.q:=λ x hx e=>hnot x hx (e▸hqo);refine⟨ez,qD.ey J0 hq (λ c hc hcq=>h c ((hown c).2 (.inl hc)) hcq) hm,hown,hnot,ae,hK.fr (λ x hx _=>h x ((hown x).2 (.inr hx)) (ne x hx)) B.o,?_⟩;rw[h M ((hown M).2 (.inr (by simp[qe]))) (ne M (by simp[qe])),hl];show _=some (bG.loop (if C.go (C.E s er)=true then .ready else .done) (if C.go (C.E s er)=true then .normal else .ret) 60 F1 [17] ei.1 ei.2);rw[qD.eg]
 eg:=qD.eg
 yl:=λ hJ hg ht O9 hrl=>ap2 ok qD hbd hj B hkl hR hJ hg ht O9 hrl
end Go.Abs
