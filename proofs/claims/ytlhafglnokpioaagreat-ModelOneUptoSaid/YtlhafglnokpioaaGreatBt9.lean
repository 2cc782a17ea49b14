/- A part. -/
import Derived.Test.YtlhafglnokpioaaGreatBt8
noncomputable section
namespace Go.Abs
open List
open Go.Proofs
set_option maxRecDepth 100000
open Classical
variable {α:Type}{C:Cm α}{tg:α->Nat}{Pd:α->Prop}
theorem parted {c:α->α->Int}{L R:List α}{M' lo hi st:Nat}(hbd1:lo=0∨M' - lo=R.length) (hbd2:hi=M'∨hi=L.length) (hls:lo<=st) (hsh:st<=hi) (hhM:hi<=M') (hhL:hi<=L.length) (hlR:M' - lo<=R.length)
  (h1:st=lo∨∀x y,L[st - 1]?=some x->R[M' - st]?=some y->0<=c y x)(h2:st=hi∨∀x y,R[M' - 1 - st]?=some x->L[st]?=some y->c x y<0):
  (∀x y,(L.take st).getLast?=some x->(R.drop (M' - st)).head?=some y->¬c y x<0)/\(∀x y,(R.take (M' - st)).getLast?=some x->(L.drop st).head?=some y->c x y<0):=by
 constructor
 ·intro x y hx hy;rw[List.head?_drop]at hy;have hi0:st≠0:=by rintro rfl;simp at hx
  have hyl:M' - st<R.length:=by
   rcases Nat.lt_or_ge (M' - st) R.length with h|h
   ·exact h
   rw[getElem?_eq_none h]at hy;cases hy
  rcases h1 with h1|h1
  ·omega
  obtain⟨i0,rfl⟩:∃i0,st=i0+1:=⟨st - 1,by omega⟩;rw[fm (show i0<L.length by omega)]at hx
  have hx2:L[i0+1 - 1]?=some x:=by
   rw[Nat.add_sub_cancel,cE (show i0<L.length by omega)];exact hx
  have:=h1 x y hx2 hy;omega
 intro x y hx hy;rw[List.head?_drop]at hy
 have hyl:st<L.length:=by
  rcases Nat.lt_or_ge st L.length with h|h
  ·exact h
  rw[getElem?_eq_none h]at hy;cases hy
 have hi0:M' - st≠0:=by intro e;rw[e]at hx;simp at hx
 rcases h2 with h2|h2
 ·omega
 obtain⟨i0,arP⟩:∃i0,M' - st=i0+1:=⟨M' - st - 1,by omega⟩;rw[arP,fm (show i0<R.length by omega)]at hx;have e:M' - 1 - st=i0:=by omega
 rw[e,cE (show i0<R.length by omega)]at h2;exact h2 x y hx hy
theorem af4 (ho:C.Ok pG) (hc:Srt.Ord C.c Pd){H:Hp}{n:Nat}{p L1 L2 R1 R2 s:List α}{N:Nat}(hd:Dt C H (p++((L1++L2)++((R1++R2)++s)))) (hJ:C.J H) (hL:∀z∈L1++L2,C.El z) (hR:∀z∈R1++R2,C.El z) (hN:p.length+(L1++L2).length+(R1++R2).length<=N) (hb:N<1000000){a m b mid nn start:Nat}(ea:a=p.length) (em:m=p.length+L1.length+L2.length) (eb:b=p.length+L1.length+L2.length+R1.length+R2.length)
  (Ul:mid=a+L1.length+R1.length)(abO:a<mid/\mid<b)(enn:nn=mid+m)(est:start=a+L1.length)
  (e1:∀x y,L1.getLast?=some x->R2.head?=some y->¬C.c y x<0)(e2:∀x y,R1.getLast?=some x->L2.head?=some y->C.c x y<0)
  (ih:∀(p' L' R' s':List α)(a' m' b':Nat)(H':Hp),L'.length+R'.length<(L1++L2).length+(R1++R2).length->Dt C H' (p'++(L'++(R'++s')))->C.J H'->(∀z∈L',C.El z)->(∀z∈R',C.El z)->0<L'.length->0<R'.length->p'.length+L'.length+R'.length<=N->a'=p'.length->m'=p'.length+L'.length->b'=p'.length+L'.length+R'.length->Gg C tg Pd N p' L' R' s' a' m' b' H' n)
  {F':Fr}(f0:F'.get 0=some (.sl C.bk 0 N 1)) (f1:F'.get 1=some (zI (a:Int))) (f2:F'.get 2=some (zI (m:Int))) (f3:F'.get 3=some (zI (b:Int))) (f4:F'.get 4=some C.fv) (f18:F'.get 18=some (zI (mid:Int))) (f19:F'.get 19=some (zI (nn:Int))) (f20:F'.get 20=some (zI (start:Int))):
  VC pG (.seq uZ (.seq (.seq pO (.cond (ar 185) uY .skip)) (.seq (.seq kX (.cond (ar 199) pM .skip)) (.seq ju (.cond (ar 213) kW .skip))))) F' H n [] (iO [] λ w K j=>w=.aX []/\(∃M,Srt.Good C.c tg Pd (L1++L2) (R1++R2) M/\Ch C H (p++(M++s)) K)/\j=n):=by
 simp only[length_append]at hN ih;obtain⟨ed,hed⟩:∃ed,ed=m+R1.length:=⟨_,rfl⟩;have w1:IntKind.i64.wrap ((nn:Int) - (start:Int))=(ed:Int):=by rw[cR _ (by omega) (by omega)];omega
 have jst:∀ {d K},Ch C H d K->C.J K:=λ h=>ho.stay _ _ hJ h.2
 have step3:∀(F2:Fr) (K:Hp) (M1:List α),F2.get 0=some (.sl C.bk 0 N 1)->F2.get 3=some (zI (b:Int))->F2.get 4=some C.fv->F2.get 18=some (zI (mid:Int))->F2.get 24=some (zI (ed:Int))->Srt.Good C.c tg Pd L1 R1 M1->Ch C H (p++(M1++(L2++(R2++s)))) K ->
   VC pG (.seq ju (.cond (ar 213) kW .skip)) F2 K n [] (iO [] λ w K j=>w=.aX []/\(∃M,Srt.Good C.c tg Pd (L1++L2) (R1++R2) M/\Ch C H (p++(M++s)) K)/\j=n):=by
  intro F2 K M1 g0 g3 g4 g18 g24 hG hC;have hM1:M1.length=L1.length+R1.length:=by have:=hG.1.length_eq;simpa using this
  by_cases c1:mid<ed
  ·by_cases c2:ed<b
   ·simp[ju,g18,g24,g3,c1,c2,kW,g0,g4];refine aw.of (ih (p++M1) L2 R2 s mid ed b K (by omega) (by simpa using hC.1) (jst hC) (λ z hz=>hL z (by simp[hz])) (λ z hz=>hR z (by simp[hz])) (by omega) (by omega) (by rw[length_append];omega) (by rw[length_append];omega) (by rw[length_append];omega) (by rw[length_append];omega)) λ w K' n'' ⟨q1,⟨M2,hG2,q2⟩,q3⟩=>?_;subst q1 q3;simp;exact⟨M1++M2,Srt.Good.split hc hG hG2 e1 e2,by simpa using hC.trans q2⟩
   have hR2:R2=[]:=length_eq_zero_iff.1 (by omega);subst hR2;simp[ju,g18,g24,g3,c1,c2];refine⟨M1++L2,?_,by simpa using hC⟩;have:=Srt.Good.split (c:=C.c) (tg:=tg) (Pd:=Pd) hc hG (Srt.Good.Eo L2) e1 e2;simpa using this
  have hL2:L2=[]:=length_eq_zero_iff.1 (by omega);subst hL2;simp[ju,g18,g24,c1];refine⟨M1++R2,?_,by simpa using hC⟩;have:=Srt.Good.split (c:=C.c) (tg:=tg) (Pd:=Pd) hc hG (Srt.Good.SQ R2) e1 e2;simpa using this
 have step2:∀(F2:Fr) (K:Hp),F2.get 0=some (.sl C.bk 0 N 1)->F2.get 1=some (zI (a:Int))->F2.get 3=some (zI (b:Int))->F2.get 4=some C.fv->F2.get 18=some (zI (mid:Int))->F2.get 20=some (zI (start:Int))->F2.get 24=some (zI (ed:Int))->Ch C H (p++(L1++(R1++(L2++(R2++s))))) K ->
   VC pG (.seq (.seq kX (.cond (ar 199) pM .skip)) (.seq ju (.cond (ar 213) kW .skip))) F2 K n [] (iO [] λ w K j=>w=.aX []/\(∃M,Srt.Good C.c tg Pd (L1++L2) (R1++R2) M/\Ch C H (p++(M++s)) K)/\j=n):=by
  intro F2 K g0 g1 g3 g4 g18 g20 g24 hC;generalize hRR:CT.seq ju (.cond (ar 213) kW .skip)=RR at step3 ⊢
  by_cases c1:a<start
  ·by_cases c2:start<mid
   ·simp[kX,g1,g20,g18,c1,c2,pM,g0,g4];refine aw.of (ih p L1 R1 (L2++(R2++s)) a start mid K (by omega) hC.1 (jst hC) (λ z hz=>hL z (by simp[hz])) (λ z hz=>hR z (by simp[hz])) (by omega) (by omega) (by omega) ea (by omega) (by omega)) λ w K' n'' ⟨q1,⟨M1,hG1,q2⟩,q3⟩=>?_;subst q1 q3;simp;exact step3 _ _ M1 (by simp[g0]) (by simp[g3]) (by simp[g4]) (by simp[g18]) (by simp[g24]) hG1 (hC.trans q2)
   have hR1:R1=[]:=length_eq_zero_iff.1 (by omega);subst hR1;simp[kX,g1,g20,g18,c1,c2];exact step3 _ _ L1 (by simp[g0]) (by simp[g3]) (by simp[g4]) (by simp[g18]) (by simp[g24]) (Srt.Good.Eo L1) (by simpa using hC)
  have hL1:L1=[]:=length_eq_zero_iff.1 (by omega);subst hL1;simp[kX,g1,g20,c1];exact step3 _ _ R1 (by simp[g0]) (by simp[g3]) (by simp[g4]) (by simp[g18]) (by simp[g24]) (Srt.Good.SQ R1) (by simpa using hC)
 clear step3;generalize hRR:CT.seq (.seq kX (.cond (ar 199) pM .skip)) (.seq ju (.cond (ar 213) kW .skip))=RR at step2 ⊢;simp[uZ,f19,f20,w1]
 by_cases c1:start<m
 ·by_cases c2:m<ed
  ·simp[pO,f20,f2,c1,c2,uY,f0,f4];refine aw.of (af1 ho (H:=H) (n:=n) (p:=p++L1) (u:=L2) (v:=R1) (s:=R2++s) (N:=N) (by simpa using hd) (by omega) (by omega) (by rw[length_append];omega) hb (a:=start) (m:=m) (b:=ed) (by rw[length_append];omega) (by rw[length_append];omega) (by rw[length_append];omega)) λ w K' n'' ⟨q1,q2,q3⟩=>?_;subst q1 q3;simp;exact step2 _ _ (by simp[f0]) (by simp[f1]) (by simp[f3]) (by simp[f4]) (by simp[f18]) (by simp[f20]) (by simp) (by simpa using q2)
  have hR1:R1=[]:=length_eq_zero_iff.1 (by omega);subst hR1;simp[pO,f20,f2,c1,c2];exact step2 _ _ (by simp[f0]) (by simp[f1]) (by simp[f3]) (by simp[f4]) (by simp[f18]) (by simp[f20]) (by simp) (.refl (by simpa using hd))
 have hL2:L2=[]:=length_eq_zero_iff.1 (by omega);simp[pO,f20,f2,c1];exact step2 _ _ (by simp[f0]) (by simp[f1]) (by simp[f3]) (by simp[f4]) (by simp[f18]) (by simp[f20]) (by simp) (.refl (by rw[hL2]at hd ⊢;simpa using hd))
end Go.Abs
namespace Go.Abs
open List
open Go.Proofs
set_option maxRecDepth 100000
open Classical
variable {α:Type}{C:Cm α}{tg:α->Nat}{Pd:α->Prop}
def QZ:CT:=.seq uZ (.seq (.seq pO (.cond (ar 185) uY .skip)) (.seq (.seq kX (.cond (ar 199) pM .skip)) (.seq ju (.cond (ar 213) kW .skip))))
theorem amZ (ho:C.Ok pG)(hc:Srt.Ord C.c Pd){H:Hp}{n:Nat}{p L R s:List α}{N:Nat}(hd:Dt C H (p++(L++(R++s))))(hJ:C.J H)(hL:∀z∈L,C.El z)(hR:∀z∈R,C.El z)(hN:p.length+L.length+R.length<=N)(hb:N<1000000){a m b mid nn M':Nat}(ea:a=p.length)(em:m=p.length+L.length)(eb:b=p.length+L.length+R.length)
  (hnn:nn=mid+m)(abO:a<mid/\mid<b)(Ul:mid=a+M')
  (ih:∀(p' L' R' s':List α)(a' m' b':Nat)(H':Hp),L'.length+R'.length<L.length+R.length->Dt C H' (p'++(L'++(R'++s')))->C.J H'->(∀z∈L',C.El z)->(∀z∈R',C.El z)->0<L'.length->0<R'.length->p'.length+L'.length+R'.length<=N->a'=p'.length->m'=p'.length+L'.length->b'=p'.length+L'.length+R'.length->Gg C tg Pd N p' L' R' s' a' m' b' H' n)
  (F2:Fr)(st lo hi:Nat)(g0:F2.get 0=some (.sl C.bk 0 N 1))(g1:F2.get 1=some (zI (a:Int)))(g2:F2.get 2=some (zI (m:Int)))(g3:F2.get 3=some (zI (b:Int)))(g4:F2.get 4=some C.fv)(g18:F2.get 18=some (zI (mid:Int)))(g19:F2.get 19=some (zI (nn:Int)))(g20:F2.get 20=some (zI ((a+st:Nat):Int)))
  (hls:lo<=st)(hsh:st<=hi)(b1:lo=0∨M' - lo=R.length)(b2:hi=M'∨hi=L.length)(b3:hi<=M')(b4:hi<=L.length)(b5:M' - lo<=R.length)(h1:st=lo∨∀x y,L[st - 1]?=some x->R[M' - st]?=some y->0<=C.c y x)(h2:st=hi∨∀x y,R[M' - 1 - st]?=some x->L[st]?=some y->C.c x y<0):
  VC pG QZ F2 H n [] (iO [] λ w K j=>w=.aX []/\(∃M,Srt.Good C.c tg Pd L R M/\Ch C H (p++(M++s)) K)/\j=n):=by
 obtain⟨p1,p2⟩:=parted b1 b2 hls hsh b3 b4 b5 h1 h2;have eL:L=L.take st++L.drop st:=(take_append_drop st L).symm;have eR:R=R.take (M' - st)++R.drop (M' - st):=(take_append_drop _ R).symm;have q1:(L.take st).length=st:=by rw[length_take];omega
 have q2:(R.take (M' - st)).length=M' - st:=by rw[length_take];omega
 clear h1 h2 b1 b2;generalize L.take st=L1 at *;generalize L.drop st=L2 at *;generalize R.take (M' - st)=R1 at *;generalize R.drop (M' - st)=R2 at *;subst eL eR;simp only[length_append]at hN em eb;exact af4 ho hc hd hJ hL hR (by simp only[length_append];omega) hb ea (by omega) (by omega) (by omega) abO hnn (start:=a+st) (by omega) p1 p2 ih g0 g1 g2 g3 g4 g18 g19 g20
theorem agT (ho:C.Ok pG)(hc:Srt.Ord C.c Pd){H:Hp}{n:Nat}{p L R s:List α}{N:Nat}(hd:Dt C H (p++(L++(R++s))))(hJ:C.J H)(hL:∀z∈L,C.El z)(hR:∀z∈R,C.El z)(hL1:1<L.length)(hR1:1<R.length)(hN:p.length+L.length+R.length<=N)(hb:N<1000000){a m b:Nat}(ea:a=p.length)(em:m=p.length+L.length)(eb:b=p.length+L.length+R.length)
  (ih:∀(p' L' R' s':List α)(a' m' b':Nat)(H':Hp),L'.length+R'.length<L.length+R.length->Dt C H' (p'++(L'++(R'++s')))->C.J H'->(∀z∈L',C.El z)->(∀z∈R',C.El z)->0<L'.length->0<R'.length->p'.length+L'.length+R'.length<=N->a'=p'.length->m'=p'.length+L'.length->b'=p'.length+L'.length+R'.length->Gg C tg Pd N p' L' R' s' a' m' b' H' n):
  Gg C tg Pd N p L R s a m b H n:=by
 refine aj.of c266 (by simp[A266]) λ F hF=>?_;have w0:¬IntKind.i64.wrap ((m:Int) - (a:Int))=1:=by rw[cR _ (by omega) (by omega)];omega
 have w1:¬IntKind.i64.wrap ((b:Int) - (m:Int))=1:=by rw[cR _ (by omega) (by omega)];omega
 obtain⟨mid,hmid⟩:∃mid,mid=(a+b) / 2:=⟨_,rfl⟩;obtain⟨nn,hnn⟩:∃nn,nn=mid+m:=⟨_,rfl⟩;obtain⟨M',hM'⟩:∃M',M'=mid - a:=⟨_,rfl⟩;obtain⟨S,hS⟩:∃S,S=a+b:=⟨_,rfl⟩;have w2:IntKind.i64.wrap ((a:Int)+(b:Int))=(S:Int):=by rw[cR _ (by omega) (by omega)];omega
 have hs:=aap S;rw[hS,<-hmid,<-hS]at hs;have hs2:=aaf S (by omega);have hs3:=abJ mid (by omega);have w3:IntKind.i64.wrap ((mid:Int)+(m:Int))=(nn:Int):=by rw[cR _ (by omega) (by omega)];omega
 have abO:a<mid/\mid<b:=by omega
 have Ul:mid=a+M':=by omega
 have hM0:0<M':=by omega
 have hm2:2*mid<=a+b/\a+b<=2*mid+1:=by omega
 clear hmid hS hM'
 obtain⟨lo,hi,hinit,hlh,b1,b2,b3,b4,b5⟩:∃lo hi:Nat,(if mid<m then IntKind.i64.wrap ((nn:Int) - (b:Int))=(a:Int)+(lo:Int)/\hi=M' else lo=0/\(m:Int)=(a:Int)+(hi:Int))/\lo<=hi/\(lo=0∨M' - lo=R.length)/\(hi=M'∨hi=L.length)/\hi<=M'/\hi<=L.length/\M' - lo<=R.length:=by
  by_cases hgt:mid<m
  ·refine⟨nn - b - a,M',?_,by omega,by omega,.inl rfl,aP _,by omega,by omega⟩;rw[ao hgt];refine⟨?_,rfl⟩;rw[cR _ (by omega) (by omega)];omega
  refine⟨0,L.length,?_,by omega,.inl rfl,.inr rfl,by omega,aP _,by omega⟩;rw[ah hgt];exact⟨rfl,by omega⟩
 have fin:=amZ (mid:=mid) (nn:=nn) (M':=M') ho hc hd hJ hL hR hN hb ea em eb hnn abO Ul ih;have akL:=λ(F':Fr)=>Ro (lo:=lo) (hi:=hi) (F':=F') (b:=b) (n:=n) ho hd hJ hL hR hN hb ea em Ul hnn hM0 hlh b3 b4 b5;generalize hRR:QZ=RR at fin;have hBB:A266.code=(.seq (.seq tC (.cond (ar 28) (.seq Jn (.seq Jm (.seq (.block 0 (.loop C_)) (.seq (.seq Jl (.block 2 (.loop C9))) .ret)))) .skip)) (.seq (.seq rS (.cond (ar 80) (.seq BU (.seq BS (.seq (.block 4 (.loop C6)) (.seq (.seq BQ (.block 6 (.loop C4))) .ret)))) .skip)) (.seq u5 (.seq u4 (.seq u3 (.seq (.seq u0 (.cond (ar 140) (.seq BP BO) (.seq BN BM))) (.seq rR (.seq (.block 8 (.loop tH)) RR)))))))):=by rw[<-hRR];rfl
 clear hRR ih hc
 have key:∀F':Fr,F'.get 0=some (.sl C.bk 0 N 1)->F'.get 1=some (zI (a:Int))->F'.get 2=some (zI (m:Int))->F'.get 3=some (zI (b:Int))->F'.get 4=some C.fv->F'.get 18=some (zI (mid:Int))->F'.get 19=some (zI (nn:Int))->F'.get 20=some (zI ((a+lo:Nat):Int))->F'.get 21=some (zI ((a+hi:Nat):Int)) ->
   VC pG rR F' H n [] (pW pG ((CT.block 8 (.loop tH)).seq RR) (iO [] λ w K j=>w=.aX []/\(∃M,Srt.Good C.c tg Pd L R M/\Ch C H (p++(M++s)) K)/\j=n)):=by
  intro F' k0 k1 k2 k3 k4 k18 k19 k20 k21
  have:=akL F' k0 k1 k2 k3 k4 k18 k19 k20 k21 (iO [] λ w K j=>w=.aX []/\(∃M,Srt.Good C.c tg Pd L R M/\Ch C H (p++(M++s)) K)/\j=n) RR
   λ F2 st g0 g1 g2 g3 g4 g18 g19 g20 hls hsh h1 h2=>fin F2 st lo hi g0 g1 g2 g3 g4 g18 g19 g20 hls hsh b1 b2 b3 b4 b5 h1 h2
  rw[r6]at this;exact this
 clear fin akL
 by_cases hgt:mid<m
 ·rw[ao hgt]at hinit;simp only[hBB,show A266.res=[]from rfl];simp[tC,hF,w0,w1,rS,u5,w2,hs,hs2,hs3,u4,w3,u3,u0,hgt,BP,hinit.1,BO];exact key _ (by simp[hF]) (by simp[hF]) (by simp[hF]) (by simp[hF]) (by simp[hF]) (by simp) (by simp) (by simp) (by simp;omega)
 rw[ah hgt]at hinit;simp only[hBB,show A266.res=[]from rfl];simp[tC,hF,w0,w1,rS,u5,w2,hs,hs2,hs3,u4,w3,u3,u0,hgt,BN,BM];exact key _ (by simp[hF]) (by simp[hF]) (by simp[hF]) (by simp[hF]) (by simp[hF]) (by simp) (by simp) (by simp[hinit.1]) (by simp;omega)
theorem Q1 (ho:C.Ok pG)(hc:Srt.Ord C.c Pd){N:Nat}(hb:N<1000000)(n:Nat):∀(k:Nat)(p L R s:List α)(a m b:Nat)(H:Hp),L.length+R.length<=k->Dt C H (p++(L++(R++s)))->C.J H->(∀z∈L,C.El z)->(∀z∈R,C.El z)->0<L.length->0<R.length->p.length+L.length+R.length<=N->a=p.length->m=p.length+L.length->b=p.length+L.length+R.length->Gg C tg Pd N p L R s a m b H n
 |0,_,L,R,_,_,_,_,_,hk,_,_,_,_,h1,_,_,_,_,_=>by omega
 |k + 1,p,L,R,s,a,m,b,H,hk,hd,hJ,hL,hR,h1,h2,hN,ea,em,eb=>by
  by_cases c1:L.length=1
  ·obtain⟨x,rfl⟩:=length_eq_one_iff.1 c1;exact alv ho hc hd hJ (hL x (by simp)) hR h2 (by simp at hN;omega) hb ea (by simp at em;omega) (by simp at eb;omega)
  by_cases c2:R.length=1
  ·obtain⟨x,rfl⟩:=length_eq_one_iff.1 c2;exact afW ho hc hd hJ (hR x (by simp)) hL (by omega) (by simp at hN;omega) hb ea em (by simp at eb;omega)
  exact agT ho hc hd hJ hL hR (by omega) (by omega) hN hb ea em eb λ p' L' R' s' a' m' b' H' hlt hd' hJ' hL' hR' h1' h2' hN' ea' em' eb' =>
   Q1 ho hc hb n k p' L' R' s' a' m' b' H' (by omega) hd' hJ' hL' hR' h1' h2' hN' ea' em' eb'
end Go.Abs
namespace Go.Abs
open List
open Go.Proofs
set_option maxRecDepth 100000
open Classical
variable {α:Type}{C:Cm α}{tg:α->Nat}{Pd:α->Prop}
def oK (C:Cm α)(tg:α->Nat)(Pd:α->Prop)(S T:List α):Prop:=T.Perm S/\((∀x∈S,Pd x)->S.Pairwise (λ x y=>tg x<tg y)->T.Pairwise (Srt.Le C.c tg))
theorem oK.add {S T T':List α}{x:α}(h:oK C tg Pd S T)(g:Srt.Good C.c tg Pd T [x] T'):oK C tg Pd (S++[x]) T':=by
 refine⟨g.1.trans (List.Perm.append_right _ h.1),λ hp ht=>?_⟩;rw[pairwise_append]at ht;refine g.2 (λ y hy=>?_) (h.2 (λ y hy=>hp y (by simp[hy])) ht.1) (by simp) λ y hy z hz=>ht.2.2 y (h.1.mem_iff.1 hy) z hz
 rcases mem_append.1 hy with hy|hy
 ·exact hp y (by simp[h.1.mem_iff.1 hy])
 exact hp y (by simp[gp.1 hy])
theorem ada (ho:C.Ok pG) (hc:Srt.Ord C.c Pd){H:Hp}{n:Nat}{p S s:List α}{N:Nat}(hd:Dt C H (p++(S++s))) (hJ:C.J H) (hS:∀z∈S,C.El z) (hN:p.length+S.length<=N) (hb:N<1000000){a b:Nat}(ea:a=p.length) (eb:b=p.length+S.length):
  aj pG 265 [.sl C.bk 0 N 1,zI (a:Int),zI (b:Int),C.fv] H n (λ w K j=>w=.aX []/\(∃T,oK C tg Pd S T/\Ch C H (p++(T++s)) K)/\j=n):=by
 refine aj.of c265 (by simp[A265]) λ F hF=>?_;have w0:IntKind.i64.wrap ((a:Int)+1)=((a+1:Nat):Int):=by rw[cR _ (by omega) (by omega)];omega
 simp[A265,hF,w0]
 have h00:∃T,oK C tg Pd (S.take 1) T/\Ch C H (p++(T++(S.drop 1++s))) H:=by
  refine⟨S.take 1,⟨.refl _,λ _ _=>?_⟩,.refl ?_⟩
  ·cases S with
   |nil=>simp
   |cons x r=>simp
  rw[<-append_assoc (S.take 1),take_append_drop];exact hd
 refine aE.of (λ t F' K n' ms=>∃e,t=S.length+1 - e/\1<=e/\e<=S.length+1/\F'.get 0=some (.sl C.bk 0 N 1)/\F'.get 1=some (zI (a:Int))/\F'.get 2=some (zI (b:Int))/\F'.get 3=some C.fv/\F'.get 8=some (zI ((a+e:Nat):Int))/\n=n'/\ms=[]/\∃T,oK C tg Pd (S.take e) T/\Ch C H (p++(T++(S.drop e++s))) K) S.length ⟨1,by omega,by omega,by omega,by simp[hF],by simp[hF],by simp[hF],by simp[hF],by simp,rfl,rfl,h00⟩ ?_;rintro t F1 K n' ms ⟨e,rfl,he1,he2,f0,f1,f2,f3,f8,rfl,rfl,T,hT,hC⟩;obtain⟨E,hE⟩:∃E,E=a+e:=⟨_,rfl⟩;rw[<-hE]at f8
 by_cases hlt:E<b
 ·have hel:e<S.length:=by omega
  have hTl:T.length=e:=by have:=hT.1.length_eq;simp at this;omega
  have hEl:∀z∈T,C.El z:=λ z hz=>hS z (mem_of_mem_take (hT.1.mem_iff.1 hz));have hx:=hS S[e] (b6 hel);have hsn:S.take (e+1)=S.take e++[S[e]]:=take_succ_eq_append_getElem hel;rw[km hel]at hC;generalize S[e]=x at hx hsn hC;generalize hrest:S.drop (e+1)++s=rest at hC;simp[Db,f8,f2,hlt]
  have hC0:Ch C H (p++(T++x::([]++rest))) K:=by
   rw[<-hrest];simpa using hC
  refine aE.of (λ t F' K' n' ms=>∃T1 T2,t=T1.length/\T=T1++T2/\F'.get 0=some (.sl C.bk 0 N 1)/\F'.get 1=some (zI (a:Int))/\F'.get 2=some (zI (b:Int))/\F'.get 3=some C.fv/\F'.get 8=some (zI (E:Int))/\F'.get 9=some (zI ((a+T1.length:Nat):Int))/\n=n'/\ms=[]/\(∀y,T2.head?=some y->C.c x y<0)/\Ch C H (p++(T1++x::(T2++rest))) K') T.length ⟨T,[],rfl,by simp,by simp[f0],by simp[f1],by simp[f2],by simp[f3],by simp[f8],by simp[hE,hTl],rfl,rfl,by simp,hC0⟩ ?_;clear f0 f1 f2 f3 f8 hC hC0;rintro t F2 K' n' ms ⟨T1,T2,rfl,abQ,f0,f1,f2,f3,f8,f9,rfl,rfl,h2,hC⟩;obtain⟨B,hB⟩:∃B,B=a+T1.length:=⟨_,rfl⟩;rw[<-hB]at f9
  have done:(∀y,T1.getLast?=some y->¬C.c x y<0)->∃T',oK C tg Pd (S.take (e+1)) T'/\Ch C H (p++(T'++(S.drop (e+1)++s))) K':=λ h1=>by
   refine⟨T1++x::T2,?_,by rw[hrest];simpa using hC⟩;rw[hsn];have:=Srt.Good.snoc (c:=C.c) (tg:=tg) (Pd:=Pd) hc h1 h2;rw[<-abQ]at this;exact hT.add this
  by_cases h0:T1.length=0
  ·have hT1:T1=[]:=length_eq_zero_iff.1 h0;subst hT1;have hBa:¬a<B:=by simp at hB;omega
   simp[Dc];refine cj.of (cN (P:=pG)) ?_;have w1:IntKind.i64.wrap ((E:Int)+1)=((a+(e+1):Nat):Int):=by rw[cR _ (by omega) (by omega)];omega
   simp[ab,f1,f9,hBa,Jo,f8,w1];exact⟨S.length+1 - (e+1),by omega,e+1,rfl,by omega,by omega,f0,f2,f3,by omega,done (by simp)⟩
  obtain⟨U,y,rfl⟩:∃U y,T1=U++[y]:=⟨T1.dropLast,T1.getLast (by intro e;rw[e]at h0;exact h0 rfl),(List.dropLast_concat_getLast _).symm⟩;rw[length_append,List.length_singleton]at hB;have hBa:a<B:=by omega
  obtain⟨A,hA⟩:∃A,A=a+U.length:=⟨_,rfl⟩;have hlen:T.length=U.length+1+T2.length:=by rw[abQ];simp;omega
  have w2:IntKind.i64.wrap ((B:Int) - 1)=(A:Int):=by rw[cR _ (by omega) (by omega)];omega
  have eD:p++((U++[y])++x::(T2++rest))=(p++U)++y::([]++x::(T2++rest)):=by simp
  rw[eD]at hC;obtain⟨y1,y2,l1,l2,s1,s2,t2⟩:=hC.swap' ho rfl (A:=A) (B:=B) (by simp;omega) (by simp;omega);have x1:=iF (bk:=C.bk) (N:=N) (i:=A) (by omega);have x2:=iF (bk:=C.bk) (N:=N) (i:=B) (by omega);have hEy:C.El y:=hEl y (by rw[abQ];simp);have hJ':C.J K':=ho.stay _ _ hJ hC.2;simp[Dc];refine cj.of (C.LN ho hx hEy) ?_;simp[ab,f0,f1,f3,f9,hBa,Cm.fv,w2,x1,x2,l1,l2,Cm.uV hJ']
  by_cases hlt0:C.c x y<0
  ·simp[hlt0,XV];refine cj.of (cN (P:=pG)) ?_;simp[ab,f0,f1,f2,f3,f8,f9,Cm.fv,w2,x1,x2,l1,l2,s1,s2,XU];refine⟨U.length,by omega,U,rfl,y::T2,by rw[abQ];simp,by omega,by simpa using hlt0,by simpa using t2⟩
  have w1:IntKind.i64.wrap ((E:Int)+1)=((a+(e+1):Nat):Int):=by rw[cR _ (by omega) (by omega)];omega
  simp[ab,hlt0,Jo,f0,f1,f2,f3,f8,w1,Cm.fv];rw[<-eD]at hC;exact⟨S.length+1 - (e+1),by omega,e+1,rfl,by omega,by omega,by omega,done λ z hz=>by simp at hz;subst hz;exact hlt0⟩
 have hee:S.take e=S:=eZ (by omega);have hed:S.drop e=[]:=drop_eq_nil_of_le (by omega);rw[hee]at hT;rw[hed]at hC;simp[Db,f8,f2,hlt];exact⟨T,hT,by simpa using hC⟩
end Go.Abs
namespace Go.Abs
open List
variable {α:Type}{c:α->α->Int}{tg:α->Nat}{Pd:α->Prop}
def TL (tg:α->Nat)(X Y:List α):Prop:=∀x∈X,∀y∈Y,tg x<tg y
def Bs (c:α->α->Int)(tg:α->Nat)(bs:List (List α)):Prop:=(∀X∈bs,X.Pairwise (Srt.Le c tg))/\bs.Pairwise (TL tg)
def Sh (B:Nat)(bs:List (List α)):Prop:=bs=[]∨∃init last,bs=init++[last]/\(∀X∈init,X.length=B)/\0<last.length/\last.length<=B
theorem Bs.merge {D r:List (List α)}{X Y M:List α}(h:Bs c tg (D++X::Y::r)) (hp:∀x∈X++Y,Pd x) (g:Srt.Good c tg Pd X Y M):Bs c tg (D++M::r):=by
 obtain⟨h1,h2⟩:=h;rw[pairwise_append]at h2;obtain⟨p1,p2,p3⟩:=h2;rw[pairwise_cons]at p2;obtain⟨q1,q2⟩:=p2;rw[pairwise_cons]at q2;have mem:∀z∈M,z∈X∨z∈Y:=λ z hz=>mem_append.1 (g.1.mem_iff.1 hz);refine⟨λ Z hZ=>?_,?_⟩
 ·rcases mem_append.1 hZ with hZ|hZ
  ·exact h1 Z (by simp[hZ])
  rcases mem_cons.1 hZ with rfl|hZ
  ·exact g.2 hp (h1 X (by simp)) (h1 Y (by simp)) (q1 Y (by simp))
  exact h1 Z (by simp[hZ])
 rw[pairwise_append];refine⟨p1,?_,λ Z hZ W hW=>?_⟩
 ·rw[pairwise_cons];refine⟨λ W hW z hz w hw=>?_,q2.2⟩
  rcases mem z hz with h|h
  ·exact q1 W (by simp[hW]) z h w hw
  exact q2.1 W hW z h w hw
 rcases mem_cons.1 hW with rfl|hW
 ·intro z hz w hw
  rcases mem w hw with h|h
  ·exact p3 Z hZ X (by simp) z hz w h
  exact p3 Z hZ Y (by simp) z hz w h
 exact p3 Z hZ W (by simp[hW])
theorem Sh.cases {B:Nat}{bs:List (List α)}(h:Sh B bs):bs=[]∨(∃X,bs=[X]/\0<X.length/\X.length<=B)∨∃X Y r,bs=X::Y::r/\X.length=B/\0<Y.length/\Y.length<=B/\(r=[]∨Y.length=B)/\Sh B r:=by
 rcases h with rfl|⟨init,last,rfl,h1,h2,h3⟩
 ·exact .inl rfl
 cases init with
 |nil=>exact .inr (.inl ⟨last,rfl,h2,h3⟩)
 |cons X i =>
  have hX:=h1 X (by simp)
  cases i with
  |nil=>exact .inr (.inr ⟨X,last,[],rfl,hX,h2,h3,.inl rfl,.inl rfl⟩)
  |cons Y j =>
   have hY:=h1 Y (by simp);exact .inr (.inr ⟨X,Y,j++[last],rfl,hX,by omega,by omega,.inr hY,.inr ⟨j,last,rfl,λ Z hZ=>h1 Z (by simp[hZ]),h2,h3⟩⟩)
theorem Sh.one {B:Nat}{bs:List (List α)}(h:Sh B bs)(hn:bs.flatten.length<=B):bs=[]∨∃X,bs=[X]:=by
 rcases h.cases with h|⟨X,h,_⟩|⟨X,Y,r,rfl,h1,h2,_⟩
 ·exact .inl h
 ·exact .inr ⟨X,h⟩
 simp at hn;omega
theorem Sh.join {B:Nat}{D:List (List α)}(hD:∀X∈D,X.length=B){X:List α}(h0:0<X.length)(h1:X.length<=B):Sh B (D++[X]):=.inr ⟨D,X,rfl,hD,h0,h1⟩
theorem Sh.all {B:Nat}(hB:0<B){D:List (List α)}(hD:∀X∈D,X.length=B):Sh B D:=by
 rcases List.eq_nil_or_concat D with h|⟨i,l,rfl⟩
 ·exact .inl h
 have:=hD l (by simp);exact .inr ⟨i,l,List.concat_eq_append,λ X hX=>hD X (by simp[hX]),by omega,by omega⟩
end Go.Abs
namespace Go.Abs
open List
open Go.Proofs
set_option maxRecDepth 100000
open Classical
variable {α:Type}{C:Cm α}{tg:α->Nat}{Pd:α->Prop}
structure Ph1 (C:Cm α)(tg:α->Nat)(Pd:α->Prop)(S:List α)(D:List (List α))(R:List α):Prop where
 perm:(D.flatten++R).Perm S
 len:∀X∈D,X.length=20
 jZ:(∀x∈S,Pd x)->S.Pairwise (λ x y=>tg x<tg y)->Bs C.c tg D/\(∀X∈D,TL tg X R)/\R.Pairwise (λ x y=>tg x<tg y)
structure Ph2 (C:Cm α)(tg:α->Nat)(Pd:α->Prop)(S:List α)(D:List (List α)):Prop where
 perm:D.flatten.Perm S
 jZ:(∀x∈S,Pd x)->S.Pairwise (λ x y=>tg x<tg y)->Bs C.c tg D
theorem Ph1.step {S:List α}{D:List (List α)}{O R T:List α}(h:Ph1 C tg Pd S D (O++R)) (hO:O.length=20) (g:oK C tg Pd O T):Ph1 C tg Pd S (D++[T]) R:=by
 refine⟨?_,λ X hX=>?_,λ hp ht=>?_⟩
 ·refine List.Perm.trans ?_ h.perm;simp only[List.flatten_append,List.flatten_cons,List.flatten_nil,append_nil,append_assoc];exact List.Perm.append_left _ (List.Perm.append_right _ g.1)
 ·rcases mem_append.1 hX with hX|hX
  ·exact h.len X hX
  rw[gp.1 hX,g.1.length_eq,hO]
 obtain⟨h1,h2,h3⟩:=h.jZ hp ht;rw[pairwise_append]at h3;have hT:=g.2 (λ x hx=>hp x (h.perm.mem_iff.1 (by simp[hx]))) h3.1;refine⟨⟨λ X hX=>?_,?_⟩,λ X hX=>?_,h3.2.1⟩
 ·rcases mem_append.1 hX with hX|hX
  ·exact h1.1 X hX
  rw[gp.1 hX];exact hT
 ·rw[pairwise_append];refine⟨h1.2,by simp,λ X hX Y hY x hx y hy=>?_⟩;rw[gp.1 hY]at hy;exact h2 X hX x hx y (by simp[g.1.mem_iff.1 hy])
 rcases mem_append.1 hX with hX|hX
 ·exact λ x hx y hy=>h2 X hX x hx y (by simp[hy])
 rw[gp.1 hX];exact λ x hx y hy=>h3.2.2 x (g.1.mem_iff.1 hx) y hy
theorem Ph1.last {S:List α}{D:List (List α)}{O T:List α}(h:Ph1 C tg Pd S D O) (hO:O.length<20) (g:oK C tg Pd O T):∃D',D'.flatten=D.flatten++T/\Sh 20 D'/\Ph2 C tg Pd S D':=by
 have hl:=g.1.length_eq
 by_cases h0:O.length=0
 ·have hT:T=[]:=length_eq_zero_iff.1 (by omega);have hOn:O=[]:=length_eq_zero_iff.1 h0;subst hT hOn;refine⟨D,by simp,Sh.all (by omega) h.len,⟨by simpa using h.perm,λ hp ht=>(h.jZ hp ht).1⟩⟩
 refine⟨D++[T],by simp,Sh.join h.len (by omega) (by omega),?_,λ hp ht=>?_⟩
 ·refine List.Perm.trans ?_ h.perm;simp only[List.flatten_append,List.flatten_cons,List.flatten_nil,append_nil];exact List.Perm.append_left _ g.1
 obtain⟨h1,h2,h3⟩:=h.jZ hp ht;have hT:=g.2 (λ x hx=>hp x (h.perm.mem_iff.1 (by simp[hx]))) h3;refine⟨λ X hX=>?_,?_⟩
 ·rcases mem_append.1 hX with hX|hX
  ·exact h1.1 X hX
  rw[gp.1 hX];exact hT
 rw[pairwise_append];refine⟨h1.2,by simp,λ X hX Y hY x hx y hy=>?_⟩;rw[gp.1 hY]at hy;exact h2 X hX x hx y (g.1.mem_iff.1 hy)
theorem Ph2.merge {S:List α}{D r:List (List α)}{X Y M:List α}(h:Ph2 C tg Pd S (D++X::Y::r))(g:Srt.Good C.c tg Pd X Y M):Ph2 C tg Pd S (D++M::r):=by
 refine⟨?_,λ hp ht=>Bs.merge (h.jZ hp ht) (λ x hx=>hp x (h.perm.mem_iff.1 ?_)) g⟩
 ·refine List.Perm.trans ?_ h.perm;simp only[List.flatten_append,List.flatten_cons,<-append_assoc];refine List.Perm.append_right _ ?_;rw[append_assoc];exact List.Perm.append_left _ g.1
 simp only[List.flatten_append,List.flatten_cons,mem_append]
 rcases mem_append.1 hx with h|h
 ·exact .inr (.inl h)
 exact .inr (.inr (.inl h))
theorem agd (ho:C.Ok pG)(hc:Srt.Ord C.c Pd){H:Hp}{n:Nat}{S s:List α}{N:Nat}(hd:Dt C H (S++s))(hN:N=S.length)(hJ:C.J H)(hS:∀z∈S,C.El z)(hb:N<1000000){F:Fr}(f0:F.get 0=some (.sl C.bk 0 N 1))(f1:F.get 1=some (zI (N:Int)))(f2:F.get 2=some C.fv)(X:CT)(Q:QA)
  (hgo:∀(F':Fr)(K:Hp)(D:List (List α)),F'.get 0=some (.sl C.bk 0 N 1)->F'.get 1=some (zI (N:Int))->F'.get 2=some C.fv->F'.get 6=some (zI 20)->Sh 20 D->Ph2 C tg Pd S D->Ch C H (D.flatten++s) K->VC pG X F' K n [] Q):
  VC pG (.seq JD (.seq JC (.seq (.block 0 (.loop Dk)) (.seq JB X)))) F H n [] Q:=by
 simp[JD,JC];refine aE.of (λ t F' K n' ms=>∃a,t=N - a/\a<=N/\F'.get 0=some (.sl C.bk 0 N 1)/\F'.get 1=some (zI (N:Int))/\F'.get 2=some C.fv/\F'.get 6=some (zI 20)/\F'.get 7=some (zI (a:Int))/\F'.get 8=some (zI ((a+20:Nat):Int))/\n=n'/\ms=[]/\∃D R,D.flatten.length=a/\Ph1 C tg Pd S D R/\Ch C H (D.flatten++(R++s)) K) N ⟨0,by omega,by omega,by simp[f0],by simp[f1],by simp[f2],by simp,by simp,by simp,rfl,rfl,[],S,rfl,⟨by simp,by simp,λ _ h=>⟨⟨by simp,by simp⟩,by simp,h⟩⟩,.refl (by simpa using hd)⟩ ?_;clear f0 f1 f2;rintro t F1 K n' ms ⟨a,rfl,ha,f0,f1,f2,f6,f7,f8,rfl,rfl,D,R,hDl,hP,hC⟩;have hlen:D.flatten.length+R.length=N:=by have:=hP.perm.length_eq;simp only[length_append]at this;omega
 have hEl:∀z∈R,C.El z:=λ z hz=>hS z (hP.perm.mem_iff.1 (by simp[hz]));have hJK:C.J K:=ho.stay _ _ hJ hC.2;obtain⟨b,hbb⟩:∃b,b=a+20:=⟨_,rfl⟩;rw[<-hbb]at f8
 by_cases hle:b<=N
 ·have e0:R=R.take 20++R.drop 20:=(take_append_drop _ R).symm;have hl1:(R.take 20).length=20:=by rw[length_take];omega
  generalize R.take 20=O at e0 hl1;generalize R.drop 20=R' at e0;subst e0;have w1:IntKind.i64.wrap ((b:Int)+20)=((b+20:Nat):Int):=by rw[cR _ (by omega) (by omega)];omega
  simp[Dk,f8,f1,show (b:Int)<=(N:Int) by omega,f0,f7,f2];refine aw.of (ada (tg:=tg) (Pd:=Pd) ho hc (p:=D.flatten) (S:=O) (s:=R'++s) (N:=N) (by simpa using hC.1) hJK (λ z hz=>hEl z (by simp[hz])) (by omega) hb hDl.symm (by omega)) λ w K' n'' ⟨q1,⟨T,hT,q2⟩,q3⟩=>?_;subst q1 q3;simp[Yr,Yq,f8,f6,w1];have hTl:=hT.1.length_eq
  have hfl:(D++[T]).flatten.length=b:=by
   simp only[List.flatten_append,List.flatten_cons,List.flatten_nil,append_nil,length_append];omega
  refine⟨N - b,by omega,b,rfl,hle,f0,f1,f2,rfl,D++[T],by simpa using hfl,R',hP.step hl1 hT,by simpa using hC.trans q2⟩
 simp[Dk,f8,f1,show ¬(b:Int)<=(N:Int) by omega,JB,f0,f7,f2];refine aw.of (ada (tg:=tg) (Pd:=Pd) ho hc (p:=D.flatten) (S:=R) (s:=s) (N:=N) hC.1 hJK hEl (by omega) hb hDl.symm (by omega)) λ w K' n'' ⟨q1,⟨T,hT,q2⟩,q3⟩=>?_;subst q1 q3;simp;obtain⟨D',e1,e2,e3⟩:=hP.last (by omega) hT;refine hgo _ _ D' (by simp[f0]) (by simp[f1]) (by simp[f2]) (by simp[f6]) e2 e3 ?_;rw[e1];simpa using hC.trans q2
end Go.Abs
namespace Go.Abs
open List
open Go.Proofs
set_option maxRecDepth 100000
open Classical
variable {α:Type}{C:Cm α}{tg:α->Nat}{Pd:α->Prop}
theorem agi (ho:C.Ok pG) (hc:Srt.Ord C.c Pd){H K0:Hp}{n:Nat}{S s:List α}{N B:Nat}(hN:N=S.length) (hJ:C.J H) (hS:∀z∈S,C.El z) (hb:N<1000000) (hB0:0<B) (hBN:B<N){D0:List (List α)}(hsh:Sh B D0) (hP0:Ph2 C tg Pd S D0) (hC0:Ch C H (D0.flatten++s) K0){F:Fr}(f0:F.get 0=some (.sl C.bk 0 N 1)) (f1:F.get 1=some (zI (N:Int))) (f2:F.get 2=some C.fv) (f6:F.get 6=some (zI (B:Int))) (Q:QA)
  (hgo:∀(F':Fr)(K:Hp)(D:List (List α)),F'.get 0=some (.sl C.bk 0 N 1)->F'.get 1=some (zI (N:Int))->F'.get 2=some C.fv->F'.get 6=some (zI ((2*B:Nat):Int))->Sh (2*B) D->Ph2 C tg Pd S D->Ch C H (D.flatten++s) K->Q .normal F' K n []):
  VC pG (.seq JA (.seq (.block 4 (.loop Dj)) (.seq (.seq CC (.seq CB (.cond (ar 54) Cj .skip))) u9))) F K0 n [] Q:=by
 have w0:IntKind.i64.wrap (2*(B:Int))=((2*B:Nat):Int):=by rw[cR _ (by omega) (by omega)];omega
 have w0':IntKind.i64.wrap ((B:Int)*2)=((2*B:Nat):Int):=by rw[cR _ (by omega) (by omega)];omega
 obtain⟨BB,hBB⟩:∃BB,BB=2*B:=⟨_,rfl⟩;rw[<-hBB]at w0 w0' hgo;simp[JA,f6,w0];refine aE.of (λ t F' K n' ms=>∃a,t=N - a/\a<=N/\F'.get 0=some (.sl C.bk 0 N 1)/\F'.get 1=some (zI (N:Int))/\F'.get 2=some C.fv/\F'.get 6=some (zI (B:Int))/\F'.get 7=some (zI (a:Int))/\F'.get 8=some (zI ((a+BB:Nat):Int))/\n=n'/\ms=[]/\∃D R,D.flatten.length=a/\(∀X∈D,X.length=BB)/\Sh B R/\Ph2 C tg Pd S (D++R)/\Ch C H (D.flatten++(R.flatten++s)) K) N ⟨0,by omega,by omega,by simp[f0],by simp[f1],by simp[f2],by simp[f6],by simp,by simp,rfl,rfl,[],D0,rfl,by simp,hsh,hP0,hC0⟩ ?_;clear f0 f1 f2 f6 hsh hP0 hC0;rintro t F1 K n' ms ⟨a,rfl,ha,f0,f1,f2,f6,f7,f8,rfl,rfl,D,R,hDl,hD,hR,hP,hC⟩;have hlen:D.flatten.length+R.flatten.length=N:=by have:=hP.perm.length_eq;simp only[List.flatten_append,length_append]at this;omega
 have hJK:C.J K:=ho.stay _ _ hJ hC.2;have hEl:∀X∈D++R,∀z∈X,C.El z:=λ X hX z hz=>hS z (hP.perm.mem_iff.1 (List.mem_flatten.2 ⟨X,hX,hz⟩));obtain⟨b,hbb⟩:∃b,b=a+BB:=⟨_,rfl⟩;rw[<-hbb]at f8;obtain⟨m,hm⟩:∃m,m=a+B:=⟨_,rfl⟩;have wm:IntKind.i64.wrap ((a:Int)+(B:Int))=(m:Int):=by rw[cR _ (by omega) (by omega)];omega
 by_cases hle:b<=N
 ·rcases hR.cases with rfl|⟨X,rfl,h1,h2⟩|⟨X,Y,r,rfl,hX,hY0,hYB,hYr,hr⟩
  ·exfalso;simp only[List.flatten_nil,length_nil]at hlen;omega
  ·exfalso;simp only[List.flatten_cons,List.flatten_nil,append_nil]at hlen;omega
  have hYl:Y.length=B:=by
   rcases hYr with h|h
   ·subst h;simp only[List.flatten_cons,List.flatten_nil,append_nil,length_append]at hlen;omega
   exact h
  have w1:IntKind.i64.wrap ((b:Int)+(BB:Int))=((b+BB:Nat):Int):=by rw[cR _ (by omega) (by omega)];omega
  simp only[List.flatten_cons,length_append]at hlen;simp[Dj,f8,f1,hle,f0,f6,f7,f2,wm];refine aw.of (Q1 (tg:=tg) (Pd:=Pd) ho hc hb n _ D.flatten X Y (r.flatten++s) a m b K (aP _) (by simpa using hC.1) hJK (hEl X (by simp)) (hEl Y (by simp)) (by omega) hY0 (by omega) hDl.symm (by omega) (by omega)) λ w K' n'' ⟨q1,⟨M,hM,q2⟩,q3⟩=>?_;subst q1 q3;have hMl:=hM.1.length_eq;rw[length_append]at hMl
  have hfl:(D++[M]).flatten.length=b:=by
   simp only[List.flatten_append,List.flatten_cons,List.flatten_nil,append_nil,length_append];omega
  simp[MX,MW,f8,f6,w0,w1];refine⟨N - b,by omega,b,rfl,hle,f0,f1,f2,rfl,D++[M],by simpa using hfl,λ Z hZ=>?_,r,hr,by simpa using hP.merge hM,by simpa using hC.trans q2⟩
  rcases mem_append.1 hZ with hZ|hZ
  ·exact hD Z hZ
  rw[gp.1 hZ];omega
 simp[Dj,f8,f1,hle,CC,f7,f6,wm,CB]
 by_cases hlt:m<N
 ·rcases hR.cases with rfl|⟨X,rfl,h1,h2⟩|⟨X,Y,r,rfl,hX,hY0,hYB,hYr,hr⟩
  ·exfalso;simp only[List.flatten_nil,length_nil]at hlen;omega
  ·exfalso;simp only[List.flatten_cons,List.flatten_nil,append_nil]at hlen;omega
  have hrn:r=[]:=by
   rcases hYr with h|h
   ·exact h
   simp only[List.flatten_cons,length_append]at hlen;omega
  subst hrn;simp only[List.flatten_cons,List.flatten_nil,append_nil,length_append]at hlen;simp[hlt,Cj,f0,f7,f1,f2];refine aw.of (Q1 (tg:=tg) (Pd:=Pd) ho hc hb n _ D.flatten X Y s a m N K (aP _) (by simpa using hC.1) hJK (hEl X (by simp)) (hEl Y (by simp)) (by omega) hY0 (by omega) hDl.symm (by omega) (by omega)) λ w K' n'' ⟨q1,⟨M,hM,q2⟩,q3⟩=>?_;subst q1 q3;have hMl:=hM.1.length_eq;rw[length_append]at hMl;simp[u9,f6,w0'];exact hgo _ _ (D++[M]) (by simp[f0]) (by simp[f1]) (by simp[f2]) (by simp) (Sh.join hD (by omega) (by omega)) (hP.merge hM) (by simpa using hC.trans q2)
 simp[hlt,u9,f6,w0'];refine hgo _ _ (D++R) (by simp[f0]) (by simp[f1]) (by simp[f2]) (by simp) ?_ hP (by simpa using hC)
 rcases hR.cases with rfl|⟨X,rfl,h1,h2⟩|⟨X,Y,r,rfl,hX,hY0,hYB,hYr,hr⟩
 ·rw[append_nil];exact Sh.all (by omega) hD
 ·exact Sh.join hD h1 (by omega)
 exfalso;simp only[List.flatten_cons,length_append]at hlen;omega
theorem Q6 (ho:C.Ok pG)(hc:Srt.Ord C.c Pd){H:Hp}{n:Nat}{S s:List α}{N:Nat}(hd:Dt C H (S++s))(hN:N=S.length)(hJ:C.J H)(hS:∀z∈S,C.El z)(hb:N<1000000):
  aj pG 203 [.sl C.bk 0 N 1,zI (N:Int),C.fv] H n (λ w K j=>w=.aX []/\(∃T,oK C tg Pd S T/\Ch C H (T++s) K)/\j=n):=by
 refine aj.of c203 (by simp[A203]) λ F hF=>?_;show VC pG A203.code F H n [] (iO [] _);refine agd (tg:=tg) ho hc hd hN hJ hS hb (by simp[hF]) (by simp[hF]) (by simp[hF]) (.block 2 (.loop Di)) _ λ F' K D f0 f1 f2 f6 hsh hP hC=>?_;simp;refine aE.of (λ t F' K n' ms=>∃B,t=N - B/\0<B/\F'.get 0=some (.sl C.bk 0 N 1)/\F'.get 1=some (zI (N:Int))/\F'.get 2=some C.fv/\F'.get 6=some (zI (B:Int))/\n=n'/\ms=[]/\∃D,Sh B D/\Ph2 C tg Pd S D/\Ch C H (D.flatten++s) K) (N - 20) ⟨20,rfl,by omega,f0,f1,f2,f6,rfl,rfl,D,hsh,hP,hC⟩ ?_;clear f0 f1 f2 f6 hsh hP hC D;rintro t F1 K n' ms ⟨B,rfl,hB,f0,f1,f2,f6,rfl,rfl,D,hsh,hP,hC⟩
 by_cases hlt:B<N
 ·simp[Di,f6,f1,hlt];rw[<-r6];refine agi (tg:=tg) ho hc hN hJ hS hb hB hlt hsh hP hC (by simp[f0]) (by simp[f1]) (by simp[f2]) (by simp[f6]) _ λ F' K' D' g0 g1 g2 g6 hsh' hP' hC'=>?_;simp;exact⟨N - 2*B,by omega,2*B,rfl,by omega,g0,g1,g2,g6,D',hsh',hP',hC'⟩
 have hl:D.flatten.length<=B:=by have:=hP.perm.length_eq;omega
 simp[Di,f6,f1,hlt];refine⟨D.flatten,⟨hP.perm,λ hp ht=>?_⟩,hC⟩
 rcases hsh.one hl with rfl|⟨X,rfl⟩
 ·simp
 simpa using(hP.jZ hp ht).1 X (by simp)
theorem afV (ho:C.Ok pG)(hc:Srt.Ord C.c Pd){H:Hp}{n:Nat}{S s:List α}{N:Nat}(hd:Dt C H (S++s))(hN:N=S.length)(hJ:C.J H)(hS:∀z∈S,C.El z)(hb:N<1000000):
  aj pG 136 [.sl C.bk 0 N 1,C.fv] H n (λ w K j=>w=.aX []/\(∃T,oK C tg Pd S T/\Ch C H (T++s) K)/\j=n):=by
 refine aj.of c136 (by simp[A136]) λ F hF=>?_;simp[A136,hF];refine aw.of (Q6 (tg:=tg) ho hc hd hN hJ hS hb) λ w K' n'' ⟨q1,q2,q3⟩=>?_;subst q1 q3;simp;exact q2
end Go.Abs
namespace Go.Abs
open List
open Go.Proofs
set_option maxRecDepth 100000
theorem ql (l:List Val):l.flatMap Val.cells=dL l:=by
 induction l with
 |nil=>rfl
 |cons e r ih=>simp[dL,ih]
instance:DecidableEq Val:=λ a b=>if h:a.kind=b.kind/\a.num=b.num/\a.s=b.s then .isTrue (by cases a;cases b;simp at h;obtain⟨rfl,rfl,rfl⟩:=h;rfl)else .isFalse (by rintro rfl;exact h ⟨rfl,rfl,rfl⟩)
theorem OK (l:List Val):aY (dL l)=true:=by
 induction l with
 |nil=>rfl
 |cons v r ih=>simp[dL,Val.cells,aY,AV.one,ih]
def CpR (H:Hp)(n:Nat)(r:List Val)(v:AV)(H':Hp)(n':Nat):Prop:=n<=n'/\au H' n' v (dL r) r.length 3/\(∀b k,v=.sl b 0 r.length 3->H'.get b=some k->n<=b)/\∀b,b<n->H'.get b=H.get b
theorem clone_nil (H:Hp)(n:Nat):aj pG 135 [.al (.slice none 0 0)] H n (CpR H n []):=by
 refine aj.of c135 (by simp[A135]) λ F hF=>?_;simp[A135,hF,js,fS];exact⟨aP _,au.nil _ _ _,λ b k h=>by simp at h,λ _ _=>rfl⟩
theorem FG (H:Hp)(n:Nat):aj pG 135 [.ds [] 0 0] H n (CpR H n []):=by
 refine aj.of c135 (by simp[A135]) λ F hF=>?_;simp[A135,hF,js,fS,iM,aV,sliceLen,lW];refine⟨by omega,⟨by simp,.inr ⟨n,.cells 0 [] [] .nil,rfl,by omega,by simp,.list (u:=0) (l:=[]) rfl⟩⟩,λ b k h _=>?_,λ b hb=>by simp[show ¬b=n by omega]⟩;injection h with h;omega
theorem Ia (x:Val)(r:List Val)(hr:r.length<1048576)(H:Hp)(n:Nat):aj pG 135 [aF (x::r)] H n (CpR H n (x::r)):=by
 refine aj.of c135 (by simp[A135]) λ F hF=>?_;simp[A135,hF,aF,js,fS];refine au.app (l:=[]) (len:=0) (new:=dL (x::r)) (k:=r.length+1) ⟨by simp,.inr ⟨n,_,rfl,by omega,by simp;rfl,.list (by simp)⟩⟩ (by simp) rfl (by simp) (by omega) (by omega) (by unfold big;omega) (by omega) (OK _) λ H' ho hk=>?_;simp;simp only[nil_append,qw]at ho;refine⟨by omega,ho,λ b k h _=>by injection h with h;omega,λ b hb=>?_⟩;rw[hk b (by omega) (λ e=>by injection e with e;omega)];simp[show ¬b=n by omega]
theorem ab9 (r:List Val)(hr:r.length<=1048576)(H:Hp)(n:Nat):aj pG 135 [aF r] H n (CpR H n r):=by
 cases r with
 |cons x r=>exact Ia x r (by simp at hr;omega) H n
 |nil =>
  have A:=clone_nil H n;have B:=FG H n;refine⟨A.1,λ φ D w xs hrel hv hf RR hR=>?_⟩
  cases hv with
  |cons _ y _ ys h1 h2 =>
  cases h2
  have h0:(∃ad cap,y=.slice (some ad) 0 cap)∨y=.slice none 0 0:=by
   unfold aF at h1
   cases h1 with
   |ds=>exact .inl ⟨_,_,rfl⟩
   |nZ=>exact .inl ⟨_,_,rfl⟩
   |rH=>exact .inr rfl
  rcases h0 with⟨ad,cap,rfl⟩|rfl
  ·exact B.2 φ D w _ hrel (.cons _ _ _ _ (.nZ _ _ _) .nil) hf RR hR
  exact A.2 φ D w _ hrel (.cons _ _ _ _ (.al _ rfl) .nil) hf RR hR
end Go.Abs
namespace Go.Abs
open List
set_option maxRecDepth 100000
theorem zD:∀ {a b:List Nat},cmpL a b=0->a=b
 |[],[],_=>rfl
 |[],_::_,h=>by simp[cmpL]at h
 |_::_,[],h=>by simp[cmpL]at h
 |a :: x,b::y,h=>by
  rw[pH]at h
  by_cases e:a=b
  ·subst e;rw[ao rfl]at h;rw[zD h]
  rw[ah e]at h
  split at h<;>omega
theorem xd:∀ {a b c:List Nat},cmpL a b<=0->cmpL b c<=0->cmpL a c<=0
 |[],b,[],_,_=>by simp[cmpL]
 |[],b,_::_,_,_=>by simp[cmpL]
 |_::_,[],c,h,_=>by simp[cmpL]at h
 |_::_,_::_,[],_,h=>by simp[cmpL]at h
 |a :: x,b::y,c::z,h,k=>by
  rw[pH]at h k ⊢
  by_cases e:a=b
  ·subst e;rw[ao rfl]at h
   by_cases e:a=c
   ·subst e;rw[ao rfl]at k ⊢;exact xd h k
   rw[ah e]at k ⊢;exact k
  rw[ah e]at h
  have h1:a<b:=by
   by_cases q:a<b
   ·exact q
   rw[ah q]at h;omega
  by_cases e2:b=c
  ·subst e2;rw[ah e,ao h1];omega
  rw[ah e2]at k
  have h2:b<c:=by
   by_cases q:b<c
   ·exact q
   rw[ah q]at k;omega
  rw[ah (by omega),ao (by omega)];omega
theorem Eh {a b:Val}(ha:a.may=true) (hb:b.may=true) (h:a.ord b=0):a=b:=by
 unfold Val.ord at h;obtain⟨k,n,s⟩:=a;obtain⟨q,m,t⟩:=b;simp only at h
 by_cases e:k=q
 ·subst e;rw[ao rfl]at h;unfold Val.may at ha hb;simp only at ha hb
  by_cases e2:k=2
  ·subst e2;rw[ao rfl]at h;simp at ha hb;rw[ha.1,hb.1,zD h]
  rw[ah e2]at h
  have hn:n=m:=by
   split at h
   ·omega
   split at h<;>omega
  subst hn
  have:s=[]/\t=[]:=by
   by_cases c0:k=0
   ·simp[c0]at ha hb;exact⟨ha.2,hb.2⟩
   by_cases c1:k=1
   ·simp[c1]at ha hb;exact⟨ha,hb⟩
   by_cases c9003:k=3
   ·simp[c9003]at ha hb;exact⟨ha.1,hb.1⟩
   simp[c0,c1,c9003,e2]at ha
  rw[this.1,this.2]
 rw[ah e]at h
 split at h<;>omega
theorem Po {a b c:Val}(h:a.ord b<=0) (k:b.ord c<=0):a.ord c<=0:=by
 unfold Val.ord at h k ⊢
 by_cases e:a.kind=b.kind
 ·rw[ao e]at h;rw[e]at h ⊢
  by_cases e2:b.kind=c.kind
  ·rw[ao e2]at k ⊢
   by_cases e3:b.kind=2
   ·rw[ao e3]at h k ⊢;exact xd h k
   rw[ah e3]at h k ⊢
   repeat' split at h
   all_goals repeat' split at k
   all_goals repeat' split
   all_goals omega
  rw[ah e2]at k ⊢;exact k
 rw[ah e]at h
 have h1:rk a.kind<rk b.kind:=by
  by_cases q:rk a.kind<rk b.kind
  ·exact q
  rw[ah q]at h;omega
 by_cases e2:b.kind=c.kind
 ·rw[e2]at h1;rw[ah (by intro q;rw[q]at h1;omega),ao h1];omega
 rw[ah e2]at k
 have h2:rk b.kind<rk c.kind:=by
  by_cases q:rk b.kind<rk c.kind
  ·exact q
  rw[ah q]at k;omega
 rw[ah (by intro q;rw[q]at h1;omega),ao (by omega)];omega
theorem yM:∀ {l m:List Val},iR l->iR m->dZ l m=0->l=m
 |[],[],_,_,_=>rfl
 |[],_::_,_,_,h=>by simp[dZ]at h;omega
 |_::_,[],_,_,h=>by simp[dZ]at h;omega
 |a :: l,b::m,hl,hm,h=>by
  have ha:=hl a (by simp);have hb:=hm b (by simp);rw[dZ,sX ha hb]at h
  by_cases e:a.ord b=0
  ·rw[ah (by simp[e])]at h;rw[Eh ha hb e,yM (λ v hv=>hl v (by simp[hv])) (λ v hv=>hm v (by simp[hv])) h]
  rw[ao e]at h;exact ai h e
theorem mq:∀ {l m n:List Val},iR l->iR m->iR n->dZ l m<=0->dZ m n<=0->dZ l n<=0
 |[],m,n,_,_,_,_,_=>by
  cases n<;>simp[dZ]
  omega
 |_::_,[],_,_,_,_,h,_=>by simp[dZ]at h;omega
 |_::_,_::_,[],_,_,_,_,h=>by simp[dZ]at h;omega
 |a :: l,b::m,c::n,hl,hm,hn,h,k=>by
  have ha:=hl a (by simp);have hb:=hm b (by simp);have hc:=hn c (by simp);have ih:=mq (l:=l) (m:=m) (n:=n) (λ v hv=>hl v (by simp[hv])) (λ v hv=>hm v (by simp[hv])) (λ v hv=>hn v (by simp[hv]));rw[dZ,sX ha hb]at h;rw[dZ,sX hb hc]at k;rw[dZ,sX ha hc];have h1:a.ord b<=0:=by by_cases e:a.ord b=0<;>simp[e]at h ⊢;omega
  have k1:b.ord c<=0:=by by_cases e:b.ord c=0<;>simp[e]at k ⊢;omega
  have t:=Po h1 k1
  by_cases e:a.ord c=0
  ·rw[ah (by simp[e])];have hac:=Eh ha hc e;subst hac;have:=KJ ha hb;have e1:a.ord b=0:=by omega
   have e2:b.ord a=0:=by omega
   rw[ah (by simp[e1])]at h;rw[ah (by simp[e2])]at k;exact ih h k
  rw[ao e];exact t
theorem GY {L M:List (List Val)}(h:L.Perm M)(hm:∀r∈L,iR r)(hL:L.Pairwise λ a b=>dZ a b<=0)(hM:M.Pairwise λ a b=>dZ a b<=0):L=M:=by
 refine List.Perm.eq_of_pairwise (le:=λ a b=>dZ a b<=0) (λ a b ha hb h1 h2=>?_) hL hM h;have hb:=h.mem_iff.2 hb;have:=kh (hm a ha) (hm b hb);exact yM (hm a ha) (hm b hb) (by omega)
end Go.Abs
namespace Go.Abs
open List
open Go.Proofs
set_option maxRecDepth 100000
section
variable {F:Fr}{H:Hp}{n:Nat}{m:List Dm}{Q:QA}
theorem au.mv {H H':Hp}{n n':Nat}{v:AV}{l:List AV}{len sz:Nat}(h:au H n v l len sz)(hn:n<=n')(hk:∀c,c<n->v=.sl c 0 len sz->H'.get c=H.get c):au H' n' v l len sz:=by
 obtain⟨h0,h1|⟨b,k,rfl,hb,hk',ho⟩⟩:=h
 ·exact⟨h0,.inl h1⟩
 exact⟨h0,.inr ⟨b,k,rfl,by omega,by rw[hk b hb rfl,hk'],ho⟩⟩
def N7 (K:Hp)(b N:Nat)(vs:List AV):Prop:=∃y,K.get b=some y/\((vs=[]/\y=.cells N [.al (.slice none 0 0)] [] .nil)∨OwnB y vs)
theorem N7.app {P:Program}{b N nx i:Nat}{vs:List AV}{v:AV}{pd:Pd}{r:List (Option GO)}(h:N7 H b N vs)(hi:i=vs.length)(hb:b<n)(hx:H.get nx=aG 1 [v])(hv:v.one=true)(hbig:i<1000000)
  (hgo:∀H' y,H'.get n=some y->OwnB y (vs++[v])->(∀c,c<n->c≠b->H'.get c=H.get c)->fj P r (pd.f (.sl n 0 (i+1) 1) F) H' (n+1) m Q):Dy (Go.Abs.iM 1 24 n (.sl b 0 i 1) (.sl nx 0 1 1) H) pd r P F H n m Q:=by
 have hsc:aV H 1 (.sl nx 0 1 1)=some [v]:=by
  rw[dy (l:=[v]) hx (.list (by simp)) (by simp)];simp
 have h1:aY [v]=true:=by rw[oG,hv];rfl
 obtain⟨y,hy,⟨rfl,rfl⟩|ho⟩:=h
 ·obtain rfl:i=0:=by simpa using hi
  have e:Go.Abs.iM 1 24 n (.sl b 0 0 1) (.sl nx 0 1 1) H=.mv (.sl n 0 1 1) b (.cells 1 [.al (.slice none 0 0)] [] (Ov.bD [v] 0 .nil)):=by
   unfold Go.Abs.iM;rw[hsc];simp[sliceLen,lW,h1,hy,FM,big,cJ]
  unfold Dy;rw[e];refine hgo _ (.cells 1 [.al (.slice none 0 0)] [] (Ov.bD [v] 0 .nil)) (by simp) ?_ λ c hc hcb=>by simp[show ¬c=n by omega,hcb]
  refine⟨1,_,_,_,rfl,rfl,λ j=>?_,λ e=>?_⟩
  ·rw[bY,Ov.bw]
   by_cases hj:j=0
   ·subst hj;simp
   rw[ah (by omega),getElem?_eq_none (by simp;omega)]
  have:=Ov.bw [v] 0 .nil 0;rw[e,ao (by simp)]at this;simp at this
 have hne:b≠n:=by omega
 have hs:au H n (.sl b 0 i 1) vs i 1:=⟨by omega,.inr ⟨b,y,rfl,hb,hy,ho⟩⟩;refine hs.app hsc rfl (by simp) (by omega) (by omega) (by unfold big;omega) (by omega) h1 λ H' ho hk=>?_;obtain⟨_,⟨e,_⟩|⟨b',y',e,_,hy',ho'⟩⟩:=ho
 ·cases e
 injection e with e;subst e;exact hgo H' y' hy' ho' λ c hc hcb=>hk c hc (by intro e;injection e with e;exact hcb e.symm)
end
theorem getD_lt {α:Type}{l:List α}{j:Nat}{d:α}(h:j<l.length):l.getD j d=l[j]:=by simp[getD,h]
theorem Ls {α:Type}{l:List α}{j:Nat}{d:α}(h:l.length<=j):l.getD j d=d:=by simp[getD,getElem?_eq_none h]
def Ko (vs:List AV)(j:Nat):AV:=vs.getD j (.al (.slice none 0 0))
def mn (L:List (List Val))(j:Nat):List Val:=L.getD j []
def mT (K:Hp)(n0 n b:Nat)(vs:List AV)(L:List (List Val)):Prop:=∀j,j<vs.length->au K n (Ko vs j) (dL (mn L j)) (mn L j).length 3/\(∀c,Ko vs j=.sl c 0 (mn L j).length 3->c≠b/\n0<=c)
theorem mT.mv {K K':Hp}{n0 n n' b b':Nat}{vs:List AV}{L:List (List Val)}(h:mT K n0 n b vs L)(hn:n<=n')(hk:∀c,c<n->c≠b->K'.get c=K.get c)(hb:b'=b∨n<=b'):mT K' n0 n' b' vs L:=by
 intro j hj;obtain⟨h1,h2⟩:=h j hj;refine⟨h1.mv hn λ c hc e=>hk c hc (h2 c e).1,λ c e=>⟨?_,(h2 c e).2⟩⟩;obtain⟨_,⟨e',_⟩|⟨c',_,e',hc,_⟩⟩:=h1
 ·rw[e']at e;cases e
 have e2:=e;rw[e']at e2;injection e2 with e2;have:=(h2 c e).1;omega
theorem mT.one {K:Hp}{n0 n b:Nat}{vs:List AV}{L:List (List Val)}(h:mT K n0 n b vs L)(j:Nat):(Ko vs j).one=true:=by
 by_cases hj:j<vs.length
 ·obtain⟨⟨_,⟨e,_⟩|⟨c,_,e,_⟩⟩,_⟩:=h j hj<;>rw[e]<;>rfl
 unfold Ko;rw[Ls (by omega)];rfl
def H9 (L:List (List Val))(vs:List AV)(n0 n b:Nat):Cm Nat:={g:=40,first:=[],cap:=[],av:=Ko vs,c:=λ x y=>dZ (mn L x) (mn L y),El:=λ x=>x<vs.length,J:=λ K=>mT K n0 n b vs L,bk:=b}
theorem ab8 {L:List (List Val)}{vs:List AV}{n0 n b:Nat}{K:Hp}(hl:∀l∈L,l.length<=1048576)(_hvs:vs.length=L.length)(hK:mT K n0 n b vs L):(H9 L vs n0 n b).Ok pG:=by
 have hlen:∀x,(mn L x).length<=1048576:=by
  intro x;unfold mn
  by_cases hx:x<L.length
  ·rw[getD_lt hx];exact hl _ (b6 _)
  rw[Ls (by omega)];simp
 refine⟨λ x y hx hy H k hJ=>?_,λ H K hJ hk=>hJ.mv (aP _) (λ c _ hc=>hk c hc) (.inl rfl),λ x=>hK.one x⟩;exact(KI (mn L x) (mn L y) (hlen x) (hlen y)).LO (by simp) k (.cons _ _ _ _ ((hJ x hx).1.nf (bh.pure (by simp))) (.cons _ _ _ _ ((hJ y hy).1.nf (bh.pure (by simp))) .nil))
theorem UG {L:List (List Val)}{vs:List AV}{n0 n b:Nat}:Srt.Ord (H9 L vs n0 n b).c (λ j=>iR (mn L j)):=by
 refine⟨λ x y hx hy=>?_,λ x y z hx hy hz=>mq hx hy hz⟩;have:=kh hx hy;simp only[H9];omega
end Go.Abs
namespace Go.Abs
open List
open Go.Proofs
set_option maxRecDepth 100000
def aiF (H:Hp) (n:Nat) (L:List (List Val)) (v:AV) (K:Hp) (n':Nat):Prop:=n<=n'/\(∀c,c<n->K.get c=H.get c) /\
 ∃(b:Nat) (vs:List AV) (T:List Nat),v=.sl b 0 L.length 1/\b<n'/\n<=b/\(∃y,K.get b=some y/\OwnB y (T.map (Ko vs)))/\vs.length=L.length/\mT K n n' b vs L/\T.Perm (List.range L.length) /\
  ((∀j,j<L.length->iR (mn L j))->T.Pairwise λ x y=>dZ (mn L x) (mn L y)<=0)
theorem QR {vs:List AV}:(List.range vs.length).map (Ko vs)=vs:=by
 apply ext_getElem
 ·simp
 intro i h1 h2;simp only[List.getElem_map,List.getElem_range,Ko];exact getD_lt h2
theorem aan (L:List (List Val))(hL:L.length<=100000)(hl:∀l∈L,l.length<=1048576)(H:Hp)(n:Nat):aj pG 58 [.ds (bG L) L.length 1] H n (aiF H n L):=by
 refine aj.of c58 (by simp[A58]) λ F hF=>?_;have hbt:Nat.ble L.length big=true:=by rw[Nat.ble_eq];unfold big;omega
 have arT:Nat.ble (24*L.length) 281474976710656=true:=by rw[Nat.ble_eq];omega
 simp[A58,hF]
 have e0:LQ [.al (.slice none 0 0)] 1 24 n (zI 0) (zI (L.length:Int))=.new (.sl n 0 0 1) (.cells (L.length*1) [.al (.slice none 0 0)] [] .nil):=by
  show (match Nat.ble 0 L.length&&Nat.ble L.length big&&Nat.ble (24*L.length) 281474976710656 with|true=>_|false=>_)=_;rw[hbt,arT,uv (Nat.zero_le _)];rfl
 simp[e0,hF]
 refine aE.of (λ k F K n' ms=>∃(i b:Nat) (vs:List AV),k=L.length - i/\i<=L.length/\vs.length=i/\F.get 9=some (.ds (bG L) L.length 1)/\F.get 10=some (zI (L.length:Int))/\F.get 11=some (zI (i:Int))/\F.get 3=some (.sl b 0 i 1)/\ms=[] /\
  n<=n'/\n<=b/\b<n'/\(∀c,c<n->K.get c=H.get c)/\N7 K b L.length vs/\mT K n n' b vs L) L.length ⟨0,n,[],by omega,by omega,rfl,by simp,by simp,by simp,by simp,rfl,by omega,aP _,by omega,λ c hc=>by simp[show ¬c=n by omega],⟨.cells L.length [.al (.slice none 0 0)] [] .nil,by simp,.inl ⟨rfl,rfl⟩⟩,λ j hj=>by simp at hj⟩ ?_
 rintro k F K n1 ms ⟨i,b,vs,rfl,hi,hvl,f9,f10,f11,f3,rfl,g1,g2,g3,hK,hO,hR⟩;clear hF e0
 by_cases hlt:i<L.length
 ·have hx := ji (k:=.i64) hlt;simp[Zz,f11,f10,hlt,f9,hx,f3];refine aw.of (ab9 L[i] (hl _ (b6 _)) K n1) λ w K2 n2 ⟨q1,q2,q3,q4⟩=>?_;have hw1:w.one=true:=by obtain⟨_,⟨e,_⟩|⟨c,_,e,_⟩⟩:=q2<;>rw[e]<;>rfl
  obtain⟨o1,o2⟩:=Ej hw1;simp[o1,o2];refine N7.app (vs:=vs) (v:=w) (N:=L.length) ?_ hvl.symm (by omega) (by simp) hw1 (by omega) λ H' y hy ho hk=>?_
  ·obtain⟨y,hy,h⟩:=hO;exact⟨y,by simp[show ¬b=n2 by omega,q4 b (by omega),hy],h⟩
  have hk':∀c,c<n2->c≠b->H'.get c=K2.get c:=λ c hc hcb=>by rw[hk c (by omega) hcb];simp[show ¬c=n2 by omega]
  simp[aeq,f11,aC i (by omega),f9,f10];refine⟨L.length - (i+1),by omega,i+1,rfl,hlt,n2+1,vs++[w],by simp[hvl],rfl,⟨rfl,rfl⟩,by omega,by omega,by omega,λ c hc=>?_,⟨y,hy,.inr ho⟩,?_⟩
  ·rw[hk' c (by omega) (by omega),q4 c (by omega),hK c hc]
  have hR':=hR.mv (K':=H') (n':=n2+1+1) (b':=n2+1) (by omega) (λ c hc hcb=>by rw[hk' c (by omega) hcb,q4 c hc]) (.inr (by omega));intro j hj;simp[hvl]at hj
  by_cases hji:j<i
  ·have e:Ko (vs++[w]) j=Ko vs j:=by
    unfold Ko;rw[getD_lt (by simp;omega),getD_lt (by omega),List.getElem_append_left (by omega)]
   rw[e];exact hR' j (by omega)
  obtain rfl:j=i:=by omega
  have e:Ko (vs++[w]) j=w:=by
   unfold Ko;rw[getD_lt (by simp;omega),getElem_append_right (by omega)];simp[hvl]
  have e2:mn L j=L[j]:=getD_lt hlt;rw[e,e2]
  have hbk:∀c,w=.sl c 0 L[j].length 3->n1<=c/\c<n2:=by
   intro c e;obtain⟨_,⟨e',_⟩|⟨c',k',e',hc,hk2,_⟩⟩:=q2
   ·rw[e']at e;cases e
   rw[e']at e;injection e with e;subst e;exact⟨q3 _ _ e' hk2,hc⟩
  refine⟨q2.mv (by omega) λ c hc e=>hk' c hc (by have:=(hbk c e).1;omega),λ c e=>?_⟩;have:=hbk c e;omega
 obtain rfl:i=L.length:=by omega
 simp[Zz,f11,f10,aep,f3]
 have hD:Dt (H9 L vs n n1 b) K (List.range L.length++[]):=by
  obtain⟨y,hy,h⟩:=hO;refine⟨y,hy,?_⟩;rw[append_nil,show (List.range L.length).map (H9 L vs n n1 b).av=vs by rw[<-hvl];exact QR]
  rcases h with⟨rfl,rfl⟩|h
  ·have h0:L.length=0:=by simpa using hvl.symm
   rw[h0];refine⟨0,_,_,_,rfl,rfl,λ i=>?_,λ _ e=>by cases e⟩;rw[bY];simp
  exact h
 have hok:=ab8 hl hvl hR;refine aw.of (afV (C:=H9 L vs n n1 b) (tg:=id) (n:=n1) hok UG hD (by simp) hR (λ z hz=>by simpa[H9,hvl]using hz) (by omega)) λ w K2 n2 ⟨q1,⟨T,⟨hp,hs⟩,hT,hKK⟩,q3⟩=>?_;subst q3;simp[aeo,f3];rw[append_nil]at hT;refine⟨g1,λ c hc=>?_,b,vs,T,rfl,g3,g2,hT,hvl,hok.stay _ _ hR hKK,hp,λ hm=>?_⟩
 ·rw[hKK c (show c≠b by omega),hK c hc]
 exact(hs (λ x hx=>hm x (by simpa using hx)) (pairwise_lt_range)).imp λ h=>h.le
theorem aiF.nf {H:Hp}{n n':Nat}{L:List (List Val)}{v:AV}{K:Hp}(h:aiF H n L v K n'){K':Hp}(hk:∀c,c<n'->K'.get c=K.get c):∃L',L'.Perm L/\((∀r∈L,iR r)->L'.Pairwise λ a b=>dZ a b<=0)/\eY K'.get v (.ds (bG L') L.length 1):=by
 obtain⟨_,_,b,vs,T,rfl,hb,_,⟨y,hy,ho⟩,hvl,hR,hp,hs⟩:=h;have hR':=hR.mv (K':=K') (aP n') (λ c hc _=>hk c hc) (.inl rfl)
 have hL:(List.range L.length).map (mn L)=L:=by
  apply ext_getElem
  ·simp
  intro i h1 h2;simp only[List.getElem_map,List.getElem_range,mn];exact getD_lt h2
 have hTl:T.length=L.length:=by simpa using hp.length_eq
 refine⟨T.map (mn L),by have:=hp.map (mn L);rwa [hL]at this,λ hm=>?_,?_⟩
 ·rw[List.pairwise_map]
  exact hs λ j hj=>by
   have e:mn L j=L[j]:=getD_lt hj;rw[e];exact hm _ (b6 _)
 have hO:au K' n' (.sl b 0 L.length 1) (T.map (Ko vs)) L.length 1:=⟨by simp[hTl],.inr ⟨b,y,rfl,hb,by rw[hk b hb];exact hy,ho⟩⟩;refine hO.nf ?_;have hm:∀j∈T,j<vs.length:=λ j hj=>by rw[hvl];simpa using hp.mem_iff.1 hj
 clear hO ho hy hp hs hTl;unfold bG;rw[map_map]
 induction T with
 |nil=>exact .nil
 |cons j r ih=>exact .cons _ _ _ _ ((hR' j (hm j (by simp))).1.nf (bh.pure (by simp))) (ih λ k hk=>hm k (by simp[hk]))
end Go.Abs
namespace Go.Abs
open List
open Go.Proofs
open Classical
set_option maxRecDepth 100000
mutual
def Ex.Dw (n:Int):Ex->Bool
 |.mk op v _ _ dT args=>decide (sy op=(args.length:Int))&&(!((decide (op=1)&&!v.may)||(decide (op=3)&&(decide (dT<0)||decide (n<=dT))))&&Ex.GG n args)
def Ex.GG (n:Int):List Ex->Bool
 |[]=>true
 |e::r=>e.Dw n&&Ex.GG n r
end
theorem Ex.abb (n:Int)(l:List Ex):(l.any λ e=>!e.Dw n)=!Ex.GG n l:=by
 induction l with
 |nil=>rfl
 |cons e r ih=>simp[Ex.GG,ih]
theorem Ex.Ap {n:Int}{l:List Ex}(h:Ex.GG n l=true):∀e∈l,e.Dw n=true:=by
 induction l with
 |nil=>intro e he;simp at he
 |cons e r ih =>
  simp[Ex.GG]at h;intro x hx
  rcases mem_cons.1 hx with rfl|hx
  ·exact h.1
  exact ih h.2 x hx
theorem yN:∀(N:Nat) (e:Ex) (k:Int),e.sz<=N->N<=aM->ae pG 216 [e.av,zI k] (.bool (e.Dw k))
 |0,e,_,h,_=>by have:=Ex.sj e;omega
 |N + 1,.mk op v t m dT args,k,ha,hN=>by
  simp only[Ex.sz]at ha;have hla:=Ex.GV args;have hp:=Sr op;have hm:=lO v;simp only[Val.av]at hm;refine pv c216 λ F hF=>?_;simp only[Ex.Dw];simp[A216,hF,Ex.av,Ex.cells];refine cj.of (dK (l:=[(267,[zI op],λ H n=>.mk (zI (sy op)) H n)]) ?_) ?_
  ·simp only[gp];rintro y rfl;exact cL hp
  by_cases hlen:sy op=(args.length:Int)
  ·have fin:∀(F:Fr),F.get 2=some (.ptr 0 0)->F.get 3=some (.ptr 1 0)->VC pG (.seq Jz .ret) F ((Tr.put Tr.nil 0 (some (.cells 8 [] (Ex.mk op v t m dT args).cells .nil))).put 1 (aG 1 [zI k])) 2 [] (iO [aI 4] λ v1 H' _=>eY H'.get v1 (.bool (Ex.GG k args))):=by
    intro F f2 f3;simp[Jz,f2,f3,Ex.cells];refine aw.same (w_ (xs:=args) (p:=λ e=>!e.Dw k) c268 (nU (el:=Ex.av) (f:=269) (first:=[]) (cap:=[.ptr 1 0]) c303 (by unfold aM at *;omega) (by simp) (λ i h=>⟨_,sD h,λ F H n pq=>by simp[pq]⟩) λ x hx=>?_)) ?_
    ·refine aj.forget (by simp) (aj.of c269 (by simp[A269]) λ F hF=>?_);have hsx:=Ex.vC hx;simp[A269,hF];refine aw.pure (yN N x k (by omega) (by omega)) ?_;simp;intro b h1 h2;subst h2;simp at h1
    simp[Ex.abb];exact .bool (by simp)
   by_cases h1:op=1
   ·subst h1;simp[ab,bZ,hlen,tD];refine aw.pure hm ?_
    cases hv:v.may with
    |false=>simp[Ci];exact .bool rfl
    |true=>simp[ab];refine fin _ ?_ ?_<;>simp[ab]
   by_cases h3:op=3
   ·subst h3
    by_cases hc:dT<0
    ·simp[ab,bZ,hlen,tD,hc,Ci];exact .bool rfl
    by_cases hk:k<=dT
    ·simp[ab,bZ,hlen,tD,hc,hk,Ci];exact .bool rfl
    simp[ab,bZ,hlen,tD,hc,hk];refine fin _ ?_ ?_<;>simp[ab]
   simp[ab,bZ,hlen,tD,h1,h3];refine fin _ ?_ ?_<;>simp[ab]
  simp[ab,bZ,hlen,Yi];exact .bool (by simp)
theorem D7 (e:Ex)(k:Int)(h:e.sz<=aM):ae pG 216 [e.av,zI k] (.bool (e.Dw k)):=yN aM e k h (aP _)
def mU (rv:AV)(row:List Val):Prop:=(rv=aF row∨(row=[]/\rv=Eo))/\row.length<=aM
theorem mU.pure {rv:AV}{row:List Val}(h:mU rv row):Pure rv:=by
 rcases h.1 with rfl|⟨_,rfl⟩
 ·exact vS _
 simp
theorem mU.one {rv:AV}{row:List Val}(h:mU rv row):rv.len=1/\rv.cells=[rv]:=by
 rcases h.1 with rfl|⟨_,rfl⟩
 ·simp[aF]
 simp
theorem mU.len {rv:AV}{row:List Val}(h:mU rv row):aZ rv=.val (zI (row.length:Int)):=by
 rcases h.1 with rfl|⟨rfl,rfl⟩
 ·simp[aF]
 simp
theorem mU.ix {rv:AV}{row:List Val}(h:mU rv row){i:Nat}(hi:i<row.length){k:IntKind}:e9 3 rv (.int k (i:Int))=.val (.dp (row[i].cells++dL (row.drop (i+1)))):=by
 rcases h.1 with rfl|⟨rfl,rfl⟩
 ·exact gB hi
 simp at hi
theorem DF {rv:AV}{row:List Val}(h:mU rv row):ae pG 217 [rv] (.bool (row.all Val.may)):=by
 refine hU c217 (by simp[h.pure]) (by simp) (by simp[A217]) λ F hF=>?_;obtain⟨o1,o2⟩:=h.one;simp[A217,hF];refine aw.same (w_ (xs:=row) (p:=λ v=>!v.may) c270 (nU (el:=Val.av) (f:=271) (first:=[]) (cap:=[]) c304 h.2 h.len (λ i hi=>⟨_,h.ix hi,λ F H n pq=>by simp[pq,gK]⟩) λ x hx=>?_)) ?_
 ·refine(ae.jE (v:=.bool (!x.may)) ?_ _ _);refine pv c271 λ F hF=>?_;have hm:=lO x;simp only[Val.av]at hm;simp[A271,hF,Val.av];refine aw.pure hm ?_;simp;exact .bool rfl
 simp;refine .bool ?_;rw[Bool.eq_iff_iff];simp
def opW (op:Int)(a b:Val):Val×Int:=if op<=7 then unS op a else biS op a b
mutual
def Ex.ev (row:List Val):Ex->Val×Int
 |.mk op v _ _ dT args=>if op=1 then (v,0)else if op=3 then (row.getD dT.toNat iw,0)else
  match Ex.Z2 row args with
  |.inl e=>(iw,e)
  |.inr l=>opW op (l.getD 0 iw) (l.getD 1 iw)
def Ex.Z2 (row:List Val):List Ex->Int ⊕ List Val
 |[]=>.inr []
 |e::r=>if (e.ev row).2≠0 then .inl (e.ev row).2 else match Ex.Z2 row r with
  |.inl x=>.inl x
  |.inr l=>.inr ((e.ev row).1::l)
end
end Go.Abs
