/- A part. -/
import Derived.Test.YtbdgioomddkglaaGreatBt6
noncomputable section
namespace Go.Abs
open List
open Go.Proofs
open Classical
set_option maxRecDepth 100000
theorem wU (k : Int) (a b:Val):ah pG 160 [iI k,a.av,b.av] (iI (dq k [a,b])):=by
 refine pv c160 λ F hF=>?_;have ha:=rL a;have hb:=rL b;simp only[Val.av]at ha hb;simp[A160,hF,Val.av];refine au.pure ha ?_
 cases ma:a.may with
 |false=>simp[JQ,dq,ma];exact fp
 |true =>
  simp;refine au.pure hb ?_
  cases mb:b.may with
  |false=>simp[JQ,dq,ma,mb];exact fp
  |true =>
   by_cases a1:a.kind=k
   ·by_cases b1:b.kind=k
    ·simp[o0,yn,hF,dq,ma,mb,uO,a1,b1];exact fp
    by_cases b0:b.kind=0
    ·by_cases k0:(0:Int)=k
     ·exact aj (b0.trans k0) b1
     simp[o0,yn,hF,dq,ma,mb,uO,a1,b0,k0];exact fp
    simp[o0,C0,hF,dq,ma,mb,uO,a1,b1,b0];exact fp
   by_cases a0:a.kind=0
   ·by_cases k0:(0:Int)=k
    ·exact aj (a0.trans k0) a1
    by_cases b1:b.kind=k
    ·simp[o0,yn,hF,dq,ma,mb,uO,a0,b1,k0];exact fp
    by_cases b0:b.kind=0
    ·simp[o0,yn,hF,dq,ma,mb,uO,a0,b0,k0];exact fp
    simp[o0,C0,hF,dq,ma,mb,uO,a0,b1,b0,k0];exact fp
   simp[o0,C0,hF,dq,ma,mb,uO,a1,a0];exact fp
theorem rj (b:Bool):ah pG 67 [.bool b] (dM b).av:=by
 refine pv c67 λ F hF=>?_;cases b
 ·simp[A67,hF];exact fp
 simp[A67,hF];exact fp
def Em (v:Val):Int:=if v.kind=0 then 1 else IntKind.i64.wrap (2*v.num)
theorem pA (v:Val):ah pG 162 [v.av] (iI (Em v)):=by
 refine pv c162 λ F hF=>?_;unfold Em
 by_cases h:v.kind=0
 ·simp[A162,hF,h,Val.av];exact fp
 simp[A162,hF,h,Val.av];exact fp
def vF (n:Int):Val:=if n=1 then bG else dM (decide (n=2))
theorem mw (n:Int):ah pG 161 [iI n] (vF n).av:=by
 refine pv c161 λ F hF=>?_;unfold vF
 by_cases h:n=1
 ·simp[A161,hF,h];exact fp
 have ht:=rj (decide (n=2));simp[A161,hF,h];refine au.pure ht ?_;simp[Val.av];exact fp
theorem Val.three {a:Val}(h:a.may=true)(k:uO 3 a=true):a=bG∨a=dM false∨a=dM true:=by
 obtain⟨k0,n0,s0⟩:=a;simp[uO]at k
 rcases k with rfl|rfl
 ·simp[Val.may]at h;obtain⟨rfl,rfl⟩:=h;exact .inl rfl
 simp[Val.may]at h
 right
 obtain⟨rfl,rfl|rfl⟩:=h
 ·exact .inl rfl
 exact .inr rfl
def zA:AV:=.agg [iI 0,iI 0,.str []] 3
def bA (n:Int):AV:=.agg [iI 3,iI n,.str []] 3
def K8:List (FuncId×List AV×(Hp->Nat->kC)):=[(162,[zA],λ H n=>.mk (iI 1) H n),(162,[bA 0],λ H n=>.mk (iI 0) H n),(162,[bA 1],λ H n=>.mk (iI 2) H n),(161,[iI 0],λ H n=>.mk (bA 0) H n),(161,[iI 1],λ H n=>.mk zA H n),(161,[iI 2],λ H n=>.mk (bA 1) H n)]
theorem Rh:iQ pG (yz K8):=by
 refine cL ?_;intro y hy;simp only[K8,mem_cons,not_mem_nil,or_false]at hy
 rcases hy with rfl|rfl|rfl|rfl|rfl|rfl
 ·exact aQ (pA bG)
 ·exact aQ (pA (dM false))
 ·exact aQ (pA (dM true))
 ·exact aQ (mw 0)
 ·exact aQ (mw 1)
 exact aQ (mw 2)
theorem pc1 (H:Hp)(n:Nat):(yz K8).call 162 [.agg [iI 0,iI 0,.str []] 3] H n=kV (.mk (iI 1) H n):=by simp[K8,yz,r6,zA]
theorem pc2 (H:Hp)(n:Nat):(yz K8).call 162 [.agg [iI 3,iI 0,.str []] 3] H n=kV (.mk (iI 0) H n):=by simp[K8,yz,r6,zA,bA]
theorem pc3 (H:Hp)(n:Nat):(yz K8).call 162 [.agg [iI 3,iI 1,.str []] 3] H n=kV (.mk (iI 2) H n):=by simp[K8,yz,r6,zA,bA]
theorem pc4 (H:Hp)(n:Nat):(yz K8).call 161 [iI 0] H n=kV (.mk (.agg [iI 3,iI 0,.str []] 3) H n):=by simp[K8,yz,r6,bA]
theorem pc5 (H:Hp)(n:Nat):(yz K8).call 161 [iI 1] H n=kV (.mk (.agg [iI 0,iI 0,.str []] 3) H n):=by simp[K8,yz,r6,zA]
theorem pc6 (H:Hp)(n:Nat):(yz K8).call 161 [iI 2] H n=kV (.mk (.agg [iI 3,iI 1,.str []] 3) H n):=by simp[K8,yz,r6,bA]
theorem ait {a b:Val}(h:dq 3 [a,b]=0):(a=bG∨a=dM false∨a=dM true)/\(b=bG∨b=dM false∨b=dM true):=by
 unfold dq at h
 split at h
 ·split at h
  ·rename_i h1 h2;simp at h1 h2;exact⟨Val.three h1.1 h2.1,Val.three h1.2 h2.2⟩
  omega
 omega
theorem HT (c:List AV->Option AV)(xs:List G)(F:Fr)(H:Hp)(n:Nat):qU c xs F H n=(match (evs F xs).bind c with|some v=>.val v|none=>.fail):=by
 unfold qU
 cases evs F xs with
 |none=>rfl
 |some l=>simp only[Option.bind];cases c l<;>rfl
theorem ED (a b:Int):uL [iI a,iI b]=some (iI (min a b)):=by
 simp[uL,uK];omega
theorem RD (a b:Int):Hv [iI a,iI b]=some (iI (max a b)):=by
 simp[Hv,O3];omega
theorem mmI:min (0:Int) 1=0/\min (1:Int) 0=0/\min (0:Int) 2=0/\min (2:Int) 0=0/\min (1:Int) 2=1/\min (2:Int) 1=1/\max (0:Int) 1=1/\max (1:Int) 0=1/\max (0:Int) 2=2/\max (2:Int) 0=2/\max (1:Int) 2=2/\max (2:Int) 1=2:=by decide
theorem ajq (a b:Val):ah pG 130 [a.av,b.av] (bH (jx false a b)):=by
 have hf:=wU 3 a b
 by_cases h:dq 3 [a,b]=0
 ·rw[h]at hf;obtain⟨ha,hb⟩:=ait h
  rcases ha with rfl|rfl|rfl<;>rcases hb with rfl|rfl|rfl <;>
  ·refine eY c130 (by simp[bG,dM,Val.av]) (by simp) (by simp[A130]) λ F hF=>?_;unfold jx;rw[h];simp only[bG,dM,Val.av]at hf;simp[A130,hF,bG,dM,Val.av];refine au.pure (by simpa using hf) ?_;simp[JY,YO];refine bD.of Rh ?_;simp[ab,pc1,pc2,pc3,pc4,pc5,pc6,HT,ED,mmI];exact fp
 refine pv c130 λ F hF=>?_;unfold jx;generalize dq 3 [a,b]=e at *;simp only[Val.av]at hf;simp[A130,hF,Val.av,h];refine au.pure hf ?_;simp[JY,YP,h];exact fp
theorem al2 (a b:Val):ah pG 131 [a.av,b.av] (bH (jx true a b)):=by
 have hf:=wU 3 a b
 by_cases h:dq 3 [a,b]=0
 ·rw[h]at hf;obtain⟨ha,hb⟩:=ait h
  rcases ha with rfl|rfl|rfl<;>rcases hb with rfl|rfl|rfl <;>
  ·refine eY c131 (by simp[bG,dM,Val.av]) (by simp) (by simp[A131]) λ F hF=>?_;unfold jx;rw[h];simp only[bG,dM,Val.av]at hf;simp[A131,hF,bG,dM,Val.av];refine au.pure (by simpa using hf) ?_;simp[JX,YM];refine bD.of Rh ?_;simp[ab,pc1,pc2,pc3,pc4,pc5,pc6,HT,RD,mmI];exact fp
 refine pv c131 λ F hF=>?_;unfold jx;generalize dq 3 [a,b]=e at *;simp only[Val.av]at hf;simp[A131,hF,Val.av,h];refine au.pure hf ?_;simp[JX,YN,h];exact fp
theorem adF (k:Int)(a:Val):dq k [a,a]=dq k [a]:=by simp[dq]
theorem ahA (a:Val):ah pG 127 [a.av] (bH (uI a)):=by
 have hf:=wU 3 a a;rw[adF]at hf
 by_cases h:dq 3 [a]=0
 ·have ha:=(ait (a:=a) (b:=a) (by rw[adF];exact h)).1;rw[h]at hf
  rcases ha with rfl|rfl|rfl
  ·have h1:=pA bG;have h2:=mw 1;have w:IntKind.i64.wrap (2 - 1)=1:=by decide
   refine eY c127 (by simp[bG,Val.av]) (by simp) (by simp[A127]) λ F hF=>?_;unfold uI;rw[h];simp only[bG,dM,Val.av,Em,vF]at hf h1 h2;simp[A127,hF,bG,Val.av];refine au.pure hf ?_;simp[yu,C'];refine au.pure h1 ?_;simp;refine au.pure h2 ?_;simp;exact fp
  ·have h1:=pA (dM false);have h2:=mw 2;have w:IntKind.i64.wrap (2*0)=0:=by decide
   have w2:IntKind.i64.wrap (2 - 0)=2:=by decide
   refine eY c127 (by simp[dM,Val.av]) (by simp) (by simp[A127]) λ F hF=>?_;unfold uI;rw[h];simp[dM,Val.av,Em,vF]at hf h1 h2;simp[A127,hF,dM,Val.av];refine au.pure hf ?_;simp[yu,C'];refine au.pure h1 ?_;simp;refine au.pure h2 ?_;simp;exact fp
  have h1:=pA (dM true);have h2:=mw 0;have w:IntKind.i64.wrap 2=2:=by decide
  have w2:IntKind.i64.wrap (2 - 2)=0:=by decide
  refine eY c127 (by simp[dM,Val.av]) (by simp) (by simp[A127]) λ F hF=>?_;unfold uI;rw[h];simp[dM,Val.av,Em,vF,w]at hf h1 h2;simp[A127,hF,dM,Val.av];refine au.pure hf ?_;simp[yu,C'];refine au.pure h1 ?_;simp;refine au.pure h2 ?_;simp;exact fp
 refine pv c127 λ F hF=>?_;unfold uI;generalize dq 3 [a]=e at *;simp only[Val.av]at hf;simp[A127,hF,Val.av,h];refine au.pure hf ?_;simp[yu,YV,h];exact fp
theorem ant {a b:Val}(h:dq 2 [a,b]=0):a.s.length<=64/\b.s.length<=64:=by
 unfold dq at h
 split at h
 ·split at h
  ·rename_i h1 h2;simp at h1 h2
   have key:∀v:Val,v.may=true->uO 2 v=true->v.s.length<=64:=λ v h1 h2=>by
    simp[uO]at h2
    rcases h2 with h2|h2
    ·simp[Val.may,h2]at h1;simp[h1.2]
    simp[Val.may,h2]at h1;exact h1.2
   exact⟨key a h1.1 h2.1,key b h1.2 h2.2⟩
  omega
 omega
theorem abD (a b:Val):ah pG 129 [a.av,b.av] (bH (rN a b)):=by
 have hf:=wU 2 a b;have hl:=ant (a:=a) (b:=b);refine pv c129 λ F hF=>?_;unfold rN;generalize dq 2 [a,b]=e at *;simp only[Val.av]at hf;simp[A129,hF,Val.av];refine au.pure hf ?_
 by_cases h0:e=0
 ·obtain⟨l1,l2⟩:=hl h0
  by_cases ha:a.kind=0
  ·simp[tN,h0,ha,C6];exact fp
  by_cases hb:b.kind=0
  ·simp[tN,h0,ha,hb,C6];exact fp
  have w:IntKind.i64.wrap (64 - (b.s.length:Int))=64 - (b.s.length:Int):=aY _ (by omega) (by omega)
  by_cases hk:a.s.length+b.s.length<=64
  ·have aif:fH (.str a.s) (.str b.s)=.val (.str (a.s++b.s)):=xy (by unfold big;omega);simp[tN,h0,ha,hb,J1,w,show ¬(64:Int) - b.s.length<a.s.length by omega,YS,hk,aif];exact fp
  simp[tN,h0,ha,hb,J1,w,show (64:Int) - b.s.length<a.s.length by omega,YT,hk];exact fp
 simp[tN,h0,C6];exact fp
def qe (w c:Int):Bool:=if w=0 then decide (c=0)else if w=1 then decide (c≠0)else if w=2 then decide (c<0)else if w=3 then decide (c<=0)else if w=4 then decide (0<c)else decide (0<=c)
theorem Sv {w:Int}(hw:0<=w/\w<=5) (a b:Val):ah pG 132 [iI w,a.av,b.av] (bH (iH a b (qe w (a.ord b)))):=by
 have ha:=rL a;have hb:=rL b;have ho:=Dq a b;have ht:=rj (qe w (a.ord b));generalize a.ord b=c at *;refine pv c132 λ F hF=>?_;unfold iH;simp only[Val.av]at ha hb ho;simp[A132,hF,Val.av];refine au.pure ha ?_
 cases hma:a.may with
 |false=>simp[JW];exact fp
 |true =>
  simp;refine au.pure hb ?_
  cases hmb:b.may with
  |false=>simp[JW];exact fp
  |true =>
   by_cases h1:a.kind=0
   ·simp[yq,h1,JV];exact fp
   by_cases h2:b.kind=0
   ·simp[yq,h1,h2,JV];exact fp
   by_cases h3:a.kind=b.kind
   ·simp[yq,h2,JU,h3,YK];simp only[h3]at ho;refine au.pure (ho hma hmb) ?_;have hw':w=0∨w=1∨w=2∨w=3∨w=4∨w=5:=by omega
    rcases hw' with rfl|rfl|rfl|rfl|rfl|rfl
    ·simp only[qe,if_true]at ht ⊢;simp[rf,YJ,hF];refine au.pure ht ?_;simp[Val.av];exact fp
    ·have e:qe 1 c=decide (c≠0):=by simp[qe]
     rw[e]at ht ⊢;simp at ht;simp[rf,pX,Nh,hF];refine au.pure ht ?_;simp[Val.av];exact fp
    ·have e:qe 2 c=decide (c<0):=by simp[qe]
     rw[e]at ht ⊢;simp[rf,pX,su,Nc,hF];refine au.pure ht ?_;simp[Val.av];exact fp
    ·have e:qe 3 c=decide (c<1):=by simp[qe];omega
     rw[e]at ht ⊢;simp[rf,pX,su,vu,Nb,hF];refine au.pure ht ?_;simp[Val.av];exact fp
    ·have e:qe 4 c=decide (0<c):=by simp[qe]
     rw[e]at ht ⊢;simp[rf,pX,su,vu,C4,Na,hF];refine au.pure ht ?_;simp[Val.av];exact fp
    have e:qe 5 c=decide (-1<c):=by simp[qe];omega
    rw[e]at ht ⊢;simp[rf,pX,su,vu,C4,M_,hF];refine au.pure ht ?_;simp[Val.av];exact fp
   simp[yq,h1,h2,JU,h3,YL];exact fp
def iW (w:Int)(a b:Val):Val×Int:=if dq 1 [a,b]≠0∨a.kind=0∨b.kind=0 then (bG,dq 1 [a,b])else if 3<=w/\b.num=0 then (bG,32)else if cZ (Py w a.num b.num)then (⟨1,Py w a.num b.num,[]⟩,0)else (bG,31)
theorem KU {w:Int}(hw:0<=w/\w<=4){a b:Val}(ha:cZ a.num) (hb:cZ b.num):ah pG 128 [iI w,a.av,b.av] (bH (iW w a b)):=by
 have hf:=wU 1 a b;refine pv c128 λ F hF=>?_;unfold iW;generalize dq 1 [a,b]=e at *;simp only[Val.av]at hf;simp[A128,hF,Val.av];refine au.pure hf ?_
 by_cases h0:e=0
 ·by_cases hak:a.kind=0
  ·simp[tO,h0,hak,C_];exact fp
  by_cases hbk:b.kind=0
  ·simp[tO,h0,hak,hbk,C_];exact fp
  by_cases h3:3<=w/\b.num=0
  ·simp[tO,h0,hak,hbk,C9,hF,h3,show 2<w by omega,YU];exact fp
  obtain⟨n,hp,hn⟩:=Ta hw ha hb (λ h hz=>h3 ⟨h,hz⟩);have tail:(ah pG 163 [iI w,iI a.num,iI b.num] (.aW [iI n,.bool (decide (cZ (Py w a.num b.num)))])):=hp;simp[tO,h0,hak,hbk]
  by_cases hw2:2<w
  ·have hz:¬b.num=0:=λ h=>h3 ⟨by omega,h⟩;simp[C9,hF,hw2,hz,J4];refine au.pure hp ?_
   by_cases hi:cZ (Py w a.num b.num)
   ·simp[yt,hi,J2,hn hi];exact fp
   simp[yt,hi,J3];exact fp
  simp[C9,hF,hw2,J4];refine au.pure hp ?_
  by_cases hi:cZ (Py w a.num b.num)
  ·simp[yt,hi,J2,hn hi,show ¬ 3<=w by omega];exact fp
  simp[yt,hi,J3,show ¬ 3<=w by omega];exact fp
 simp[tO,h0,C_];exact fp
theorem ahH {a:Val}(ha:cZ a.num):ah pG 126 [a.av] (bH (iW 1 sL a)):=by
 have h:=KU (w:=1) (by omega) (a:=sL) (by unfold cZ sL;simp) ha;generalize iW 1 sL a=r at *;refine pv c126 λ F hF=>?_;simp only[sL,Val.av,bH]at h;simp[A126,hF,Val.av];refine au.pure h ?_;simp[bH,Val.av];exact fp
end Go.Abs
namespace Go.Abs
open List
open Go.Proofs
open Classical
set_option maxRecDepth 100000
theorem vH (x:Int):qh x=(x+9223372036854775808) % 18446744073709551616 - 9223372036854775808:=by
 unfold qh;simp[IntKind.wrap,IntKind.signed,IntKind.bits]
 split<;>omega
def Fits (r:Int×Bool)(v:Int):Prop:=r.2=decide (cZ v)/\(cZ v->r.1=v)
section
variable {x y:Int}
theorem acv (hx:cZ x)(hy:cZ y):Fits (FY x y) (x+y):=by
 unfold Fits FY;rw[vH];unfold cZ at *;refine⟨?_,λ h=>by show _ % _ - _=_;omega⟩;rw[Bool.eq_iff_iff]
 by_cases h1:x<0<;>by_cases h2:y<0<;>simp[h1,h2]<;>omega
theorem aaw (hx:cZ x)(hy:cZ y):Fits (DZ x y) (x - y):=by
 unfold Fits DZ;rw[vH];unfold cZ at *;refine⟨?_,λ h=>by show _ % _ - _=_;omega⟩;rw[Bool.eq_iff_iff]
 by_cases h1:x<0<;>by_cases h2:y<0<;>simp[h1,h2]<;>omega
theorem abq (hy:cZ y):Fits (Ez y) (0 - y):=by
 unfold Fits Ez fE;rw[vH];unfold cZ at *;refine⟨?_,λ h=>by show _ % _ - _=_;omega⟩;rw[Bool.eq_iff_iff];simp;omega
theorem Qq (x y:Int):(x.tdiv y).natAbs=x.natAbs / y.natAbs:=Int.natAbs_tdiv x y
theorem LN (hx:cZ x) (hy:cZ y) (h0:y≠0):Fits (BB x y) (x.tdiv y):=by
 unfold Fits BB fE
 by_cases h:x = -9223372036854775808/\y = -1
 ·obtain⟨rfl,rfl⟩:=h;simp[cZ]
 rw[ae h]
 have hi:cZ (x.tdiv y):=by
  have ha:=Qq x y;have hs:=KF x y;have hle:x.natAbs / y.natAbs<=x.natAbs:=Nat.div_le_self _ _
  have hone:y.natAbs=1∨x.natAbs / y.natAbs<=x.natAbs / 2:=by
   by_cases h1:y.natAbs=1
   ·exact .inl h1
   exact .inr (Nat.div_le_div_left (by omega) (by omega))
  unfold cZ at *
  rcases hone with h1|h1
  ·rw[h1,Nat.div_one]at hs;have hy1:y=1∨y = -1:=by omega
   rcases hy1 with rfl|rfl
   ·rw[Int.tdiv_one];exact hx
   rw[hs];unfold fX;split<;>omega
  generalize x.tdiv y=z at *;omega
 exact⟨by simp[hi],λ _=>nN hi⟩
theorem abt (hy:cZ y)(h0:y≠0):Fits (EC x y) (x.tmod y):=by
 unfold Fits EC
 by_cases h:y = -1
 ·subst h;have:x.tmod (-1)=0:=by rw[Int.tmod_neg,Int.tmod_one]
  rw[this];simp[cZ]
 rw[ae h]
 have hi:cZ (x.tmod y):=by
  have hs:=AG x y;have hlt:x.natAbs % y.natAbs<y.natAbs:=Nat.mod_lt _ (by omega);generalize x.natAbs % y.natAbs=r at *;unfold cZ at *;rw[hs];unfold fX;split<;>omega
 exact⟨by simp[hi],λ _=>rfl⟩
theorem aat (hx:cZ x)(hy:cZ y)(h0:y≠0)(h:¬(x=fE/\y = -1)):cZ (x.tdiv y):=by
 have hd:=LN hx hy h0;unfold BB at hd;rw[ae h]at hd;have:=hd.1;exact of_decide_eq_true this.symm
theorem abr (hx:cZ x)(hy:cZ y):Fits (EA x y) (x*y):=by
 unfold Fits EA
 by_cases hz:x=0∨y=0
 ·rw[ak hz];have:x*y=0:=by rcases hz with rfl|rfl<;>simp
  rw[this];simp[cZ]
 rw[ae hz];have hx0:x≠0:=λ h=>hz (.inl h);have hy0:y≠0:=λ h=>hz (.inr h)
 by_cases h:cZ (x*y)
 ·have e1:qh (x*y)=x*y:=nN h;have e2:qh ((x*y).tdiv y)=x:=by rw[Int.mul_tdiv_cancel x hy0];exact nN hx
  rw[e1,e2];refine⟨?_,λ _=>rfl⟩;have s1:¬(x = -1/\y=fE):=by rintro⟨rfl,rfl⟩;revert h;unfold cZ fE;decide
  have s2:¬(y = -1/\x=fE):=by rintro⟨rfl,rfl⟩;revert h;unfold cZ fE;decide
  simp[h];exact⟨Classical.not_and_iff_not_or_not.1 s1,Classical.not_and_iff_not_or_not.1 s2⟩
 refine⟨?_,λ k=>aj k h⟩;rw[decide_eq_false h];have zi:cZ (qh (x*y)):=by rw[vH];unfold cZ;omega
 have hq:=vH (x*y);generalize hm:x*y=m at *;generalize hzz:qh m=z at *
 by_cases hs:z=fE/\y = -1
 ·obtain⟨rfl,rfl⟩:=hs;have:qh (fE.tdiv (-1))=fE:=by decide
  rw[this]
  by_cases hl:fE=x
  ·simp[hl.symm]
  simp[hl]
 have hi:=aat zi hy hy0 hs;have e:qh (z.tdiv y)=z.tdiv y:=nN hi;rw[e]
 by_cases hd:z.tdiv y=x
 ·exfalso;have h1:=Int.mul_tdiv_add_tmod z y;rw[hd,Int.mul_comm,hm]at h1;have h2:=AG z y;have hlt:z.natAbs % y.natAbs<y.natAbs:=Nat.mod_lt _ (by omega);generalize z.natAbs % y.natAbs=r at *
  have h3 : -9223372036854775808<z.tmod y/\z.tmod y<9223372036854775808:=by
   rw[h2];unfold fX;unfold cZ at hy;split<;>omega
  generalize z.tmod y=q at *;unfold cZ at h;omega
 simp[hd]
end
theorem rA {w:Int}{a b:Val}{r:Int×Bool}(hw:w<3)(h:Fits r (Py w a.num b.num)):iD a b r=iW w a b:=by
 unfold iD iW;obtain⟨h1,h2⟩:=h
 split
 ·rfl
 rw[ae (show ¬(3<=w/\b.num=0) by omega)]
 by_cases hi:cZ (Py w a.num b.num)
 ·rw[ak hi,ak (by rw[h1];simp[hi]),h2 hi]
 rw[ae hi,ae (by rw[h1];simp[hi])]
theorem LM {w:Int}{a b:Val}{r:Int×Bool}(hw:3<=w)(h:b.num≠0->Fits r (Py w a.num b.num)):yH a b r=iW w a b:=by
 unfold yH iD iW
 by_cases h0:dq 1 [a,b]≠0∨a.kind=0∨b.kind=0
 ·rw[ak h0,ak h0,ae];rintro⟨k1,k2,k3,_⟩
  rcases h0 with h|h|h
  ·exact h k1
  ·exact k2 h
  exact k3 h
 rw[ae h0,ae h0]
 have hn:dq 1 [a,b]=0/\a.kind≠0/\b.kind≠0:=by
  refine⟨?_,λ h=>h0 (.inr (.inl h)),λ h=>h0 (.inr (.inr h))⟩
  by_cases h1:dq 1 [a,b]=0
  ·exact h1
  exact aj (.inl h1) h0
 by_cases hb:b.num=0
 ·rw[ak ⟨hn.1,hn.2.1,hn.2.2,hb⟩,ak ⟨hw,hb⟩]
 rw[ae (show ¬(dq 1 [a,b]=0/\a.kind≠0/\b.kind≠0/\b.num=0)from λ k=>hb k.2.2.2),ae (show ¬(3<=w/\b.num=0)from λ k=>hb k.2)];obtain⟨h1,h2⟩:=h hb
 by_cases hi:cZ (Py w a.num b.num)
 ·rw[ak hi,ak (by rw[h1];simp[hi]),h2 hi]
 rw[ae hi,ae (by rw[h1];simp[hi])]
end Go.Abs
namespace Go.Abs
open List
open Go.Proofs
open Classical
set_option maxRecDepth 100000
def FJ (h:Hf)(v v':AV):Prop:=∀(φ:Ph)(D:Da)(w:World)(x:Value),Rel φ D h w->VR φ D v x->VR φ (shut φ D h w) v' x
theorem FJ.refl (h:Hf)(v:AV):FJ h v v:=λ _ _ _ _ _ hx=>hx.mono (λ _ _ h=>h) eV
theorem FJ.fn {h:Hf}{g:Fn}{a b b':List AV}(f:cM h b b'):FJ h (.fn g a b) (.fn g a b'):=by
 intro φ D w x hr hx
 cases hx with
 |fn _ _ _ _ _ h1 h2=>exact .fn _ _ _ _ _ (h1.mono (λ _ _ h=>h) eV) ((f.uW hr h2).mono (λ b p hb=>by simp[nR]at hb) (λ _ _ h=>h))
inductive Z' (h:Hf):List AV->List AV->Prop
 |nil:Z' h [] []
 |cons (v v' vs vs'):FJ h v v'->Z' h vs vs'->Z' h (v::vs) (v'::vs')
theorem Z'.at {h:Hf}:∀ {l l':List AV},Z' h l l'->∀(i:Nat) v',l'[i]?=some v'->∃v,l[i]?=some v/\FJ h v v'
 |_,_,.nil,i,v',hv=>by simp at hv
 |_,_,.cons v v2 vs vs' f r,i,v',hv=>by
  cases i with
  |zero=>simp at hv;subst hv;exact⟨v,by simp,f⟩
  |succ i=>simp at hv;simpa using r.at i v' hv
theorem Z'.refl (h:Hf):∀l:List AV,Z' h l l
 |[]=>.nil
 |v::l=>.cons _ _ _ _ (FJ.refl h v) (Z'.refl h l)
def BJ (h:Hf)(y0 y:bz):Prop:=y0=y∨∃u z bs t l,y0=.cells u z bs t/\y=.cells u [] l .nil/\l.length=u/\∀(i:Nat) v',l[i]?=some v'->∃v,gZ u z bs t i=some v/\FJ h v v'
structure Ug (h:Hf)(H H2:Hp):Prop where
 sub:∀b k,h b=some k->H.get b=some k
 gone:∀b,h b≠none->H2.get b=none
 hp:∀b y,H2.get b=some y->∃y0,H.get b=some y0/\BJ h y0 y
section
variable {φ:Ph}{D:Da}{w:World}{n:Nat}
theorem BJ.aco {h:Hf}(hr:Rel φ D h w){y0 y:bz}(hz:BJ h y0 y) {p}(hb:jq φ D w p y0):jq φ (shut φ D h w) w p y:=by
 rcases hz with rfl|⟨u,z,bs,t,l,rfl,rfl,hl,hz⟩
 ·exact hb.mono (λ _ _ h=>h) eV rfl
 obtain⟨c,e,fr,h1,h2,h3,h4,h5,h6⟩:=hb;refine⟨c,e,fr,h1,h2,h3,λ i v hv=>?_,λ _ _=>hl,h6⟩;rw[mP]at hv
 split at hv
 ·obtain⟨v0,h7,h8⟩:=hz i v hv;obtain⟨x,h9,h10⟩:=h4 i v0 h7;exact⟨x,h9,h8 _ _ _ _ hr h10⟩
 cases hv
theorem Ug.rel {h:Hf}{H H2:Hp}(s:Ug h H H2)(hr:Rel φ D H.get w):Rel φ (shut φ D h w) H2.get w:=by
 have hs:=hr.sub s.sub
 have ne:∀b,H2.get b≠none->H.get b≠none:=λ b hb=>by
  cases hx:H2.get b with
  |none=>exact aj hx hb
  |some k=>obtain⟨y0,h0,_⟩:=s.hp b k hx;rw[h0];simp
 have neh:∀b,h b≠none->H.get b≠none:=λ b hb=>by
  cases hx:h b with
  |none=>exact aj hx hb
  |some k=>rw[s.sub b k hx];simp
 refine⟨λ b k hb=>?_,λ b c p q hb hc=>hr.inj b c p q (ne b hb) (ne c hc),λ b p hb hp=>?_,mA hr.eQ⟩
 ·obtain⟨y0,h0,hz⟩:=s.hp b k hb;obtain⟨p,hp,hl,hk⟩:=hr.blk b y0 h0;exact⟨p,hp,hl,hz.aco hs hk⟩
 refine o8 (hr.sep b p (ne b hb) hp) λ b' p' h1 h2 h3=>?_;have:=hr.inj b' b p' p (neh b' h1) (ne b hb) h2 hp h3;subst this;exact hb (s.gone b' h1)
theorem Ug.ext {h:Hf}{H H2:Hp}(s:Ug h H H2):Ext φ D H.get w n φ (shut φ D h w) H2.get w n:=by
 have ne:∀b,H2.get b≠none->H.get b≠none:=λ b hb=>by
  cases hx:H2.get b with
  |none=>exact aj hx hb
  |some k=>obtain⟨y0,h0,_⟩:=s.hp b k hx;rw[h0];simp
 have neh:∀b,h b≠none->H.get b≠none:=λ b hb=>by
  cases hx:h b with
  |none=>exact aj hx hb
  |some k=>rw[s.sub b k hx];simp
 refine⟨aM _,λ _ _ h=>h,λ b a c=>aj a c,eV,aM _,λ _ _ _=>rfl,λ b p hb hp=>.inr ⟨b,p,ne b hb,hp,rfl⟩,λ c hc=>?_,λ b hb=>.inl (ne b hb),rfl,rfl⟩
 rcases vT hc with h1|⟨b,p,h1,h2,h3⟩
 ·exact .inl h1
 exact .inr (.inr ⟨b,p,neh b h1,h2,h3⟩)
end
theorem ar.zs {P:Program}{g:FuncId}{args:List AV}{H:Hp}{n:Nat}{R R2:AV->Hp->Nat->Prop}(h:ar P g args H n R)(hs:∀v K k,R v K k->∃hh K2 v2,Ug hh K K2/\FJ hh v v2/\R2 v2 K2 k):ar P g args H n R2:=
 ⟨h.1,λ φ D w xs a b c RR hR=>h.2 φ D w xs a b c RR λ v K k φ' D' w' x r e rel hx=>by
  obtain⟨hh,K2,v2,sh,fi,r2⟩:=hs v K k r;exact hR v2 K2 k φ' (Go.Abs.shut φ' D' hh w') w' x r2 (e.trans sh.ext) (sh.rel rel) (fi _ _ _ _ (rel.sub sh.sub) hx)⟩
end Go.Abs
namespace Go.Abs
open List
open Go.Proofs
open Classical
set_option maxRecDepth 100000
def bU {α:Type}(f:α->List AV):List α->List AV
 |[]=>[]
 |a::r=>f a++bU f r
section
variable {α:Type}{f:α->List AV}{k:Nat}
theorem jb (hk:∀a,(f a).length=k)(l:List α):(bU f l).length=l.length*k:=by
 induction l with
 |nil=>simp[bU]
 |cons a r ih=>simp[bU,hk,ih,Nat.add_mul];omega
theorem oD (hk:∀a,(f a).length=k){l:List α}{i:Nat}(h:i<l.length):(bU f l).drop (i*k)=f l[i]++bU f (l.drop (i+1)):=by
 induction l generalizing i with
 |nil=>simp at h
 |cons e r ih =>
  cases i with
  |zero=>simp[bU]
  |succ i =>
   have:(i+1)*k=(f e).length+i*k:=by rw[hk,Nat.add_mul];omega
   rw[bU,this,<-drop_drop,drop_left' rfl];simpa using ih (i:=i) (by simpa using h)
theorem E4 (hk:∀a,(f a).length=k)(l:List α)(i:Nat):(bU f l).take (i*k)=bU f (l.take i):=by
 induction l generalizing i with
 |nil=>simp[bU]
 |cons e r ih =>
  cases i with
  |zero=>simp[bU]
  |succ i =>
   have:(i+1)*k=(f e).length+i*k:=by rw[hk,Nat.add_mul];omega
   rw[bU,this,List.take_length_add_append,ih];simp[bU]
theorem ei (l m:List α):bU f (l++m)=bU f l++bU f m:=by
 induction l with
 |nil=>rfl
 |cons a r ih=>simp[bU,ih]
theorem air (hk:∀a,(f a).length=k){l:List α}{i:Nat}(h:i<l.length):((bU f l).drop (i*k)).take k=f l[i]:=by
 rw[oD hk h,take_left' (hk _)]
theorem u9 (hk:∀a,(f a).length=k){l:List α}{i:Nat}(h:i<l.length)(a:α):(bU f l).take (i*k)++f a++(bU f l).drop (i*k+k)=bU f (l.set i a):=by
 rw[E4 hk,show i*k+k=(i+1)*k by rw[Nat.add_mul];omega]
 have e:(bU f l).drop ((i+1)*k)=bU f (l.drop (i+1)):=by
  have:=oD hk h;rw[show (i+1)*k=i*k+k by rw[Nat.add_mul];omega,<-drop_drop,this,drop_left' (hk _)]
 rw[e,set_eq_take_append_cons_drop,ak h,ei,bU,append_assoc]
end
theorem LD {α:Type}{f:α->List AV}(h:∀a,aX (f a)=true)(l:List α):aX (bU f l)=true:=by
 induction l with
 |nil=>rfl
 |cons a r ih=>simp[bU,h,ih]
theorem OwnB.stN {u:Nat}{z bs:List AV}{t:Ov AV}{l:List AV}(h:OwnB (.cells u z bs t) l){o:Nat}{vs:List AV}(hv:vs≠[]) (hi:o+vs.length<=l.length):OwnB (nK u z bs t vs o) (l.take o++vs++l.drop (o+vs.length)):=by
 obtain⟨u',z',bs',t',e,hu,hg,hl⟩:=h;injection e with e1 e2 e3 e4;subst e1 e2 e3 e4;have hlen:(l.take o++vs++l.drop (o+vs.length)).length=u:=by simp;omega
 have hat:∀j,(l.take o++vs++l.drop (o+vs.length))[j]?=if o<=j/\j<o+vs.length then vs[j - o]? else l[j]?:=by
  intro j;rw[List.getElem?_append,List.getElem?_append,length_append,length_take,Nat.min_eq_left (by omega)]
  by_cases h1:j<o
  ·rw[ak (by omega),ak h1,ae (by omega),getElem?_take,ak h1]
  by_cases h2:j<o+vs.length
  ·rw[ak h2,ae h1,ak (by omega)]
  rw[ae h2,ae (by omega),js]
  congr 1
  omega
 have key:∀t2,(∀j,t2.get j=if o<=j/\j<o+vs.length then vs[j - o]? else t.get j)->t2≠.nil->OwnB (.cells u z bs t2) (l.take o++vs++l.drop (o+vs.length)):=by
  intro t2 h2 hne;refine⟨u,z,bs,t2,rfl,hlen.symm,λ j=>?_,λ e=>aj e hne⟩;have hj:=hg j;rw[cQ]at hj ⊢;rw[hat,h2]
  by_cases e:o<=j/\j<o+vs.length
  ·rw[ak (by omega),ak e,ak e];rw[dU (by omega)]
  rw[ae e,ae e]
  by_cases hju:j<u
  ·rw[ak hju]at hj ⊢;exact hj
  rw[ae hju]at hj ⊢;exact hj
 have hput:∀t:Ov AV,(Ov.bW vs o t)≠.nil:=by
  intro t e;have:=Ov.bR vs o t o;have h0:0<vs.length:=length_pos_iff.2 hv;rw[e,ak (by omega)]at this;simp at this;exact aj this hv
 have wL:OwnB (.cells u z bs (Ov.bW vs o t)) (l.take o++vs++l.drop (o+vs.length)):=key _ (λ j=>Ov.bR vs o t j) (hput t);unfold nK
 split
 ·split
  ·split
   ·split
    ·rename_i bs' hp;obtain⟨p1,_,p3⟩:=jB hp
     have:bs'=l.take o++vs++l.drop (o+vs.length):=by
      apply ext_getElem?;intro j;rw[p3,hat];have hj:=hg j;rw[k_]at hj
      split
      ·rfl
      rw[<-hj];have hb:=hl rfl rfl
      split
      ·rfl
      rw[getElem?_eq_none (by omega)]
     rw[this];exact .list hlen.symm
    exact wL
   exact wL
  exact wL
 ·exact wL
 exact wL
theorem aaY {H:Hp}{b o c:Nat}{k:bz}{L:List AV}(hb:H.get b=some k)(ho:OwnB k L)(hi:o+c<=L.length):df c (.ptr b o) H=.val (.agg ((L.drop o).take c) c):=by
 obtain⟨u,z,bs,t,rfl,hg⟩:=ho.ju hi;simp[hb,hg,lE]
theorem Ba {H:Hp}{b o c:Nat}{k:bz}{L:List AV}{v:AV}(hb:H.get b=some k)(ho:OwnB k L)(hc:v.len=c)(hc2:v.cells.length=c)(hc0:0<c)(h1:aX v.cells=true)(hi:o+c<=L.length):∃y,jL c (.ptr b o) v H=.upd (.aW []) b y/\OwnB y (L.take o++v.cells++L.drop (o+c)):=by
 have ho':=ho;obtain⟨u,z,bs,t,rfl,h3,h4,_⟩:=ho;have:=ho'.stN (o:=o) (vs:=v.cells) (by intro e;rw[e]at hc2;simp at hc2;omega) (by omega);rw[hc2]at this;refine⟨_,?_,this⟩;have hu:o+c<=u:=by omega
 simp[jL,hb,hu,hc,h1]
theorem Lc {H:Hp}{b i c:Nat}{k:bz}{α:Type}{f:α->List AV}{l:List α}(hb:H.get b=some k)(ho:OwnB k (bU f l))(hk:∀a,(f a).length=c)(h:i<l.length):df c (.ptr b (i*c)) H=.val (.agg (f l[i]) c):=by
 rw[aaY hb ho (by rw[jb hk];have:=rB c h;rw[Nat.succ_mul]at this;omega),air hk h]
theorem aaX {H:Hp}{b i c:Nat}{k:bz}{α:Type}{f:α->List AV}{l:List α}(hb:H.get b=some k)(ho:OwnB k (bU f l))(hk:∀a,(f a).length=c)(h1:∀a,aX (f a)=true)(hc0:0<c)(h:i<l.length)(a:α):∃y,jL c (.ptr b (i*c)) (.agg (f a) c) H=.upd (.aW []) b y/\OwnB y (bU f (l.set i a)):=by
 obtain⟨y,h3,h4⟩:=Ba (o:=i*c) (c:=c) (v:=.agg (f a) c) hb ho rfl (hk a) hc0 (h1 a) (by rw[jb hk];have:=rB c h;rw[Nat.succ_mul]at this;omega);refine⟨y,h3,?_⟩;rw[<-u9 hk h];exact h4
theorem Bc {H:Hp}{b i c j:Nat}{k:bz}{α:Type}{f:α->List AV}{l:List α}{v:AV}(hb:H.get b=some k)(ho:OwnB k (bU f l))(hk:∀a,(f a).length=c)(h:i<l.length)(hj:(f l[i])[j]?=some v):eE (.ptr b (i*c+j)) H=.val v:=by
 have hjl:j<(f l[i]).length:=(nS.1 hj).1;rw[hk]at hjl;refine La hb ho ?_;rw[<-js,oD hk h,getElem?_append_left (by rw[hk];exact hjl)];exact hj
end Go.Abs
namespace Go.Abs
open List
open Go.Proofs
open Classical
set_option maxRecDepth 100000
structure fJ where
 page:Int
 rows:List (List Val)
 nil:Bool
 at_:Nat
 fv:AV
 p:List Val->Bool
def fJ.rv (l:fJ):AV:=if l.nil then cB else bV l.rows
def fJ.cells (l:fJ):List AV:=[.int .u32 l.page,l.rv,iI (l.at_:Int),l.fv]
structure fJ.aO (l:fJ):Prop where
 n:l.nil=true->l.rows=[]
 len:l.rows.length<=bm
 row:∀r∈l.rows,r.length<=bm
 at_:l.at_<=l.rows.length
 pf:Pure l.fv
 o1:l.fv.one=true
 fn:l.rows≠[]->∃f cap,l.fv=.fn (.func f) [] cap/\∀r∈l.rows,ah pG f (ai r::cap) (.bool (l.p r))
structure jR where
 b:Nat
 eL:Option fJ
 row:Option (List Val)
 page:Int
 slot:Int
 there:Bool
def mL (o:Option fJ)(b:Nat):AV:=match o with|none=>.aI .nilIface|some _=>.fO 260 (.ptr b 0)
def jT (r:Option (List Val)):AV:=match r with|none=>cB|some r=>ai r
def jR.cells (c:jR):List AV:=[mL c.eL c.b,jT c.row,.int .u32 c.page,iI c.slot,.bool c.there]
@[simp] theorem jR.aE (c:jR):c.cells.length=5:=rfl
structure jR.aO (c:jR):Prop where
 l:∀l,c.eL=some l->l.aO
 r:∀r,c.row=some r->r.length<=bm
structure Tk where
 page:Int
 slot:Int
 new:List Val
def Tk.cells (t:Tk):List AV:=[.int .u32 t.page,iI t.slot,ai t.new]
@[simp] theorem Tk.aE (t:Tk):t.cells.length=3:=rfl
structure MS where
 c:aU
 w:er
 at_:Int
 aA:List Val
 aD:List jR
 steps:Nat
 ended:Bool
 full:Bool
 least:Int
 rows:List (List Val)
 takes:List Tk
def MS.mc (s:MS)(rb cb:Nat)(rv tv:AV):List AV:=[iI s.c.aA,iI s.c.cur,.ds (ew s.c.l) s.c.l.length 15,.fO 71 (bw.av s.w),iI s.at_,.sl rb 0 s.aA.length 3,.sl cb 0 s.aD.length 5,iI (s.steps:Int),.bool s.ended,.bool s.full,iI s.least,rv,tv]
def yC (v:AV)(l:List AV):List (Nat×List AV):=match v with|.sl b _ _ _=>[(b,l)]|_=>[]
def GN (cs:List jR):List (Nat×List AV):=cs.filterMap λ c=>c.eL.map λ l=>(c.b,l.cells)
def MS.told (s:MS)(p rb cb:Nat)(rv tv:AV):List (Nat×List AV):=(p,s.mc rb cb rv tv)::(rb,bU Val.cells s.aA)::(cb,bU jR.cells s.aD)::(yC rv (bn s.rows)++(yC tv (bU Tk.cells s.takes)++GN s.aD))
def uF (v:AV)(len sz:Nat):Prop:=(v=cB/\len=0)∨∃b,v=.sl b 0 len sz
structure MS.aO (s:MS):Prop where
 ok:s.c.chk=0
 eC:(s.aA.length:Int)=s.c.aA
 cur:(s.aD.length:Int)=s.c.cur
 w:s.w.aO
 steps:s.steps<1000000000
 cs:∀c∈s.aD,c.aO
 at_:0<=s.at_/\s.at_<=s.c.l.length
 end_:s.ended=false->s.at_<s.c.l.length
 rows:s.rows.length+s.takes.length<=4096
 rl:∀r∈s.rows,r.length<=bm
 tl:∀t∈s.takes,t.new.length<=bm
structure Lay (n:Nat)(p rb cb:Nat)(rv tv:AV)(s:MS):Prop where
 nd:((s.told p rb cb rv tv).map (·.1)).Nodup
 lt:∀e∈s.told p rb cb rv tv,e.1<n
 rv:uF rv s.rows.length 1
 tv:uF tv s.takes.length 3
structure cy (H:Hp)(n:Nat)(p rb cb:Nat)(rv tv:AV)(s:MS):Prop where
 lay:Lay n p rb cb rv tv s
 told:∀e∈s.told p rb cb rv tv,H.get e.1=some (.cells e.2.length [] e.2 .nil)
 aO:s.aO
def MS.fp (s:MS)(p rb cb:Nat)(rv tv:AV):List Nat:=(s.told p rb cb rv tv).map (·.1)
theorem cy.frame {H H':Hp}{n n' p rb cb:Nat}{rv tv:AV}{s:MS}(M:cy H n p rb cb rv tv s)(hn:n<=n')(h:∀b∈s.fp p rb cb rv tv,H'.get b=H.get b):cy H' n' p rb cb rv tv s:=
 ⟨⟨M.lay.nd,λ e he=>Nat.lt_of_lt_of_le (M.lay.lt e he) hn,M.lay.rv,M.lay.tv⟩,λ e he=>(h e.1 (iJ he)).trans (M.told e he),M.aO⟩
theorem acO {n:Nat}{o:Option fJ}{b:Nat}(h:∀l,o=some l->b<n):jQ n (mL o b):=by
 unfold mL
 cases o with
 |none=>simp
 |some l=>simpa using h l rfl
theorem dV {v:AV}{b:Nat}(h:blk v=some b)(l:List AV):(b,l)∈yC v l:=by
 unfold blk at h
 split at h
 ·injection h with h;subst h;simp[yC]
 cases h
theorem uF.lC {v:AV}{len sz n:Nat}(h:uF v len sz)(hb:∀b,blk v=some b->b<n):jQ n v:=by
 rcases h with⟨rfl,_⟩|⟨b,rfl⟩
 ·simp
 simpa using hb b rfl
theorem uF.len {v:AV}{len sz:Nat}(h:uF v len sz):bu v=.val (iI (len:Int)):=by
 rcases h with⟨rfl,rfl⟩|⟨b,rfl⟩<;>simp
theorem rq {α:Type}{f:α->List AV}{n:Nat}{l:List α}(h:∀a∈l,eg n (f a)):eg n (bU f l):=by
 induction l with
 |nil=>simp[bU]
 |cons a r ih =>
  refine eg.of λ v hv=>?_;simp only[bU,mem_append]at hv
  rcases hv with hv|hv
  ·exact(h a (by simp)).mem v hv
  exact(ih λ a ha=>h a (by simp[ha])).mem v hv
theorem Lay.lC {n p rb cb:Nat}{rv tv:AV}{s:MS}(L:Lay n p rb cb rv tv s) (hf:s.aO):∀e∈s.told p rb cb rv tv,eg n e.2:=by
 have hlt:=L.lt;have pD:=L.rv;have htv:=L.tv;intro e he;simp only[MS.told,mem_cons,mem_append]at he hlt
 rcases he with rfl|rfl|rfl|he|he|he
 ·have h1:=hlt (p,_) (.inl rfl);have h2:=hlt (rb,_) (.inr (.inl rfl));have h3:=hlt (cb,_) (.inr (.inr (.inl rfl)));have h4:jQ n rv:=pD.lC λ b hb=>hlt (b,_) (.inr (.inr (.inr (.inl (dV hb _)))));have h5:jQ n tv:=htv.lC λ b hb=>hlt (b,_) (.inr (.inr (.inr (.inr (.inl (dV hb _))))));have h6:eg n (ew s.c.l):=aT.lC (pC _);have h7:jQ n (bw.av s.w):=Pure.lC (by simp);simp only at h2 h3;simp[MS.mc,h2,h3,h4,h5,h6,h7]
 ·refine rq λ a _=>?_;simp[Val.cells]
 ·refine rq λ a ha=>?_
  have hb:jQ n (mL a.eL a.b):=acO λ l hl=>hlt (a.b,l.cells) (.inr (.inr (.inr (.inr (.inr (by
   unfold GN;rw[List.mem_filterMap];exact⟨a,ha,by simp[hl]⟩))))))
  have hr:jQ n (jT a.row):=by
   unfold jT
   split
   ·simp
   exact Pure.lC (by simp)
  simp[jR.cells,hb,hr]
 ·cases rv<;>simp[yC]at he
  subst he;refine eg.of λ v hv=>?_;simp only[bn,mem_map]at hv;obtain⟨r,_,rfl⟩:=hv;exact Pure.lC (by simp)
 ·cases tv<;>simp[yC]at he
  subst he;refine rq λ a _=>?_;have:jQ n (ai a.new):=Pure.lC (by simp);simp[Tk.cells,this]
 unfold GN at he;rw[List.mem_filterMap]at he;obtain⟨c,hc,he⟩:=he
 cases hl:c.eL with
 |none=>simp[hl]at he
 |some l =>
  simp[hl]at he;subst he;have hfn:=(hf.cs c hc).l l hl;have h1:jQ n l.fv:=Pure.lC hfn.pf
  have h2:jQ n l.rv:=by
   unfold fJ.rv
   split
   ·simp
   exact Pure.lC (by rw[<-BA];simp)
  simp[fJ.cells,h1,h2]
def ep (K:Hp)(L:List (Nat×List AV)):Prop:=∀e∈L,∃y,K.get e.1=some y/\OwnB y e.2
theorem okM {f:FuncId}{args:List AV}{n n' p rb cb:Nat}{rv tv rv' tv':AV}{s s':MS}{v0:AV}{H:Hp}(M:cy H n p rb cb rv tv s)(hn:n<=n')(ha:eg n args)(L':Lay n' p rb cb rv' tv' s')(hf':s'.aO)
  (eZ:∀b∈s'.fp p rb cb rv' tv',b∈s.fp p rb cb rv tv∨n<=b)
  (h:∀S,gJ S n->cy S n p rb cb rv tv s->ar pG f args S n (λ u K k=>u=v0/\ep K (s'.told p rb cb rv' tv')/\k<=n')):
  ∃H',bO pG f args H n v0 H' n'/\cy H' n' p rb cb rv' tv' s'/\(∀b,b<n->b∉s.fp p rb cb rv tv->H'.get b=H.get b)/\(gJ H n->gJ H' n'):=by
 have hfp:∀b∈s.fp p rb cb rv tv,∃e∈s.told p rb cb rv tv,e.1=b:=λ b hb=>by
  obtain⟨e,h1,h2⟩:=mem_map.1 hb;exact⟨e,h1,h2⟩
 have hlt:∀b∈s.fp p rb cb rv tv,b<n:=λ b hb=>by
  obtain⟨e,h1,rfl⟩:=hfp b hb;exact M.lay.lt e h1
 obtain⟨H',h1,h2,h3⟩:=ar.okL (H:=H) (n:=n) (n':=n') (v0:=v0) (s.fp p rb cb rv tv) (s'.told p rb cb rv' tv') ha hlt (λ b hb=>by
   obtain⟨e,h1,rfl⟩:=hfp b hb;rw[M.told e h1];simp) (λ b hb k hk=>by
   obtain⟨e,h1,rfl⟩:=hfp b hb;rw[M.told e h1]at hk;injection hk with hk;subst hk;exact kN (M.lay.lC M.aO e h1)) hn L'.nd (λ e he=>by
   rcases eZ e.1 (iJ he)with h1|h1
   ·exact .inl h1
   exact .inr ⟨h1,L'.lt e he⟩) (h _ (mF hlt) (M.frame (aM _) λ b hb=>lN hb))
 exact⟨H',h1,⟨L',h2,hf'⟩,λ b hb hb2=>h3 b hb2 (.inl hb),λ ht b hb=>(h3 b (λ hm=>by have:=hlt b hm;omega) (.inr hb)).trans (ht b (by omega))⟩
end Go.Abs
namespace Go.Abs
open List
open Go.Proofs
open Classical
set_option maxRecDepth 100000
section
variable {H S K:Hp}{n p rb cb:Nat}{rv tv:AV}{s s':MS}
theorem cy.gp (M:cy H n p rb cb rv tv s):H.get p=cl 13 (s.mc rb cb rv tv):=M.told (p,s.mc rb cb rv tv) (by simp[MS.told])
theorem cy.gr (M:cy H n p rb cb rv tv s):∃y,H.get rb=some y/\OwnB y (bU Val.cells s.aA):=⟨_,M.told (rb,_) (by simp[MS.told]),OwnB.list rfl⟩
theorem cy.gc (M:cy H n p rb cb rv tv s):∃y,H.get cb=some y/\OwnB y (bU jR.cells s.aD):=⟨_,M.told (cb,_) (by simp[MS.told]),OwnB.list rfl⟩
theorem cy.lt (M:cy H n p rb cb rv tv s):p<n/\rb<n/\cb<n:=⟨M.lay.lt (p,s.mc rb cb rv tv) (by simp[MS.told]),M.lay.lt (rb,bU Val.cells s.aA) (by simp[MS.told]),M.lay.lt (cb,bU jR.cells s.aD) (by simp[MS.told])⟩
theorem cy.ne (M:cy H n p rb cb rv tv s):p≠rb/\p≠cb/\rb≠cb:=by
 have:=M.lay.nd;simp only[MS.told,map_cons,nodup_cons,mem_cons,not_or]at this;exact⟨this.1.1,this.1.2.1,this.2.1.1⟩
theorem cy.my (M:cy S n p rb cb rv tv s)(e1:s'.rows=s.rows)(e2:s'.takes=s.takes)(e3:s'.aD=s.aD)(hp:K.get p=cl 13 (s'.mc rb cb rv tv))(hr:∃y,K.get rb=some y/\OwnB y (bU Val.cells s'.aA))
  (hk:∀b,b<n->b≠p->b≠rb->K.get b=S.get b):ep K (s'.told p rb cb rv tv):=by
 have hnd:=M.lay.nd;have hlt:=M.lay.lt;have htl:=M.told;simp only[MS.told,map_cons,nodup_cons,mem_cons,not_or]at hnd hlt htl;intro e he;simp only[MS.told,e1,e2,e3,mem_cons]at he
 rcases he with rfl|rfl|he
 ·exact⟨_,hp,OwnB.list rfl⟩
 ·exact hr
 have h1:=hlt e (.inr (.inr he));have h2:=htl e (.inr (.inr he))
 have h3:e.1∈cb::(yC rv (bn s.rows)++(yC tv (bU Tk.cells s.takes)++GN s.aD)).map (·.1):=by
  rcases he with rfl|he
  ·simp
  exact mem_cons_of_mem _ (iJ he)
 have h4:e.1≠p:=by
  rintro rfl
  rcases mem_cons.1 h3 with h|h
  ·exact hnd.1.2.1 h
  exact hnd.1.2.2 h
 have h5:e.1≠rb:=by
  rintro rfl
  rcases mem_cons.1 h3 with h|h
  ·exact hnd.2.1.1 h
  exact hnd.2.1.2 h
 exact⟨_,(hk e.1 h1 h4 h5).trans h2,OwnB.list rfl⟩
end
theorem stR {i c b:Nat}{k:bz}{α:Type}{f:α->List AV}{l:List α}(ho:OwnB k (bU f l))(hk:∀a,(f a).length=c)(h1:∀a,aX (f a)=true)(hc0:0<c)(h:i<l.length)(a:α):∃y,stE c (.agg (f a) c) (some k) b (i*c)=.upd (.aW []) b y/\OwnB y (bU f (l.set i a)):=by
 obtain⟨y,h3,h4⟩:=aaX (H:=Tr.nil.put b (some k)) (b:=b) (by simp) ho hk h1 hc0 h a;exact⟨y,by simpa using h3,h4⟩
theorem ldR {i c:Nat}{k:bz}{α:Type}{f:α->List AV}{l:List α}(ho:OwnB k (bU f l))(hk:∀a,(f a).length=c)(h:i<l.length):sC (some k) (i*c) c=.val (.agg (f l[i]) c):=by
 have:=Lc (H:=Tr.nil.put 0 (some k)) (b:=0) (i:=i) (by simp) ho hk h;simpa using this
theorem amA {i c j:Nat}{k:bz}{α:Type}{f:α->List AV}{l:List α}{v:AV}(ho:OwnB k (bU f l))(hk:∀a,(f a).length=c)(h:i<l.length)(hj:(f l[i])[j]?=some v):ld1 (some k) (i*c+j)=.val v:=by
 have:=Bc (H:=Tr.nil.put 0 (some k)) (b:=0) (i:=i) (by simp) ho hk h hj;simpa using this
theorem mY (a:Val):aX a.cells=true:=rfl
def yY (j:Int):AV:=.aW [iI j,iI 0]
theorem ab8 {S:Hp}{n p rb cb:Nat}{rv tv:AV}{s:MS}(x:Ins)(i:Nat)(ha:x.a=(i:Int))(hi:i<s.aA.length)(_ht:gJ S n)(M:cy S n p rb cb rv tv s):
  ar pG 52 [.ptr p 0,x.av] S n (λ u K k=>u=yY (-1)/\ep K (({s with aA:=s.aA.set i x.v}:MS).told p rb cb rv tv)/\k<=n+1):=by
 refine ar.of c52 (by simp[A52]) λ F hF=>?_;have gp:=M.gp;obtain⟨y,gr,ho⟩:=M.gr;obtain⟨l1,l2,l3⟩:=M.lt;obtain⟨d1,d2,d3⟩:=M.ne;have hix:=dn (b:=rb) (o:=0) (sz:=3) (k:=.i64) hi;obtain⟨y',hst,ho'⟩:=stR (b:=rb) (c:=3) ho (λ a=>a.aE) mY (by omega) hi x.v;rw[gz]at hix;generalize i*3=o at hix hst;simp only[MS.mc]at gp;simp[A52,hF,Ins.av,Ins.cells,ha];refine bD.of (bh (P:=pG)) ?_;simp only[Val.cells]at hst;simp[ab,hF,gp,cg l1,cg l2,hix,gr,hst,ae7];refine⟨rfl,M.my rfl rfl rfl (by simp[d1,cg l1,gp,MS.mc]) ⟨_,by simp,ho'⟩ λ b h1 h2 h3=>by simp[h3,cg h1]⟩
theorem ahZ {S:Hp}{n p rb cb:Nat}{rv tv:AV}{s:MS}(x:Ins)(_ht:gJ S n)(M:cy S n p rb cb rv tv s):
  ar pG 57 [.ptr p 0,x.av] S n (λ u K k=>u=yY x.j/\ep K (s.told p rb cb rv tv)/\k<=n+1):=by
 refine ar.of c57 (by simp[A57]) λ F hF=>?_;have gp:=M.gp;obtain⟨y,gr,ho⟩:=M.gr;obtain⟨l1,l2,l3⟩:=M.lt;simp only[MS.mc]at gp;simp[A57,hF,Ins.av,Ins.cells];refine⟨rfl,M.my rfl rfl rfl (by simp[cg l1,gp,MS.mc]) ⟨_,by simp[cg l2,gr],ho⟩ λ b h1 h2 h3=>by simp[cg h1]⟩
theorem anL {S:Hp}{n p rb cb:Nat}{rv tv:AV}{s:MS}(x:Ins)(_ht:gJ S n)(M:cy S n p rb cb rv tv s):
  ar pG 58 [.ptr p 0,x.av] S n (λ u K k=>u=yY (-1)/\ep K (({s with ended:=true}:MS).told p rb cb rv tv)/\k<=n+1):=by
 refine ar.of c58 (by simp[A58]) λ F hF=>?_;have gp:=M.gp;obtain⟨y,gr,ho⟩:=M.gr;obtain⟨l1,l2,l3⟩:=M.lt;obtain⟨d1,d2,d3⟩:=M.ne;simp only[MS.mc]at gp;simp[A58,hF,Ins.av,Ins.cells,cg l1,gp];refine⟨rfl,M.my rfl rfl rfl (by simp[MS.mc]) ⟨_,by simp[d1.symm,cg l2,gr],ho⟩ λ b h1 h2 h3=>by simp[h2,cg h1]⟩
def ud (l e:Int):Int:=if l=0∨e<l then e else l
theorem Bn {S:Hp}{n p rb cb:Nat}{rv tv:AV}{s:MS}(e:Int)(_l1:p<n)(gp:S.get p=cl 13 (s.mc rb cb rv tv)):
  ar pG 76 [.ptr p 0,iI e] S n (λ u K k=>u=.aW []/\K.get p=cl 13 (({s with least:=ud s.least e}:MS).mc rb cb rv tv)/\(∀b,b≠p->K.get b=S.get b)/\k=n):=by
 refine ar.of c76 (by simp[A76]) λ F hF=>?_;simp only[MS.mc]at gp
 by_cases h0:s.least=0
 ·simp[A76,hF,gp,h0];refine⟨by simp[MS.mc,ud],λ b h=>by simp[h]⟩
 by_cases h1:e<s.least
 ·simp[A76,hF,gp,h0,h1];refine⟨by simp[MS.mc,ud,h1],λ b h=>by simp[h]⟩
 simp[A76,hF,gp,h0,h1];simp[MS.mc,ud,h1,h0]
end Go.Abs
namespace Go.Abs
open List
open Go.Proofs
open Classical
set_option maxRecDepth 100000
def ij (s:MS)(v:Val)(j:Int):Int×MS:=if v.kind=3/\v.num=1 then (-1,s)else if v.kind=1∨v.kind=2 then (j,{s with least:=ud s.least 30})else (j,s)
theorem aap {S:Hp}{n p rb cb:Nat}{rv tv:AV}{s:MS}(x:Ins) (i:Nat) (ha:x.a=(i:Int)) (hi:i<s.aA.length) (ht:gJ S n) (M:cy S n p rb cb rv tv s):
  ar pG 54 [.ptr p 0,x.av] S n (λ u K k=>u=yY (ij s s.aA[i] x.j).1/\ep K ((ij s s.aA[i] x.j).2.told p rb cb rv tv)/\k<=n+2):=by
 refine ar.of c54 (by simp[A54]) λ F hF=>?_;have DL:=M.gp;have gp:=M.gp;obtain⟨y,gr,ho⟩:=M.gr;obtain⟨l1,l2,l3⟩:=M.lt;obtain⟨d1,d2,d3⟩:=M.ne;have hix:=dn (b:=rb) (o:=0) (sz:=3) (k:=.i64) hi;have hld:=ldR (c:=3) ho (λ a=>a.aE) hi;rw[gz]at hix;generalize i*3=o at hix hld;generalize s.aA[i]=v at hld ⊢;simp only[MS.mc]at gp;simp only[Val.cells]at hld;have tn:=ht.none;simp[A54,hF,Ins.av,Ins.cells,ha];refine bD.of (bh (P:=pG)) ?_;simp[ab,hF,gp,cg l1,cg l2,hix,gr,hld,ae5,ae4,br,bI,tn];unfold ij
 by_cases h3:v.kind=3
 ·by_cases h1:v.num=1
  ·simp[h3,h1,VE,ae3];refine⟨rfl,M.my rfl rfl rfl (by simp[cg l1,gp,MS.mc]) ⟨_,by simp[cg l2,gr],ho⟩ λ b h1 h2 h3=>by simp[cg h1]⟩
  simp[h3,h1,VE,F9,ab];refine⟨rfl,M.my rfl rfl rfl (by simp[cg l1,gp,MS.mc]) ⟨_,by simp[cg l2,gr],ho⟩ λ b h1 h2 h3=>by simp[cg h1]⟩
 by_cases h12:v.kind=1∨v.kind=2
 ·have hkk:(decide (v.kind=1)=true)∨(v.kind≠1/\v.kind=2):=by
   rcases h12 with h|h
   ·exact .inl (by simp[h])
   exact .inr ⟨by omega,h⟩
  rcases h12 with h|h
  ·simp[h,MD,VB,ab,hF];refine au.of (Bn (s:=s) (rb:=rb) (cb:=cb) (rv:=rv) (tv:=tv) 30 (by omega) (by simp[cg l1,DL])) λ u K k ⟨e1,g1,g2,e2⟩=>?_;subst e1 e2;simp[F9,ab,g2,wu l1];refine⟨rfl,M.my rfl rfl rfl g1 ⟨_,by simp[g2,d1.symm,cg l2,gr],ho⟩ λ b h1 h2 h3=>by simp[g2,h2,cg h1]⟩
  simp[h,MD,VD,VB,ab,hF];refine au.of (Bn (s:=s) (rb:=rb) (cb:=cb) (rv:=rv) (tv:=tv) 30 (by omega) (by simp[cg l1,DL])) λ u K k ⟨e1,g1,g2,e2⟩=>?_;subst e1 e2;simp[F9,ab,g2,wu l1];refine⟨rfl,M.my rfl rfl rfl g1 ⟨_,by simp[g2,d1.symm,cg l2,gr],ho⟩ λ b h1 h2 h3=>by simp[g2,h2,cg h1]⟩
 simp[h3,show ¬v.kind=1 from λ e=>h12 (.inl e),show ¬v.kind=2 from λ e=>h12 (.inr e),MD,VD,F9,ab];refine⟨rfl,M.my rfl rfl rfl (by simp[cg l1,gp,MS.mc]) ⟨_,by simp[cg l2,gr],ho⟩ λ b h1 h2 h3=>by simp[cg h1]⟩
def yJ (r:Option (List Val))(k:Nat):Val:=match r with|none=>bG|some r=>r.getD k bG
theorem an4 {S:Hp}{n p rb cb:Nat}{rv tv:AV}{s:MS}(x:Ins)(i q k:Nat)(ha:x.a=(i:Int))(hi:i<s.aA.length)(hb:x.b=(q:Int))(hq:q<s.aD.length)(hc:x.c=(k:Int))(hk:k<1000)(hr:∀r,(s.aD[q]).row=some r->r.length<=bm)(ht:gJ S n)(M:cy S n p rb cb rv tv s):
  ar pG 51 [.ptr p 0,x.av] S n (λ u K k2=>u=yY (-1)/\ep K (({s with aA:=s.aA.set i (yJ (s.aD[q]).row k)}:MS).told p rb cb rv tv)/\k2<=n+3):=by
 refine ar.of c51 (by simp[A51]) λ F hF=>?_;have gp:=M.gp;obtain⟨y,gr,ho⟩:=M.gr;obtain⟨yc,gc,hoc⟩:=M.gc;obtain⟨l1,l2,l3⟩:=M.lt;obtain⟨d1,d2,d3⟩:=M.ne;have hix:=dn (b:=rb) (o:=0) (sz:=3) (k:=.i64) hi;have mM:=dn (b:=cb) (o:=0) (sz:=5) (k:=.i64) hq;have hld:=ldR (c:=5) hoc (λ a=>a.aE) hq;generalize hcv:yJ (s.aD[q]).row k=cv;obtain⟨y',hst,ho'⟩:=stR (b:=rb) (c:=3) ho (λ a=>a.aE) mY (by omega) hi cv;rw[gz]at hix mM;generalize i*3=o at hix hst;generalize q*5=oq at mM hld;generalize s.aD[q]=cu at hld hcv hr;simp only[MS.mc]at gp;simp only[jR.cells]at hld;simp only[Val.cells]at hst;have tn:=ht.none;simp[A51,hF,Ins.av,Ins.cells,ha,hb,hc];refine bD.of (bh (P:=pG)) ?_;have HG:(mL cu.eL cu.b).one=true:=by unfold mL;split<;>rfl
 have HF:(jT cu.row).one=true:=by unfold jT;split<;>rfl
 simp[ab,hF,gp,cg l1,cg l3,mM,gc,hld,br,bI,tn,HG,HF]
 cases hrow:cu.row with
 |none =>
  rw[hrow]at hcv;have:cv=bG:=hcv.symm;subst this;simp only[bG]at hst;simp[MG,jT,ab,show ¬(k:Int)<0 by omega,MF];refine bD.of (bh (P:=pG)) ?_;simp[ab,hF,gp,cg l1,cg l2,hix,gr,hst,ME];refine⟨rfl,M.my rfl rfl rfl (by simp[d1,cg l1,gp,MS.mc]) ⟨_,by simp,ho'⟩ λ b h1 h2 h3=>by simp[h3,cg h1]⟩
 |some r =>
  rw[hrow]at hcv;have hrl:=hr r hrow;unfold bm at hrl
  by_cases hlt:k<r.length
  ·have hxx:=cr (k:=.i64) hlt;have hcv2:cv=r[k]:=by rw[<-hcv];simp[yJ,getD,hlt]
   have hlv:=λ H=>cY cv (eG (r.drop (k+1))) H;rw[<-hcv2]at hxx;simp only[Val.av]at hlv;simp[MG,jT,ai,ab,hlt,ae8,hxx,hlv,MF];refine bD.of (bh (P:=pG)) ?_;simp[ab,hF,gp,cg l1,cg l2,hix,gr,hst,ME];refine⟨rfl,M.my rfl rfl rfl (by simp[d1,cg l1,gp,MS.mc]) ⟨_,by simp,ho'⟩ λ b h1 h2 h3=>by simp[h3,cg h1]⟩
  have:cv=bG:=by rw[<-hcv];simp[yJ,getD,hlt]
  subst this;simp only[bG]at hst;simp[MG,jT,ai,ab,hlt,MF];refine bD.of (bh (P:=pG)) ?_;simp[ab,hF,gp,cg l1,cg l2,hix,gr,hst,ME];refine⟨rfl,M.my rfl rfl rfl (by simp[d1,cg l1,gp,MS.mc]) ⟨_,by simp,ho'⟩ λ b h1 h2 h3=>by simp[h3,cg h1]⟩
def hJ (s:MS)(i:Nat)(j:Int)(r:Val×Int):Int×MS:=if r.2≠0 then (j,{s with least:=ud s.least r.2})else (-1,{s with aA:=s.aA.set i r.1})
def exV (v:Val):List AV:=[iI 1,iI v.kind,iI v.num,.str v.s,.str [],.str [],iI 0,.aI (.slice none 0 0)]
theorem ajb (v:Val):Ex.dC [cE v]=(cE v).cells:=by simp[Ex.dC]
theorem cells2 (v w:Val):Ex.dC [cE v,cE w]=(cE v).cells++(cE w).cells:=by simp[Ex.dC]
theorem aio (h:Hf)(v:Val):cM h (exV v) (cE v).cells:=by
 unfold cE exV;exact Ex.lD (.nil _)
theorem anl {H:Hp}{b:Nat}{l l':List AV}(h:H.get b=some (.cells 8 [] l .nil))(hl:l.length=8)(f:cM H.get l l'):fW H.get (.sl b 0 1 8) (.ds l' 1 8):=by
 obtain⟨u,z,bs,t,e,hg⟩:=(OwnB.list (l:=l) hl.symm).ju (o:=0) (c:=1*8) (by omega);refine .sl _ _ _ _ _ _ _ _ _ _ (h.trans (by rw[e])) hg ?_;rw[drop_zero,eS (by omega)];exact f
theorem aci {S:Hp}{n p rb cb:Nat}{rv tv:AV}{s:MS}(x:Ins)(i q:Nat)(ha:x.a=(i:Int))(hi:i<s.aA.length)(hb:x.b=(q:Int))(hq:q<s.aA.length)(hx:4<=x.ex/\x.ex<8)(ht:gJ S n)(M:cy S n p rb cb rv tv s):
  ar pG 53 [.ptr p 0,x.av] S n (λ u K k2=>u=yY (hJ s i x.j (gi x.ex [s.aA[q]])).1/\ep K ((hJ s i x.j (gi x.ex [s.aA[q]])).2.told p rb cb rv tv)/\k2<=n+10):=by
 refine ar.of c53 (by simp[A53]) λ F hF=>?_;have DL:=M.gp;have gp:=M.gp;obtain⟨y,gr,ho⟩:=M.gr;obtain⟨l1,l2,l3⟩:=M.lt;obtain⟨d1,d2,d3⟩:=M.ne;have hix:=dn (b:=rb) (o:=0) (sz:=3) (k:=.i64) hi;have mM:=dn (b:=rb) (o:=0) (sz:=3) (k:=.i64) hq;have hld:=ldR (c:=3) ho (λ a=>a.aE) hq;rw[gz]at hix mM;generalize q*3=oq at mM hld;generalize s.aA[q]=v at hld ⊢;have hev:=Tc (op:=x.ex) (l:=[v]) (.inl ⟨rfl,by omega,by omega⟩);generalize hr:gi x.ex [v]=r at hev ⊢;have hst:∃y',stE 3 r.1.av (some y) rb (i*3)=.upd (.aW []) rb y'/\OwnB y' (bU Val.cells (s.aA.set i r.1)):=stR (b:=rb) (c:=3) ho (λ a=>a.aE) mY (by omega) hi r.1;obtain⟨y',hst,ho'⟩:=hst;generalize i*3=o at hix hst;simp only[MS.mc]at gp;simp only[Val.cells]at hld;simp only[Val.av]at hst;have tn:=ht.none;simp[A53,hF,Ins.av,Ins.cells,ha,hb];refine bD.of (bh (P:=pG)) ?_;simp[ab,hF,gp,cg l1,cg l2,mM,gr,hld,br,bI,tn,VL,show ¬ 8<=x.ex by omega,VK];refine au.lD hev (by simp[bH,Val.av]) ?_ ?_
 ·exact .cons _ _ _ _ (.agg _ _ _ (Ex.lD (op:=x.ex) (v:=bG) (t:=[]) (m:=[]) (qw:=0) (args:=[cE v]) (anl (l:=exV v) (by simp[exV]) rfl (by rw[ajb];exact aio _ v)))) (.cons _ _ _ _ fp .nil)
 simp[bH,Val.av,VJ];unfold hJ
 by_cases h0:r.2=0
 ·simp[h0,VG];refine bD.of (bh (P:=pG)) ?_;simp[ab,hF,gp,cg l1,cg l2,hix,gr,hst,VF];refine⟨rfl,M.my rfl rfl rfl (by simp[d1,cg l1,gp,MS.mc]) ⟨_,by simp,ho'⟩ (λ b h1 h2 h3=>by simp[h3,cg h1])⟩
 simp[h0,VI,ab,hF];refine au.of (Bn (s:=s) (rb:=rb) (cb:=cb) (rv:=rv) (tv:=tv) r.2 (by omega) (by simp[cg l1,DL])) λ u K k ⟨e1,g1,g2,e2⟩=>?_;subst e1 e2;simp[VH,ab,g2,wu l1];refine⟨rfl,M.my rfl rfl rfl g1 ⟨_,by simp[g2,d1.symm,cg l2,gr],ho⟩ (λ b h1 h2 h3=>by simp[g2,h2,cg h1])⟩
theorem ach {S:Hp}{n p rb cb:Nat}{rv tv:AV}{s:MS}(x:Ins)(i q:Nat)(ha:x.a=(i:Int))(hi:i<s.aA.length)(hb:x.b=(q:Int))(hq:q<s.aA.length)(k2:Nat)(hc:x.c=(k2:Int))(hk:k2<s.aA.length)(hx:8<=x.ex/\x.ex<=21)(ht:gJ S n)(M:cy S n p rb cb rv tv s):
  ar pG 53 [.ptr p 0,x.av] S n (λ u K k3=>u=yY (hJ s i x.j (gi x.ex [s.aA[q],s.aA[k2]])).1/\ep K ((hJ s i x.j (gi x.ex [s.aA[q],s.aA[k2]])).2.told p rb cb rv tv)/\k3<=n+20):=by
 refine ar.of c53 (by simp[A53]) λ F hF=>?_;have DL:=M.gp;have gp:=M.gp;obtain⟨y,gr,ho⟩:=M.gr;obtain⟨l1,l2,l3⟩:=M.lt;obtain⟨d1,d2,d3⟩:=M.ne;have hix:=dn (b:=rb) (o:=0) (sz:=3) (k:=.i64) hi;have mM:=dn (b:=rb) (o:=0) (sz:=3) (k:=.i64) hq;have hik:=dn (b:=rb) (o:=0) (sz:=3) (k:=.i64) hk;have abM:=ldR (c:=3) ho (λ a=>a.aE) hk;have hld:=ldR (c:=3) ho (λ a=>a.aE) hq;rw[gz]at hix mM hik;generalize q*3=oq at mM hld;generalize k2*3=ok at hik abM;generalize s.aA[q]=v at hld ⊢;generalize s.aA[k2]=v2 at abM ⊢;have hev:=Tc (op:=x.ex) (l:=[v,v2]) (.inr ⟨rfl,by omega,by omega⟩);generalize hr:gi x.ex [v,v2]=r at hev ⊢;have hst:∃y',stE 3 r.1.av (some y) rb (i*3)=.upd (.aW []) rb y'/\OwnB y' (bU Val.cells (s.aA.set i r.1)):=stR (b:=rb) (c:=3) ho (λ a=>a.aE) mY (by omega) hi r.1;obtain⟨y',hst,ho'⟩:=hst;generalize i*3=o at hix hst;simp only[MS.mc]at gp;simp only[Val.cells]at hld abM;simp only[Val.av]at hst;have tn:=ht.none;simp[A53,hF,Ins.av,Ins.cells,ha,hb,hc];refine bD.of (bh (P:=pG)) ?_;simp[ab,hF,gp,cg l1,cg l2,mM,gr,hld,br,bI,tn,VL,show 8<=x.ex by omega,ae6];refine bD.of (bh (P:=pG)) ?_;simp[ab,hF,gp,cg l1,cg l2,hik,gr,abM,br,bI,tn];generalize hK:Tr.put _ (n+1+1+1) _=K0;have k0:K0.get n=some (.cells 15 [] [iI x.op,iI (i:Int),iI (q:Int),iI (k2:Int),iI x.n,iI x.j,iI x.ex,.int .u32 x.id,iI x.lo,iI x.hi,.bool x.iL,.bool x.lJ,iI x.v.kind,iI x.v.num,.str x.v.s] .nil):=by rw[<-hK];simp
 have k1:K0.get (n+1)=some (.cells 8 [] (exV v) .nil):=by rw[<-hK];simp[exV]
 have k2':K0.get (n+1+1)=some (.cells 8 [] [iI x.ex,iI 0,iI 0,.str [],.str [],.str [],iI 0,.sl (n+1) 0 1 8] .nil):=by rw[<-hK];simp
 have k3:K0.get (n+1+1+1)=some (.cells 8 [] (exV v2) .nil):=by rw[<-hK];simp[exV]
 have kb:∀b,b<n->K0.get b=S.get b:=λ b hb=>by rw[<-hK];simp[cg hb]
 clear hK;have os:aC K0 (n+1+1+1+1) (.sl (n+1) 0 1 8) (exV v) 1 8:=⟨rfl,.inr ⟨n+1,_,rfl,by omega,k1,OwnB.list rfl⟩⟩;refine aC.atq (k:=1) (new:=exV v2) os (bM k3) (by simp) rfl (by omega) (by omega) (by unfold big;omega) (by omega) rfl λ K1 o1 g1=>?_;have q0:=(g1 n (by omega) (by simp)).trans k0;have q2:=(g1 (n+1+1) (by omega) (by simp)).trans k2';have qb:∀b,b<n->K1.get b=S.get b:=λ b hb=>(g1 b (by omega) (by simp;omega)).trans (kb b hb);clear k0 k1 k2' k3 kb os g1;simp[q2,VK,ab];refine au.lD hev (by simp[bH,Val.av]) ?_ ?_
 ·have o2:=o1.frame (H':=K1.put (n+1+1) (some (.cells 8 [] [iI x.ex,iI 0,iI 0,.str [],.str [],.str [],iI 0,.sl (n+1+1+1+1) 0 2 8] .nil))) (aM _) λ c hc=>by
   simp at hc;simp[show ¬c=n+1+1 by omega]
  exact .cons _ _ _ _ (.agg _ _ _ (Ex.lD (op:=x.ex) (v:=bG) (t:=[]) (m:=[]) (qw:=0) (args:=[cE v,cE v2]) (o2.lD (by rw[cells2];exact(aio _ v).append (aio _ v2)) (by omega)))) (.cons _ _ _ _ fp .nil)
 have qp:=(qb p l1).trans gp;have qr:=(qb rb l2).trans gr;simp[bH,Val.av,VJ];unfold hJ
 by_cases h0:r.2=0
 ·simp[h0,VG];refine bD.of (bh (P:=pG)) ?_;simp[ab,hF,qp,q0,cg l1,cg l2,hix,qr,hst,VF];refine⟨rfl,M.my rfl rfl rfl (by simp[d1,cg l1,qp,MS.mc]) ⟨_,by simp,ho'⟩ (λ b h1 h2 h3=>by simp[h3,cg h1,qb b h1])⟩
 simp[h0,VI,ab,hF];refine au.of (Bn (s:=s) (rb:=rb) (cb:=cb) (rv:=rv) (tv:=tv) r.2 (by omega) (by simp[cg l1,(qb p l1).trans DL])) λ u K k ⟨e1,g1,g2,e2⟩=>?_;subst e1 e2;simp[VH,ab,g2,wu l1,q0];refine⟨rfl,M.my rfl rfl rfl g1 ⟨_,by simp[g2,d1.symm,cg l2,qr],ho⟩ (λ b h1 h2 h3=>by simp[g2,h2,cg h1,qb b h1])⟩
def iO (c:Int):Ex:=.mk 3 bG [] [] c []
def clE (op:Int)(l:List Int):Ex:=.mk op bG [] [] 0 (l.map iO)
theorem Ax (L:List Val)(i:Nat)(h:i<L.length):ah pG 100 [(iO (i:Int)).av,ai L] (bH (L[i],0)):=by
 have hx:=cr (k:=.i64) h;refine pv c100 λ F hF=>?_;generalize L[i]=v at *;simp[A100,hF,Ex.av,iO,Ex.cells,Ex.dC,ai,hx,cY,Val.av];exact fp
theorem acU {op:Int}{a:Val}(_hop:4<=op/\op<=7)(ha:cZ a.num):Qn op a=if op=4 then iW 1 sL a else if op=5 then uI a else (dM (decide (a.kind=0) == decide (op=6)),0):=by
 unfold Qn
 by_cases h4:op=4
 ·rw[ak h4,ak h4];exact rA (by omega) (by have:=abq ha;simpa[Py,sL]using this)
 rw[ae h4,ae h4]
 by_cases h5:op=5
 ·rw[ak h5,ak h5]
 rw[ae h5,ae h5]
 by_cases h6:op=6
 ·simp[h6]
 simp[h6]
theorem alb (op:Int)(hop:4<=op/\op<=7)(L:List Val)(i:Nat)(h:i<L.length)(hi:cZ L[i].num):ah pG 100 [(clE op [(i:Int)]).av,ai L] (bH (Qn op L[i])):=by
 have hc:=Ax L i h;rw[acU hop hi];generalize L[i]=a at *;have h8:=ix8 (iO (i:Int)).cells 1 (by omega);simp only[Ex.av,iO,Ex.cells,Ex.dC,length_nil]at hc h8;refine eY c100 (by simp) (by simp[bH]) (by simp[A100]) λ F hF=>?_;simp[A100,hF,Ex.av,clE,iO,Ex.cells,Ex.dC,show ¬op=1 by omega,show ¬op=3 by omega,h8,ld8];refine au.pure hc ?_;have e:op=4∨op=5∨op=6∨op=7:=by omega
 rcases e with rfl|rfl|rfl|rfl
 ·have hn:=ahH hi;generalize iW 1 sL a=r at *;simp only[Val.av,bH]at hn;simp[bH,Val.av,tQ,tP,ZD];refine au.pure hn ?_;simp;exact fp
 ·have hn:=ahA a;generalize uI a=r at *;simp only[Val.av,bH]at hn;simp[bH,Val.av,tQ,tP,sy,NI];refine au.pure hn ?_;simp;exact fp
 ·have hq:(a.kind == 0)=decide (a.kind=0):=rfl;have hn:=rj (decide (a.kind=0));simp only[Val.av]at hn;simp[bH,Val.av,tQ,tP,sy,vz];simp only[Dp];generalize decide (a.kind=0)=z at *
  cases z <;>
  ·simp[hq,j7,je];refine au.pure (by simpa using hn) ?_;simp;exact fp
 have hq:(a.kind == 0)=decide (a.kind=0):=rfl;have hn:=rj (!decide (a.kind=0));simp only[Val.av]at hn;simp[bH,Val.av,tQ,tP,sy,vz];simp only[Dp];generalize decide (a.kind=0)=z at *
 cases z <;>
 ·simp[hq,j7,je];refine au.pure (by simpa using hn) ?_;simp;exact fp
def LU (op:Int)(a b:Val):Val×Int:=if op<=12 then iW (op - 8) a b else if op=13 then rN a b else if op=20 then jx false a b else if op=21 then jx true a b else iH a b (qe (op - 14) (a.ord b))
theorem aoI {op:Int}{a b:Val}(hop:8<=op/\op<=21)(ha:cZ a.num)(hb:cZ b.num):biS op a b=LU op a b:=by
 have e:op=8∨op=9∨op=10∨op=11∨op=12∨op=13∨op=14∨op=15∨op=16∨op=17∨op=18∨op=19∨op=20∨op=21:=by omega
 rcases e with rfl|rfl|rfl|rfl|rfl|rfl|rfl|rfl|rfl|rfl|rfl|rfl|rfl|rfl
 ·show iD a b (FY a.num b.num)=iW 0 a b;exact rA (by omega) (acv ha hb)
 ·show iD a b (DZ a.num b.num)=iW 1 a b;exact rA (by omega) (aaw ha hb)
 ·show iD a b (EA a.num b.num)=iW 2 a b;exact rA (by omega) (abr ha hb)
 ·show yH a b (BB a.num b.num)=iW 3 a b;exact LM (by omega) λ h=>LN ha hb h
 ·show yH a b (EC a.num b.num)=iW 4 a b;exact LM (by omega) λ h=>abt hb h
 all_goals simp[biS,LU,qe]
theorem aiB (op:Int)(hop:8<=op/\op<=21)(L:List Val)(i j:Nat)(h:i<L.length)(k:j<L.length)(ha:cZ L[i].num)(hb:cZ L[j].num):ah pG 100 [(clE op [(i:Int),(j:Int)]).av,ai L] (bH (LU op L[i] L[j])):=by
 have hc:=Ax L i h;have hc2:=Ax L j k;generalize L[i]=a at *;generalize L[j]=b at *
 have h8:dG 8 (.ds ((iO (i:Int)).cells++(iO (j:Int)).cells) 2 8) (iI 0)=.val (.dp ((iO (i:Int)).cells++(iO (j:Int)).cells)):=by
  have:=ig (cs:=(iO (i:Int)).cells++(iO (j:Int)).cells) (len:=2) (sz:=8) (i:=0) (k:=.i64) (by omega);simpa using this
 have h9:dG 8 (.ds ((iO (i:Int)).cells++(iO (j:Int)).cells) 2 8) (iI 1)=.val (.dp (iO (j:Int)).cells):=by
  have:=ig (cs:=(iO (i:Int)).cells++(iO (j:Int)).cells) (len:=2) (sz:=8) (i:=1) (k:=.i64) (by omega);simpa using this
 simp only[Ex.av,iO,Ex.cells,Ex.dC,length_nil,cons_append,nil_append]at hc hc2 h8 h9;have hr:∃r,LU op a b=r:=⟨_,rfl⟩;obtain⟨r,hr⟩:=hr;rw[hr];refine eY c100 (by simp) (by simp[bH]) (by simp[A100]) λ F hF=>?_;simp[A100,hF,Ex.av,clE,iO,Ex.cells,Ex.dC,show ¬op=1 by omega,show ¬op=3 by omega,h8,ld8];refine au.pure hc ?_;simp[bH,Val.av,tQ,tP,sy,vz,NH,show ¬op=4 by omega,show ¬op=5 by omega,show ¬op=6 by omega,show ¬op=7 by omega,h9,ld8,hF];refine au.pure hc2 ?_;simp[bH,Val.av,NG,NF]
 by_cases h12:op<=12
 ·have hn:=KU (w:=op - 8) (by omega) ha hb;rw[show iW (op - 8) a b=r by rw[<-hr];simp[LU,h12]]at hn;have w:IntKind.i64.wrap (op - 8)=op - 8:=aY _ (by omega) (by omega);simp only[Val.av,bH]at hn;simp[h12,ND,w];refine au.pure hn ?_;simp;exact fp
 by_cases h13:op=13
 ·have hn:=abD a b;rw[show rN a b=r by rw[<-hr];simp[LU,h13]]at hn;simp only[Val.av,bH]at hn;simp[h13,sx,NC];refine au.pure hn ?_;simp;exact fp
 by_cases h20:op=20
 ·have hn:=ajq a b;rw[show jx false a b=r by rw[<-hr];simp[LU,h20]]at hn;simp only[Val.av,bH]at hn;simp[h20,sx,vw,NB];refine au.pure hn ?_;simp;exact fp
 by_cases h21:op=21
 ·have hn:=al2 a b;rw[show jx true a b=r by rw[<-hr];simp[LU,h21]]at hn;simp only[Val.av,bH]at hn;simp[h21,sx,vw,Dn,NA];refine au.pure hn ?_;simp;exact fp
 have hn:=Sv (w:=op - 14) (by omega) a b;rw[show iH a b (qe (op - 14) (a.ord b))=r by rw[<-hr];simp[LU,h12,h13,h20,h21]]at hn;have w:IntKind.i64.wrap (op - 14)=op - 14:=aY _ (by omega) (by omega);simp only[Val.av,bH]at hn;simp[h12,h13,h20,h21,sx,vw,Dn,Nz,w];refine au.pure hn ?_;simp;exact fp
theorem Pv {α:Type}{f:α->List AV}{k:Nat}(hk:∀a,(f a).length=k)(l:List α)(i:Nat):(bU f l).drop (i*k)=bU f (l.drop i):=by
 by_cases h:i<l.length
 ·rw[oD hk h,lG h,bU]
 rw[drop_eq_nil_of_le (by rw[jb hk];exact rB k (by omega)),drop_eq_nil_of_le (by omega)];rfl
theorem iR (l:List Val):eG l=bU Val.cells l:=by
 induction l with
 |nil=>rfl
 |cons a r ih=>rw[eG,ih];rfl
theorem BM {b len sz i j:Nat}{k:IntKind}(h:i<=j)(h2:j<=len):mf sz (some (.int k (i:Int))) (some (.int k (j:Int))) none (.sl b 0 len sz)=.val (.sl b (i*sz) (j - i) sz):=by
 unfold mf
 have:tu len (some (.int k (i:Int))) (some (.int k (j:Int))) none=some (i,j):=by
  simp[tu,show bnd len (some (.int k (j:Int)))=some j from rfl,show bnd 0 (some (.int k (i:Int)))=some i from rfl,show bnd len none=some len from rfl,h,h2]
 simp only[this];simp[cX]
theorem H5 (r:List Val)(hr:r.length<=bm):ah pG 28 [ai r] (ai r):=by
 have:=rX (z:=[iI 0,iI 0,.str []]) (sz:=3) (eT:=32) c28 (by omega) (by omega) (by omega) (eG r) r.length hr (by simp) (by simp) (by rw[iR];exact LD mY r);exact this
theorem KN {n:Nat}{y:bz}{l:List AV}(ho:OwnB y l)(h:eg n l):yP n y:=by
 obtain⟨u,z,bs,t,rfl,hu,hg,hi⟩:=ho;intro i v hv;rw[hg]at hv;exact h.mem v (mem_of_getElem? hv)
theorem H4 {H:Hp}{n rb i N:Nat}{y:bz}{l:List Val}(hb:rb<n) (hy:H.get rb=some y) (ho:OwnB y (bU Val.cells l)) (h:i+N<=l.length) (hN:N<=bm):bO pG 28 [.sl rb (i*3) N 3] H n (ai ((l.drop i).take N)) H n:=by
 refine ar.okN [rb] (by simpa using hb) (by simpa using hb) (λ c hm k hk=>?_) λ H0 ht eZ=>?_
 ·simp at hm;subst hm;rw[hy]at hk;injection hk with hk;subst hk;exact KN ho (rq λ a _=>by simp[Val.cells])
 have hy0:=(eZ rb (by simp)).trans hy;have hlen:((l.drop i).take N).length=N:=by simp;omega
 have hsc:∀K:Hp,K.get rb=some y->aS K 3 (.sl rb (i*3) N 3)=some (eG ((l.drop i).take N)):=by
  intro K hK;obtain⟨u,z,bs,t,rfl,hg⟩:=ho.ju (o:=i*3) (c:=N*3) (by rw[jb (λ a=>a.aE)];omega);simp only[aS,hK];rw[hg,Pv (λ a=>a.aE),E4 (λ a=>a.aE),iR];rfl
 refine ar.of c28 (by simp[A28]) λ F hF=>?_;simp[A28,hF,j7,je];have ow:aC (H0.put n (cl 0 [])) (n+1) (.sl n 0 0 3) [] 0 3:=⟨by simp,.inr ⟨n,_,rfl,by omega,(Tr.get_put _ _ _ _).trans (ak rfl),OwnB.list rfl⟩⟩;have hs1:=hsc (H0.put n (cl 0 [])) (by simp[show ¬rb=n by omega,hy0]);have hpu:cM (above n H0) (eG ((l.drop i).take N)) (eG ((l.drop i).take N)):=cM.pure (by simp);unfold bm at hN
 rcases Nat.eq_zero_or_pos N with h0|h0
 ·subst h0
  have e2:fP 3 32 (n+1) (.sl n 0 0 3) (.sl rb (i*3) 0 3) (H0.put n (cl 0 []))=.val (.sl n 0 0 3):=by
   unfold Go.Abs.fP;rw[hs1];simp[nP]
  rw[e2];simp[ai,eG];refine⟨?_,λ c hc=>by simp[show ¬c=n by omega]⟩;refine .sl _ _ _ _ 0 [] [] .nil [] _ (by simp[above]) rfl .nil
 refine aC.app (k:=N) (new:=eG ((l.drop i).take N)) ow hs1 (by simp) (by simp[hlen]) (by omega) h0 (by unfold big;omega) (by omega) (by rw[iR];exact LD mY _) λ K1 o1 g1=>?_;rw[gz]at o1 ⊢;simp;refine⟨?_,λ c hc=>(g1 c (by omega) (by simp;omega)).trans (by simp[show ¬c=n by omega])⟩;unfold ai;rw[hlen];obtain⟨h3,⟨h4,_⟩|⟨b,k,h4,h5,h6,h7⟩⟩:=o1
 ·cases h4
 injection h4 with h4;subst h4;obtain⟨u,z,bs,t,rfl,hg⟩:=h7.ju (o:=0) (c:=N*3) (by simp at h3 ⊢;omega);refine .sl _ _ _ _ _ _ _ _ _ _ ?_ hg ?_
 ·unfold above;rw[ak (by omega)];exact h6
 rw[drop_zero,eS (by simp at h3 ⊢;omega)];exact cM.pure (by simp)
def MS.roomy (s:MS):Prop:=s.rows.length+s.takes.length<4096
def MS.e_ (s:MS):MS:={s with full:=true,ended:=true}
theorem AM {S:Hp}{n p rb cb:Nat}{rv tv:AV}{s:MS}(h1:uF rv s.rows.length 1)(h2:uF tv s.takes.length 3)(hl:s.rows.length+s.takes.length<=4096)(gp:S.get p=cl 13 (s.mc rb cb rv tv)):
  ar pG 77 [.ptr p 0] S n (λ u K k=>u=.bool (decide s.roomy)/\K.get p=cl 13 ((if s.roomy then s else s.e_).mc rb cb rv tv)/\(∀b,b≠p->K.get b=S.get b)/\k=n):=by
 refine ar.of c77 (by simp[A77]) λ F hF=>?_;have SE:=gp;simp only[MS.mc]at SE;have e1:=h1.len;have e2:=h2.len;simp[A77];refine bD.of (bh (P:=pG)) ?_;have w1:IntKind.i64.wrap ((s.rows.length:Int)+(s.takes.length:Int))=((s.rows.length+s.takes.length:Nat):Int):=by rw[aY _ (by omega) (by omega)];omega
 have ad:fH (iI (s.rows.length:Int)) (iI (s.takes.length:Int))=.val (iI ((s.rows.length+s.takes.length:Nat):Int)):=by
  simp[fH,w1]
 generalize hn:s.rows.length+s.takes.length=N at *;have hr:s.roomy↔N<4096:=by unfold MS.roomy;rw[hn]
 simp[ab,hF,SE,e1,e2,ad]
 by_cases h:N<4096
 ·simp[h,show (N:Int)<4096 by omega,aei,hr,gp]
 have hb:¬((N:Int)<4096):=by omega
 simp[hb,h,aeh,aeg,hr,ab,hF,SE,MS.e_];refine⟨by simp[MS.mc],λ b h=>by simp[h]⟩
end Go.Abs
