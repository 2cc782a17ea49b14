/- A part. -/
import Derived.Test.YtfdoeenlgkkaiaaGreatBt8
import Derived.Test.YtfdoeenlgkkaiaaGreatBdW
noncomputable section
namespace Go.Abs
open List
open Go.Proofs
open Classical
set_option maxRecDepth 100000
theorem ZU (s:List Nat):ai pG 112 [.str s] (.bool (decide (s∈iW))):=by
 refine bf c112 (by simp) (by simp) (by simp[A112]) λ F hF=>?_;have hw:=O3;have hl:iW.length<=100:=by simp[iW]
 have hm:s∈iW↔∃j,∃h:j<iW.length,iW[j]=s:=mem_iff_getElem;generalize iW=W at *;simp[A112,B112,Yn,Ym];refine ao.pure hw ?_;simp[Yl];refine au.of (λ t F K n ms=>∃i,t=W.length - i/\i<=W.length/\F.get 0=some (.str s)/\F.get 3=some (bB.ds W)/\F.get 4=some (.int .i64 (i:Int))/\ms=[]/\∀j (_:j<i) (h:j<W.length),W[j]≠s) W.length ⟨0,by simp,by omega,by simp[hF],by simp,by simp,rfl,λ j h=>by omega⟩ ?_;clear hF F;rintro t F K n ms ⟨i,rfl,hi,f0,f3,f4,rfl,hj⟩
 by_cases hlt:i<W.length
 ·have hx:=bB.ix (ik:=.i64) hlt;rw[jQ]at hx
  by_cases he:W[i]=s
  ·simp[CR,Cz,I1,Yk,f0,f3,f4,al.ag,hlt,hx,he];exact .bool (by simp[hm.2 ⟨i,hlt,he⟩])
  simp[CR,Cz,I1,Yj,f0,f3,f4,al.ag,hlt,hx,he,ah i (by omega)];refine⟨_,by omega,i+1,rfl,hlt,rfl,λ j hji h=>?_⟩
  by_cases e:j=i
  ·subst e;exact he
  exact hj j (by omega) h
 obtain rfl:i=W.length:=by omega
 have:¬s∈W:=λ h=>by
  obtain⟨j,h1,h2⟩:=hm.1 h;exact hj j h1 h1 h2
 simp[CR,Cz,Yi,f3,f4,al.ag];exact .bool (by simp[this])
theorem fw (s:List Nat):ai pG 78 [.str s] (.bool (decide (aD s))):=by
 refine bf c78 (by simp) (by simp) (by simp[A78]) λ F hF=>?_;unfold aD;simp[A78,B78,aeK,aeJ,hF];refine ao.pure (Al s) ?_
 by_cases h:cK s
 ·simp[h,hF];refine ao.pure (ZU s) ?_;simp;exact .bool (by simp)
 simp[h];exact .bool rfl
theorem aiy (v:Val):ai pG 113 [v.av] (.bool v.may):=by
 obtain⟨k,a,s⟩:=v;refine bf c113 (by simp) (by simp) (by simp[A113]) λ F hF=>?_;simp only[Val.may]
 by_cases h0:k=0
 ·by_cases h1:a=0
  ·simp[A113,B113,kN,kM,IZ,hF,Val.av,h0,h1];exact .bool (by simp)
  simp[A113,B113,kN,kM,IZ,hF,Val.av,h0,h1];exact .bool (by simp)
 by_cases h1:k=1
 ·simp[A113,B113,kN,kM,nL,Yh,hF,Val.av,h1];exact .bool (by simp)
 by_cases h2:k=2
 ·by_cases h3:a=0
  ·simp[A113,B113,kN,kM,nL,qw,IY,hF,Val.av,h2,h3];exact .bool (by simp;omega)
  simp[A113,B113,kN,kM,nL,qw,IY,hF,Val.av,h2,h3];exact .bool (by simp)
 by_cases h3:k=3
 ·by_cases h4:s=[]
  ·by_cases h5:0<=a
   ·simp[A113,B113,kN,kM,nL,qw,xg,hF,Val.av,h3,h4,h5];exact .bool (by rw[Bool.eq_iff_iff];simp;omega)
   simp[A113,B113,kN,kM,nL,qw,xg,hF,Val.av,h3,h4,h5];exact .bool (by rw[Bool.eq_iff_iff];simp;omega)
  simp[A113,B113,kN,kM,nL,qw,xg,hF,Val.av,h3,h4];exact .bool (by simp)
 simp[A113,B113,kN,kM,nL,qw,xg,hF,Val.av,h0,h1,h2,h3];exact .bool rfl
theorem wu (e:Ex):e=jy↔e.bare 0:=by
 obtain⟨op,⟨k,a,s⟩,t,m,cu,args⟩:=e;constructor
 ·rintro h;injection h with h1 h2 h3 h4 h5 h6;injection h2 with h7 h8 h9;subst h1 h3 h4 h5 h6 h7 h8 h9;exact⟨rfl,⟨rfl,rfl,rfl⟩,rfl,rfl,rfl,rfl⟩
 rintro⟨h1,⟨h2,h3,h4⟩,h5,h6,h7,h8⟩;simp only at h2 h3 h4;subst h1 h2 h3 h4 h5 h6 h7 h8;rfl
theorem Ai (e:Ex)(h:e.sz<=lim):ai pG 80 [e.av] (.bool (decide (e.bare 0))):=by
 have FZ:=mN e jy h (by simp[jy,Ex.sz,Ex.mB,lim]);have he:e.same jy=decide (e.bare 0):=by unfold Ex.same;simp only[wu]
 rw[he]at FZ
 have FY:ai pG 92 [.agg e.cells 8,.agg [.int .i64 0,.int .i64 0,.int .i64 0,.str [],.str [],.str [],.int .i64 0,.ak (.slice none 0 0)] 8] (.bool (decide (e.bare 0))):=FZ.conv (by simp) λ D xs hv=>by
  cases hv with
  | cons _ y0 _ ys h0 hv =>
  cases hv with
  | cons _ y1 _ ys h1 hv =>
  refine .cons _ _ _ _ h0 (.cons _ _ _ _ ?_ hv)
  cases h1 with
  | agg _ l _ a b=>exact .agg _ _ _ ((show NL [.int .i64 0,.int .i64 0,.int .i64 0,.str [],.str [],.str [],.int .i64 0,.ak (.slice none 0 0)] jy.cells by simp[jy,Ex.cells,iH]).oQ a) (by simp)
 refine bf c80 (by simp) (by simp) (by simp[A80]) λ F hF=>?_;have gN:e.av=.agg e.cells 8:=Eq.trans rfl rfl;rw[gN]at hF;simp[A80,B80,aew,aev,hF];refine ao.pure FY ?_;simp;exact .bool rfl
theorem Fw (l:List eW)(hl:l.length<=lim):ai pG 28 [aW.ds l,aW.ds l] (.bool true):=by
 unfold lim at hl;refine bf c28 (by simp) (by simp) (by simp[A28]) λ F hF=>?_;simp[A28,B28,VU,VT,agY,hF,al.ag];refine au.of (λ q F K n ms=>∃i:Nat,q=l.length - i/\i<=l.length/\F.get 0=some (aW.ds l)/\F.get 1=some (aW.ds l)/\F.get 5=some (.int .i64 (i:Int))/\ms=[]) l.length ⟨0,by simp[hF]⟩ ?_;clear hF F;rintro q F K n ms ⟨i,rfl,hi,f0,f1,f5,rfl⟩
 by_cases hlt:i<l.length
 ·have hx:=aW.ix (ik:=.i64) hlt;rw[dQ]at hx;have hld:=λ r H=>aW.gM l[i] r H;simp only[dQ,al.av,cons_append,nil_append]at hx hld;simp only[ZA,VS,agX];simp[f0,f5,al.ag,hlt];refine bY.of (bH (P:=pG)) ?_;simp[aa,f0,f1,f5,hx,hld,agW,ah i (by omega)];exact⟨_,by omega,i+1,rfl,hlt,rfl⟩
 obtain rfl:i=l.length:=by omega
 simp[ZA,VS,agV,f0,f5,al.ag];exact .bool rfl
theorem Fv (l:List (List Nat))(hl:l.length<=lim):ai pG 31 [bB.ds l,bB.ds l] (.bool true):=by
 unfold lim at hl;refine bf c31 (by simp) (by simp) (by simp[A31]) λ F hF=>?_;simp[A31,B31,VO,VN,agH,hF,al.ag];refine au.of (λ q F K n ms=>∃i:Nat,q=l.length - i/\i<=l.length/\F.get 0=some (bB.ds l)/\F.get 1=some (bB.ds l)/\F.get 5=some (.int .i64 (i:Int))/\ms=[]) l.length ⟨0,by simp[hF]⟩ ?_;clear hF F;rintro q F K n ms ⟨i,rfl,hi,f0,f1,f5,rfl⟩
 by_cases hlt:i<l.length
 ·have hx:=bB.ix (ik:=.i64) hlt;rw[jQ]at hx;simp only[Zx,VM,agG];simp[f0,f5,al.ag,hlt];refine bY.of (bH (P:=pG)) ?_;simp[aa,f0,f1,f5,hx,agF,ah i (by omega)];exact⟨_,by omega,i+1,rfl,hlt,rfl⟩
 obtain rfl:i=l.length:=by omega
 simp[Zx,VM,agE,f0,f5,al.ag];exact .bool rfl
theorem uT (l:List Ex)(hl:l.length<=lim)(hz:∀r∈l,r.sz<=lim):ai pG 30 [dz.ds l,dz.ds l] (.bool true):=by
 unfold lim at hl;refine bf c30 (by simp) (by simp) (by simp[A30]) λ F hF=>?_;simp[A30,B30,agO,agN,agM,hF,al.ag];refine au.of (λ q F K n ms=>∃i:Nat,q=l.length - i/\i<=l.length/\F.get 0=some (dz.ds l)/\F.get 1=some (dz.ds l)/\F.get 5=some (.int .i64 (i:Int))/\ms=[]) l.length ⟨0,by simp[hF]⟩ ?_;clear hF F;rintro q F K n ms ⟨i,rfl,hi,f0,f1,f5,rfl⟩
 by_cases hlt:i<l.length
 ·have hx:=dz.ix (ik:=.i64) hlt;have hld:=λ r H=>dz.gM l[i] r H;have h84:=mN l[i] l[i] (hz _ (getElem_mem hlt)) (hz _ (getElem_mem hlt));rw[Ex.gA]at h84;have avI:ai pG 92 [dz.av l[i],dz.av l[i]] (.bool true):=h84;simp only[Zy,VP,agL];simp[f0,f5,al.ag,hlt];refine bY.of (fP (l:=[⟨92,[dz.av l[i],dz.av l[i]],K,n,.bool true,K,n⟩]) ?_) ?_
  ·simp only[mem_singleton];rintro c rfl;exact avI.gY K n
  simp[aa,f0,f1,f5,hx,hld,fQ,agK,ah i (by omega)];exact⟨_,by omega,i+1,rfl,hlt,rfl⟩
 obtain rfl:i=l.length:=by omega
 simp[Zy,VP,agJ,f0,f5,al.ag];exact .bool rfl
theorem Pn (l:List (List Ex))(hl:l.length<=lim)(hz:∀r∈l,r.length<=lim/\∀e∈r,e.sz<=lim):ai pG 29 [dw.ds l,dw.ds l] (.bool true):=by
 unfold lim at hl;refine bf c29 (by simp) (by simp) (by simp[A29]) λ F hF=>?_;simp[A29,B29,agU,agT,agS,hF,al.ag];refine au.of (λ q F K n ms=>∃i:Nat,q=l.length - i/\i<=l.length/\F.get 0=some (dw.ds l)/\F.get 1=some (dw.ds l)/\F.get 5=some (.int .i64 (i:Int))/\ms=[]) l.length ⟨0,by simp[hF]⟩ ?_;clear hF F;rintro q F K n ms ⟨i,rfl,hi,f0,f1,f5,rfl⟩
 by_cases hlt:i<l.length
 ·have hx:=dw.ix (ik:=.i64) hlt;rw[jR]at hx;have avN:=uT l[i] (hz _ (getElem_mem hlt)).1 (hz _ (getElem_mem hlt)).2;simp only[Zz,VQ,agR];simp[f0,f5,al.ag,hlt];refine bY.of (fP (l:=[⟨30,[dz.ds l[i],dz.ds l[i]],K,n,.bool true,K,n⟩]) ?_) ?_
  ·simp only[mem_singleton];rintro c rfl;exact avN.gY K n
  simp[aa,f0,f1,f5,hx,fQ,agQ,ah i (by omega)];exact⟨_,by omega,i+1,rfl,hlt,rfl⟩
 obtain rfl:i=l.length:=by omega
 simp[Zz,VQ,agP,f0,f5,al.ag];exact .bool rfl
theorem Fx (t:aR)(hl:t.ae.length<=lim):ai pG 26 [aG.av t,aG.av t] (.bool true):=by
 unfold lim at hl;refine bf c26 (by simp) (by simp) (by simp[A26]) λ F hF=>?_;simp[A26,B26,ag',ag_,ag9,hF,al.av,aU,al.ag];refine au.of (λ q F K n ms=>∃i:Nat,q=t.ae.length - i/\i<=t.ae.length/\F.get 2=some (.ptr 0 0)/\F.get 3=some (.ptr 1 0)/\F.get 5=some (.int .i64 (i:Int))/\K.get 0=some (.cells 4 [] (aG.cells t) .nil)/\K.get 1=some (.cells 4 [] (aG.cells t) .nil)/\ms=[]) t.ae.length ⟨0,by simp[aU]⟩ ?_;clear hF F;rintro q F K n ms ⟨i,rfl,hi,f2,f3,f5,k0,k1,rfl⟩;have N2:=k0;have k1':=k1;rw[aU]at k0 k1
 by_cases hlt:i<t.ae.length
 ·have hx:=aW.ix (ik:=.i64) hlt;rw[dQ]at hx;have hld:=λ r H=>aW.gM t.ae[i] r H;simp only[dQ,al.av,cons_append,nil_append]at hx hld;simp only[ZC,VW,ag8];simp[f2,f5,k0,al.ag,hlt];refine bY.of (bH (P:=pG)) ?_;simp[aa,f2,f3,f5,k0,k1,hx,hld,ag7,ah i (by omega)];exact⟨_,by omega,i+1,rfl,hlt,rfl,rfl⟩
 obtain rfl:i=t.ae.length:=by omega
 simp[ZC,VW,ag6,f2,f5,k0,al.ag];exact .bool rfl
theorem Po (t:jb)(hl:t.ae.length<=lim):ai pG 27 [bC.av t,bC.av t] (.bool true):=by
 unfold lim at hl;refine bf c27 (by simp) (by simp) (by simp[A27]) λ F hF=>?_;simp[A27,B27,ag5,ag4,ag3,hF,al.av,eG,al.ag];refine au.of (λ q F K n ms=>∃i:Nat,q=t.ae.length - i/\i<=t.ae.length/\F.get 2=some (.ptr 0 0)/\F.get 3=some (.ptr 1 0)/\F.get 5=some (.int .i64 (i:Int))/\K.get 0=some (.cells 6 [] (bC.cells t) .nil)/\K.get 1=some (.cells 6 [] (bC.cells t) .nil)/\ms=[]) t.ae.length ⟨0,by simp[eG]⟩ ?_;clear hF F;rintro q F K n ms ⟨i,rfl,hi,f2,f3,f5,k0,k1,rfl⟩;have N2:=k0;have k1':=k1;rw[eG]at k0 k1
 by_cases hlt:i<t.ae.length
 ·have hx:=bR.ix (ik:=.i64) hlt;rw[eR]at hx;simp only[ZB,VV,ag2];simp[f2,f5,k0,al.ag,hlt];refine bY.of (bH (P:=pG)) ?_;simp[aa,f2,f3,f5,k0,k1,hx,ag1,ah i (by omega)];exact⟨_,by omega,i+1,rfl,hlt,rfl,rfl⟩
 obtain rfl:i=t.ae.length:=by omega
 simp[ZB,VV,ag0,f2,f5,k0,al.ag];exact .bool rfl
theorem aaY (x:aE) (hs:x.sm) (hk:x.kind=1) (F:Fr) (K:Hp) (Q:QA) (E:pf x F K) (hQ:pe x Q):VC pG zF F K 2 [] Q:=by
 obtain⟨f1,f3,f4,f19,k0,k1⟩:=E;have x1:=x.g1;have x3:=x.g3;rw[hk]at f19 k1;generalize hxs:x.cells=xs at *;simp[zF,nJ,f19];simp[XK];refine bY.of (bH (P:=pG)) ?_;simp[aa,f1,f3,k0,k1,x1,x3,rJ];generalize hK2:Tr.put (Tr.put K 1 _) 1 _=K2;obtain⟨tc,g1,ht⟩:∃tc,K2.get 1=some (.cells 31 [] tc .nil)/\oN x tc:=⟨_,by rw[<-hK2];exact(Tr.get_put _ _ _ _).trans (if_pos rfl),by simp,by simp,by simp[aE.cut,hk,aE.cells,aE.z,jy,gI,Ex.cells,aY.cells,iH]⟩;have g0:K2.get 0=some (.cells 31 [] xs .nil):=by rw[<-hK2];simp[k0]
 clear hK2;generalize hF2:(Fp 27 _ _:Fr)=F2;have h1:F2.get 1=some (.ptr 0 0):=by rw[<-hF2];simp[aa,f1]
 have h3:F2.get 3=some (.ptr 1 0):=by rw[<-hF2];simp[aa,f3]
 clear hF2 f1 f3 f4 f19 k0 k1 F
 have fin:∀(F':Fr) (b:Bool),F'.get 1=some (.ptr 0 0)->F'.get 3=some (.ptr 1 0)->F'.get 4=some (.bool b)->b=(decide (aD x.table)&&decide (1<=x.ae.length/\x.ae.length<=16))->VC pG Lt F' K2 2 [] (hJ pG (.block 1 zL.loop) Q):=by
  intro F' b w1 w3 w4 hb;simp[Lt,w1,g0,x3,al.ag];refine ajb x hs.ae tc b _ K2 2 _ ⟨by simp[w1],by simp[w3],by simp[w4],by rw[hxs];exact g0,g1,by omega⟩ (by simp) (by simp) (by simp) λ F5 K5 n5 M5=>?_;exact hQ _ _ _ _ _ M5 ht (by rw[hb];simp[aE.ok,hk])
 simp[XJ,h1,g0,x1];refine ao.pure (eh x.table) ?_
 by_cases hn:aD x.table
 ·simp[hn,h1,g0,x3,al.ag];refine ao.pure (uK (x.ae.length:Int) 16) ?_;simp;generalize bN:(Fp 4 _ _:Fr)=F3
  have:=fin F3 (decide ((1:Int)<=(x.ae.length:Int)/\(x.ae.length:Int)<=16)) (by rw[<-bN];simp[h1]) (by rw[<-bN];simp[h3]) (by rw[<-bN];simp) (by
    simp only[hn,decide_true,Bool.true_and]
    congr 1
    exact propext (by omega))
  simpa using this
 simp[hn];generalize bN:(Fp 4 _ _:Fr)=F3;have:=fin F3 false (by rw[<-bN];simp[h1]) (by rw[<-bN];simp[h3]) (by rw[<-bN];simp) (by simp[hn]);simpa using this
theorem aaX (x:aE)(_hs:x.sm)(hk:x.kind=2)(F:Fr)(K:Hp)(Q:QA)(E:pf x F K)(hQ:pe x Q):VC pG zF F K 2 [] Q:=by
 obtain⟨f1,f3,f4,f19,k0,k1⟩:=E;have x1:=x.g1;rw[hk]at f19 k1;generalize hxs:x.cells=xs at *;simp[zF,f19,nJ,kL,IA,f1,f3,k0,k1,x1,rJ];generalize hK2:Tr.put _ 1 _=K2;obtain⟨tc,g1,ht⟩:∃tc,K2.get 1=some (.cells 31 [] tc .nil)/\oN x tc:=⟨_,by rw[<-hK2];exact(Tr.get_put _ _ _ _).trans (if_pos rfl),by simp,by simp,by simp[aE.cut,hk,aE.cells,aE.z,jy,gI,Ex.cells,aY.cells,iH]⟩;have g0:K2.get 0=some (.cells 31 [] xs .nil):=by rw[<-hK2];simp[k0]
 clear hK2;generalize hF2:(Fp 65 _ _:Fr)=F2;have h1:F2.get 1=some (.ptr 0 0):=by rw[<-hF2];simp[f1]
 have h3:F2.get 3=some (.ptr 1 0):=by rw[<-hF2];simp[f3]
 clear hF2 f1 f3 f4 f19 k0 k1 F;have fin:∀(F':Fr) (b:Bool),F'.get 1=some (.ptr 0 0)->F'.get 3=some (.ptr 1 0)->F'.get 4=some (.bool b)->b=x.ok->Q .normal F' K2 2 []:=λ F' b w1 w3 w4 hb=>hQ _ _ _ _ _ ⟨w1,w3,w4,by rw[hxs];exact g0,g1,by omega⟩ ht hb;simp[Iz,h1,g0,x1];refine ao.pure (eh x.table) ?_;simp;generalize bN:(Fp 4 _ _:Fr)=F3;exact fin F3 _ (by rw[<-bN];simp[h1]) (by rw[<-bN];simp[h3]) (by rw[<-bN];simp;rfl) (by simp[aE.ok,hk])
theorem aaV (x:aE)(_hs:x.sm)(hk:x.kind=4)(F:Fr)(K:Hp)(Q:QA)(E:pf x F K)(hQ:pe x Q):VC pG zF F K 2 [] Q:=by
 obtain⟨f1,f3,f4,f19,k0,k1⟩:=E;have x2:=x.g2;rw[hk]at f19 k1;generalize hxs:x.cells=xs at *;simp[zF,f19,nJ,kL,lZ,nK,Ir,f1,f3,k0,k1,x2,rJ];generalize hK2:Tr.put _ 1 _=K2;obtain⟨tc,g1,ht⟩:∃tc,K2.get 1=some (.cells 31 [] tc .nil)/\oN x tc:=⟨_,by rw[<-hK2];exact(Tr.get_put _ _ _ _).trans (if_pos rfl),by simp,by simp,by simp[aE.cut,hk,aE.cells,aE.z,jy,gI,Ex.cells,aY.cells,iH]⟩;have g0:K2.get 0=some (.cells 31 [] xs .nil):=by rw[<-hK2];simp[k0]
 clear hK2;generalize hF2:(Fp 114 _ _:Fr)=F2;have h1:F2.get 1=some (.ptr 0 0):=by rw[<-hF2];simp[f1]
 have h3:F2.get 3=some (.ptr 1 0):=by rw[<-hF2];simp[f3]
 clear hF2 f1 f3 f4 f19 k0 k1 F;have fin:∀(F':Fr) (b:Bool),F'.get 1=some (.ptr 0 0)->F'.get 3=some (.ptr 1 0)->F'.get 4=some (.bool b)->b=x.ok->Q .normal F' K2 2 []:=λ F' b w1 w3 w4 hb=>hQ _ _ _ _ _ ⟨w1,w3,w4,by rw[hxs];exact g0,g1,by omega⟩ ht hb;simp[Iq,h1,g0,x2];refine ao.pure (eh x.name) ?_;simp;generalize bN:(Fp 4 _ _:Fr)=F3;exact fin F3 _ (by rw[<-bN];simp[h1]) (by rw[<-bN];simp[h3]) (by rw[<-bN];simp;rfl) (by simp[aE.ok,hk])
theorem aaW (x:aE) (hs:x.sm) (hk:x.kind=3) (F:Fr) (K:Hp) (Q:QA) (E:pf x F K) (hQ:pe x Q):VC pG zF F K 2 [] Q:=by
 obtain⟨f1,f3,f4,f19,k0,k1⟩:=E;have x1:=x.g1;have x2:=x.g2;have x4:=x.g4;have x5:=x.g5;rw[hk]at f19 k1;generalize hxs:x.cells=xs at *;simp[zF,f19,nJ,kL,lZ];simp[Iy];refine bY.of (bH (P:=pG)) ?_;simp[aa,f1,f3,k0,k1,x1,x2,x4,x5,rJ];generalize hK2:Tr.put _ 1 _=K2;obtain⟨tc,g1,ht⟩:∃tc,K2.get 1=some (.cells 31 [] tc .nil)/\oN x tc:=⟨_,by rw[<-hK2];exact(Tr.get_put _ _ _ _).trans (if_pos rfl),by simp,by simp,by simp[aE.cut,hk,aE.cells,aE.z,jy,gI,Ex.cells,aY.cells,iH]⟩;have g0:K2.get 0=some (.cells 31 [] xs .nil):=by rw[<-hK2];simp[k0]
 clear hK2;generalize hF2:(Fp 82 _ _:Fr)=F2;have h1:F2.get 1=some (.ptr 0 0):=by rw[<-hF2];simp[aa,f1]
 have h3:F2.get 3=some (.ptr 1 0):=by rw[<-hF2];simp[aa,f3]
 clear hF2 f1 f3 f4 f19 k0 k1 F
 have fin:∀(F':Fr) (b:Bool),F'.get 1=some (.ptr 0 0)->F'.get 3=some (.ptr 1 0)->F'.get 4=some (.bool b)->b=(decide (aD x.table)&&decide (aD x.name)&&decide (1<=x.on.length/\x.on.length<=16))->VC pG Ci F' K2 2 [] (hJ pG (.block 3 xx.loop) Q):=by
  intro F' b w1 w3 w4 hb;simp[Ci,w1,g0,x4,al.ag];refine aja x hs.on tc b _ K2 2 _ ⟨by simp[w1],by simp[w3],by simp[w4],by rw[hxs];exact g0,g1,by omega⟩ (by simp) (by simp) (by simp) λ F5 K5 n5 M5=>?_;exact hQ _ _ _ _ _ M5 ht (by rw[hb];simp[aE.ok,hk])
 simp[Ix,h1,g0,x1];refine ao.pure (eh x.table) ?_
 by_cases hn:aD x.table
 ·simp[hn,h1,g0,x2];refine ao.pure (eh x.name) ?_
  by_cases hn2:aD x.name
  ·simp[hn2,h1,g0,x4,al.ag];refine ao.pure (uK (x.on.length:Int) 16) ?_;simp;generalize bN:(Fp 4 _ _:Fr)=F3
   have:=fin F3 (decide ((1:Int)<=(x.on.length:Int)/\(x.on.length:Int)<=16)) (by rw[<-bN];simp[h1]) (by rw[<-bN];simp[h3]) (by rw[<-bN];simp) (by
    simp only[hn,hn2,decide_true,Bool.true_and]
    congr 1
    exact propext (by omega))
   simpa using this
  simp[hn2];generalize bN:(Fp 4 _ _:Fr)=F3;have:=fin F3 false (by rw[<-bN];simp[h1]) (by rw[<-bN];simp[h3]) (by rw[<-bN];simp) (by simp[hn2]);simpa using this
 simp[hn];generalize bN:(Fp 4 _ _:Fr)=F3;have:=fin F3 false (by rw[<-bN];simp[h1]) (by rw[<-bN];simp[h3]) (by rw[<-bN];simp) (by simp[hn]);simpa using this
theorem aaU (x:aE)(hs:x.sm)(hk:x.kind=5)(F:Fr)(K:Hp)(Q:QA)(E:pf x F K)(hQ:pe x Q):VC pG zF F K 2 [] Q:=by
 obtain⟨f1,f3,f4,f19,k0,k1⟩:=E;have x1:=x.g1;have x6:=x.g6;rw[hk]at f19 k1;generalize hxs:x.cells=xs at *;simp[zF,f19,nJ,kL,lZ,nK,qv];simp[Ip];refine bY.of (bH (P:=pG)) ?_;simp[aa,f1,f3,k0,k1,x1,x6,rJ];generalize hK2:Tr.put _ 1 _=K2;obtain⟨tc,g1,ht⟩:∃tc,K2.get 1=some (.cells 31 [] tc .nil)/\oN x tc:=⟨_,by rw[<-hK2];exact(Tr.get_put _ _ _ _).trans (if_pos rfl),by simp,by simp,by simp[aE.cut,hk,aE.cells,aE.z,jy,gI,Ex.cells,aY.cells,iH]⟩;have g0:K2.get 0=some (.cells 31 [] xs .nil):=by rw[<-hK2];simp[k0]
 clear hK2;generalize hF2:(Fp 125 _ _:Fr)=F2;have h1:F2.get 1=some (.ptr 0 0):=by rw[<-hF2];simp[aa,f1]
 have h3:F2.get 3=some (.ptr 1 0):=by rw[<-hF2];simp[aa,f3]
 clear hF2 f1 f3 f4 f19 k0 k1 F
 have fin:∀(F':Fr) (b:Bool),F'.get 1=some (.ptr 0 0)->F'.get 3=some (.ptr 1 0)->F'.get 4=some (.bool b)->b=(decide (aD x.table)&&decide (0<x.rows.length))->VC pG Cg F' K2 2 [] (hJ pG (.block 5 xw.loop) Q):=by
  intro F' b w1 w3 w4 hb;simp[Cg,w1,g0,x6,al.ag];refine ai9 x hs.rows hs.row tc b _ K2 2 _ ⟨by simp[w1],by simp[w3],by simp[w4],by rw[hxs];exact g0,g1,by omega⟩ ⟨by simp,by simp,by simp⟩ λ F5 K5 n5 M5=>?_;exact hQ _ _ _ _ _ M5 ht (by rw[hb];simp[aE.ok,hk])
 simp[Io,h1,g0,x1];refine ao.pure (eh x.table) ?_
 by_cases hn:aD x.table
 ·simp[hn,h1,g0,x6,al.ag];generalize bN:(Fp 4 _ _:Fr)=F3;have:=fin F3 (decide (0<x.rows.length)) (by rw[<-bN];simp[h1]) (by rw[<-bN];simp[h3]) (by rw[<-bN];simp) (by simp[hn]);simpa using this
 simp[hn];generalize bN:(Fp 4 _ _:Fr)=F3;have:=fin F3 false (by rw[<-bN];simp[h1]) (by rw[<-bN];simp[h3]) (by rw[<-bN];simp) (by simp[hn]);simpa using this
theorem len8 {α:Type}:∀ {l:List α},l.length=8->∃a b c d e f g h,l=[a,b,c,d,e,f,g,h]
 | [a,b,c,d,e,f,g,h],_=>⟨a,b,c,d,e,f,g,h,rfl⟩
theorem anU {α:Type}:∀ {l:List α},l.length=15->∃a b c d e f g h i j k m n o p,l=[a,b,c,d,e,f,g,h,i,j,k,m,n,o,p]
 | [a,b,c,d,e,f,g,h,i,j,k,m,n,o,p],_=>⟨a,b,c,d,e,f,g,h,i,j,k,m,n,o,p,rfl⟩
theorem nvQ:NL [.bool false,.bool false,.ak (.slice none 0 0),.ak (.slice none 0 0),.int .i64 0,.int .i64 0,.int .i64 0,.str [],.str [],.str [],.int .i64 0,.ak (.slice none 0 0),.ak (.slice none 0 0),.bool false,.int .i64 0] gI.cells:=by
 simp[gI,jy,Ex.cells,aY.cells,iH]
theorem aaT (x:aE)(hs:x.sm)(hk:x.kind=6)(F:Fr)(K:Hp)(Q:QA)(E:pf x F K)(hQ:pe x Q):VC pG zF F K 2 [] Q:=by
 obtain⟨f1,f3,f4,f19,k0,k1⟩:=E;have x1:=x.g1;rw[hk]at f19 k1;have xc:=x.cc;have xl:=x.aA;have yS:=Aq x.cond hs.cond;have gN:x.cond.av=.agg x.cond.cells 8:=Eq.trans rfl rfl;rw[gN]at yS;obtain⟨a0,a1,a2,a3,a4,a5,a6,a7,hce⟩:=len8 x.cond.aA;have hpc:=x.cond.oU;have ho:bm x.cond.cells=true:=by cases x.cond;simp[Ex.cells]
 rw[hce]at xc yS hpc ho;simp at hpc ho;generalize hxs:x.cells=xs at *;have hg:gJ 31 [] xs .nil 8 8=some [a0,a1,a2,a3,a4,a5,a6,a7]:=by simp[xl,xc]
 clear xl;simp[zF,f19,nJ,kL,lZ,nK,qv,sV];simp[Ie];refine bY.of (bH (P:=pG)) ?_;simp[aa,f1,f3,k0,k1,x1,hg,rJ,ho];generalize hK2:Tr.put _ 1 _=K2;obtain⟨tc,g1,ht⟩:∃tc,K2.get 1=some (.cells 31 [] tc .nil)/\oN x tc:=⟨_,by rw[<-hK2];exact(Tr.get_put _ _ _ _).trans (if_pos rfl),by simp,by simp[hpc],by simp only[aE.cut,hk,aE.cells,aE.z];simp[hce,nvQ]⟩;have g0:K2.get 0=some (.cells 31 [] xs .nil):=by rw[<-hK2];simp[k0]
 clear hK2;generalize hF2:(Fp 168 _ _:Fr)=F2;have h1:F2.get 1=some (.ptr 0 0):=by rw[<-hF2];simp[aa,f1]
 have h3:F2.get 3=some (.ptr 1 0):=by rw[<-hF2];simp[aa,f3]
 clear hF2 f1 f3 f4 f19 k0 k1 F;have fin:∀(F':Fr) (b:Bool),F'.get 1=some (.ptr 0 0)->F'.get 3=some (.ptr 1 0)->F'.get 4=some (.bool b)->b=x.ok->Q .normal F' K2 2 []:=λ F' b w1 w3 w4 hb=>hQ _ _ _ _ _ ⟨w1,w3,w4,by rw[hxs];exact g0,g1,by omega⟩ ht hb;simp[Ic,h1,g0,x1];refine ao.pure (eh x.table) ?_
 by_cases hn:aD x.table
 ·simp[hn,h1,g0,hg];refine ao.pure yS ?_;simp;generalize bN:(Fp 4 _ _:Fr)=F3;have:=fin F3 x.cond.maybe (by rw[<-bN];simp[h1]) (by rw[<-bN];simp[h3]) (by rw[<-bN];simp) (by simp[aE.ok,hk,hn]);simpa using this
 simp[hn];generalize bN:(Fp 4 _ _:Fr)=F3;have:=fin F3 false (by rw[<-bN];simp[h1]) (by rw[<-bN];simp[h3]) (by rw[<-bN];simp) (by simp[aE.ok,hk,hn]);simpa using this
theorem aaS (x:aE)(hs:x.sm)(hk:x.kind=7)(F:Fr)(K:Hp)(Q:QA)(E:pf x F K)(hQ:pe x Q):VC pG zF F K 2 [] Q:=by
 obtain⟨f1,f3,f4,f19,k0,k1⟩:=E;have x1:=x.g1;have x7:=x.g7;rw[hk]at f19 k1;have xc:=x.cc;have xl:=x.aA;have yS:=Aq x.cond hs.cond;have gN:x.cond.av=.agg x.cond.cells 8:=Eq.trans rfl rfl;rw[gN]at yS;obtain⟨a0,a1,a2,a3,a4,a5,a6,a7,hce⟩:=len8 x.cond.aA;have hpc:=x.cond.oU;have ho:bm x.cond.cells=true:=by cases x.cond;simp[Ex.cells]
 rw[hce]at xc yS hpc ho;simp at hpc ho;generalize hxs:x.cells=xs at *;have hg:gJ 31 [] xs .nil 8 8=some [a0,a1,a2,a3,a4,a5,a6,a7]:=by simp[xl,xc]
 clear xl;simp[zF,f19,nJ,kL,lZ,nK,qv,sV,w_];simp[Ib];refine bY.of (bH (P:=pG)) ?_;simp[aa,f1,f3,k0,k1,x1,x7,hg,rJ,ho];generalize hK2:Tr.put _ 1 _=K2;obtain⟨tc,g1,ht⟩:∃tc,K2.get 1=some (.cells 31 [] tc .nil)/\oN x tc:=⟨_,by rw[<-hK2];exact(Tr.get_put _ _ _ _).trans (if_pos rfl),by simp,by simp[hpc],by simp only[aE.cut,hk,aE.cells,aE.z];simp[hce,nvQ]⟩;have g0:K2.get 0=some (.cells 31 [] xs .nil):=by rw[<-hK2];simp[k0]
 clear hK2;generalize hF2:(Fp 187 _ _:Fr)=F2;have h1:F2.get 1=some (.ptr 0 0):=by rw[<-hF2];simp[aa,f1]
 have h3:F2.get 3=some (.ptr 1 0):=by rw[<-hF2];simp[aa,f3]
 clear hF2 f1 f3 f4 f19 k0 k1 F
 have fin:∀(F':Fr) (b:Bool),F'.get 1=some (.ptr 0 0)->F'.get 3=some (.ptr 1 0)->F'.get 4=some (.bool b)->b=(decide (aD x.table)&&decide (1<=x.sets.length/\x.sets.length<=16)&&x.cond.maybe)->VC pG Cd F' K2 2 [] (hJ pG (.block 9 zK.loop) Q):=by
  intro F' b w1 w3 w4 hb;simp[Cd,w1,g0,x7,al.ag];refine ai' x hs.sets hs.set tc b _ K2 2 _ ⟨by simp[w1],by simp[w3],by simp[w4],by rw[hxs];exact g0,g1,by omega⟩ (by simp) (by simp) (by simp) λ F5 K5 n5 M5=>?_;exact hQ _ _ _ _ _ M5 ht (by rw[hb];simp[aE.ok,hk])
 simp[Ia,h1,g0,x1];refine ao.pure (eh x.table) ?_
 by_cases hn:aD x.table
 ·simp[hn,h1,g0,x7,al.ag];refine ao.pure (uK (x.sets.length:Int) 16) ?_
  by_cases hu:1<=x.sets.length/\x.sets.length<=16
  ·have hu':(1:Int)<=(x.sets.length:Int)/\(x.sets.length:Int)<=16:=by omega
   simp only[hu',and_self,decide_true];simp[h1,g0,hg];refine ao.pure yS ?_;simp;generalize bN:(Fp 4 _ _:Fr)=F3;have:=fin F3 x.cond.maybe (by rw[<-bN];simp[h1]) (by rw[<-bN];simp[h3]) (by rw[<-bN];simp) (by simp[hn,hu]);simpa using this
  have hu':¬((1:Int)<=(x.sets.length:Int)/\(x.sets.length:Int)<=16):=by omega
  simp only[hu',decide_false];simp;generalize bN:(Fp 4 _ _:Fr)=F3;have:=fin F3 false (by rw[<-bN];simp[h1]) (by rw[<-bN];simp[h3]) (by rw[<-bN];simp) (by simp[hu]);simpa using this
 simp[hn];generalize bN:(Fp 4 _ _:Fr)=F3;have:=fin F3 false (by rw[<-bN];simp[h1]) (by rw[<-bN];simp[h3]) (by rw[<-bN];simp) (by simp[hn]);simpa using this
theorem aaR (x:aE)(hs:x.sm)(hk:x.kind=8)(F:Fr)(K:Hp)(Q:QA)(E:pf x F K)(hQ:pe x Q):VC pG zF F K 2 [] Q:=by
 obtain⟨f1,f3,f4,f19,k0,k1⟩:=E;rw[hk]at f19 k1;have xq:=x.tq;have xl:=x.aA;have yS:=aae x.q hs.qc hs.order hs.ab hs.items hs.item hs.src;obtain⟨a0,a1,a2,a3,a4,a5,a6,a7,a8,a9,a10,a11,a12,a13,a14,hce⟩:=anU x.q.aA;have hpc:=x.q.pure;have ho:bm x.q.cells=true:=by simp[aY.cells]
 rw[hce]at xq yS hpc ho;simp at hpc ho;generalize hxs:x.cells=xs at *;have hg:gJ 31 [] xs .nil 16 15=some [a0,a1,a2,a3,a4,a5,a6,a7,a8,a9,a10,a11,a12,a13,a14]:=by simp[xl,xq]
 clear xl;simp[zF,f19,nJ,kL,lZ,nK,qv,sV,w_,Cc,H6,f1,f3,k0,k1,hg,rJ,ho];generalize hK2:Tr.put _ 1 _=K2;obtain⟨tc,g1,ht⟩:∃tc,K2.get 1=some (.cells 31 [] tc .nil)/\oN x tc:=⟨_,by rw[<-hK2];exact(Tr.get_put _ _ _ _).trans (if_pos rfl),by simp,by simp[hpc],by simp only[aE.cut,hk,aE.cells,aE.z];simp[hce,jy,Ex.cells,iH]⟩;have g0:K2.get 0=some (.cells 31 [] xs .nil):=by rw[<-hK2];simp[k0]
 clear hK2;generalize hF2:(Fp 225 _ _:Fr)=F2;have h1:F2.get 1=some (.ptr 0 0):=by rw[<-hF2];simp[f1]
 have h3:F2.get 3=some (.ptr 1 0):=by rw[<-hF2];simp[f3]
 clear hF2 f1 f3 f4 f19 k0 k1 F;have fin:∀(F':Fr) (b:Bool),F'.get 1=some (.ptr 0 0)->F'.get 3=some (.ptr 1 0)->F'.get 4=some (.bool b)->b=x.ok->Q .normal F' K2 2 []:=λ F' b w1 w3 w4 hb=>hQ _ _ _ _ _ ⟨w1,w3,w4,by rw[hxs];exact g0,g1,by omega⟩ ht hb;simp[H5,h1,g0,hg];refine ao.pure yS ?_;simp;generalize bN:(Fp 4 _ _:Fr)=F3;exact fin F3 _ (by rw[<-bN];simp[h1]) (by rw[<-bN];simp[h3]) (by rw[<-bN];simp;rfl) (by simp[aE.ok,hk])
theorem tcz (k:Int)(x:aE)(hk:x.cut=aE.z k):oN x (rJ k):=
 ⟨by simp[rJ],by simp[rJ],by rw[hk];simp[rJ,aE.z,aE.cells,jy,gI,Ex.cells,aY.cells,iH]⟩
theorem aaQ (x:aE) (h1:¬x.kind=1) (h2:¬x.kind=2) (h3:¬x.kind=3) (h4:¬x.kind=4) (h5:¬x.kind=5) (h6:¬x.kind=6) (h7:¬x.kind=7) (h8:¬x.kind=8) (F:Fr) (K:Hp) (Q:QA) (E:pf x F K) (hQ:pe x Q):VC pG zF F K 2 [] Q:=by
 obtain⟨f1,f3,f4,f19,k0,k1⟩:=E;have ht:=tcz x.kind x (by simp[aE.cut,h1,h2,h3,h4,h5,h6,h7,h8]);have ho:x.ok=decide (x.kind=9∨x.kind=10∨x.kind=11):=by simp[aE.ok,h1,h2,h3,h4,h5,h6,h7,h8]
 have fin:∀(F':Fr) (b:Bool),F'.get 1=some (.ptr 0 0)->F'.get 3=some (.ptr 1 0)->F'.get 4=some (.bool b)->b=decide (x.kind=9∨x.kind=10∨x.kind=11)->Q .normal F' K 2 []:=λ F' b w1 w3 w4 hb=>hQ _ _ _ _ _ ⟨w1,w3,w4,k0,k1,by omega⟩ ht (hb.trans ho.symm);generalize x.kind=kk at *;simp[zF,f19,nJ,kL,lZ,nK,qv,sV,w_,Cc,h1,h2,h3,h4,h5,h6,h7,h8];generalize hF2:(Fp 221 _ _:Fr)=F2;have w1:F2.get 1=some (.ptr 0 0):=by rw[<-hF2];simp[f1]
 have w3:F2.get 3=some (.ptr 1 0):=by rw[<-hF2];simp[f3]
 have w4:F2.get 4=some (.bool false):=by rw[<-hF2];simp[f4]
 have w19:F2.get 19=some (.int .i64 kk):=by rw[<-hF2];simp[f19]
 clear hF2 f1 f3 f4 f19
 by_cases h9:kk=9
 ·simp[sU,w19,h9,wY];exact fin _ true (by simp[w1]) (by simp[w3]) (by simp) (by simp[h9])
 by_cases h10:kk=10
 ·simp[sU,wZ,w19,h10,wY];exact fin _ true (by simp[w1]) (by simp[w3]) (by simp) (by simp[h10])
 by_cases h11:kk=11
 ·simp[sU,wZ,Cb,w19,h11,wY];exact fin _ true (by simp[w1]) (by simp[w3]) (by simp) (by simp[h11])
 simp[sU,wZ,Cb,w19,h9,h10,h11];exact fin _ false (by simp[w1]) (by simp[w3]) (by simp[w4]) (by simp[h9,h10,h11])
def aE.may (x:aE):Bool:=x.ok&&s7 x x.cut
theorem anS (x:aE) (hs:x.sm):ai pG 11 [x.av] (.bool x.may):=by
 refine bf c11 (by simp) (by simp) (by simp[A11]) λ F hF=>?_;have x0:=x.g0;have xl:=x.aA
 have fin:pe x (bX 0 (hJ pG (.seq sT .ret) (iR [aP 2] λ v1 H' _=>dU H'.get v1 (.bool x.may)))):=by
  intro F' K' n' tc b ⟨f1,f3,f4,k0,k1,hn⟩ ⟨htl,hpt,hnl⟩ hb
  cases b with
  | false =>
   simp[sT,f4,aE.may,<-hb];exact .bool rfl
  | true =>
   simp[sT,f1,f3,f4,k0,k1,aE.may,<-hb];have hr:=aiI x x.cut;refine ao.pure (hr.conv ?_ λ D xs hv=>?_) ?_
   ·simp[hpt]
   ·cases hv with
    | cons _ y0 _ ys h0 hv =>
    cases hv with
    | cons _ y1 _ ys h1 hv =>
    refine .cons _ _ _ _ h0 (.cons _ _ _ _ ?_ hv)
    cases h1 with
    | agg _ l _ a b=>exact .agg _ _ _ (hnl.oQ a) (by simp)
   simp;exact .bool rfl
 have hcx:x.av=.agg x.cells 31:=Eq.trans rfl rfl;rw[hcx]at hF
 have body:∀(F:Fr) (K:Hp),pf x F K->VC pG zF F K 2 [] (bX 0 (hJ pG (.seq sT .ret) (iR [aP 2] λ v1 H' _=>dU H'.get v1 (.bool x.may)))):=by
  intro F K E
  by_cases h1:x.kind=1
  ·exact aaY x hs h1 F K _ E fin
  by_cases h2:x.kind=2
  ·exact aaX x hs h2 F K _ E fin
  by_cases h3:x.kind=3
  ·exact aaW x hs h3 F K _ E fin
  by_cases h4:x.kind=4
  ·exact aaV x hs h4 F K _ E fin
  by_cases h5:x.kind=5
  ·exact aaU x hs h5 F K _ E fin
  by_cases h6:x.kind=6
  ·exact aaT x hs h6 F K _ E fin
  by_cases h7:x.kind=7
  ·exact aaS x hs h7 F K _ E fin
  by_cases h8:x.kind=8
  ·exact aaR x hs h8 F K _ E fin
  exact aaQ x h1 h2 h3 h4 h5 h6 h7 h8 F K _ E fin
 clear fin hs;have xp:=x.pure;generalize hxs:x.cells=xs at hF x0 xl xp;have hA:A11.code=B11:=rfl;simp only[hA,b17];simp[XQ,hF];simp[XP,XO,XN,x0];generalize hK:Tr.put _ 1 _=K;have k0:K.get 0=some (.cells 31 [] xs .nil):=by rw[<-hK];simp
 have k1:K.get 1=some (.cells 31 [] (rJ x.kind) .nil):=by rw[<-hK];simp[rJ]
 clear hK;refine body _ K ⟨?_,?_,?_,?_,by rw[hxs];exact k0,k1⟩
 all_goals simp
theorem Pm (a b:Ex)(ha:a.sz<=lim)(hb:b.sz<=lim){L:List AV}(hp:aL L)(h:NL L b.cells):ai pG 92 [.agg a.cells 8,.agg L 8] (.bool (a.same b)):=
 (mN a b ha hb).conv (by simp[hp]) λ D xs hv=>by
  cases hv with
  | cons _ y0 _ ys h0 hv =>
  cases hv with
  | cons _ y1 _ ys h1 hv =>
  refine .cons _ _ _ _ h0 (.cons _ _ _ _ ?_ hv)
  cases h1 with
  | agg _ l _ a b=>exact .agg _ _ _ (h.oQ a) (by simp)
theorem Ar:∀l:List Ex,Ex.oJ l=l.all Ex.may
 | []=>by simp[Ex.oJ]
 | e::r=>by rw[Ex.oJ,Ar r];rfl
theorem QF : ∀ (N : Nat) (e:Ex),e.sz<=N->N<=lim->ai pG 81 [e.av] (.bool e.may)
 | 0,e,h,_=>by have:=Ex.gd e;omega
 | N + 1, .mk op v t m cu args,ha,hN=>by
  have hsz:=ha;simp only[Ex.sz]at ha;have hla:=Ex.jf args
  have ih:∀(i:Nat) (h1:i<args.length),ai pG 81 [args[i].av] (.bool args[i].may):=λ i h1=>by
   have m1:=Ex.lr (getElem_mem h1);exact QF N args[i] (by omega) (by omega)
  have hlim:=hN;unfold lim at hN;have hv:=aiy v;simp only[Val.av]at hv;refine bf c81 (by simp) (by simp) (by simp[A81]) λ F hF=>?_
  by_cases h1:op=1
  ·subst h1;have hs:=Pm (.mk 1 v t m cu args) (.mk 1 v [] [] 0 []) (by omega) (by simp[Ex.sz,Ex.mB,lim]) (L:=[.int .i64 1,.int .i64 v.kind,.int .i64 v.num,.str v.s,.str [],.str [],.int .i64 0,.ak (.slice none 0 0)]) (by simp) (by simp[Ex.cells,iH])
   have he:(Ex.mk 1 v t m cu args).same (.mk 1 v [] [] 0 [])=decide (t=[]/\m=[]/\cu=0/\args=[]):=by
    unfold Ex.same;congr 1;simp
   rw[he]at hs;simp only[Ex.cells]at hs;simp[A81,B81,zy,zx,aeu,hF,Ex.av,Ex.cells];refine ao.pure hs ?_;have iK:(Ex.mk 1 v t m cu args).may=(decide (t=[]/\m=[]/\cu=0/\args=[])&&(v.may&&(decide (v.kind≠1)||decide (0<=v.num)))):=by simp[Ex.may]
   rw[iK];clear iK he hs
   by_cases hA:t=[]/\m=[]/\cu=0/\args=[]
   ·simp only[hA];simp;refine ao.pure hv ?_
    cases hm:v.may with
    | false=>simp;exact .bool rfl
    | true =>
     by_cases hk:v.kind=1
     ·by_cases hn:0<=v.num
      ·simp[hk,hn];exact .bool rfl
      simp[hk,hn];exact .bool rfl
     simp[hk];exact .bool rfl
   simp only[hA,decide_false];simp;exact .bool rfl
  by_cases h2 : op=2
  ·subst h2;have hs:=Pm (.mk 2 v t m cu args) (.mk 2 ⟨0,0,[]⟩ t m 0 []) (by omega) (by simp[Ex.sz,Ex.mB,lim]) (L:=[.int .i64 2,.int .i64 0,.int .i64 0,.str [],.str t,.str m,.int .i64 0,.ak (.slice none 0 0)]) (by simp) (by simp[Ex.cells,iH])
   have he:(Ex.mk 2 v t m cu args).same (.mk 2 ⟨0,0,[]⟩ t m 0 [])=decide ((v.kind=0/\v.num=0/\v.s=[])/\cu=0/\args=[]):=by
    obtain⟨k,a,s⟩:=v;unfold Ex.same;congr 1;simp
   rw[he]at hs;simp only[Ex.cells]at hs;simp[A81,B81,zy,zx,EE,aet,hF,Ex.av,Ex.cells];refine ao.pure hs ?_;have iK:(Ex.mk 2 v t m cu args).may=(decide (aD m)&&((decide (t=[])||decide (aD t))&&decide ((v.kind=0/\v.num=0/\v.s=[])/\cu=0/\args=[]))):=by simp[Ex.may]
   rw[iK];clear iK he hs
   by_cases hA:(v.kind=0/\v.num=0/\v.s=[])/\cu=0/\args=[]
   ·simp only[hA];simp;refine ao.pure (fw m) ?_
    by_cases hm:aD m
    ·by_cases ht:t=[]
     ·simp[hm,ht];exact .bool rfl
     simp[hm,ht];refine ao.pure (fw t) ?_;simp;exact .bool rfl
    simp[hm];exact .bool rfl
   simp only[hA,decide_false];simp;exact .bool (by simp)
  have hs := Pm (.mk op v t m cu args) (.mk op ⟨0,0,[]⟩ [] [] 0 args) (by omega) (by simp only[Ex.sz];omega) (L:=[.int .i64 op,.int .i64 0,.int .i64 0,.str [],.str [],.str [],.int .i64 0,.ds (Ex.aI args) args.length 8]) (by simp) (by simp[Ex.cells])
  have he:(Ex.mk op v t m cu args).same (.mk op ⟨0,0,[]⟩ [] [] 0 args)=decide ((v.kind=0/\v.num=0/\v.s=[])/\t=[]/\m=[]/\cu=0):=by
   obtain⟨k,a,s⟩:=v;unfold Ex.same;congr 1;simp
  rw[he]at hs;simp only[Ex.cells]at hs;have iK:(Ex.mk op v t m cu args).may=(decide (4<=op/\op<=21)&&(decide ((args.length:Int)=if op<=7 then 1 else 2)&&(decide ((v.kind=0/\v.num=0/\v.s=[])/\t=[]/\m=[]/\cu=0)&&Ex.oJ args))):=by simp[Ex.may,h1,h2]
  rw[iK];clear iK he;generalize decide ((v.kind=0/\v.num=0/\v.s=[])/\t=[]/\m=[]/\cu=0)=A at hs ⊢
  have body : ∀ (w:Nat)(F:Fr),(w:Int)=(if op<=7 then 1 else 2)->F.get 1=some (.ptr 0 0)->F.get 3=some (.int .i64 (w:Int))->VC pG (.seq (.seq wE (.cond (aC 87) (.seq wD .ret) .skip)) (.seq (.seq G7 (.block 0 (.loop MD))) (.seq G5 .ret))) F ((Tr.nil:Hp).put 0 (some (.cells 8 [] [.int .i64 op,.int .i64 v.kind,.int .i64 v.num,.str v.s,.str t,.str m,.int .i64 cu,.ds (Ex.aI args) args.length 8] .nil))) 1 [] (iR [aP 2] λ v1 H' _=>dU H'.get v1 (.bool (decide (4<=op/\op<=21)&&(decide ((args.length:Int)=if op<=7 then 1 else 2)&&(A&&Ex.oJ args))))):=by
   intro w F hw f1 f3
   by_cases r1:op<4
   ·simp[wE,wD,f1,r1];exact .bool (by simp;omega)
   by_cases r2:21<op
   ·simp[wE,wD,f1,r1,r2];exact .bool (by simp;omega)
   have r3 : decide (4<=op/\op<=21)=true:=by simp;omega
   rw[r3,<-hw]
   by_cases hlen:args.length=w
   ·subst hlen;simp[wE,f1,f3,r1,r2];refine ao.pure hs ?_
    cases A with
    | false=>simp[wD];exact .bool rfl
    | true =>
     simp[G7];rw[Ar];refine au.of (λ g F K n ms=>∃i,g=args.length - i/\i<=args.length/\F.get 1=some (.ptr 0 0)/\F.get 3=some (.int .i64 (args.length:Int))/\F.get 4=some (.int .i64 (i:Int))/\K.get 0=some (.cells 8 [] [.int .i64 op,.int .i64 v.kind,.int .i64 v.num,.str v.s,.str t,.str m,.int .i64 cu,.ds (Ex.aI args) args.length 8] .nil)/\ms=[]/\∀j (_:j<i) (h:j<args.length),args[j].may=true) args.length ⟨0,by simp,by omega,by simp[f1],by simp[f3],by simp,by simp,rfl,λ j h=>by omega⟩ ?_;clear hF f1 f3 hs F;rintro g F K n ms ⟨i,rfl,hi,f1,f3,f4,k0,rfl,hj⟩
     by_cases hlt:i<args.length
     ·have hx:=jM (k:=.i64) hlt;simp[MD,G6,Uu,f1,f3,f4,k0,hlt,hx];refine ao.pure (ih i hlt) ?_
      cases hr:args[i].may with
      | false =>
       have:args.all Ex.may=false:=all_eq_false.2 ⟨args[i],getElem_mem hlt,by simp[hr]⟩;simp[Ut];exact .bool this.symm
      | true =>
       simp[Us,f4,ah i (by omega)];refine⟨_,by omega,i+1,rfl,hlt,f1,f3,rfl,k0,λ j hji h=>?_⟩
       by_cases e:j=i
       ·subst e;exact hr
       exact hj j (by omega) h
     obtain rfl:i=args.length:=by omega
     have:args.all Ex.may=true:=by
      rw[all_eq_true];intro e he;obtain⟨j,h,rfl⟩:=getElem_of_mem he;exact hj j h h
     simp[MD,G6,G5,f3,f4];exact .bool this.symm
   have hlen':decide ((args.length:Int)=(w:Int))=false:=by simp;omega
   rw[hlen'];simp[wE,wD,f1,f3,r1,r2,hlen];exact .bool rfl
  by_cases r4:4<=op
  ·by_cases r7:op<=7
   ·simp[A81,B81,zy,zx,EE,KB,KA,aes,hF,Ex.av,Ex.cells,h1,h2,r4,r7];rw[<-bA,<-bA];simpa[r4,r7]using body 1 _ (by simp[r7]) (by simp) (by simp)
   simp[A81,B81,zy,zx,EE,KB,KA,hF,Ex.av,Ex.cells,h1,h2,r4,r7];rw[<-bA,<-bA];simpa[r4,r7]using body 2 _ (by simp[r7]) (by simp) (by simp)
  simp[A81,B81,zy,zx,EE,KB,KA,hF,Ex.av,Ex.cells,h1,h2,r4];simp[wE,wD,show op<4 by omega];exact .bool rfl
theorem vm (e:Ex)(h:e.sz<=lim):ai pG 81 [e.av] (.bool e.may):=QF lim e h (Nat.le_refl _)
theorem abh (l:List Ex)(hl:l.length<=lim)(hz:∀e∈l,e.sz<=lim):ai pG 79 [dz.ds l] (.bool (rowOk l)):=by
 unfold lim at hl;refine bf c79 (by simp) (by simp) (by simp[A79]) λ F hF=>?_;simp[A79,B79,aeI,aeH];refine au.of (λ t F K n ms=>∃i,t=l.length - i/\i<=l.length/\F.get 0=some (dz.ds l)/\F.get 3=some (.int .i64 (i:Int))/\ms=[]/\∀j (_:j<i) (h:j<l.length),l[j].may=true) l.length ⟨0,by simp,by omega,by simp[hF],by simp,rfl,λ j h=>by omega⟩ ?_;clear hF F;rintro g F K n ms ⟨i,rfl,hi,f0,f3,rfl,hj⟩
 by_cases hlt:i<l.length
 ·have hx:=dz.ix (ik:=.i64) hlt;have hld:=λ r H=>dz.gM l[i] r H;have Od:=vm l[i] (hz _ (getElem_mem hlt));have pP:ai pG 81 [dz.av l[i]] (.bool l[i].may):=Od;simp[ME,KC,aeG,f0,f3,al.ag,hlt,hx,hld];refine ao.pure pP ?_
  cases hr:l[i].may with
  | false =>
   have:l.all Ex.may=false:=all_eq_false.2 ⟨l[i],getElem_mem hlt,by simp[hr]⟩;simp[aeF];exact .bool (by simp[rowOk,this])
  | true =>
   simp[aeE,f3,ah i (by omega)];refine⟨_,by omega,i+1,rfl,hlt,f0,rfl,λ j hji h=>?_⟩
   by_cases e:j=i
   ·subst e;exact hr
   exact hj j (by omega) h
 obtain rfl:i=l.length:=by omega
 have hall:l.all Ex.may=true:=by
  rw[all_eq_true];intro e he;obtain⟨j,h,rfl⟩:=getElem_of_mem he;exact hj j h h
 by_cases h0:0<l.length
 ·simp[ME,KC,Ux,f0,f3,al.ag,h0];refine .bool ?_;rw[Bool.eq_iff_iff];simp only[rowOk,hall,decide_eq_true_eq,Bool.and_true];omega
 simp[ME,KC,Ux,f0,f3,al.ag,h0];refine .bool ?_;simp[rowOk];omega
theorem mH {ns:List (List Nat)}{ts:List aR}{e:Ex}{f:Int}(h:(e.bd ns ts 0).2.2=f)(hf:f≠0):dH ns ts e=(jy,0,f):=by
 unfold dH;rw[h,if_neg hf]
theorem qF {ns:List (List Nat)}{ts:List aR}{e:Ex}{r:Ex×Int×Int}(h:e.bd ns ts 0=r)(hf:r.2.2=0):dH ns ts e=r:=by
 unfold dH;rw[h,if_pos hf]
theorem O9 {h:Hf}{cs:List AV}{e:Ex}{k f:Int}(hx:aN h cs e.cells):dU h (.bg [.agg cs 8,.int .i64 k,.int .i64 f]) (.bg [e.av,.int .i64 k,.int .i64 f]):=
 .bg _ _ (.cons _ _ _ _ (.agg _ _ _ hx) (.cons _ _ _ _ (.pure _ (by simp)) (.cons _ _ _ _ (.pure _ (by simp)) .nil)))
structure TdF (l:List (List Nat×aR))(i:Nat)(y:AV)(F:Fr):Prop where
 f0:F.get 0=some (jd.ds l)
 f3:F.get 3=some (.ptr 0 0)
 f4:F.get 4=some (.ptr 1 0)
 f10:F.get 10=some (.ptr 2 0)
 f11:F.get 11=some y
 f12:F.get 12=some (.int .i64 (i:Int))
def OY:List AV:=[.int .i64 0,.int .i64 0,.int .i64 0,.str [],.str [],.str [],.int .i64 0,.ak (.slice none 0 0)]
structure TdK (e:Ex)(op:Int)(A:List Ex)(B:List Int)(i:Nat)(x y:AV)(K:Hp)(m:Nat):Prop where
 hm:3<=m
 k0:K.get 0=some (.cells 8 [] e.cells .nil)
 k1:K.get 1=some (.cells 8 [] OY .nil)
 k2:K.get 2=some (.cells 8 [] [.int .i64 op,.int .i64 0,.int .i64 0,.str [],.str [],.str [],.int .i64 0,x] .nil)
 ox:ar K m x (Ex.aI A) i 8
 oy:ar K m y (bR.l B) i 1
 dx:∀b,blk x=some b->3<=b/\blk y≠some b
 dy:∀b,blk y=some b->3<=b
theorem ajY (l:List Int):bR.l l=bU l:=by
 induction l with
 | nil=>rfl
 | cons a l ih=>rw[al.lH,ih];rfl
theorem O' (l:List (List Nat×aR))(e:Ex)(op:Int)(A:List Ex)(B:List Int)(i:Nat)(hi:i<=1048576)(x y:AV)(F:Fr)(K:Hp)(m a:Nat)(Q:QA)(r:Ex)(k:Int)(hF:TdF l i y F)(f13:F.get 13=some (.ptr a 0))(f14:F.get 14=some (.int .i64 k))(ha:K.get a=some (.cells 8 [] r.cells .nil))(M:TdK e op A B i x y K m)
  (hQ:∀F K m x y,TdF l i y F->TdK e op (A++[r]) (B++[k]) (i+1) x y K m->Q .normal F K m []):VC pG (.seq BU BS) F K m [] Q:=by
 obtain⟨f0,f3,f4,f10,f11,f12⟩:=hF;obtain⟨hm,k0,k1,k2,ox,oy,dx,dy⟩:=M;simp[BU,f10,f13,k2,ha];generalize hK1:Tr.put K m _=K1;have g1:∀b,b<m->K1.get b=K.get b:=λ b hb=>by rw[<-hK1];simp[dj hb]
 have x1:K1.get m=some (.cells 8 [] r.cells .nil):=by rw[<-hK1];simp
 clear hK1;have hxl:∀b,blk x=some b->b<m:=λ b h=>ox.aK h;have hyl:∀b,blk y=some b->b<m:=λ b h=>oy.aK h;have nx:∀b,b<3->blk x≠some b:=λ b h1 h2=>by have:=(dx b h2).1;omega
 have ny:∀b,b<3->blk y≠some b:=λ b h1 h2=>by have:=dy b h2;omega
 refine ar.jr (k:=1) (new:=r.cells) (ox.frame (H':=K1) (n':=m+1) (by omega) λ b hb=>g1 b (hxl b hb)) (aB x1) (by simp) (by simp) (by omega) (by omega) (by unfold big;omega) (by omega) (by simp) λ K2 o2 g2=>?_;have bk:∀b,b<3->K2.get b=K.get b:=λ b hb=>(g2 b (by omega) (nx b hb)).trans (g1 b (by omega));have k22:=(bk 2 (by omega)).trans k2;have by2:∀b,blk y=some b->K2.get b=K.get b:=λ b hb=>(g2 b (by have:=hyl b hb;omega) λ h=>(dx b h).2 hb).trans (g1 b (hyl b hb));simp[f10,k22,BS,f11,f14];generalize hK3:Tr.put (Tr.put K2 2 _) _ _=K3;have g3:∀b,b≠2->b<m+1+1->K3.get b=K2.get b:=λ b h1 h2=>by rw[<-hK3];simp[h1,dj h2]
 have x3:K3.get 2=some (.cells 8 [] [.int .i64 op,.int .i64 0,.int .i64 0,.str [],.str [],.str [],.int .i64 0,.sl (m+1) 0 (i+1) 8] .nil):=by rw[<-hK3];simp[show ¬m=0 by omega]
 have y3:K3.get (m+1+1)=some (.cells 1 [] [.int .i64 k] .nil):=by rw[<-hK3];simp
 clear hK3;have oy3:ar K3 (m+1+1+1) y (bR.l B) i 1:=oy.frame (by omega) λ b hb=>(g3 b (by have:=dy b hb;omega) (by have:=hyl b hb;omega)).trans (by2 b hb);refine ar.jr (k:=1) (new:=[.int .i64 k]) oy3 (aB y3) (by simp) (by simp) (by omega) (by omega) (by unfold big;omega) (by omega) (by simp) λ K4 o4 g4=>?_;simp;have b4:∀b,b<m+1+1->blk y≠some b->K4.get b=K3.get b:=λ b h1 h2=>g4 b (by omega) h2;refine hQ _ K4 _ (.sl (m+1) 0 (i+1) 8) (.sl (m+1+1+1) 0 (i+1) 1) ⟨by simp[f0],by simp[f3],by simp[f4],by simp[f10],by simp,by simp[f12]⟩ ⟨by omega,?_,?_,?_,?_,?_,λ b hb=>by simp at hb;simp;omega,λ b hb=>by simp at hb;omega⟩
 ·exact(b4 0 (by omega) (ny 0 (by omega))).trans ((g3 0 (by omega) (by omega)).trans ((bk 0 (by omega)).trans k0))
 ·exact(b4 1 (by omega) (ny 1 (by omega))).trans ((g3 1 (by omega) (by omega)).trans ((bk 1 (by omega)).trans k1))
 ·exact(b4 2 (by omega) (ny 2 (by omega))).trans x3
 ·rw[Ex.fZ,show Ex.aI [r]=r.cells by simp[Ex.aI]]
  exact o2.frame (by omega) λ b hb=>by
   simp at hb;exact(b4 b (by omega) λ h=>by have:=hyl b h;omega).trans (g3 b (by omega) (by omega))
 rw[al.bo,al.dF,eR];exact o4
theorem C2 (ns:List (List Nat)) (ts:List aR) (hn:ns.length=ts.length) (hl:ts.length<=lim) (hk:(aj ts).length<=lim) (hc:∀t∈ts,t.ae.length<=lim):∀(N:Nat) (e:Ex),e.sz<=N->N<=lim->e.may=true->ai pG 120 [jd.ds (ns.zip ts),e.av] (.bg [(dH ns ts e).1.av,.int .i64 (dH ns ts e).2.1,.int .i64 (dH ns ts e).2.2])
 | 0,e,h,_,_=>by have:=Ex.gd e;omega
 | N + 1,.mk op v t m cu args,ha,hN,hm=>by
  simp only[Ex.sz]at ha;have hla:=Ex.jf args;have hzs:(ns.zip ts).map (·.2)=ts:=map_snd_zip (by omega);have hzl:(ns.zip ts).length=ts.length:=by simp;omega
  generalize hL:ns.zip ts=L at *;refine bf c120 (by simp) (by simp) (by simp[A120]) λ F hF=>?_
  by_cases h1:op=1
  ·have ht:=qF (ns:=ns) (ts:=ts) (e:=.mk op v t m cu args) (r:=(.mk op v t m cu args,v.kind,0)) (by simp[Ex.bd,h1]) rfl;rw[ht];simp only[A120,B120,Ca,BX,XH];simp[hF,Ex.av,Ex.cells,h1];refine bY.of (bH (P:=pG)) ?_;simp[aa];exact .pure _ (by simp)
  by_cases h2:op=2
  ·have avT:=ajQ L t m (by rw[hzl];exact hl) (by rw[hzs];exact hk) (λ x hx=>hc _ (by rw[<-hzs];exact mem_map_of_mem hx));have hps:iE ns ts t m=gE t m L:=by unfold iE;rw[hL,z7]
   have Rq:=DI L (by rw[hzl];exact hl) (by rw[hzs];exact hk);rw[hzs]at Rq;simp[A120,B120,Ca,BX,H4,XG,hF,Ex.av,Ex.cells,h2];refine ao.pure avT ?_
   by_cases hf:(gE t m L).2=0
   ·have hpl:=yC hn (table:=t) (name:=m) (by rw[hps];exact hf);rw[hps]at hpl;have ht:=qF (ns:=ns) (ts:=ts) (e:=.mk op v t m cu args) (r:=(.mk 3 ⟨0,0,[]⟩ [] [] (gE t m L).1 [],(aj ts).getD (gE t m L).1.toNat 0,0)) (by simp[Ex.bd,h2,hps,hf]) rfl;rw[h2]at ht;rw[ht];generalize (gE t m L).1=Fb at *;obtain⟨p,rfl⟩:∃p:Nat,Fb=(p:Int):=⟨Fb.toNat,by omega⟩;have hx:=bR.ix (l:=aj ts) (i:=p) (ik:=.i64) (by omega);rw[eR]at hx;simp[HZ,hf,XE,hF];refine ao.pure Rq ?_;simp only[XD];simp;refine bY.of (bH (P:=pG)) ?_;simp[aa,hx];have hg:(aj ts).getD p 0=(aj ts)[p]'(by omega):=by simp[show p<(aj ts).length by omega]
    rw[show (aj ts)[p]?.getD 0=(aj ts)[p]'(by omega) by simp[show p<(aj ts).length by omega]];refine O9 ?_;simp only[Ex.cells,Ex.aI];exact aN.snoc [_,_,_,_,_,_,_] (by simp) (.nil 7)
   have ht:=mH (ns:=ns) (ts:=ts) (e:=.mk op v t m cu args) (f:=(gE t m L).2) (by simp[Ex.bd,h2,hps,hf,keep]) hf;rw[h2]at ht;rw[ht];simp[HZ,XF,hf];exact O9 (qV _)
  have iK:=hm;unfold Ex.may at iK;rw[if_neg h1,if_neg h2]at iK;simp only[Bool.and_eq_true,decide_eq_true_eq]at iK;obtain⟨⟨r1,r2⟩,r3,_,r4⟩:=iK;rw[Ar]at r4;have hlim:=hN;unfold lim at hN;have hbd:(Ex.mk op v t m cu args).bd ns ts 0=(.mk op ⟨0,0,[]⟩ [] [] 0 (Ex.ig ns ts args 0).1,(dA op).1.kind,keep (Ex.ig ns ts args 0).2.2 203 (!(dA op).1.fits (Ex.ig ns ts args 0).2.1)):=by simp[Ex.bd,h1,h2]
  have ih:∀(i:Nat) (h:i<args.length),ai pG 120 [jd.ds L,args[i].av] (.bg [(dH ns ts args[i]).1.av,.int .i64 (dH ns ts args[i]).2.1,.int .i64 (dH ns ts args[i]).2.2]):=λ i h=>by
   have m1:=Ex.lr (getElem_mem h);have m2:=(all_eq_true.1 r4) _ (getElem_mem h);have:=C2 ns ts hn hl hk hc N args[i] (by omega) (by omega) m2
   rwa [hL]at this
  simp[A120,B120,Ca,BX,H4,XC,Ls,Lr,hF,Ex.av,Ex.cells,h1,h2];refine au.of (λ g F K n ms=>∃(i:Nat) (x y:AV),g=args.length - i/\i<=args.length/\TdF L i y F/\TdK (.mk op v t m cu args) op (Ex.ig ns ts (args.take i) 0).1 (Ex.ig ns ts (args.take i) 0).2.1 i x y K n/\(Ex.ig ns ts (args.take i) 0).2.2=0/\ms=[]) args.length ⟨0,.ak (.slice none 0 0),.ak (.slice none 0 0),by simp,by omega,⟨by simp[hF],by simp,by simp,by simp,by simp,by simp⟩,⟨by omega,by simp[Ex.cells],by simp[OY],by simp,by simpa[Ex.ig,Ex.aI]using ar.nil _ _ 8,by simpa[Ex.ig]using ar.nil _ _ 1,by simp,by simp⟩,rfl,rfl⟩ ?_;clear hF F;rintro g F K n ms ⟨i,x,y,rfl,hi,hF,M,he,rfl⟩;obtain⟨f0,f3,f4,f10,f11,f12⟩:=id hF;have k0:=M.k0;simp only[Ex.cells]at k0;have k1:=M.k1;simp only[OY]at k1;have hmm:=M.hm
  by_cases hlt:i<args.length
  ·have hx:=jM (k:=.i64) hlt;have ihi:=ih i hlt;have hbt:=Ex.Es ns ts hlt 0;rw[he]at hbt;have avh:ai pG 120 [jd.ds L,.agg args[i].cells 8] (.bg [.agg (dH ns ts args[i]).1.cells 8,.int .i64 (dH ns ts args[i]).2.1,.int .i64 (dH ns ts args[i]).2.2]):=ihi;simp[Ji,BW,Lq,f0,f3,f12,k0,hlt,hx];refine ao.pure avh ?_
   by_cases hf:(args[i].bd ns ts 0).2.2=0
   ·have ht:=qF (r:=args[i].bd ns ts 0) rfl hf;rw[ht];generalize args[i].bd ns ts 0=r at *;obtain⟨ra,rk,rf⟩:=r;simp only at hf;subst hf;simp[BV];generalize hK1:Tr.put (Tr.put K n _) n _=K1;have g1:∀b,b<n->K1.get b=K.get b:=λ b hb=>by rw[<-hK1];simp[dj hb]
    have x1:K1.get n=some (.cells 8 [] ra.cells .nil):=by rw[<-hK1];simp
    clear hK1;have M1:TdK (.mk op v t m cu args) op (Ex.ig ns ts (args.take i) 0).1 (Ex.ig ns ts (args.take i) 0).2.1 i x y K1 (n+1):=⟨by omega,(g1 0 (by omega)).trans M.k0,(g1 1 (by omega)).trans M.k1,(g1 2 (by omega)).trans M.k2,M.ox.frame (by omega) λ b hb=>g1 b (M.ox.aK hb),M.oy.frame (by omega) λ b hb=>g1 b (M.oy.aK hb),M.dx,M.dy⟩;rw[<-bA];refine O' L _ op _ _ i (by omega) x y _ K1 (n+1) n _ ra rk ⟨by simp[f0],by simp[f3],by simp[f4],by simp[f10],by simp[f11],by simp[f12]⟩ (by simp) (by simp) x1 M1 λ F2 K2 n2 x2 y2 ⟨f0,f3,f4,f10,f11,f12⟩ M2=>?_;simp[Lo,f12,ah i (by omega)];refine⟨_,by omega,i+1,rfl,hlt,x2,y2,⟨by simp[f0],by simp[f3],by simp[f4],by simp[f10],by simp[f11],by simp⟩,?_,?_⟩
    ·rw[hbt];exact M2
    rw[hbt]
   have ht:=mH (e:=args[i]) rfl hf
   have htot:(Ex.ig ns ts args 0).2.2=(args[i].bd ns ts 0).2.2:=by
    have hsp:args=args.take (i+1)++args.drop (i+1):=(take_append_drop _ _).symm;have:=Ex.Ko ns ts (args.drop (i+1)) (args.take (i+1)) 0;rw[<-hsp,hbt]at this;rw[this];exact Ex.Gw ns ts _ _ hf
   have hT:=mH (e:=.mk op v t m cu args) (f:=(args[i].bd ns ts 0).2.2) (by rw[hbd,htot];simp[keep,hf]) hf;rw[hT,ht];generalize (args[i].bd ns ts 0).2.2=f at *;simp[BV,Lp,f4,k1,hf,dj (show 1<n by omega)];exact O9 (qV _)
  obtain rfl:i=args.length:=by omega
  rw[take_length]at M he;have hbl:=Ex.uA ns ts args 0;have hmk:=aa1 op (Ex.ig ns ts args 0).2.1 ⟨r1,r2⟩ (by rw[hbl.2];unfold lim;omega) (by rw[hbl.2,(O4 r1 r2).1];exact r3);obtain⟨OU,mo2⟩:=aa0 (l:=(Ex.ig ns ts args 0).2.1) r1 r2;rw[he]at hbd;have ox:=M.ox;have oy:=M.oy;have dx:=M.dx;have k2:=M.k2;have hxo:=ox.dO;obtain⟨hx1,hx2⟩:=ox.oK;generalize hbb:Ex.ig ns ts args 0=BB at *;obtain⟨BA,BK,BE⟩:=BB;simp only at *;simp[Ji,BW,Ln,f3,f11,f12,k0]
  have hfz:aN K.get [.int .i64 op,y] [.int .i64 op,.ds (bU BK) BK.length 1]:=by
   refine .cons _ _ _ _ (.pure _ (by simp)) (.cons _ _ _ _ ?_ .nil);rw[hbl.2];have:=oy.uw (aN.pure (by simp)) (by omega)
   rwa [ajY]at this
  refine ao.uw hmk (by simp) hfz ?_
  cases hfit:(dA op).1.fits BK with
  | true =>
   have hT:=qF (e:=.mk op v t m cu args) hbd (by rw[hfit];simp[keep]);rw[hT];simp[OU,mo2 hfit,hfit,BQ,Ll,f4,f10,k1,k2,hxo];refine O9 ?_;simp only[Ex.cells];have:=ar.vJ (h:=(Tr.put K 1 (some (.cells 8 [] [.int .i64 op,.int .i64 0,.int .i64 0,.str [],.str [],.str [],.int .i64 0,x] .nil))).get) ox (by decide) (λ c h=>by simp[show c≠1 by have:=(dx c h).1;omega]) (aN.pure (by simp));rw[<-hbl.1]at this;exact aN.snoc [_,_,_,_,_,_,_] (by simp) this
  | false =>
   have hT:=mH (e:=.mk op v t m cu args) (f:=203) (by rw[hbd,hfit];simp[keep]) (by decide);rw[hT];simp[OU,hfit,BQ,Lm,f4,k1];exact O9 (qV _)
theorem amS (d t:aR)(b:Nat)(H:Hp)(n:Nat)(hb:H.get b=some (.cells 4 [] (aG.cells t) .nil))(ht:cS H n):aH pG 42 [aG.av d,.ptr b 0] H n (λ u K k=>u=.bool (decide (d.name=t.name))/\K=H/\k=n):=by
 refine aH.forget (by simp) (aH.of c42 (by simp[A42]) λ F hF=>?_);have q:¬b=n:=by have:=ht.lt hb;omega
 simp[A42,B42,agi,agh,hF,al.av,aU,q,hb];rintro c hc rfl;exact absurd (ht _ (Nat.le_refl _)) hc
theorem aob (d t:jb)(b:Nat)(H:Hp)(n:Nat)(hb:H.get b=some (.cells 6 [] (bC.cells t) .nil))(ht:cS H n):aH pG 45 [bC.av d,.ptr b 0] H n (λ u K k=>u=.bool (decide (d.name=t.name))/\K=H/\k=n):=by
 refine aH.forget (by simp) (aH.of c45 (by simp[A45]) λ F hF=>?_);have q:¬b=n:=by have:=ht.lt hb;omega
 simp[A45,B45,aga,af',hF,al.av,eG,q,hb];rintro c hc rfl;exact absurd (ht _ (Nat.le_refl _)) hc
theorem aj9 {f:FuncId}{first cap:List AV}{p:aR->Bool}{H:Hp}{n:Nat}(l:List aR)(hl:l.length<=lim)(hp:∀x∈l,aH pG f (first++([aG.av x]++cap)) H n (λ u K k=>u=.bool (p x)/\K=H/\k=n)):
  aH pG 41 [aG.ds l,.fn (.func f) first cap] H n (λ u K k=>u=.bool (l.any p)/\K=H/\k=n):=
 v8 c41 (rZ (el:=aG.av) c96 hl (aG.ag _) (λ i h=>⟨_,aG.ix h,λ F H n si=>by simp[si,aG.gM]⟩) hp)
theorem aj' {f:FuncId}{first cap:List AV}{p:jb->Bool}{H:Hp}{n:Nat}(l:List jb)(hl:l.length<=lim)(hp:∀x∈l,aH pG f (first++([bC.av x]++cap)) H n (λ u K k=>u=.bool (p x)/\K=H/\k=n)):
  aH pG 44 [bC.ds l,.fn (.func f) first cap] H n (λ u K k=>u=.bool (l.any p)/\K=H/\k=n):=
 v8 c44 (rZ (el:=bC.av) c98 hl (bC.ag _) (λ i h=>⟨_,bC.ix h,λ F H n si=>by simp[si,bC.gM]⟩) hp)
def ei (t:aR)(l:List Int):Prop:=l≠[]/\l.length<=16/\∀i (h:i<l.length),0<=l[i]/\l[i]<(t.ae.length:Int)/\l[i]∉l.take i
theorem Qd (t:aR) (l:List Int) (_hc:t.ae.length<=lim):ai pG 43 [aG.av t,bR.ds l] (.bool (decide (ei t l))):=by
 refine bf c43 (by simp) (by simp) (by simp[A43]) λ F hF=>?_
 by_cases h0:l=[]
 ·have:¬ei t l:=λ h=>h.1 h0;simp[A43,B43,KX,KW,hF,al.av,al.ag,h0,Vy];exact .bool (by subst h0;simp[this])
 by_cases h16:l.length<=16
 ·simp[A43,B43,KX,KW,hF,al.av,al.ag,h0,show ¬(16:Int)<(l.length:Int) by omega,agf,aU];generalize hK:Tr.put _ 0 _=K;have k0:K.get 0=some (.cells 4 [] [.int .u32 t.id,.str t.name,aW.ds t.ae,.int .u32 t.head] .nil):=by rw[<-hK];simp
  clear hK;refine au.of (λ q F K' n ms=>∃i,q=l.length - i/\i<=l.length/\F.get 1=some (bR.ds l)/\F.get 2=some (.ptr 0 0)/\F.get 15=some (bR.ds l)/\F.get 16=some (.int .i64 (l.length:Int))/\F.get 17=some (.int .i64 (i:Int))/\ms=[]/\K'=K/\∀k (h:k<i) (h2:k<l.length),0<=l[k]/\l[k]<(t.ae.length:Int)/\l[k]∉l.take k) l.length ⟨0,by simp,by simp,by simp[hF],by simp,by simp,by simp,by simp,rfl,rfl,λ k h=>by omega⟩ ?_;rintro q F K' n ms ⟨i,rfl,hi,f1,f2,f15,f16,f17,rfl,rfl,hk⟩
  by_cases hlt:i<l.length
  ·have hx:=bR.ix (ik:=.i64) hlt;rw[eR]at hx;have hsl:=bR.xJ (l:=l) (i:=i) hi;have no:∀P:Prop,(ei t l->P)->¬P->¬ei t l:=λ P h1 h2 h3=>h2 (h1 h3);simp[Zr,Vx,f16,f17,hlt,age,f15,hx,agd]
   by_cases hn:l[i]<0
   ·have:=no (0<=l[i]) (λ h=>(h.2.2 i hlt).1) (by omega);simp[hn,KV];exact .bool (by simp[this])
   by_cases hb:(t.ae.length:Int)<=l[i]
   ·have:=no (l[i]<(t.ae.length:Int)) (λ h=>(h.2.2 i hlt).2.1) (by omega);simp[hn,f2,k0,al.ag,hb,KV];exact .bool (by simp[this])
   simp[hn,f2,k0,al.ag,hb,f1,xO,uk,hsl];refine ao.pure (Gl (l.take i) l[i] (by simp;unfold lim;omega)) ?_
   by_cases hm:l[i]∈l.take i
   ·have:=no (l[i]∉l.take i) (λ h=>(h.2.2 i hlt).2.2) (by simpa using hm);simp[hm,KV];exact .bool (by simp[this])
   simp[hm,agc,f1,f2,f15,f16,f17,ah i (by omega)];refine⟨l.length - (i+1),by omega,i+1,rfl,hlt,rfl,λ k h h2=>?_⟩
   by_cases e:k=i
   ·subst e;exact⟨by omega,by omega,hm⟩
   exact hk k (by omega) h2
  obtain rfl:i=l.length:=by omega
  have:ei t l:=⟨h0,h16,λ j h=>hk j h h⟩;simp[Zr,Vx,f16,f17,agb];exact .bool (by simp[this])
 have:¬ei t l:=λ h=>h16 h.2.1;simp[A43,B43,KX,KW,hF,al.av,al.ag,h0,show (16:Int)<(l.length:Int) by omega,Vy];exact .bool (by simp[this])
end Go.Abs
namespace Go.Abs
open List
open Go.Proofs
open Classical
set_option maxRecDepth 100000
section
variable {F:Fr}{H:Hp}{n:Nat}
@[simp] theorem aty (q:LK)(m k v:G):y9 q m k v F H n=oE (m.f F) λ m=>oE (k.f F) λ k=>oE (v.f F) λ v=>wm q m k v H:=by
 unfold y9 oE
 cases m.f F with
 | none=>rfl
 | some a=>dsimp only;cases k.f F with
  | none=>rfl
  | some b=>dsimp only;cases v.f F<;>rfl
@[simp] theorem al4 (q:LK)(z:AV)(ok:Bool)(m k:G):lP q z ok m k F H n=oE (m.f F) λ m=>oE (k.f F) λ k=>lS q z ok m k H:=by
 unfold lP oE
 cases m.f F with
 | none=>rfl
 | some a=>dsimp only;cases k.f F<;>rfl
end
def JM:Nat->List Int->List (AV×AV×Nat)
 | _,[]=>[]
 | i,x::r=>(.int .u32 x,.int .i64 1,i)::JM (i+1) r
theorem Ao (x:Int):∀(l:List Int)(i:Nat),JM i (l++[x])=JM i l++[(.int .u32 x,.int .i64 1,i+l.length)]
 | [],i=>by simp[JM]
 | y::r,i=>by simp[JM,Ao x r (i+1)];omega
theorem ni (a b:Int):e9 .i (.int .u32 a) (.int .u32 b)=some (decide (a=b)):=by
 simp only[e9,if_true]
 congr 1
theorem su (k:Int):∀(l:List Int)(i:Nat),findKey .i (.int .u32 k) (JM i l)=some (if k∈l then some (.int .i64 1)else none)
 | [],i=>rfl
 | y::r,i=>by
  simp only[JM,findKey,ni]
  by_cases h:k=y
  ·simp[h]
  simp[h,su k r (i+1)]
theorem acp (k:Int)(v:AV):∀(l:List Int)(i:Nat),k∉l->lx .i (.int .u32 k) v (JM i l)=some none
 | [],i,_=>rfl
 | y::r,i,h=>by
  simp only[mem_cons,not_or]at h;simp only[JM,lx,ni];simp[h.1,acp k v r (i+1) h.2]
theorem aco (k:Int)(v:AV):∀(l:List Int)(i:Nat),k∈l->∃es,lx .i (.int .u32 k) v (JM i l)=some (some es)/\findKey .i (.int .u32 k) es=some (some v)
 | [],i,h=>by simp at h
 | y :: r,i,h=>by
  simp only[JM,lx,ni]
  by_cases e:k=y
  ·subst e;simp[findKey,ni]
  have h2:k∈r:=by simpa[e]using h
  obtain⟨es,h3,h4⟩:=aco k v r (i+1) h2;simp[e,h3,findKey,ni,h4]
theorem RB (k:Int)(l:List Int)(i:Nat)(_h:k∉l):findKey .i (.int .u32 k) (JM i l++[(.int .u32 k,.int .i64 1,i+l.length)])=some (some (.int .i64 1)):=by
 rw[<-Ao,su];simp
structure S85 (s:bD)(Fo:Fr)(l:List Int)(K:Hp)(n:Nat):Prop where
 k0:K.get 0=some (.cells 2 [] (cw.cells s) .nil)
 k1:K.get 1=some (.cells 1 [] [.bool false] .nil)
 k2:K.get 2=some (.map (JM 0 l) l.length)
 k3:K.get 3=some (.cells 1 [] [.map 2] .nil)
 k4:K.get 4=some (.cells 2 [] (cw.cells s) .nil)
 k5:K.get 5=some (.loop .ready .normal 120 Fo [25] zr.1 zr.2)
 k6:K.get 6=some .kX
 n7:7<=n
 top:cS K n
structure X85 (Fo:Fr)(K:Hp):Prop where
 k1:K.get 1=some (.cells 1 [] [.bool false] .nil)
 k5:∃nt G ps a b,K.get 5=some (.loop .done .ret nt G ps a b)
 k6:K.get 6=some .kX
theorem Dl (s:bD) (Fo:Fr) (l:List Int) (x:Int){K:Hp}{n:Nat}{pd:Pd}{r:List (Option GO)}{F:Fr}{Q:QA}(f2:Fo.get 2=some (.ptr 1 0)) (f3:Fo.get 3=some (.ptr 3 0)) (S:S85 s Fo l K n)
  (h1:x≠0->x∉l->∀K' n',S85 s Fo (l++[x]) K' n'->fj pG r (pd.f (.bool true) F) K' n' [] Q)
  (h2:(x=0∨x∈l)->∀K' n',X85 Fo K'->fj pG r (pd.f (.bool false) F) K' n' [] Q):GA 5 [.int .u32 x] pd r pG F K n [] Q:=by
 obtain⟨k0,k1,k2,k3,k4,k5,k6,n7,top⟩:=S;refine GA.of k5 (by simp[oT];rfl) ?_;rw[aip];simp[aib,k5];refine⟨_,_,_,_,_,_,⟨rfl,rfl,rfl,rfl,rfl,rfl⟩,?_⟩;rw[aio]
 by_cases hx:x∈l
 ·obtain⟨es,hs1,hs2⟩:=aco x (.int .i64 2) l 0 hx
  by_cases h0:x=0
  ·subst h0;simp[EO,f2,f3,k1,k2,k3,lS,wm,isKey,su,hx,hs1,EN,EM];unfold OI;refine⟨_,_,_,_,_,_,_,(by simp;exact⟨rfl,rfl,rfl,rfl,rfl,rfl,rfl⟩),?_⟩;refine h2 (by simp) _ _ ⟨by simp,⟨_,_,_,_,_,by simp;exact⟨rfl,rfl,rfl,rfl,rfl⟩⟩,by simp[k6]⟩
  simp[EO,f2,f3,k1,k2,k3,lS,wm,isKey,su,hx,hs1,hs2,EN,h0,EM];unfold OI;refine⟨_,_,_,_,_,_,_,(by simp;exact⟨rfl,rfl,rfl,rfl,rfl,rfl,rfl⟩),?_⟩;refine h2 (by simp[hx]) _ _ ⟨by simp,⟨_,_,_,_,_,by simp;exact⟨rfl,rfl,rfl,rfl,rfl⟩⟩,by simp[k6]⟩
 have hs1:=acp x (.int .i64 1) l 0 hx;have hs2:=RB x l 0 hx;simp only[Nat.zero_add]at hs2
 by_cases h0:x=0
 ·subst h0;simp[EO,f2,f3,k1,k2,k3,lS,wm,isKey,su,hx,hs1,EN,EM];unfold OI;refine⟨_,_,_,_,_,_,_,(by simp;exact⟨rfl,rfl,rfl,rfl,rfl,rfl,rfl⟩),?_⟩;refine h2 (by simp) _ _ ⟨by simp,⟨_,_,_,_,_,by simp;exact⟨rfl,rfl,rfl,rfl,rfl⟩⟩,by simp[k6]⟩
 simp[EO,f3,k2,k3,lS,wm,isKey,su,hx,hs1,hs2,EN,h0,EM];unfold OI;refine⟨_,_,_,_,_,_,_,(by simp;exact⟨rfl,rfl,rfl,rfl,rfl,rfl,rfl⟩),?_⟩;refine h1 h0 hx _ _ ⟨?_,?_,?_,?_,?_,?_,?_,n7,?_⟩
 ·simp[k0]
 ·simp[k1]
 ·simp[Ao]
 ·simp[k3]
 ·simp[k4]
 ·simp
 ·simp[k6]
 intro b hb;have e2:¬b=2:=by omega
 have e5:¬b=5:=by omega
 simp[e2,e5,top b hb]
end Go.Abs
