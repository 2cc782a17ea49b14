/- A part. -/
import Derived.Test.YtfdoeenlgkkaiaaGreatBt14
noncomputable section
namespace Go.Abs
open List
open Go.Proofs
open Classical
set_option maxRecDepth 100000
theorem aj1 (s:bD) (hs:s.dE) (vt:AV) (F:Fr) (K:Hp) (m:Nat) (Q:QA) (hF:CpF F) (f6:F.get 6=some (.int .i64 0)) (M:CpM s s.tables.length 0 vt (.ak (.slice none 0 0)) K m)
  (hQ:∀vi F K m,CpF F->CpM s s.tables.length s.indexes.length vt vi K m->Q .normal F K m []):au ab_ pG F K m [] (bX 2 Q):=by
 have ht:=hs.i;unfold lim at ht;refine au.ofZ (λ q F K m ms=>∃(i:Nat) (vi:AV),q=s.indexes.length - i/\i<=s.indexes.length/\CpF F/\F.get 6=some (.int .i64 (i:Int))/\CpM s s.tables.length i vt vi K m/\ms=[]) s.indexes.length (Zs.refl ⟨0,_,by simp,by simp,hF,f6,M,rfl⟩) ?_;clear hF f6 M F K m;rintro q1 F K m ms ⟨i,vi,rfl,hi,⟨f1,f2,f3⟩,f6,M,rfl⟩;have k0:=M.k0;rw[cC]at k0
 by_cases hlt:i<s.indexes.length
 ·have hZ:=bC.ix (ik:=.i64) hlt;have hld:=λ H=>bC.gM s.indexes[i] (bC.l (s.indexes.drop (i+1))) H;have htc:=hs.ic _ (getElem_mem hlt);unfold lim at htc;simp[ab_,akP,af4,f1,f6,k0,al.ag,hlt,hZ,hld,al.av];generalize hK1:Tr.put (Tr.put K m _) m _=K1;have g1:∀c,c<m->K1.get c=K.get c:=λ c hc=>by rw[<-hK1];simp[dj hc]
  have x1:K1.get m=some (.cells 6 [] (bC.cells s.indexes[i]) .nil):=by rw[<-hK1];simp
  clear hK1;rw[eG]at x1;simp[af3,x1];refine app0 bR _ (by unfold lim;omega) (by omega) λ v K2 m2 hm2 hv dv g2=>?_;have x2:=(g2 m (by omega)).trans x1;have hone:=hv.dO;obtain⟨hl1,hl2⟩:=hv.oK;have b2:∀c,c<m->K2.get c=K.get c:=λ c hc=>(g2 c (by omega)).trans (g1 c hc);have hm:=M.hm;have k22:=(b2 2 (by omega)).trans M.k2;have hto:=M.oi.dO;have htv:=M.ot.dO;have r_:=λ c h=>M.oi.aK (c:=c) h;have htb:=λ c h=>M.ot.aK (c:=c) h;simp[x2,hone,hl1,hl2,af2,f3,show ¬ 2=m by omega,k22];generalize hK3:Tr.put (Tr.put K2 m _) m2 _=K3;have g3:∀c,c≠m->c<m2->K3.get c=K2.get c:=λ c h1 h2=>by rw[<-hK3];simp[h1,dj h2]
  have x3:K3.get m2=some (.cells 6 [] [.int .u32 s.indexes[i].id,.int .u32 s.indexes[i].table,.str s.indexes[i].name,v,.bool s.indexes[i].uniq,.int .u32 s.indexes[i].root] .nil):=by rw[<-hK3];simp
  clear hK3;have ot3:ar K3 (m2+1) vi (bC.l (s.indexes.take i)) i 6:=M.oi.frame (by omega) λ c hc=>(g3 c (by have:=r_ c hc;omega) (by have:=r_ c hc;omega)).trans (b2 c (r_ c hc));refine ar.jr (k:=1) (new:=[.int .u32 s.indexes[i].id,.int .u32 s.indexes[i].table,.str s.indexes[i].name,v,.bool s.indexes[i].uniq,.int .u32 s.indexes[i].root]) ot3 (aB x3) (by simp) (by simp) (by omega) (by omega) (by unfold big;omega) (by omega) (by simp[hone]) λ K4 o4 g4=>?_;have k24:=(g4 2 (by omega) λ h=>by have:=(M.di 2 h).1;omega).trans ((g3 2 (by omega) (by omega)).trans k22);simp[f3,k24,af1,f6,ah i (by omega)];generalize j8:Tr.put K4 2 _=K5;have g5:∀c,c≠2->K5.get c=K4.get c:=λ c hc=>by rw[<-j8];simp[hc]
  have x5:K5.get 2=some (.cells 2 [] [vt,.sl (m2+1) 0 (i+1) 6] .nil):=by rw[<-j8];simp
  clear j8;generalize hF2:(Fp 6 _ _:Fr)=F2;have w1:F2.get 1=some (.ptr 0 0):=by rw[<-hF2];simp[f1]
  have w2:F2.get 2=some (.ptr 1 0):=by rw[<-hF2];simp[f2]
  have w3:F2.get 3=some (.ptr 2 0):=by rw[<-hF2];simp[f3]
  have w4:F2.get 6=some (.int .i64 ((i+1:Nat):Int)):=by rw[<-hF2];simp
  clear hF2;have bk:∀c,c<m->c≠2->blk vi≠some c->K5.get c=K.get c:=λ c h1 h2 h3=>(g5 c h2).trans ((g4 c (by omega) h3).trans ((g3 c (by omega) (by omega)).trans (b2 c h1)))
  have JG:ar K5 (m2+1+1) (.sl (m2+1) 0 (i+1) 6) ((bC.l (s.indexes.take i)++[.int .u32 s.indexes[i].id,.int .u32 s.indexes[i].table,.str s.indexes[i].name])++v::[.bool s.indexes[i].uniq,.int .u32 s.indexes[i].root]) (i+1) 6:=by
   have:=o4.frame (H':=K5) (n':=m2+1+1) (by omega) λ c hc=>g5 c (by simp at hc;omega);simpa using this
  have ov5:ar K5 (m2+1+1) v (bR.l s.indexes[i].ae) s.indexes[i].ae.length 1:=hv.frame (by omega) λ c hc=>by
   have h1:=dv c hc;have h2:=hv.aK hc;exact(g5 c (by omega)).trans ((g4 c (by omega) λ h=>by have:=r_ c h;omega).trans (g3 c (by omega) h2))
  have nv:∀c,c<m->blk v≠some c:=λ c h1 h2=>by have:=dv c h2;omega
  obtain⟨hh,K6,hsh,Qu,g6⟩:=Jv (F:=F2) (F2:=F2) (λ t v hv=>hv) JG (by omega) ov5 (by omega) (by simp) (λ c hc hc2=>by
   have:=hv.aK hc2;simp at hc;omega)
  have na:∀c,c<m->blk (AV.sl (m2+1) 0 (i+1) 6)≠some c:=λ c h1 h2=>by simp at h2;omega
  have nt:∀c,c<3->blk vi≠some c:=λ c h1 h2=>by have:=(M.di c h2).1;omega
  refine⟨s.indexes.length - (i+1),by omega,hh,F2,K6,hsh,i+1,rfl,hlt,⟨w1,w2,w3⟩,w4,⟨.sl (m2+1) 0 (i+1) 6,by omega,?_,?_,?_,?_,?_,M.dt,λ c hc=>⟨by simp at hc;omega,λ h=>by have:=htb c h;simp at hc;omega⟩⟩,rfl⟩
  ·exact(g6 0 (na 0 (by omega)) (nv 0 (by omega))).trans ((bk 0 (by omega) (by omega) (nt 0 (by omega))).trans M.k0)
  ·exact(g6 1 (na 1 (by omega)) (nv 1 (by omega))).trans ((bk 1 (by omega) (by omega) (nt 1 (by omega))).trans M.k1)
  ·exact(g6 2 (na 2 (by omega)) (nv 2 (by omega))).trans x5
  ·exact M.ot.frame (by omega) λ c hc=>by
    have h1:=htb c hc;have h2:=M.dt c hc;exact(g6 c (na c h1) (nv c h1)).trans (bk c h1 (by omega) λ h=>(M.di c h).2 hc)
  have e:bC.l (s.indexes.take (i+1))=(bC.l (s.indexes.take i)++[.int .u32 s.indexes[i].id,.int .u32 s.indexes[i].table,.str s.indexes[i].name])++.ds (bR.l s.indexes[i].ae) s.indexes[i].ae.length 1::[.bool s.indexes[i].uniq,.int .u32 s.indexes[i].root]:=by
   rw[take_add_one,getElem?_eq_getElem hlt,Option.toList,al.bo,al.dF,eG];simp[al.ds]
  rw[e];exact Qu
 obtain rfl:i=s.indexes.length:=by omega
 simp[ab_,akP,f1,f6,k0,al.ag];exact hQ vi _ K m ⟨by simp[f1],by simp[f2],by simp[f3]⟩ M
theorem apl (s:bD)(hs:s.dE):ai pG 4 [cw.av s] (cw.av s):=by
 refine bf c4 (by simp) (by simp) (by simp[A4]) λ F hF=>?_;have ht:=hs.t;have hi:=hs.i;unfold lim at ht hi;simp[A4,B4,arl,ark,arj,hF,al.av];refine aj2 s hs _ _ _ _ ⟨by simp,by simp,by simp⟩ (by simp) ⟨by omega,by simp,by simp,by simp,by simpa using ar.nil _ _ 4,by simpa using ar.nil _ _ 6,by simp,by simp⟩ λ vt F K m ⟨f1,f2,f3⟩ M=>?_;simp[arc];refine aj1 s hs vt _ _ _ _ ⟨by simp[f1],by simp[f2],by simp[f3]⟩ (by simp) M λ vi F K m ⟨f1,f2,f3⟩ M=>?_;have k1:=M.k1;have k2:=M.k2;have ot:=M.ot;have oi:=M.oi;have h1:=ot.dO;have h2:=oi.dO;rw[take_length]at ot oi;have dt:=M.dt;have di:=M.di;simp[af0,f2,f3,k1,k2,h1,h2];refine .agg _ _ _ ?_;rw[cC];refine .cons _ _ _ _ ?_ (.cons _ _ _ _ ?_ .nil)
 ·exact(ot.frame (Nat.le_refl _) λ c hc=>by
   have:=dt c hc;simp[show ¬c=1 by omega]).uw (aN.pure (by simp)) (by omega)
 exact(oi.frame (Nat.le_refl _) λ c hc=>by
  have:=(di c hc).1;simp[show ¬c=1 by omega]).uw (aN.pure (by simp)) (by omega)
end Go.Abs
