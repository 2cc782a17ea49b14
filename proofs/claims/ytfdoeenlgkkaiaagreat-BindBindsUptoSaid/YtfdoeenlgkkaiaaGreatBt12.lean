/- A part. -/
import Derived.Test.YtfdoeenlgkkaiaaGreatBt11
noncomputable section
namespace Go.Abs
open List
open Go.Proofs
open Classical
set_option maxRecDepth 100000
structure QD where
 ts:List aR
 L:List (List Ex)
 W:List Ex
 E:List Ex
 N:List (List Nat)
 Ks:List Int
def Dp (q:aY)(D:QD)(vd:AV):List AV:=bK 0 (aG.ds D.ts) (dw.ds D.L) (dz.ds D.W) (dz.ds D.E) (bB.ds D.N) (bR.ds D.Ks) vd q.jA q.limited q.limit
def Qy (l:List Nat):List Int:=l.map λ j:Nat=>(j:Int)
structure QoF (i:Nat)(F:Fr):Prop where
 f3:F.get 3=some (.ptr 1 0)
 f4:F.get 4=some (.ptr 2 0)
 f8:F.get 8=some (.ptr 3 0)
 f12:F.get 12=some (.int .i64 (i:Int))
structure QoM (q:aY)(D:QD)(O:List (Int×Bool))(i:Nat)(vd:AV)(K:Hp)(m:Nat):Prop where
 hm:4<=m
 tp:cS K m
 k1:K.get 1=some (.cells 15 [] q.cells .nil)
 k2:K.get 2=some (.cells 25 [] (br 0) .nil)
 k3:K.get 3=some (.cells 25 [] (Dp q D vd) .nil)
 od:ar K m vd (sA.l O) i 2
 dd:∀b,blk vd=some b->4<=b
 hO:O.length=i
theorem QoM.step {q:aY}{D:QD}{O:List (Int×Bool)}{i:Nat}{vd:AV}{K K':Hp}{m m':Nat}(M:QoM q D O i vd K m)(h:m<=m')(tp:cS K' m')(hk:∀b,b<m->K'.get b=K.get b):QoM q D O i vd K' m':=by
 have hm:=M.hm;exact⟨by omega,tp,(hk 1 (by omega)).trans M.k1,(hk 2 (by omega)).trans M.k2,(hk 3 (by omega)).trans M.k3,M.od.frame h λ b hb=>hk b (M.od.aK hb),M.dd,M.hO⟩
theorem PU (q:aY) (D:QD) (O:List (Int×Bool)) (i:Nat) (hi:i<q.order.length) (nm:List Nat) (hnm:q.order[i].name=nm) (vd:AV) (hN:D.N.length<=lim) (F:Fr) (K0:Hp) (m:Nat) (Q:QA) (G:QoF i F) (f13:F.get 13=some aS) (f14:F.get 14=some (.int .i64 0)) (M:QoM q D O i vd K0 m)
  (hQ:∀F K m' vh,QoF i F->F.get 13=some vh->QoM q D O i vd K m'->ar K m' vh (bR.l (Qy (mC nm D.N D.N.length))) (mC nm D.N D.N.length).length 1->Q .normal F K m' []):au MA pG F K0 m [] (bX 4 Q):=by
 unfold lim at hN;refine au.of (λ g F K m' ms=>∃(k:Nat) (vh:AV),g=D.N.length - k/\k<=D.N.length/\QoF i F/\F.get 13=some vh/\F.get 14=some (.int .i64 (k:Int))/\m<=m'/\cS K m'/\(∀b,b<m->K.get b=K0.get b)/\ar K m' vh (bR.l (Qy (mC nm D.N k))) (mC nm D.N k).length 1/\(∀b,blk vh=some b->m<=b)/\(mC nm D.N k).length<=k/\ms=[]) D.N.length ⟨0,aS,by simp,by omega,G,f13,by simpa using f14,Nat.le_refl _,M.tp,λ _ _=>rfl,by simpa[mC,Qy,aS]using ar.nil _ _ 1,by simp[aS],by simp[mC],rfl⟩ ?_;clear G f13 f14 F;rintro g F K m' ms ⟨k,vh,rfl,hk,⟨f3,f4,f8,f12⟩,f13,f14,hmm,tp,kf,oh,dh,hpl,rfl⟩;have M':=M.step hmm tp kf;have k1:=M'.k1;have k3:=M'.k3;have hm:=M.hm;simp only[Dp,bK]at k3
 by_cases hlt:k<D.N.length
 ·have hxn:=bB.ix (ik:=.i64) hlt;have hxo:=jm.ix (ik:=.i64) hi;rw[jQ]at hxn;rw[vU,hnm]at hxo;have hps:=ND nm D.N hlt;simp[MA,GN,f8,f14,k3,al.ag,hlt];simp only[TW,cH];refine bY.of (bH (P:=pG)) ?_;simp[aa,f3,f8,f12,f14,k1,k3,aY.c12,hxn,hxo]
  by_cases he:D.N[k]=nm
  ·rw[if_pos he]at hps;simp[he,TV,aa,f13,f14];generalize hK1:Tr.put K m' _=K1;have g1:∀b,b<m'->K1.get b=K.get b:=λ b hb=>by rw[<-hK1];simp[dj hb]
   have x1:K1.get m'=some (.cells 1 [] [.int .i64 (k:Int)] .nil):=by rw[<-hK1];simp
   have t1:cS K1 (m'+1):=λ b hb=>by
    have e1:¬b=m':=by omega
    rw[<-hK1];simp[e1,tp b (by omega)]
   clear hK1;refine ar.jr (k:=1) (new:=[.int .i64 (k:Int)]) (oh.frame (H':=K1) (n':=m'+1) (by omega) λ b hb=>g1 b (oh.aK hb)) (aB x1) (by simp) (by simp) (by omega) (by omega) (by unfold big;omega) (by omega) (by simp) λ K2 o2 g2=>?_;simp[GM,aa,f14,ah k (by omega)];refine⟨_,by omega,k+1,rfl,hlt,⟨by simp[aa,f3],by simp[aa,f4],by simp[aa,f8],by simp[aa,f12]⟩,by omega,by omega,λ b hb=>?_,λ b hb=>?_,?_,by omega,?_⟩
   ·exact(g2 b (by omega) λ h=>by have:=oh.aK h;omega).trans (t1 b (by omega))
   ·exact(g2 b (by omega) λ h=>by have:=dh b h;omega).trans ((g1 b (by omega)).trans (kf b hb))
   ·rw[hps];simpa[Qy,al.bo,al.dF,eR]using o2
   rw[hps];simp;omega
  rw[if_neg he,append_nil]at hps;simp[he,GM,aa,f14,ah k (by omega)];refine⟨_,by omega,k+1,rfl,hlt,⟨by simp[aa,f3],by simp[aa,f4],by simp[aa,f8],by simp[aa,f12]⟩,vh,by simp[f13],by omega,hmm,tp,kf,by rw[hps];exact oh,dh,by rw[hps];omega⟩
 obtain rfl:k=D.N.length:=by omega
 simp[MA,GN,f8,f14,k3,al.ag];exact hQ _ _ _ vh ⟨by simp[f3],by simp[f4],by simp[f8],by simp[f12]⟩ (by simp[f13]) M' oh
theorem PT (q:aY) (D:QD) (hN:D.N.length<=lim) (ho:q.order.length<=lim) (F:Fr) (K:Hp) (m:Nat) (Q:QA) (G:QoF 0 F) (M:QoM q D [] 0 aS K m)
  (hbad:∀f,f≠0->(eD D.N q.order q.order.length 0).2=f->∀F K m,F.get 4=some (.ptr 2 0)->F.get 5=some (.int .i64 f)->K.get 2=some (.cells 25 [] (br 0) .nil)->Q .ret F K m [])
  (hQ:(eD D.N q.order q.order.length 0).2=0->∀vd F K m,QoF q.order.length F->QoM q D (eD D.N q.order q.order.length 0).1 q.order.length vd K m->Q .normal F K m []):au ER pG F K m [] (bX 2 Q):=by
 have hoo:=ho;unfold lim at hoo;refine au.of (λ g F K m ms=>∃(i:Nat) (vd:AV),g=q.order.length - i/\i<=q.order.length/\QoF i F/\QoM q D (eD D.N q.order i 0).1 i vd K m/\(eD D.N q.order i 0).2=0/\ms=[]) q.order.length ⟨0,aS,by simp,by omega,G,M,rfl,rfl⟩ ?_;clear G M F K m;rintro g F K m ms ⟨i,vd,rfl,hi,⟨f3,f4,f8,f12⟩,M,he,rfl⟩;have k1:=M.k1
 by_cases hlt:i<q.order.length
 ·have hxo:=jm.ix (ik:=.i64) hlt;rw[vU]at hxo
  have hor:eD D.N q.order (i+1) 0=((eD D.N q.order i 0).1++[(pF D.N q.order[i],q.order[i].desc)],keep (keep 0 201 (decide (pF D.N q.order[i]<0))) 205 (decide (0<=pF D.N q.order[i])&&decide (q.order[i].name∈D.N.drop ((pF D.N q.order[i]).toNat+1)))):=by
   rw[eD,Dq hlt,he]
  have htot:∀f,(eD D.N q.order (i+1) 0).2=f->f≠0->(eD D.N q.order q.order.length 0).2=f:=λ f h1 h2=>by
   have:=Af D.N q.order (q.order.length - (i+1)) (i+1) 0 (by rw[h1];exact h2);rw[show i+1+(q.order.length - (i+1))=q.order.length by omega,h1]at this;exact this
  have hkk:pF D.N q.order[i]=eE (λ y=>decide (q.order[i].name=y)) D.N:=rfl;have aos:=PU q D (eD D.N q.order i 0).1 i hlt q.order[i].name rfl vd hN;generalize hx:q.order[i]=x at *;obtain⟨nm,desc⟩:=x;simp only at hor hkk hxo aos;rw[hkk]at hor;simp[ER,GP,f3,f12,k1,aY.c12,al.ag,hlt,TY,TX];refine aos _ K m _ ⟨by simp[f3],by simp[f4],by simp[f8],by simp[f12]⟩ (by simp[aS]) (by simp) M λ F K m vh ⟨f3,f4,f8,f12⟩ f13 M oh=>?_;have k1:=M.k1;have k2:=M.k2;have k3:=M.k3;have hm:=M.hm;have tp:=M.tp;simp only[br]at k2;simp only[Dp,bK]at k3;have hln:=oh.QL
  cases hp:mC nm D.N D.N.length with
  | nil =>
   have h1:=Qa hp;rw[hp]at hln;simp[Br,TU,f4,f13,k2,hln];exact hbad 201 (by decide) (htot 201 (by rw[hor,h1];simp[keep]) (by decide)) _ _ _ (by simp[f4]) (by simp) (by simp[br])
  | cons a r =>
   obtain⟨h1,h2⟩:=NF hp;rw[hp]at hln oh;rw[h1]at hor;have ha:¬(a:Int)<0:=by omega
   have ha':(0:Int)<=(a:Int):=by omega
   have r_:(a:Int).toNat=a:=by omega
   cases r with
   | cons b r =>
    have hn0:¬((r.length:Int)+1+1=0):=by omega
    have hn1:(1:Int)<(r.length:Int)+1+1:=by omega
    simp[Br,GL,TT,f4,f13,k2,hln,hn0,hn1];have hm:=h2.2 (by simp);exact hbad 205 (by decide) (htot 205 (by rw[hor,r_];simp[keep,ha,hm]) (by decide)) _ _ _ (by simp[f4]) (by simp) (by simp[br])
   | nil =>
    have hm':nm∉D.N.drop (a+1):=λ h=>h2.1 h rfl;have ajD:eD D.N q.order (i+1) 0=((eD D.N q.order i 0).1++[((a:Int),desc)],0):=by rw[hor,r_];simp[keep,ha,hm']
    obtain⟨bh,h3,h4⟩:=oh.ld (ik:=.i64) (i:=0) (o:=0) (y:=.int .i64 (a:Int)) (by simp) (by simp[Qy,al.l,eR]);have n3:K.get m=none:=tp _ (Nat.le_refl _);simp at h3 h4;simp[Br,GL,f13,hln];simp only[TS,cH];refine bY.of (bH (P:=pG)) ?_;simp[aa,f3,f8,f12,f13,k1,k3,aY.c12,hxo,h3,h4,bw,bL,n3];generalize hK1:Tr.put K m _=K1;have g1:∀b,b<m->K1.get b=K.get b:=λ b hb=>by rw[<-hK1];simp[dj hb]
    have x1:K1.get m=some (.cells 2 [] [.int .i64 (a:Int),.bool desc] .nil):=by rw[<-hK1];simp
    have t1:cS K1 (m+1):=λ b hb=>by
     have e1:¬b=m:=by omega
     rw[<-hK1];simp[e1,tp b (by omega)]
    clear hK1;have ld:∀b,blk vd=some b->4<=b/\b<m:=λ b h=>⟨M.dd b h,M.od.aK h⟩;refine ar.ru (k:=1) (new:=[.int .i64 (a:Int),.bool desc]) (M.od.frame (H':=K1) (n':=m+1) (by omega) λ b hb=>g1 b (ld b hb).2) (aB x1) (by simp) (by simp) (by omega) (by omega) (by unfold big;omega) (by omega) (by simp) λ K2 o2 g2=>?_;have g2':∀b,b≠m+1->blk vd≠some b->K2.get b=K1.get b:=λ b h1 h2=>g2 b h1 λ e=>h2 (by rw[e];rfl);have k32:=(g2' 3 (by omega) λ h=>by have:=ld 3 h;omega).trans ((g1 3 (by omega)).trans k3);simp[aa,f8,k32];generalize hK3:Tr.put K2 3 _=K3;have g3:∀b,b≠3->K3.get b=K2.get b:=λ b h1=>by rw[<-hK3];simp[h1]
    have z3:K3.get 3=some (.cells 25 [] (Dp q D (.sl (m+1) 0 (i+1) 2)) .nil):=by rw[<-hK3];simp[Dp,bK]
    clear hK3;have b3:∀b,b<3->K3.get b=K.get b:=λ b hb=>(g3 b (by omega)).trans ((g2' b (by omega) λ h=>by have:=ld b h;omega).trans (g1 b (by omega)));simp[TR,aa,f12,ah i (by omega)];refine⟨_,by omega,i+1,rfl,hlt,⟨by simp[aa,f3],by simp[aa,f4],by simp[aa,f8],by simp⟩,⟨.sl (m+1) 0 (i+1) 2,by omega,λ b hb=>?_,(b3 1 (by omega)).trans k1,(b3 2 (by omega)).trans (by simpa[br]using k2),z3,?_,λ b hb=>by simp at hb;omega,by rw[ajD];simp[M.hO]⟩,by rw[ajD]⟩
    ·exact(g3 b (by omega)).trans ((g2' b (by omega) λ h=>by have:=ld b h;omega).trans (t1 b (by omega)))
    rw[ajD,al.bo,al.dF,Gj];exact o2.frame (by omega) λ b hb=>g3 b (by simp at hb;omega)
 obtain rfl:i=q.order.length:=by omega
 simp[ER,GP,f3,f12,k1,aY.c12,al.ag];exact hQ he vd _ K m ⟨by simp[f3],by simp[f4],by simp[f8],by simp[f12]⟩ M
end Go.Abs
namespace Go.Abs
open List
open Go.Proofs
open Classical
set_option maxRecDepth 100000
theorem NV.Di {v v':AV}(h:NV v v')(hp:Pure v'):Pure v:=by
 rcases h with rfl | ⟨rfl,_⟩
 ·exact hp
 simp
theorem vc (N:List (List Nat))(l:List Ord)(n:Nat){f:Int}(h:f≠0):(eD N l n f).2=f:=by
 have:=Af N l n 0 f h;rw[Nat.zero_add]at this;exact this
section
variable {s:bD}{q:aY}{k f:Int}
theorem auE (h:ep s q.ab q.ab.length 0=f)(hf:f≠0):jX (dJ (cJ s q k 0))=(jU,f):=by
 unfold cJ;rw[h,if_pos hf,cf hf];rfl
theorem auD (h0:ep s q.ab q.ab.length 0=0)(h1:(gB (q.ab.map Src.nm) (q.ab.map s.tb) q.ab q.ab.length 0).2=f)(hf:f≠0):jX (dJ (cJ s q k 0))=(jU,f):=by
 unfold cJ;rw[h0,if_neg (by simp),h1];simp only[N8 _ _ q hf,qY _ _ q.cond hf,vc _ _ _ hf];rw[cf hf];rfl
theorem anf (h0:ep s q.ab q.ab.length 0=0)(h1:(gB (q.ab.map Src.nm) (q.ab.map s.tb) q.ab q.ab.length 0).2=0)(h2:(aT (q.ab.map Src.nm) (q.ab.map s.tb) q 0).2.2.2=f)(hf:f≠0):jX (dJ (cJ s q k 0))=(jU,f):=by
 unfold cJ;rw[h0,if_neg (by simp),h1,h2];simp only[qY _ _ q.cond hf,vc _ _ _ hf];rw[cf hf];rfl
theorem auC (h0:ep s q.ab q.ab.length 0=0)(h1:(gB (q.ab.map Src.nm) (q.ab.map s.tb) q.ab q.ab.length 0).2=0)(h2:(aT (q.ab.map Src.nm) (q.ab.map s.tb) q 0).2.2.2=0)(h3:(cQ (q.ab.map Src.nm) (q.ab.map s.tb) q.cond 0).2=f)(hf:f≠0):jX (dJ (cJ s q k 0))=(jU,f):=by
 unfold cJ;rw[h0,if_neg (by simp),h1,h2,h3];simp only[vc _ _ _ hf];rw[cf hf];rfl
theorem ane (h0:ep s q.ab q.ab.length 0=0)(h1:(gB (q.ab.map Src.nm) (q.ab.map s.tb) q.ab q.ab.length 0).2=0)(h2:(aT (q.ab.map Src.nm) (q.ab.map s.tb) q 0).2.2.2=0)(h3:(cQ (q.ab.map Src.nm) (q.ab.map s.tb) q.cond 0).2=0)(h4:(eD (aT (q.ab.map Src.nm) (q.ab.map s.tb) q 0).2.1 q.order q.order.length 0).2=f):
  jX (dJ (cJ s q k 0))=if f=0 then ({kind:=0,Fa:=q.ab.map s.tb,on:=(gB (q.ab.map Src.nm) (q.ab.map s.tb) q.ab q.ab.length 0).1,items:=(aT (q.ab.map Src.nm) (q.ab.map s.tb) q 0).1,names:=(aT (q.ab.map Src.nm) (q.ab.map s.tb) q 0).2.1,kinds:=(aT (q.ab.map Src.nm) (q.ab.map s.tb) q 0).2.2.1,cond:=(cQ (q.ab.map Src.nm) (q.ab.map s.tb) q.cond 0).1,order:=(eD (aT (q.ab.map Src.nm) (q.ab.map s.tb) q 0).2.1 q.order q.order.length 0).1,jA:=q.jA,limited:=q.limited,limit:=q.limit},0)else (jU,f):=by
 unfold cJ;rw[h0,if_neg (by simp),h1,h2,h3,h4]
 split
 ·rename_i hf;subst hf;rw[eu];rfl
 rename_i hf;rw[cf hf];rfl
end
theorem De (s:bD) (q:aY) (hq:q.dE s){ns:List (List Nat)}{ts:List aR}(hns:ns=q.ab.map Src.nm) (hts:ts=q.ab.map s.tb) (hS:gZ ns ts) (hk:ga ts) (h0:ep s q.ab q.ab.length 0=0) (h1:(gB ns ts q.ab q.ab.length 0).2=0) (h2:(aT ns ts q 0).2.2.2=0) (F:Fr) (K:Hp) (m:Nat) (f3:F.get 3=some (.ptr 1 0)) (f4:F.get 4=some (.ptr 2 0)) (f6:F.get 6=some (jd.ds (ns.zip ts))) (f8:F.get 8=some (.ptr 3 0)) (hm:4<=m) (tp:cS K m) (k1:K.get 1=some (.cells 15 [] q.cells .nil)) (k2:K.get 2=some (.cells 25 [] (br 0) .nil))
  (k3:K.get 3=some (.cells 25 [] (bK 0 (aG.ds ts) (dw.ds (gB ns ts q.ab q.ab.length 0).1) aS (dz.ds (aT ns ts q 0).1) (bB.ds (aT ns ts q 0).2.1) (bR.ds (aT ns ts q 0).2.2.1) aS q.jA q.limited q.limit) .nil))(R:ew×Int)(hR:jX (dJ (cJ s q 8 0))=R):
  VC pG (.seq GV (.seq (.seq Bs (.cond (aC 100) (.seq GU .ret) .skip)) (.seq (.seq GQ (.block 2 (.loop ER))) (.seq GK .ret)))) F K m [] (iR [dm 4 25,aP 5] λ v H' _=>dU H'.get v (.bg [.agg R.1.cells 25,.int .i64 R.2])):=by
 have hif:=aa9 hS q.cond hq.cz hq.cm;obtain⟨hc1,hc2⟩:=qW (ns:=ns) hk q.cond hq.cm;have hlen:=pK ns ts q 0;have hlk:=hq.k;rw[<-hts]at hlk;simp only[bK,aS]at k3;have k2':=k2;simp only[br]at k2';simp[GV,f3,f6,k1,aY.cc];refine ao.pure hif ?_
 by_cases hf:(pO ns ts q.cond).2=0
 ·have hc3:=hc2 hf;simp[f8,k3,hf,Bs,GQ];generalize hK1:Tr.put K 3 _=K1;have g1:∀b,b≠3->K1.get b=K.get b:=λ b h=>by rw[<-hK1];simp[h]
  have z1:K1.get 3=some (.cells 25 [] (Dp q ⟨ts,(gB ns ts q.ab q.ab.length 0).1,(pO ns ts q.cond).1,(aT ns ts q 0).1,(aT ns ts q 0).2.1,(aT ns ts q 0).2.2.1⟩ aS) .nil):=by rw[<-hK1];simp[Dp,bK,aS]
  clear hK1;have h3:(cQ ns ts q.cond 0).2=0:=by rw[hc1,hf]
  refine PT q ⟨ts,(gB ns ts q.ab q.ab.length 0).1,(pO ns ts q.cond).1,(aT ns ts q 0).1,(aT ns ts q 0).2.1,(aT ns ts q 0).2.2.1⟩ (Nat.le_trans hlen hlk) hq.o _ K1 m _ ⟨by simp[f3],by simp[f4],by simp[f8],by simp⟩ ⟨hm,λ b hb=>(g1 b (by omega)).trans (tp b hb),(g1 1 (by omega)).trans k1,(g1 2 (by omega)).trans k2,z1,by simpa[aS]using ar.nil _ _ 2,by simp[aS],rfl⟩ (λ f hf2 ho F K m f4 f5 k2=>?_) λ ho vd F K m ⟨f3,f4,f8,f12⟩ M=>?_
  ·subst hns hts;have:=ane (k:=8) h0 h1 h2 h3 ho;rw[if_neg hf2,hR]at this;subst this;simp only[br]at k2;simp[f4,f5,k2];exact kQ
  subst hns hts;have:=ane (k:=8) h0 h1 h2 h3 ho;rw[if_pos rfl,hR]at this;subst this;rw[hc3];have k2:=M.k2;have k3:=M.k3;have o1:=M.od.dO;obtain⟨o2,o3⟩:=M.od.oK;simp only[br]at k2;simp only[Dp,bK]at k3;simp[GK,f4,f8,k2,k3,o1];generalize hK2:Tr.put K 2 _=K2;have hz:=ar.vJ (h:=K2.get) M.od (by decide) (λ b hb=>by rw[<-hK2];simp[show b≠2 by have:=M.dd b hb;omega]) (aN.pure (by simp));have hO:=M.hO
  have hz2:dU K2.get vd (sA.ds (eD (aT (q.ab.map Src.nm) (q.ab.map s.tb) q 0).2.1 q.order q.order.length 0).1):=by
   unfold al.ds;rw[hO];exact hz
  refine C0 ?_;simp[ew.cells,aR.zero,jb.zero];exact .inr hz2
 have h3:(cQ ns ts q.cond 0).2=(pO ns ts q.cond).2:=hc1;subst hns hts;have:=auC (k:=8) h0 h1 h2 h3 hf;rw[hR]at this;subst this;simp[f4,f8,k3,k2',hf,Bs,GU];exact kQ
theorem aac (s:bD) (hs:s.dE) (q:aY) (hq:q.dE s) (hst:q.star=true->q.items=[]) (hk:ga (q.ab.map s.tb)) (hkl:(aj (q.ab.map s.tb)).length<=lim) (hc:∀t∈q.ab.map s.tb,t.ae.length<=lim):ai pG 86 [cw.av s,.agg q.cells 15] (.bg [.agg (jX (dJ (cJ s q 8 0))).1.cells 25,.int .i64 (jX (dJ (cJ s q 8 0))).2]):=by
 have avU:ai pG 115 [.agg (cw.cells s) 2,.agg q.cells 15] (.bg [jd.ds (if ep s q.ab q.ab.length 0=0 then q.ab.map s.so else []),.int .i64 (ep s q.ab q.ab.length 0)]):=Ng s hs q hq.s;refine bf c86 (by simp[aY.pure]) (by simp) (by simp[A86]) λ F hF=>?_;simp[A86,B86,aee,aed,hF,al.av];refine ao.pure avU ?_
 by_cases h0:ep s q.ab q.ab.length 0=0
 ·rw[if_pos h0,h0,Pj];have hS:gZ (q.ab.map Src.nm) (q.ab.map s.tb):=⟨by simp,by simpa using hq.s,hkl,hc⟩;generalize hR:jX (dJ (cJ s q 8 0))=R;simp[TZ,aeb,aY.c0,aY.c13,aY.c14,aea];refine PV q hS hk (by simp) hq.sr _ _ 4 _ ⟨by simp,by simp,by simp,by simp,by simp⟩ ⟨by omega,λ b hb=>by simp[show ¬b=0 by omega,show ¬b=1 by omega,show ¬b=2 by omega,show ¬b=3 by omega],by simp,by simp[br],by simp[fu,bK,aS],by simpa[aS]using ar.nil _ _ 4,by simpa[aS]using ar.nil _ _ 1,by simp[aS],by simp[aS],rfl,rfl⟩ (λ f h1 h2 F K m f4 f5 k2=>?_) λ h1 F K m ⟨f3,f4,f6,f8,f9⟩ M=>?_
  ·rw[auD h0 h2 h1]at hR;subst hR;simp only[br]at k2;simp[f4,f5,k2];exact kQ
  have k1:=M.k1;have k2:=M.k2;obtain⟨v,w,k3,hv,hw⟩:=M.k3;have hm:=M.hm;have tp:=M.tp;have k2':=k2;simp only[br]at k2';simp only[fu,bK,aS]at k3;let P:QP:=⟨q.ab.map s.tb,(gB (q.ab.map Src.nm) (q.ab.map s.tb) q.ab q.ab.length 0).1,q.jA,q.limited,q.limit⟩;have hnl:NL (fu q v w) (P.out aS aS aS aS aS):=by simp[fu,QP.out,bK,P,hv,hw]
  have hpv:aL (fu q v w):=by
   have p1:Pure v:=NV.Di hv (by simp);have p2:Pure w:=NV.Di hw (by simp);simp[fu,bK,aS,p1,p2]
  cases ZO:q.star with
  | true =>
   have hsx:=C3 (q.ab.map Src.nm) (q.ab.map s.tb) q ZO (hst ZO);have hzp:((q.ab.map Src.nm).zip (q.ab.map s.tb)).map (·.2)=q.ab.map s.tb:=map_snd_zip (by simp);have hcall:=ZY P ((q.ab.map Src.nm).zip (q.ab.map s.tb)) (by simpa using hq.s) (by rw[hzp];exact hkl);rw[hzp]at hcall;generalize kR (q.ab.map s.tb)=rr at *
   replace hcall:=ai.conv (args:=[.agg (fu q v w) 25,jd.ds ((q.ab.map Src.nm).zip (q.ab.map s.tb))]) hcall (by simp[hpv]) λ D xs hv=>by
    cases hv with
    | cons _ y0 _ ys h0 hv =>
    refine .cons _ _ _ _ ?_ hv
    cases h0 with
    | agg _ l _ a b=>exact .agg _ _ _ (hnl.oQ a) (by simp[QP.out,bK])
   by_cases hf:rr.2.2.2=0
   ·have hib:=hsx.2 hf;rw[QP.res,if_pos hf,hf]at hcall;rw[<-hib]at hcall hf;simp only[fu,QP.out,bK,aS,P]at hcall;simp[wB,f3,k1,aY.c1,ZO,GY,f6,f8,k3];refine ao.pure hcall ?_;simp[f8,k3,wA];rw[<-bA];exact De s q hq rfl rfl hS hk h0 h1 hf _ _ m (by simp[f3]) (by simp[f4]) (by simp[f6]) (by simp[f8]) hm (λ b hb=>by simp[show b≠3 by omega,tp b hb]) (by simp[k1]) (by simp[k2]) (by simp[bK,aS]) R hR
   have h3:(aT (q.ab.map Src.nm) (q.ab.map s.tb) q 0).2.2.2=rr.2.2.2:=hsx.1;rw[P.zV rfl hf]at hcall;simp only[fu,bK,aS,br]at hcall;have:=anf (k:=8) h0 h1 h3 hf;rw[hR]at this;subst this;simp[wB,f3,k1,aY.c1,ZO,GY,f6,f8,k3];refine ao.pure hcall ?_;simp[f4,f8,k3,k2',hf,wA,GW];exact kQ
  | false =>
   have hcall:=Q4 P hS q (by have:=hq.k;omega) hq.it
   have hsx:(aT (q.ab.map Src.nm) (q.ab.map s.tb) q 0).2.2.2=(eb (q.ab.map Src.nm) (q.ab.map s.tb) q.items 0).2.2/\((eb (q.ab.map Src.nm) (q.ab.map s.tb) q.items 0).2.2=0->aT (q.ab.map Src.nm) (q.ab.map s.tb) q 0=((eb (q.ab.map Src.nm) (q.ab.map s.tb) q.items 0).1,q.items.map fK.nm,(eb (q.ab.map Src.nm) (q.ab.map s.tb) q.items 0).2.1,(eb (q.ab.map Src.nm) (q.ab.map s.tb) q.items 0).2.2)):=by
    unfold aT;rw[if_neg (by simp[ZO])];exact⟨rfl,λ _=>rfl⟩
   have hcall:ai pG 117 [.agg (P.out aS aS aS aS aS) 25,jd.ds ((q.ab.map Src.nm).zip (q.ab.map s.tb)),.agg q.cells 15] (.bg [.agg (P.res ((eb (q.ab.map Src.nm) (q.ab.map s.tb) q.items 0).1,q.items.map fK.nm,(eb (q.ab.map Src.nm) (q.ab.map s.tb) q.items 0).2.1,(eb (q.ab.map Src.nm) (q.ab.map s.tb) q.items 0).2.2)) 25,.int .i64 ((eb (q.ab.map Src.nm) (q.ab.map s.tb) q.items 0).1,q.items.map fK.nm,(eb (q.ab.map Src.nm) (q.ab.map s.tb) q.items 0).2.1,(eb (q.ab.map Src.nm) (q.ab.map s.tb) q.items 0).2.2).2.2.2]):=hcall;have hsx:(aT (q.ab.map Src.nm) (q.ab.map s.tb) q 0).2.2.2=((eb (q.ab.map Src.nm) (q.ab.map s.tb) q.items 0).1,q.items.map fK.nm,(eb (q.ab.map Src.nm) (q.ab.map s.tb) q.items 0).2.1,(eb (q.ab.map Src.nm) (q.ab.map s.tb) q.items 0).2.2).2.2.2/\(((eb (q.ab.map Src.nm) (q.ab.map s.tb) q.items 0).1,q.items.map fK.nm,(eb (q.ab.map Src.nm) (q.ab.map s.tb) q.items 0).2.1,(eb (q.ab.map Src.nm) (q.ab.map s.tb) q.items 0).2.2).2.2.2=0->aT (q.ab.map Src.nm) (q.ab.map s.tb) q 0=((eb (q.ab.map Src.nm) (q.ab.map s.tb) q.items 0).1,q.items.map fK.nm,(eb (q.ab.map Src.nm) (q.ab.map s.tb) q.items 0).2.1,(eb (q.ab.map Src.nm) (q.ab.map s.tb) q.items 0).2.2)):=hsx;generalize ((eb (q.ab.map Src.nm) (q.ab.map s.tb) q.items 0).1,q.items.map fK.nm,(eb (q.ab.map Src.nm) (q.ab.map s.tb) q.items 0).2.1,(eb (q.ab.map Src.nm) (q.ab.map s.tb) q.items 0).2.2)=rr at *
   replace hcall:=ai.conv (args:=[.agg (fu q v w) 25,jd.ds ((q.ab.map Src.nm).zip (q.ab.map s.tb)),.agg q.cells 15]) hcall (by simp[hpv,aY.pure]) λ D xs hv=>by
    cases hv with
    | cons _ y0 _ ys h0 hv =>
    refine .cons _ _ _ _ ?_ hv
    cases h0 with
    | agg _ l _ a b=>exact .agg _ _ _ (hnl.oQ a) (by simp[QP.out,bK])
   by_cases hf:rr.2.2.2=0
   ·have hib:=hsx.2 hf;rw[QP.res,if_pos hf,hf]at hcall;rw[<-hib]at hcall hf;simp only[fu,QP.out,bK,aS,P]at hcall;simp[wB,f3,k1,aY.c1,ZO,GX,f6,f8,k3];refine ao.pure hcall ?_;simp[f8,k3,wA];rw[<-bA];exact De s q hq rfl rfl hS hk h0 h1 hf _ _ m (by simp[f3]) (by simp[f4]) (by simp[f6]) (by simp[f8]) hm (λ b hb=>by simp[show b≠3 by omega,tp b hb]) (by simp[k1]) (by simp[k2]) (by simp[bK,aS]) R hR
   have h3:(aT (q.ab.map Src.nm) (q.ab.map s.tb) q 0).2.2.2=rr.2.2.2:=hsx.1;rw[P.zV rfl hf]at hcall;simp only[fu,bK,aS,br]at hcall;have:=anf (k:=8) h0 h1 h3 hf;rw[hR]at this;subst this;simp[wB,f3,k1,aY.c1,ZO,GX,f6,f8,k3];refine ao.pure hcall ?_;simp[f4,f8,k3,k2',hf,wA,GW];exact kQ
 have hR:=auE (k:=8) (q:=q) (s:=s) rfl h0;rw[hR];simp[TZ,aec,h0];exact kQ
end Go.Abs
namespace Go.Abs
open List
open Go.Proofs
open Classical
set_option maxRecDepth 100000
theorem mS (k:Int):br k=[.int .i64 k,.str [],.int .u32 0,.str [],.ak (.slice none 0 0),.int .u32 0,.int .u32 0,.int .u32 0,.str [],.ak (.slice none 0 0),.bool false,.int .u32 0,
 .ak (.slice none 0 0),.ak (.slice none 0 0),.ak (.slice none 0 0),.ak (.slice none 0 0),.ak (.slice none 0 0),.ak (.slice none 0 0),.ak (.slice none 0 0),.ak (.slice none 0 0),.ak (.slice none 0 0),.ak (.slice none 0 0),.bool false,.bool false,.int .i64 0]:=rfl
theorem abK (s:bD)(hs:s.dE)(x:aE)(hk:x.kind=2)(F:Fr)(K:Hp)(Q:QA)(E:E5 s x F K)(hQ:xZ s x Q):VC pG C5 F K 5 [] Q:=by
 obtain⟨f2,f3,f4,f6,f7,f26,k0,k1,k2,k3,k4,top⟩:=E;have hc:=nR s hs x.table 3 0 K 5 (by omega) k3;have hb:bM s x=({kind:=x.kind,table:=(s.named x.table).1},keep 0 200 (!(s.named x.table).2)):=by simp[bM,hk]
 have x1:=x.g1;rw[hk]at f26;rw[mS]at k4;generalize hxs:x.cells=xs at *;simp[C5,wF,xW,akK,f26,f3,f6,k1,x1];refine ao.ok hc ?_;generalize s.named x.table=T at *;obtain⟨t,ok⟩:=T;simp[k4,f7,al.av,aU];refine hQ _ _ _ ?_ ?_ ?_ ?_
 ·simp[f4]
 ·simp[f6]
 ·simp[f7]
 rw[hb];exact⟨by simp[k2],by simp,_,(Tr.get_put _ _ _ _).trans (if_pos rfl),rfl,by simp[al.ds],λ h=>by simp[ew.cells,jb.zero]⟩
theorem abI (s:bD)(hs:s.dE)(x:aE)(hk:x.kind=4)(F:Fr)(K:Hp)(Q:QA)(E:E5 s x F K)(hQ:xZ s x Q):VC pG C5 F K 5 [] Q:=by
 obtain⟨f2,f3,f4,f6,f7,f26,k0,k1,k2,k3,k4,top⟩:=E;have hi:=J0 s hs x.name;have hb:bM s x=dB s x 0:=by simp[bM,hk]
 unfold dB at hb;have x2:=x.g2;have ht:=Jt s hs (s.index x.name).1.table;have gN:cw.av s=.agg [aG.ds s.tables,bC.ds s.indexes] 2:=rfl;rw[gN]at hi ht;rw[cC]at k0;rw[hk]at f26;rw[mS]at k4;generalize hxs:x.cells=xs at *;simp[C5,wF,xW,rC,tQ,Vf,f26,f2,f3,k0,k1,x2];refine ao.pure hi ?_;generalize s.index x.name=I at *;obtain⟨ix,ok⟩:=I;generalize s.table ix.table=T at *;obtain⟨t,ok2⟩:=T;simp[f6,al.av,eG,Ve];generalize hK1:Tr.put (Tr.put K 5 _) 5 _=K1;have g1:∀b,b<5->K1.get b=K.get b:=λ b hb=>by rw[<-hK1];simp[show ¬b=5 by omega]
 have g5:K1.get 5=some (.cells 6 [] [.int .u32 ix.id,.int .u32 ix.table,.str ix.name,bR.ds ix.ae,.bool ix.uniq,.int .u32 ix.root] .nil):=by rw[<-hK1];simp
 clear hK1;refine ao.ok (fL 3 s 0 202 (!ok) K1 6 (by omega) ((g1 3 (by omega)).trans k3)) ?_;have w0:=(g1 0 (by omega)).trans k0;have w2:=(g1 2 (by omega)).trans k2;have w4:=(g1 4 (by omega)).trans k4;simp[Vd,Vb,f2,f7,g5,w0,w4];refine ao.pure ht ?_;simp[al.av,aU,f7];refine hQ _ _ _ ?_ ?_ ?_ ?_
 ·simp[f4]
 ·simp[f6]
 ·simp[f7]
 rw[hb];exact⟨by simp[w2],by simp,_,(Tr.get_put _ _ _ _).trans (if_pos rfl),rfl,by simp[al.ds],λ h=>by simp[ew.cells]⟩
theorem abG (s:bD)(hs:s.dE)(x:aE)(hz:x.cond.sz<=lim)(hm:x.cond.maybe=true)(hk:x.kind=6)(F:Fr)(K:Hp)(Q:QA)(E:E5 s x F K)(hQ:xZ s x Q):VC pG C5 F K 5 [] Q:=by
 obtain⟨f2,f3,f4,f6,f7,f26,k0,k1,k2,k3,k4,top⟩:=E;have hc:=nR s hs x.table 3 0 K 5 (by omega) k3;have hb:bM s x=jB s x 0:=by simp[bM,hk]
 unfold jB at hb;have hcl:(s.named x.table).1.ae.length<=lim:=cE (Q:=λ t:aR=>t.ae.length<=lim) (by simp[aR.zero,lim]) hs.tc;have x1:=x.g1;have xl:=x.aA;have xc:=x.cc;rw[hk]at f26;rw[mS]at k4;generalize hxs:x.cells=xs at *;have hg:gJ 31 [] xs .nil 8 8=some x.cond.cells:=by simp[xl,xc]
 clear xl xc;simp[C5,wF,xW,rC,tQ,wG,zD,U',f26,f3,f6,k1,x1];refine ao.ok hc ?_;generalize s.named x.table=T at *;obtain⟨t,ok⟩:=T;simp[k4,f6,f7,al.av,aU,U_];generalize hK1:Tr.put _ 4 _=K1;have g1:∀b,b≠3->b≠4->K1.get b=K.get b:=λ b h1 h2=>by rw[<-hK1];simp[h1,h2]
 have g3:K1.get 3=some (bV s (keep 0 200 !ok)):=by rw[<-hK1];simp
 have g4:∃l,K1.get 4=some (.cells 25 [] l .nil)/\l=[.int .i64 6,.str [],.int .u32 t.id,.str t.name,aW.ds t.ae,.int .u32 t.head,.int .u32 0,.int .u32 0,.str [],.ak (.slice none 0 0),.bool false,.int .u32 0,.ak (.slice none 0 0),.ak (.slice none 0 0),.ak (.slice none 0 0),.ak (.slice none 0 0),.ak (.slice none 0 0),.ak (.slice none 0 0),.ak (.slice none 0 0),.ak (.slice none 0 0),.ak (.slice none 0 0),.ak (.slice none 0 0),.bool false,.bool false,.int .i64 0]:=by
  rw[<-hK1,<-hk];exact⟨_,(Tr.get_put _ _ _ _).trans (if_pos rfl),rfl⟩
 clear hK1;obtain⟨l,g4,hl⟩:=g4;have w2:=(g1 2 (by omega) (by omega)).trans k2;have w1:=(g1 1 (by omega) (by omega)).trans k1;generalize hF2:(Fp 81 _ _:Fr)=F2;have v3:F2.get 3=some (.ptr 1 0):=by rw[<-hF2];simp[f3]
 have v4:F2.get 4=some (.ptr 2 0):=by rw[<-hF2];simp[f4]
 have v6:F2.get 6=some (.ptr 3 0):=by rw[<-hF2];simp[f6]
 have v7:F2.get 7=some (.ptr 4 0):=by rw[<-hF2];simp[f7]
 clear hF2
 cases ok with
 | false =>
  have hke:keep 0 200 (!false)=200:=rfl;simp only[hke]at g3 hb ⊢;simp[bV,rL];refine hQ _ _ _ ?_ ?_ ?_ ?_
  ·simp[v4]
  ·simp[v6]
  ·simp[v7]
  rw[hb];exact⟨w2,g3,l,g4,by simp[hl],by simp[hl,al.ds],λ h=>by simp[hl,ew.cells,jb.zero,hk]⟩
 | true =>
  have hke:keep 0 200 (!true)=0:=rfl;simp only[hke]at g3 hb ⊢;have ha:=Kt t;have hkd:(aj [t]).length<=lim:=by simpa[aj,aR.kinds]using hcl
  have hcd:=Bc [t.name] [t] rfl hkd (by simp[lim]) (by simpa using hcl) s x.cond hz hm 3 0 K1 5 (by omega) g3;have gN:x.cond.av=.agg x.cond.cells 8:=Eq.trans rfl rfl;rw[gN]at hcd;generalize cQ [t.name] [t] x.cond 0=cd at *;obtain⟨cl,ce⟩:=cd;simp only[ju]at hcd ha;have hat:aG.av t=.agg [.int .u32 t.id,.str t.name,aW.ds t.ae,.int .u32 t.head] 4:=rfl;rw[hat]at ha;have ha':=ha.gY K1 5;generalize x.cond.cells=cs at *;simp[bV,rL];simp only[U9,cH];refine bY.of (fP (l:=[⟨20,[.agg [.int .u32 t.id,.str t.name,aW.ds t.ae,.int .u32 t.head] 4],K1,5,.agg [bB.ds [t.name],aG.ds [t]] 2,K1,5⟩,⟨19,[.ptr 3 0,.agg [bB.ds [t.name],aG.ds [t]] 2,.agg cs 8],K1,5,dz.ds cl,K1.put 3 (some (bV s ce)),5⟩]) ?_) ?_
  ·simp only[mem_cons,not_mem_nil,or_false];rintro c (rfl | rfl)
   ·exact ha'
   exact hcd
  have e2:∀c1,(Kk [⟨20,[.agg [.int .u32 t.id,.str t.name,aW.ds t.ae,.int .u32 t.head] 4],K1,5,.agg [bB.ds [t.name],aG.ds [t]] 2,K1,5⟩,⟨19,[.ptr 3 0,.agg [bB.ds [t.name],aG.ds [t]] 2,.agg cs 8],K1,5,dz.ds cl,K1.put 3 (some (bV s ce)),5⟩]).call 19 c1 K1 5=(Kk [⟨19,[.ptr 3 0,.agg [bB.ds [t.name],aG.ds [t]] 2,.agg cs 8],K1,5,dz.ds cl,K1.put 3 (some (bV s ce)),5⟩]).call 19 c1 K1 5:=λ c1=>Bh (by decide);simp[aa,v3,v6,v7,g4,hl,w1,hg,fQ,e2];refine hQ _ _ _ ?_ ?_ ?_ ?_
  ·simp[aa,v4]
  ·simp[aa,v6]
  ·simp[aa,v7]
  rw[hb];refine⟨by simp[w2],by simp,_,(Tr.get_put _ _ _ _).trans (if_pos rfl),rfl,?_,λ h=>?_⟩
  ·simp[al.ds]
  simp[ew.cells,jb.zero,hk]
theorem aE.Qt {x:aE}(h:x.may=true):x.ok=true:=by
 unfold aE.may at h;rw[Bool.and_eq_true]at h;exact h.1
theorem aY.AU {s:bD}(ho:eY s){x:aE}(hx:x.sm) (h:x.q.may=true):x.q.dE s:=by
 have hm:x.q.cond.maybe=true/\x.q.ab.length<=4/\(x.q.star=true->x.q.items.length=0)/\(x.q.star=false->x.q.items.length<=16)/\(∀y∈x.q.items,y.e.may=true)/\eA x.q.ab=true:=by
  simp only[aY.may,Bool.and_eq_true,all_eq_true,decide_eq_true_eq]at h;obtain⟨⟨⟨⟨⟨⟨⟨⟨h1,h2⟩,h3⟩,h4⟩,h5⟩,h6⟩,h7⟩,h8⟩,h9⟩:=h;refine⟨h1,h2,λ e=>?_,λ e=>?_,λ y hy=>?_,h8⟩
  ·rw[e]at h6;simpa using h6
  ·rw[e]at h6;simp at h6;exact h6.2
  have:=h7 y hy;simp only[fK.ok,Bool.and_eq_true]at this;exact this.1
 obtain⟨h1,h2,h3,h4,h5,h6⟩:=hm
 have aop:∀y:Src,(s.tb y).ae.length<=16:=λ y=>cE (Q:=λ t:aR=>t.ae.length<=16) (by simp[aR.zero]) λ t ht=>by
  obtain⟨i,hi,rfl⟩:=getElem_of_mem ht;exact(ho.tabs i hi).ae.2.1
 have hk:∀l:List Src,(aj (l.map s.tb)).length<=16*l.length:=by
  intro l
  induction l with
  | nil=>simp[aj]
  | cons y l ih =>
   have:=aop y;simp only[aj,map_cons,flatMap_cons,length_append,length_cons]at ih ⊢;simp only[aR.kinds,length_map]at ih ⊢;omega
 refine⟨?_,hx.ab,hx.order,λ y hy=>⟨hx.item y hy,h5 y hy⟩,λ y hy=>⟨hx.src y hy,?_⟩,hx.qc,h1⟩
 ·have:=hk x.q.ab
  have:x.q.items.length<=16:=by
   cases e:x.q.star with
   | true=>have:=h3 e;omega
   | false=>exact h4 e
  unfold lim;omega
 cases hs:x.q.ab with
 | nil=>rw[hs]at hy;cases hy
 | cons z r =>
  rw[hs]at h6 hy;simp only[eA,Bool.and_eq_true,all_eq_true]at h6;simp only[Ex.maybe,Bool.or_eq_true]
  rcases mem_cons.1 hy with rfl | hy
  ·have:=h6.1;simp only[Src.ok,if_true,Bool.and_eq_true]at this;exact .inl this.2.2
  have:=h6.2 y hy;simp only[Src.ok,Bool.and_eq_true]at this;exact .inr this.2.2
theorem apU (s:bD)(hs:s.dE)(x:aE)(hx:x.sm):ai pG 5 [cw.av s,x.av] (.bg [.agg (dZ s x).1.cells 25,.int .i64 (dZ s x).2]):=by
 refine bf c5 (by simp) (by simp) (by simp[A5]) λ F hF=>?_;have h16:=anT s hs;have DX:=anS x hx;have gN:x.av=.agg x.cells 31:=Eq.trans rfl rfl;have hsv:cw.av s=.agg [aG.ds s.tables,bC.ds s.indexes] 2:=rfl;have x0:=x.g0;have xl:=x.aA;have xp:=x.pure;rw[gN]at hF DX;rw[hsv]at hF h16
 have body:eY s/\x.may=true->∀(F:Fr) (K:Hp),E5 s x F K->VC pG C5 F K 5 [] (bX 0 (hJ pG M5 (iR [dm 4 25,aP 5] λ v1 H' _=>dU H'.get v1 (.bg [.agg (dZ s x).1.cells 25,.int .i64 (dZ s x).2])))):=by
  rintro⟨ho,hm⟩ F K E;have hb:dZ s x=dJ (bM s x):=by simp[dZ,ho,hm]
  have ok:=aE.Qt hm
  have fin:xZ s x (bX 0 (hJ pG M5 (iR [dm 4 25,aP 5] λ v1 H' _=>dU H'.get v1 (.bg [.agg (dZ s x).1.cells 25,.int .i64 (dZ s x).2])))):=by
   intro F' K' n' g4 g6 g7 O;rw[hb];exact Oy s _ _ F' K' n' g4 g6 g7 O
  by_cases h1:x.kind=1
  ·exact abL s hs x hx h1 F K _ E fin
  by_cases h2:x.kind=2
  ·exact abK s hs x h2 F K _ E fin
  by_cases h3:x.kind=3
  ·exact abJ s hs x hx h3 F K _ E fin
  by_cases h4:x.kind=4
  ·exact abI s hs x h4 F K _ E fin
  by_cases h5:x.kind=5
  ·refine abH s hs x hx (λ r hr=>⟨(hx.row r hr).1,λ e he=>⟨(hx.row r hr).2 e he,?_⟩⟩) h5 F K _ E fin;simp[aE.ok,h5]at ok;have:=ok.2 r hr;simp only[rowOk,Bool.and_eq_true,all_eq_true]at this;exact this.2 e he
  by_cases h6:x.kind=6
  ·refine abG s hs x hx.cond ?_ h6 F K _ E fin;simp[aE.ok,h6]at ok;exact ok.2
  by_cases h7:x.kind=7
  ·simp[aE.ok,h7]at ok;refine abF s hs x hx (λ y hy=>⟨hx.set y hy,?_⟩) ok.1.2 h7 F K _ E fin;have:=ok.2 y hy;simp only[ku.ok,Bool.and_eq_true]at this;exact this.2
  by_cases h8:x.kind=8
  ·simp[aE.ok,h8]at ok;exact abE s hs x (aY.AU ho hx ok) h8 F K _ E fin
  exact abD s x h1 h2 h3 h4 h5 h6 h7 h8 F K _ E fin
 have hz0:=mS 0;have hzk:=mS x.kind;clear hs hx gN;have hA:A5.code=B5:=rfl;have hR:A5.res=[dm 4 25,aP 5]:=rfl;simp only[hA,hR,b5]
 by_cases ho:eY s
 ·by_cases hm:x.may=true
  ·have body:=body ⟨ho,hm⟩;generalize dZ s x=R at *;generalize hxs:x.cells=xs at *;simp only[ho,decide_true]at h16;simp only[hm]at DX;simp[Vi,hF];simp[Vh];refine ao.pure h16 ?_;simp;refine ao.pure DX ?_;simp[akO,akN,akM,x0];rw[<-hz0,<-hzk];refine body _ _ ⟨?_,?_,?_,?_,?_,?_,?_,?_,?_,?_,?_,λ b hb=>?_⟩
   ·simp
   ·simp
   ·simp
   ·simp
   ·simp
   ·simp
   ·simp[cC]
   ·simp[hxs]
   ·simp
   ·simp[bV,rL]
   ·simp
   simp[show ¬b=0 by omega,show ¬b=1 by omega,show ¬b=2 by omega,show ¬b=3 by omega,show ¬b=4 by omega]
  have hb:dZ s x=(jU,1):=by simp[dZ,hm]
  have hm':x.may=false:=by simpa using hm
  rw[hb];clear body;generalize hxs:x.cells=xs at *;simp only[ho,decide_true]at h16;simp only[hm']at DX;simp[Vi,hF];simp[Vh];refine ao.pure h16 ?_;simp;refine ao.pure DX ?_;simp[ab2];exact .bg _ _ (.cons _ _ _ _ (.agg _ _ _ ((mR 0 _).Oh (by simp))) (.cons _ _ _ _ (.pure _ (by simp)) .nil))
 have hb:dZ s x=(jU,1):=by simp[dZ,ho]
 rw[hb];clear body DX;generalize hxs:x.cells=xs at *;simp only[ho,decide_false]at h16;simp[Vi,hF];simp[Vh];refine ao.pure h16 ?_;simp[ab2];exact .bg _ _ (.cons _ _ _ _ (.agg _ _ _ ((mR 0 _).Oh (by simp))) (.cons _ _ _ _ (.pure _ (by simp)) .nil))
theorem yn (t:aR):∀(l d:List ku)(N:List Ex)(e:Int),(gQ t d l N e).2.1=0->(gQ t d l N e).2.2=true
 | [],d,N,e,_=>rfl
 | y :: r,d,N,e,h=>by
  rw[gQ]at h ⊢
  split
  ·rename_i h1;rw[if_pos h1]at h;exact absurd h h1
  rename_i h1;rw[if_neg h1]at h;exact yn t r _ _ _ h
def gu (s:bD)(x:aE):ew×Int:=
 if x.kind=7/\(s.named x.table).2=true then xG (s.named x.table).1 x
 else if (x.kind=6∨x.kind=2)/\(s.named x.table).2=true then ({kind:=0,table:=(s.named x.table).1,cond:=(pO [(s.named x.table).1.name] [(s.named x.table).1] x.cond).1},(pO [(s.named x.table).1.name] [(s.named x.table).1] x.cond).2)
 else jX (dJ (bM s x))
theorem RD (r:ew×Int):jX (dJ (jX (dJ r)))=jX (dJ r):=by
 obtain⟨b,f⟩:=r
 by_cases h:f=0
 ·subst h;rw[eu];rfl
 rw[cf h];exact congrArg jX (cf h)
theorem ga.of {s:bD}(ho:eY s)(l:List aR)(h:∀t∈l,t∈s.tables∨t=aR.zero):ga l:=by
 intro k hk;unfold aj at hk;obtain⟨t,ht,hk⟩:=mem_flatMap.1 hk
 rcases h t ht with h1 | rfl
 ·obtain⟨i,hi,rfl⟩:=getElem_of_mem h1;have hc:=(ho.tabs i hi).ae.2.2;unfold aR.kinds at hk;obtain⟨c,hc2,rfl⟩:=mem_map.1 hk;obtain⟨j,hj,rfl⟩:=getElem_of_mem hc2;have:=(hc j hj).2.1;omega
 simp[aR.kinds,aR.zero]at hk
theorem yM (s:bD)(nm:List Nat):(s.named nm).1∈s.tables∨(s.named nm).1=aR.zero:=by
 unfold bD.named e8
 split
 ·rename_i x hx;exact .inl (mem_of_find?_eq_some hx)
 exact .inr rfl
theorem NR {x:aE}(h:x.may=true)(hk:x.kind=2):x.cond.op=0:=by
 unfold aE.may at h;rw[Bool.and_eq_true]at h;have h2:=h.2;have hc:x.cut.cond=jy:=by simp[aE.cut,hk,aE.z]
 unfold s7 at h2;rw[hc]at h2;simp only[Bool.and_eq_true,tH,decide_eq_true_eq]at h2;exact h2.2.2.2.2.2.2.2.1.1
theorem Se (s:bD) (x:aE) (ho:eY s) (hm:x.may=true):jX (dJ (gu s x))=jX (dJ (bM s x)):=by
 have ok:=aE.Qt hm;have hk:=ga.of ho [(s.named x.table).1] λ t ht=>by simp at ht;subst ht;exact yM s _
 unfold gu
 split
 ·rename_i h;obtain⟨h7,hn⟩:=h;simp[aE.ok,h7]at ok;have hb:bM s x=gO s x 0:=by simp[bM,h7]
  rw[hb];unfold gO;rw[hn,if_neg (by simp[keep]),show keep 0 200 (!true)=0 by rfl];generalize (s.named x.table).1=t at *;unfold xG zP;have hfl:=yn t x.sets [] (cA t.ae.length) 0;generalize gQ t [] x.sets (cA t.ae.length) 0=r at *;obtain⟨N,f,fl⟩:=r;simp only at hfl ⊢
  by_cases hf:f=0
  ·subst hf;rw[if_pos rfl,if_pos (hfl rfl)];obtain⟨c1,c2⟩:=qW (ns:=[t.name]) hk x.cond ok.1.2
   by_cases hz:(pO [t.name] [t] x.cond).2=0
   ·rw[c2 hz,hz,eu,eu];rfl
   rw[c1,cf hz,cf hz]
  rw[if_neg hf,cf hf]
  split
  ·rw[qY _ _ _ hf,cf hf]
  rw[cf hf]
 split
 ·rename_i h;obtain⟨h62,hn⟩:=h
  rcases h62 with h6 | h2
  ·simp[aE.ok,h6]at ok;have hb:bM s x=jB s x 0:=by simp[bM,h6]
   rw[hb];unfold jB;rw[hn,if_neg (by simp[keep])];generalize (s.named x.table).1=t at *;obtain⟨c1,c2⟩:=qW (ns:=[t.name]) hk x.cond ok.2
   by_cases hz:(pO [t.name] [t] x.cond).2=0
   ·rw[c2 hz,hz,eu,eu];rfl
   rw[c1,cf hz,cf hz]
  have hb:bM s x=({kind:=x.kind,table:=(s.named x.table).1},keep 0 200 (!(s.named x.table).2)):=by simp[bM,h2]
  rw[hb,hn,show keep 0 200 (!true)=0 by rfl];have h0:=NR hm h2;unfold pO;rw[if_pos h0,eu,eu];rfl
 exact RD _
theorem Ow (s:bD)(x:aE):(bM s x).1.kind=x.kind:=by
 unfold bM
 repeat' split
 all_goals first
  | rfl
  | (unfold jB;split<;>rfl)
  | (unfold gO zP;split<;>first | rfl | (split<;>rfl))
  | (unfold cJ;split<;>rfl)
def acf (l:List eW)(i:Nat):Prop:=∀h:i<l.length,cK l[i].name/\(1<=l[i].kind/\l[i].kind<=3)/\∀k (hk:k<l.length),i<k->l[k].name≠l[i].name
theorem Gn (l:List eW):fG l↔l≠[]/\l.length<=16/\∀i,acf l i:=by
 refine⟨λ⟨h1,h2,h3⟩=>⟨h1,h2,λ i h=>⟨(h3 i h).1,(h3 i h).2.1,λ k hk hik e=>(h3 k hk).2.2 i hik e.symm⟩⟩,λ⟨h1,h2,h3⟩=>⟨h1,h2,λ i h=>⟨(h3 i h).1,(h3 i h).2.1,λ j hj e=>?_⟩⟩⟩;exact(h3 j (by omega)).2.2 i h hj e.symm
theorem abm (l:List eW)(hl:l.length<=16)(i:Nat)(hi:i<l.length)(F:Fr)(K:Hp)(n:Nat)(Q:QA)(f0:F.get 0=some (aW.ds l))(f3:F.get 3=some (.int .i64 (i:Int)))(f5:F.get 5=some (.int .i64 ((i+1:Nat):Int)))
  (hbad:¬(∀k (hk:k<l.length),i<k->l[k].name≠l[i].name)->∀F,F.get 2=some (.bool false)->Q .ret F K n [])
  (hok:(∀k (hk:k<l.length),i<k->l[k].name≠l[i].name)->∀F,F.get 0=some (aW.ds l)->F.get 3=some (.int .i64 (i:Int))->Q .normal F K n []):au MH pG F K n [] (bX 2 Q):=by
 refine au.of (λ g F K' n' ms=>∃k:Nat,g=l.length - k/\i+1<=k/\k<=l.length/\F.get 0=some (aW.ds l)/\F.get 3=some (.int .i64 (i:Int))/\F.get 5=some (.int .i64 (k:Int))/\K'=K/\n'=n/\ms=[]/\∀j (hj:j<l.length),i<j->j<k->l[j].name≠l[i].name) (l.length - (i+1)) ⟨i+1,rfl,by omega,by omega,f0,f3,f5,rfl,rfl,rfl,λ j hj h1 h2=>by omega⟩ ?_;clear f0 f3 f5 F;rintro g F K' n' ms ⟨k,rfl,hk1,hk,f0,f3,f5,rfl,rfl,rfl,hj⟩
 by_cases hlt:k<l.length
 ·have hx:=aW.ix (ik:=.i64) hlt;have hy:=aW.ix (ik:=.i64) hi;rw[dQ]at hx hy;simp only[MH,UC,UK];simp[f0,f5,al.ag,hlt];refine bY.of (bH (P:=pG)) ?_
  by_cases he:l[k].name=l[i].name
  ·simp[aa,f0,f3,f5,hx,hy,he,UJ];exact hbad (λ h=>h k hlt (by omega) he) _ (by simp)
  simp[aa,f0,f3,f5,hx,hy,he,UI,ah k (by omega)];refine⟨_,by omega,k+1,rfl,by omega,by omega,rfl,λ j hjl h1 h2=>?_⟩
  by_cases e:j=k
  ·subst e;exact he
  exact hj j hjl h1 (by omega)
 obtain rfl:k=l.length:=by omega
 simp[MH,UC,f0,f5,al.ag];exact hok (λ k hk h=>hj k hk h hk) _ (by simp[f0]) (by simp[f3])
theorem akc (l:List eW):ai pG 75 [aW.ds l] (.bool (decide (fG l))):=by
 refine bf c75 (by simp) (by simp) (by simp[A75]) λ F hF=>?_
 by_cases h0:l=[]
 ·have:¬fG l:=λ h=>h.1 h0;simp only[this,decide_false];subst h0;simp[A75,B75,KG,KF,UF,hF,al.ag];exact .bool rfl
 have hp : 0<l.length:=length_pos_iff.2 h0
 by_cases h16:l.length<=16
 ·have hC : fG l↔∀i,acf l i:=by rw[Gn];exact⟨λ h=>h.2.2,λ h=>⟨h0,h16,h⟩⟩
  simp[A75,B75,KG,KF,aeZ,hF,al.ag,show ¬(l.length:Int)<1 by omega,show ¬(16:Int)<(l.length:Int) by omega,show ¬ 16<l.length by omega];refine au.of (λ t F K n ms=>∃i,t=l.length - i/\i<=l.length/\F.get 0=some (aW.ds l)/\F.get 3=some (.int .i64 (i:Int))/\ms=[]/\∀j,j<i->acf l j) l.length ⟨0,by simp,by omega,by simp[hF],by simp,rfl,λ j h=>by omega⟩ ?_;clear hF F;rintro t F K n ms ⟨i,rfl,hi,f0,f3,rfl,hj⟩
  by_cases hlt:i<l.length
  ·have hx:=aW.ix (ik:=.i64) hlt;rw[dQ]at hx;have no:¬acf l i->¬fG l:=λ h hc=>h (hC.1 hc i);simp[Zm,UE,aeY,f0,f3,al.ag,hlt,hx,aeX];refine ao.pure (Al l[i].name) ?_
   by_cases h1:cK l[i].name
   ·by_cases h2:1<=l[i].kind/\l[i].kind<=3
    ·have hk:l[i].kind=1∨l[i].kind=2∨l[i].kind=3:=by omega
     rcases hk with hk | hk | hk
     all_goals simp[h1,hk,aeW,f3,ah i (by omega)]
     all_goals refine abm l h16 i hlt _ K n _ (by simp[f0]) (by simp[f3]) (by simp) (λ hb F' f2=>?_) λ hg F' f0 f3=>?_
     all_goals first
      | (simp[f2];exact .bool (by simp[no λ h=>hb (h hlt).2.2]))
      | (simp[UH,f3,ah i (by omega)];refine⟨_,by omega,i+1,rfl,hlt,f0,rfl,λ j hji=>?_⟩;by_cases e:j=i;(subst e;exact λ h=>⟨h1,h2,hg⟩);(exact hj j (by omega)))
    simp[h1,show ¬l[i].kind=1 by omega,show ¬l[i].kind=2 by omega,show ¬l[i].kind=3 by omega,UD];exact .bool (by simp[no λ h=>h2 (h hlt).2.1])
   simp[h1,UD];exact .bool (by simp[no λ h=>h1 (h hlt).1])
  obtain rfl:i=l.length:=by omega
  have:fG l:=hC.2 λ j h=>hj j h h;simp[Zm,UE,UG,f0,f3,al.ag,this];exact .bool rfl
 have:¬fG l:=λ h=>h16 h.2.1;simp only[this,decide_false];simp[A75,B75,KG,KF,UF,hF,al.ag,show ¬(l.length:Int)<1 by omega,show (16:Int)<(l.length:Int) by omega];exact .bool rfl
theorem Js (s:bD) (hs:s.dE) (i0:Int):ai pG 76 [cw.av s,.int .u32 i0] (.bg [aG.av (s.table i0).1,.bool (s.table i0).2]):=by
 have ht:=hs.t;unfold lim at ht;refine bf c76 (by simp) (by simp) (by simp[A76]) λ F hF=>?_;simp[A76,B76,aeV,aeU,hF,al.av];refine au.of (λ q F K n ms=>∃i,q=s.tables.length - i/\i<=s.tables.length/\F.get 1=some (.int .u32 i0)/\F.get 2=some (.ptr 0 0)/\F.get 4=some (.ptr 1 0)/\F.get 6=some (.int .i64 (i:Int))/\K.get 0=some (.cells 2 [] (cw.cells s) .nil)/\K.get 1=some (.cells 4 [] [(.int .u32 0),(.str []),(.ak (.slice none 0 0)),(.int .u32 0)] .nil)/\ms=[]/\∀j (_:j<i) (h:j<s.tables.length),s.tables[j].id≠i0) s.tables.length ⟨0,by simp[hF]⟩ ?_;clear hF F;rintro q F K n ms ⟨i,rfl,hi,f1,f2,f4,f6,k0,k1,rfl,hj⟩;rw[cC]at k0
 by_cases hlt:i<s.tables.length
 ·have hx:=aG.ix (ik:=.i64) hlt
  by_cases he:s.tables[i].id=i0
  ·subst he
   have hf:s.table s.tables[i].id=(s.tables[i],true):=by
    unfold bD.table e8;rw[find?_eq_some_iff_getElem.2 ⟨by simp,i,hlt,rfl,λ j hj'=>by simpa using hj j hj' (by omega)⟩]
   rw[aU]at hx;simp[MG,KE,UB,aeT,f1,f2,f4,f6,k0,k1,al.ag,hlt,hx,acj,al.av,aU,hf];exact .pure _ (by simp)
  rw[aU]at hx;simp[MG,KE,UB,aeS,f1,f2,f4,f6,k0,al.ag,hlt,hx,he,ah i (by omega)];refine⟨_,by omega,i+1,rfl,hlt,rfl,?_⟩;refine⟨by rw[cC],k1,λ j hj' h=>?_⟩
  by_cases e:j=i
  ·subst e;exact he
  exact hj j (by omega) h
 obtain rfl:i=s.tables.length:=by omega
 have hf:s.table i0=(aR.zero,false):=by
  unfold bD.table e8
  rw[find?_eq_none.2 λ x hx=>by
   obtain⟨j,h,rfl⟩:=getElem_of_mem hx;simpa using hj j h h]
 simp[MG,KE,aeR,f2,f4,f6,k0,k1,al.ag,hf];exact .bg _ _ (.cons _ _ _ _ (.agg _ _ _ (ZS _)) (.cons _ _ _ _ (.pure _ (by simp)) .nil))
def PlP (n:Int)(l:List Int)(i:Nat):Prop:=∀h:i<l.length,0<=l[i]/\l[i]<n/\∀k (hk:k<i),(l[k]'(by omega))≠l[i]
theorem zZ (t:aR)(l:List Int):ei t l↔l≠[]/\l.length<=16/\∀i,PlP (t.ae.length:Int) l i:=by
 refine⟨λ⟨h1,h2,h3⟩=>⟨h1,h2,λ i h=>⟨(h3 i h).1,(h3 i h).2.1,λ k hk e=>(h3 i h).2.2 ?_⟩⟩,λ⟨h1,h2,h3⟩=>⟨h1,h2,λ i h=>⟨(h3 i h).1,(h3 i h).2.1,λ hm=>?_⟩⟩⟩
 ·rw[<-e];exact mem_take_iff_getElem.2 ⟨k,by omega,rfl⟩
 obtain⟨k,hk,e⟩:=mem_take_iff_getElem.1 hm;exact(h3 i h).2.2 k (by omega) e
theorem NH (l:List Int)(hl:l.length<=lim)(i:Nat)(hi:i<l.length)(n0:Int)(F:Fr)(K:Hp)(n:Nat)(Q:QA)(f0:F.get 0=some (.int .i64 n0))(f1:F.get 1=some (bR.ds l))(f5:F.get 5=some (.int .i64 (i:Int)))(f6:F.get 6=some (.int .i64 0))
  (hbad:¬(∀k (hk:k<i),(l[k]'(by omega))≠l[i])->∀F,F.get 4=some (.bool false)->Q .ret F K n [])
  (hok:(∀k (hk:k<i),(l[k]'(by omega))≠l[i])->∀F,F.get 0=some (.int .i64 n0)->F.get 1=some (bR.ds l)->F.get 5=some (.int .i64 (i:Int))->Q .normal F K n []):au MF pG F K n [] (bX 2 Q):=by
 unfold lim at hl;refine au.of (λ g F K' n' ms=>∃k:Nat,g=i - k/\k<=i/\F.get 0=some (.int .i64 n0)/\F.get 1=some (bR.ds l)/\F.get 5=some (.int .i64 (i:Int))/\F.get 6=some (.int .i64 (k:Int))/\K'=K/\n'=n/\ms=[]/\∀j (hj:j<i),j<k->(l[j]'(by omega))≠l[i]) i ⟨0,by simp,by omega,f0,f1,f5,by simpa using f6,rfl,rfl,rfl,λ j hj h1=>by omega⟩ ?_;clear f0 f1 f5 f6 F;rintro g F K' n' ms ⟨k,rfl,hk,f0,f1,f5,f6,rfl,rfl,rfl,hj⟩
 by_cases hlt:k<i
 ·have hx:=bR.ix (l:=l) (i:=k) (ik:=.i64) (by omega);have hy:=bR.ix (ik:=.i64) hi;rw[eR]at hx hy;simp only[MF,Uy,aeN];simp[f5,f6,hlt];refine bY.of (bH (P:=pG)) ?_
  by_cases he:(l[k]'(by omega))=l[i]
  ·simp[aa,f1,f5,f6,hx,hy,he,aeM];exact hbad (λ h=>h k hlt he) _ (by simp)
  simp[aa,f1,f5,f6,hx,hy,he,aeL,ah k (by omega)];refine⟨_,by omega,k+1,rfl,by omega,f0,rfl,λ j hjl h1=>?_⟩
  by_cases e:j=k
  ·subst e;exact he
  exact hj j hjl (by omega)
 obtain rfl:k=i:=by omega
 simp[MF,Uy,f5,f6];exact hok (λ k hk=>hj k hk hk) _ (by simp[f0]) (by simp[f1]) (by simp[f5])
theorem Qc (t:aR) (l:List Int) (hl:l.length<=lim):ai pG 77 [.int .i64 (t.ae.length:Int),bR.ds l] (.bool (decide (ei t l))):=by
 have hl':=hl;unfold lim at hl;refine bf c77 (by simp) (by simp) (by simp[A77]) λ F hF=>?_;have hC:=zZ t l;generalize (t.ae.length:Int)=n0 at *;simp[A77,B77,aeQ,aeP];refine au.of (λ t F K n ms=>∃i,t=l.length - i/\i<=l.length/\F.get 0=some (.int .i64 n0)/\F.get 1=some (bR.ds l)/\F.get 5=some (.int .i64 (i:Int))/\ms=[]/\∀j,j<i->PlP n0 l j) l.length ⟨0,by simp,by omega,by simp[hF],by simp[hF],by simp,rfl,λ j h=>by omega⟩ ?_;clear hF F;rintro g F K n ms ⟨i,rfl,hi,f0,f1,f5,rfl,hj⟩
 by_cases hlt:i<l.length
 ·have hx:=bR.ix (ik:=.i64) hlt;rw[eR]at hx;have no:¬PlP n0 l i->¬ei t l:=λ h hc=>h ((hC.1 hc).2.2 i)
  by_cases h1:l[i]<0
  ·simp[zH,zA,KD,Uz,f1,f5,al.ag,hlt,hx,h1];exact .bool (by simp[no λ h=>by have:=(h hlt).1;omega])
  by_cases h2:n0<=l[i]
  ·simp[zH,zA,KD,Uz,f0,f1,f5,al.ag,hlt,hx,h1,h2];exact .bool (by simp[no λ h=>by have:=(h hlt).2.1;omega])
  simp[zH,zA,KD,aeO,f0,f1,f5,al.ag,hlt,hx,h1,h2];refine NH l hl' i hlt n0 _ K n _ (by simp[f0]) (by simp[f1]) (by simp[f5]) (by simp) (λ hb F' f4=>?_) λ hg F' f0 f1 f5=>?_
  ·simp[f4];exact .bool (by simp[no λ h=>hb (h hlt).2.2])
  simp[UA,f5,ah i (by omega)];refine⟨_,by omega,i+1,rfl,hlt,f0,f1,rfl,λ j hji=>?_⟩
  by_cases e:j=i
  ·subst e;exact λ h=>⟨by omega,by omega,hg⟩
  exact hj j (by omega)
 obtain rfl:i=l.length:=by omega
 have hall:∀j,PlP n0 l j:=λ j h=>hj j h h
 by_cases h0:0<l.length
 ·have hn:l≠[]:=length_pos_iff.1 h0;simp[zH,zA,G8,f1,f5,al.ag,h0];refine .bool ?_;rw[Bool.eq_iff_iff,decide_eq_true_eq,decide_eq_true_eq,hC];simp only[hn,hall,ne_eq,not_false_eq_true,true_and,implies_true,and_true];omega
 have hn:l=[]:=length_eq_zero_iff.1 (by omega);have hno:¬ei t l:=λ h=>h.1 hn;simp[zH,zA,G8,f1,f5,al.ag,h0];exact .bool (by simp[hno])
def eU:al Int 1:=⟨λ i=>[.int .u32 i],λ _=>rfl,λ _=>by simp,λ _=>by simp[bm,AV.one]⟩
theorem ajX (i:Int):eU.cells i=[.int .u32 i]:=rfl
structure PgF (s:bD)(l:List Int)(x:AV)(F:Fr)(K:Hp)(n:Nat):Prop where
 f1:F.get 1=some (.ptr 0 0)
 f3:F.get 3=some x
 k0:K.get 0=some (.cells 2 [] (cw.cells s) .nil)
 ow:ar K n x (eU.l l) l.length 1
 dx:∀b,blk x=some b->1<=b
 n1:1<=n
theorem PgF.app {s:bD}{l:List Int}{x:AV}{F:Fr}{K:Hp}{n:Nat}(S:PgF s l x F K n)(hl:l.length<=4194304)(p:Int){pd:Pd}{r:List (Option GO)}{Q:QA}{F':Fr}
  (hgo:∀K' x',(∀F2:Fr,F2.get 1=some (.ptr 0 0)->F2.get 3=some x'->PgF s (l++[p]) x' F2 K' (n+1+1))->fj pG r (pd.f x' F') K' (n+1+1) [] Q):
  Je (lU 1 4 (n+1) x (.sl n 0 1 1) (K.put n (some (.cells 1 [] [.int .u32 p] .nil)))) pd r pG F' (K.put n (some (.cells 1 [] [.int .u32 p] .nil))) (n+1) [] Q:=by
 obtain⟨f1,f3,k0,ow,dx,n1⟩:=S;have hvl:∀b,blk x=some b->b<n:=λ b h=>ow.aK h;refine ar.jr (k:=1) (new:=[.int .u32 p]) (ow.frame (n':=n+1) (by omega) λ b hb=>by have:=hvl b hb;simp[dj this]) (aB (by simp)) (by simp) (by simp) (by omega) (by omega) (by unfold big;omega) (by omega) (by simp) λ K2 o2 g2=>?_;refine hgo K2 _ λ F2 w1 w3=>⟨w1,w3,?_,?_,λ b hb=>by simp at hb;omega,by omega⟩
 ·have h0:¬ 0=n:=by omega
  rw[g2 0 (by omega) λ h=>by have:=dx 0 h;omega];simp[h0,k0]
 rw[al.bo,al.dF,ajX,length_append];exact o2
theorem aam (s:bD)(hs:s.dE):ai pG 73 [cw.av s] (eU.ds s.pages):=by
 have ht:=hs.t;have hi:=hs.i;unfold lim at ht hi;refine bf c73 (by simp) (by simp) (by simp[A73]) λ F hF=>?_;simp[A73,B73,afb,afa,ae',hF,al.av];refine au.of (λ q F K n ms=>∃(i:Nat) (x:AV),q=s.tables.length - i/\i<=s.tables.length/\PgF s ((s.tables.take i).map (·.head)) x F K n/\F.get 4=some (.int .i64 (i:Int))/\ms=[]) s.tables.length ⟨0,.ak (.slice none 0 0),by simp,by omega,⟨by simp,by simp,by simp,by simpa using ar.nil _ _ 1,by simp,by omega⟩,by simp,rfl⟩ ?_;clear hF F;rintro q F K n ms ⟨i,x,rfl,hil,S,f4,rfl⟩;obtain⟨f1,f3,k0,ow,dx,n1⟩:=id S;rw[cC]at k0
 by_cases hlt:i<s.tables.length
 ·have hx:=aG.ix (ik:=.i64) hlt;rw[aU]at hx;simp[Zp,UQ,ae_,f1,f3,f4,k0,al.ag,hlt,hx];refine S.app (by simp;omega) _ λ K' x' hS=>?_;simp[ae9,f4,ah i (by omega)];exact⟨_,by omega,i+1,rfl,hlt,⟨x',by rw[<-map_take,cZ hlt,map_append];exact hS _ (by simp[f1]) (by simp)⟩,rfl⟩
 obtain rfl:i=s.tables.length:=by omega
 rw[take_length]at S;simp[Zp,UQ,f1,f4,k0,al.ag,ae8];refine au.of (λ q F K n ms=>∃(i:Nat) (x:AV),q=s.indexes.length - i/\i<=s.indexes.length/\PgF s (s.tables.map (·.head)++(s.indexes.take i).map (·.root)) x F K n/\F.get 5=some (.int .i64 (i:Int))/\ms=[]) s.indexes.length ⟨0,x,by simp,by omega,by simpa using(⟨by simp[f1],by simp[f3],S.k0,S.ow,dx,n1⟩:PgF s _ x _ K n),by simp,rfl⟩ ?_;clear S f1 f3 f4 k0 ow dx n1 F K n x;rintro q F K n ms ⟨i,x,rfl,hil,S,f5,rfl⟩;obtain⟨f1,f3,k0,ow,dx,n1⟩:=id S;rw[cC]at k0
 by_cases hlt:i<s.indexes.length
 ·have hx:=bC.ix (ik:=.i64) hlt;rw[eG]at hx;simp[Zo,UO,ae7,f1,f3,f5,k0,al.ag,hlt,hx];refine S.app (by simp;omega) _ λ K' x' hS=>?_;simp[ae6,f5,ah i (by omega)];exact⟨_,by omega,i+1,rfl,hlt,⟨x',by rw[<-map_take,cZ hlt,map_append,<-append_assoc];exact hS _ (by simp[f1]) (by simp)⟩,rfl⟩
 obtain rfl:i=s.indexes.length:=by omega
 rw[take_length]at ow;simp[Zo,UO,f1,f5,k0,al.ag,UR,f3];have:=ow.uw (aN.pure (by simp)) (by omega);simpa[al.ds,bD.pages]using this
def PgP (l:List Int)(i:Nat):Prop:=∀h:i<l.length,(∀k (hk:k<i),(l[k]'(by omega))≠l[i])/\l[i]≠0
theorem Qe (l:List Int):nN l↔∀i,PgP l i:=by
 constructor
 ·rintro⟨h1,h2⟩ i hi;exact⟨λ k hk=>pairwise_iff_getElem.1 h1 k i (by omega) hi hk,λ e=>h2 (by rw[<-e];exact getElem_mem hi)⟩
 intro h;refine⟨pairwise_iff_getElem.2 λ a b ha hb hab=>(h b hb).1 a hab,λ h0=>?_⟩;obtain⟨i,hi,e⟩:=getElem_of_mem h0;exact(h i hi).2 e
structure CX (s:bD)(F:Fr)(K:Hp)(n:Nat):Prop where
 f1:F.get 1=some (.ptr 0 0)
 k0:K.get 0=some (.cells 2 [] (cw.cells s) .nil)
 n1:1<=n
theorem ai8 (s:bD)(l:List Int)(hl:l.length<=4194304)(i:Nat)(hi:i<l.length)(F:Fr)(K:Hp)(n:Nat)(Q:QA)(S:CX s F K n)(f3:F.get 3=some (eU.ds l))(f4:F.get 4=some (.int .i64 (i:Int)))(f5:F.get 5=some (.int .i64 0))
  (hbad:¬(∀k (hk:k<i),(l[k]'(by omega))≠l[i])->∀F,F.get 2=some (.bool false)->Q .ret F K n [])
  (hok:(∀k (hk:k<i),(l[k]'(by omega))≠l[i])->∀F,CX s F K n->F.get 3=some (eU.ds l)->F.get 4=some (.int .i64 (i:Int))->Q .normal F K n []):au MP pG F K n [] (bX 2 Q):=by
 refine au.of (λ g F K' n' ms=>∃k:Nat,g=i - k/\k<=i/\CX s F K n/\F.get 3=some (eU.ds l)/\F.get 4=some (.int .i64 (i:Int))/\F.get 5=some (.int .i64 (k:Int))/\K'=K/\n'=n/\ms=[]/\∀j (hj:j<i),j<k->(l[j]'(by omega))≠l[i]) i ⟨0,by simp,by omega,S,f3,f4,by simpa using f5,rfl,rfl,rfl,λ j hj h1=>by omega⟩ ?_;clear S f3 f4 f5 F;rintro g F K' n' ms ⟨k,rfl,hk,⟨f1,k0,n1⟩,f3,f4,f5,rfl,rfl,rfl,hj⟩
 by_cases hlt:k<i
 ·have hx:=eU.ix (l:=l) (i:=k) (ik:=.i64) (by omega);have hy:=eU.ix (ik:=.i64) hi;rw[ajX]at hx hy;simp only[MP,Wb,ahh];simp[f4,f5,hlt];refine bY.of (bH (P:=pG)) ?_
  by_cases he:(l[k]'(by omega))=l[i]
  ·simp[aa,f3,f4,f5,hx,hy,he,ahg];exact hbad (λ h=>h k hlt he) _ (by simp)
  simp[aa,f3,f4,f5,hx,hy,he,Ww,ah k (by omega)];refine⟨_,by omega,k+1,rfl,by omega,⟨by simp[aa,f1],k0,n1⟩,rfl,λ j hjl h1=>?_⟩
  by_cases e:j=k
  ·subst e;exact he
  exact hj j hjl (by omega)
 obtain rfl:k=i:=by omega
 simp[MP,Wb,f4,f5];exact hok (λ k hk=>hj k hk hk) _ ⟨by simp[f1],k0,n1⟩ (by simp[f3]) (by simp[f4])
theorem ai7 (s:bD) (l:List Int) (hl:l.length<=4194304) (F:Fr) (K:Hp) (n:Nat) (Q:QA) (S:CX s F K n) (f3:F.get 3=some (eU.ds l)) (f4:F.get 4=some (.int .i64 0))
  (hbad:¬nN l->∀F,F.get 2=some (.bool false)->Q .ret F K n [])
  (hok:nN l->∀F,CX s F K n->Q .normal F K n []):au MO pG F K n [] (bX 0 Q):=by
 have hC:=Qe l;refine au.of (λ g F K' n' ms=>∃i:Nat,g=l.length - i/\i<=l.length/\CX s F K n/\F.get 3=some (eU.ds l)/\F.get 4=some (.int .i64 (i:Int))/\K'=K/\n'=n/\ms=[]/\∀j,j<i->PgP l j) l.length ⟨0,by simp,by omega,S,f3,by simpa using f4,rfl,rfl,rfl,λ j h=>by omega⟩ ?_;clear S f3 f4 F;rintro g F K' n' ms ⟨i,rfl,hi,⟨f1,k0,n1⟩,f3,f4,rfl,rfl,rfl,hj⟩
 by_cases hlt:i<l.length
 ·have hx:=eU.ix (ik:=.i64) hlt;rw[ajX]at hx;have no:¬PgP l i->¬nN l:=λ h hc=>h (hC.1 hc i);simp[MO,Wc,ahi,f3,f4,al.ag,hlt];refine ai8 s l hl i hlt _ _ _ _ ⟨by simp[f1],k0,n1⟩ (by simp[f3]) (by simp[f4]) (by simp) (λ hb F f2=>?_) λ hg F ⟨f1,k0,n1⟩ f3 f4=>?_
  ·simp;exact hbad (no λ h=>hb (h hlt).1) _ f2
  by_cases h0:l[i]=0
  ·simp[HI,Wv,f3,f4,hx,h0];exact hbad (no λ h=>(h hlt).2 h0) _ (by simp)
  simp[HI,Wu,f3,f4,hx,h0,ah i (by omega)];refine⟨_,by omega,i+1,rfl,hlt,⟨by simp[f1],k0,n1⟩,rfl,λ j hji=>?_⟩
  by_cases e:j=i
  ·subst e;exact λ _=>⟨hg,h0⟩
  exact hj j (by omega)
 obtain rfl:i=l.length:=by omega
 simp[MO,Wc,f3,f4,al.ag];exact hok (hC.2 λ j h=>hj j h h) _ ⟨by simp[f1],k0,n1⟩
def TbP (l:List aR)(i:Nat):Prop:=∀h:i<l.length,l[i].id≠0/\cK l[i].name/\fG l[i].ae/\∀k (hk:k<i),(l[k]'(by omega)).id<l[i].id/\(l[k]'(by omega)).name≠l[i].name
theorem Fi (l:List aR) (h0:∀t∈l,0<=t.id):nB l↔∀i,TbP l i:=by
 constructor
 ·intro h
  have asc:∀i (hi:i<l.length),0<l[i].id/\∀k (hk:k<i),(l[k]'(by omega)).id<l[i].id:=by
   intro i
   induction i with
   | zero=>intro hi;have:=(h 0 hi).id;rw[Ax]at this;exact⟨this,λ k hk=>by omega⟩
   | succ i ih =>
    intro hi;obtain⟨a1,a2⟩:=ih (by omega);have:=(h (i+1) hi).id;rw[Aw (by omega)]at this;refine⟨by omega,λ k hk=>?_⟩
    by_cases e:k=i
    ·subst e;exact this
    have:=a2 k (by omega);omega
  intro i hi;refine⟨by have:=(asc i hi).1;omega,(h i hi).name,(h i hi).ae,λ k hk=>⟨(asc i hi).2 k hk,(h i hi).new _ (mem_take_iff_getElem.2 ⟨k,by omega,rfl⟩)⟩⟩
 intro h i hi;refine⟨?_,(h i hi).2.1,(h i hi).2.2.1,λ t ht=>?_⟩
 ·cases i with
  | zero=>rw[Ax];have:=(h 0 hi).1;have:=h0 _ (getElem_mem hi);omega
  | succ i=>rw[Aw (by omega)];exact((h (i+1) hi).2.2.2 i (by omega)).1
 obtain⟨k,hk,rfl⟩:=mem_take_iff_getElem.1 ht;exact((h i hi).2.2.2 k (by omega)).2
theorem ai6 (s:bD) (hs:s.dE) (i:Nat) (hi:i<s.tables.length) (F:Fr) (K:Hp) (n a:Nat) (Q:QA) (S:CX s F K n) (f7:F.get 7=some (.ptr a 0)) (ha:K.get a=some (.cells 4 [] (aG.cells s.tables[i]) .nil)) (f6:F.get 6=some (.int .i64 (i:Int))) (f8:F.get 8=some (.int .i64 0))
  (hbad:¬(∀k (hk:k<i),(s.tables[k]'(by omega)).id<s.tables[i].id/\(s.tables[k]'(by omega)).name≠s.tables[i].name)->∀F,F.get 2=some (.bool false)->Q .ret F K n [])
  (hok:(∀k (hk:k<i),(s.tables[k]'(by omega)).id<s.tables[i].id/\(s.tables[k]'(by omega)).name≠s.tables[i].name)->∀F,CX s F K n->F.get 6=some (.int .i64 (i:Int))->Q .normal F K n []):au MN pG F K n [] (bX 6 Q):=by
 have ht:=hs.t;unfold lim at ht;refine au.of (λ g F K' n' ms=>∃k:Nat,g=i - k/\k<=i/\CX s F K n/\F.get 7=some (.ptr a 0)/\F.get 6=some (.int .i64 (i:Int))/\F.get 8=some (.int .i64 (k:Int))/\K'=K/\n'=n/\ms=[]/\∀j (hj:j<i),j<k->(s.tables[j]'(by omega)).id<s.tables[i].id/\(s.tables[j]'(by omega)).name≠s.tables[i].name) i ⟨0,by simp,by omega,S,f7,f6,by simpa using f8,rfl,rfl,rfl,λ j hj h1=>by omega⟩ ?_;clear S f6 f7 f8 F;rintro g F K' n' ms ⟨k,rfl,hk,⟨f1,k0,n1⟩,f7,f6,f8,rfl,rfl,rfl,hj⟩;have N2:=k0;rw[cC]at k0;have ha':=ha;rw[aU]at ha
 by_cases hlt:k<i
 ·have hx:=aG.ix (l:=s.tables) (i:=k) (ik:=.i64) (by omega);rw[aU]at hx;have hj':=hj;generalize hy:s.tables[k]'(by omega)=y at *;generalize hz:s.tables[i]=z at *;have no:¬(y.id<z.id/\y.name≠z.name)->¬(∀k (hk:k<i),(s.tables[k]'(by omega)).id<z.id/\(s.tables[k]'(by omega)).name≠z.name):=λ h h2=>h (by rw[<-hy];exact h2 k hlt);simp only[MN,HF,Wo];simp[f6,f8,hlt];refine bY.of (bH (P:=pG)) ?_
  by_cases h1:z.id<=y.id
  ·simp[aa,f1,f7,f8,k0,ha,hx,h1,HE];exact hbad (no λ h=>by omega) _ (by simp)
  by_cases h2:y.name=z.name
  ·simp[aa,f1,f7,f8,k0,ha,hx,h1,h2,HE];exact hbad (no λ h=>h.2 h2) _ (by simp)
  simp[aa,f1,f7,f8,k0,ha,hx,h1,h2,Wn,ah k (by omega)];refine⟨_,by omega,k+1,rfl,by omega,⟨by simp[aa,f1],N2,n1⟩,f6,rfl,λ j hjl h3=>?_⟩
  by_cases e:j=k
  ·subst e;rw[hy];exact⟨by omega,h2⟩
  exact hj j hjl (by omega)
 obtain rfl:k=i:=by omega
 simp[MN,HF,f6,f8];exact hok (λ k hk=>hj k hk hk) _ ⟨by simp[f1],N2,n1⟩ (by simp[f6])
theorem ai5 (s:bD)(hs:s.dE)(h0:∀t∈s.tables,0<=t.id)(F:Fr)(K:Hp)(n:Nat)(Q:QA)(S:CX s F K n)(f6:F.get 6=some (.int .i64 0))
  (hbad:¬nB s.tables->∀F K n,F.get 2=some (.bool false)->Q .ret F K n [])
  (hok:nB s.tables->∀F K n,CX s F K n->Q .normal F K n []):au MM pG F K n [] (bX 4 Q):=by
 have ht:=hs.t;unfold lim at ht;have hC:=Fi s.tables h0;refine au.of (λ g F K n ms=>∃i:Nat,g=s.tables.length - i/\i<=s.tables.length/\CX s F K n/\F.get 6=some (.int .i64 (i:Int))/\ms=[]/\∀j,j<i->TbP s.tables j) s.tables.length ⟨0,by simp,by omega,S,by simpa using f6,rfl,λ j h=>by omega⟩ ?_;clear S f6 F K n;rintro g F K n ms ⟨i,rfl,hi,⟨f1,k0,n1⟩,f6,rfl,hj⟩;have N2:=k0;rw[cC]at k0
 by_cases hlt:i<s.tables.length
 ·have hx := aG.ix (ik:=.i64) hlt;have hld:=λ r H=>aG.gM s.tables[i] r H;simp only[al.av]at hld;have no:¬TbP s.tables i->¬nB s.tables:=λ h hc=>h (hC.1 hc i);simp[MM,HH,Ws,f1,f6,k0,al.ag,hlt,hx,hld];generalize hK1:Tr.put (Tr.put K n _) n _=K1;have g1:∀b,b<n->K1.get b=K.get b:=λ b hb=>by rw[<-hK1];simp[dj hb]
  have x1:K1.get n=some (.cells 4 [] (aG.cells s.tables[i]) .nil):=by rw[<-hK1];simp
  clear hK1;have N1:=(g1 0 (by omega)).trans N2;have x1':=x1;rw[aU]at x1
  by_cases h1:s.tables[i].id=0
  ·simp[HG,BH,x1,h1];exact hbad (no λ h=>(h hlt).1 h1) _ _ _ (by simp)
  simp[HG,x1,h1];refine ao.pure (Al s.tables[i].name) ?_
  by_cases h2:cK s.tables[i].name
  ·simp[h2,x1];refine ao.pure (akc s.tables[i].ae) ?_
   by_cases h3:fG s.tables[i].ae
   ·simp[h3,Wr];refine ai6 s hs i hlt _ K1 (n+1) n _ ⟨by simp[f1],N1,by omega⟩ (by simp) x1' (by simp[f6]) (by simp) (λ hb F f2=>?_) λ hg F ⟨f1,_,_⟩ f6=>?_
    ·simp;exact hbad (no λ h=>hb (h hlt).2.2.2) _ _ _ f2
    simp[Wm,f6,ah i (by omega)];refine⟨_,by omega,i+1,rfl,hlt,⟨by simp[f1],N1,by omega⟩,rfl,λ j hji=>?_⟩
    by_cases e:j=i
    ·subst e;exact λ _=>⟨h1,h2,h3,hg⟩
    exact hj j (by omega)
   simp[h3,BH];exact hbad (no λ h=>h3 (h hlt).2.2.1) _ _ _ (by simp)
  simp[h2,BH];exact hbad (no λ h=>h2 (h hlt).2.1) _ _ _ (by simp)
 obtain rfl:i=s.tables.length:=by omega
 simp[MM,HH,f1,f6,k0,al.ag];exact hok (hC.2 λ j h=>hj j h h) _ _ _ ⟨by simp[f1],N2,n1⟩
end Go.Abs
