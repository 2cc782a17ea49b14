/- A part. -/
import Derived.Test.YtfdoeenlgkkaiaaGreatBt10
noncomputable section
namespace Go.Abs
open List
open Go.Proofs
open Classical
set_option maxRecDepth 100000
theorem ZV (t:aR)(d l:List ku)(N:List Ex){f:Int}(h:f≠0):(gQ t d l N f).2.1=f:=by
 cases l with
 | nil=>rfl
 | cons y r=>rw[gQ,eO h,eO h,if_pos h]
theorem gZ.own {t:aR}(h:t.ae.length<=lim):gZ [t.name] [t]:=⟨rfl,by simp[lim],by simpa[aj,aR.kinds]using h,by simpa using h⟩
theorem M9 (t:aR) (x:aE) (htc:t.ae.length<=lim) (hx:x.sets.length<=lim) (hr:∀y∈x.sets,y.e.sz<=lim/\y.e.may=true) (F:Fr) (K:Hp) (m:Nat) (Q:QA) (va:AV) (R:List AV) (vb:AV) (G:UzF t vb F) (f11:F.get 11=some (.int .i64 0)) (M:UzM t x (cA t.ae.length) (j1 t []) t.ae.length va R vb K m)
  (hbad:∀f,f≠0->(gQ t [] x.sets (cA t.ae.length) 0).2.1=f->∀F K m,F.get 6=some (.ptr 2 0)->F.get 7=some (.int .i64 f)->K.get 2=some (.cells 25 [] (br 0) .nil)->Q .ret F K m [])
  (hQ:∀N va R vb F K m,gQ t [] x.sets (cA t.ae.length) 0=(N,0,true)->N.length=t.ae.length->UzF t vb F->UzM t x N (j1 t x.sets) t.ae.length va R vb K m->Q .normal F K m []):au Mw pG F K m [] (bX 2 Q):=by
 have hcl:=htc;unfold lim at htc hx;refine au.of (λ q F K m ms=>∃(i:Nat) (N:List Ex) (va:AV) (R:List AV) (vb:AV),q=x.sets.length - i/\i<=x.sets.length/\N.length=t.ae.length/\UzF t vb F/\F.get 11=some (.int .i64 (i:Int))/\UzM t x N (j1 t (x.sets.take i)) t.ae.length va R vb K m/\gQ t [] x.sets (cA t.ae.length) 0=gQ t (x.sets.take i) (x.sets.drop i) N 0/\ms=[]) x.sets.length ⟨0,_,va,R,vb,by simp,by omega,by simp,G,by simpa using f11,M,rfl,rfl⟩ ?_;clear G f11 M F K m va R vb;rintro q F K m ms ⟨i,N,va,R,vb,rfl,hi,hN,⟨f2,f3,f4,f6,f8,f9⟩,f11,M,he,rfl⟩;have k0:=M.k0;have k1:=M.k1;have k2:=M.k2;have k3:=M.k3;have hm:=M.hm;have tp:=M.tp;rw[aU]at k1;simp only[iG]at k3;simp only[br]at k2
 by_cases hlt:i<x.sets.length
 ·have hZ := eQ.ix (ik:=.i64) hlt;rw[qe]at hZ;obtain⟨hz,yS⟩:=hr _ (getElem_mem hlt);rw[drop_eq_getElem_cons hlt,gQ]at he;have FU:=wi t x.sets[i].name hcl;have hcv:eE (λ c:eW=>decide (c.name=x.sets[i].name)) t.ae=bS t x.sets[i].name:=rfl;rw[hcv,show aG.av t=.agg [.int .u32 t.id,.str t.name,aW.ds t.ae,.int .u32 t.head] 4 from Eq.trans rfl rfl]at FU;have hkl:=nY (λ c:eW=>decide (c.name=x.sets[i].name)) t.ae;rw[hcv]at hkl;have hsn:=cZ hlt;have hny:∀y:ku,0<=bS t x.sets[i].name->(bS t y.name=bS t x.sets[i].name↔y.name=x.sets[i].name):=λ y h0=>⟨λ h=>(ze h0 h.symm).symm,λ h=>by rw[h]⟩;have hset:=λ k=>Ni t (x.sets.take i) x.sets[i] (k:=k);generalize hy:x.sets[i]=y at *;generalize hk:bS t y.name=k at *;simp[Mw,Tg,f3,f11,k0,aE.c7,al.ag,hlt];simp only[Tv,cH];refine bY.of (iN (l:=[(118,[.agg [.int .u32 t.id,.str t.name,aW.ds t.ae,.int .u32 t.head] 4,.str y.name],λ H n=>.mk (.int .i64 k) H n)]) ?_) ?_
  ·intro y hy;simp only[mem_cons,not_mem_nil,or_false]at hy;subst hy;exact eX FU
  simp[aa,f3,f4,f11,k0,k1,aE.c7,hZ];rw[fA];simp
  by_cases hk0:k<0
  ·simp[keep,hk0]at he;simp[GH,Tu,aa,f6,k2,hk0];exact hbad 201 (by decide) (by rw[he]) _ _ _ (by simp[aa,f6]) (by simp) (by simp[br])
  obtain⟨kk,rfl⟩:∃kk:Nat,k=(kk:Int):=⟨k.toNat,by omega⟩;have hkk:kk<t.ae.length:=by omega
  have hkb:kk<(j1 t (x.sets.take i)).length:=by simpa using hkk
  obtain⟨b,h1,h2⟩:=M.ob.ld (ik:=.i64) (o:=kk*1) (y:=.bool (j1 t (x.sets.take i))[kk]) hkk (by have:=eBo.ajf (j:=0) hkb (by omega);simpa[RL]using this)
  have hany:(j1 t (x.sets.take i))[kk]=(x.sets.take i).any λ z=>decide (z.name=y.name):=by
   rw[qG];refine congrArg (λ p=>List.any (x.sets.take i) p) (funext λ z=>?_);rw[decide_eq_decide];exact hny z (by omega)
  rw[hany]at h2;simp only[Nat.mul_one]at h1 h2;simp at h2;simp[GH,Tt,aa,f9,hk0,h1,h2];generalize (x.sets.take i).any (λ z=>decide (z.name=y.name))=db at he ⊢
  cases db with
  | true =>
   simp[keep]at he;simp[Ts,aa,f6,k2];exact hbad 205 (by decide) (by rw[he]) _ _ _ (by simp[aa,f6]) (by simp) (by simp[br])
  | false =>
   simp[keep,hk0]at he;have hcx:=aW.ix (ik:=.i64) hkk;rw[dQ]at hcx;have hft:ai pG 119 [jd.ds [(t.name,t)],y.e.av,.int .i64 t.ae[kk].kind] (.bg [.agg (pY [t.name] [t] y.e t.ae[kk].kind).1.cells 8,.int .i64 (pY [t.name] [t] y.e t.ae[kk].kind).2]):=Rz (.own hcl) y.e hz yS t.ae[kk].kind;rw[kZ hkk]at he;obtain⟨hx1,hx2⟩:=Ry [t.name] [t] y.e t.ae[kk].kind;generalize pY [t.name] [t] y.e t.ae[kk].kind=X at *;generalize nf [t.name] [t] y.e t.ae[kk].kind 0=Y at *;obtain⟨xe,xf⟩:=X;obtain⟨ye,yf⟩:=Y;simp only at hx1 hx2 hft he;subst hx1;have n3:K.get m=none:=tp _ (Nat.le_refl _);simp only[Tq];refine bY.of (iN (l:=[(119,[jd.ds [(t.name,t)],y.e.av,.int .i64 t.ae[kk].kind],λ H n=>.mk (.bg [.agg xe.cells 8,.int .i64 yf]) H n)]) ?_) ?_
   ·intro y hy;simp only[mem_cons,not_mem_nil,or_false]at hy;subst hy;exact eX hft
   simp[aa,f2,f3,f4,f11,k0,k1,aE.c7,hZ,hcx];rw[fA];simp[bw,bL,n3];generalize hK1:Tr.put (Tr.put K m _) m _=K1;have g1:∀c,c<m->K1.get c=K.get c:=λ c hc=>by rw[<-hK1];simp[dj hc]
   have x1:K1.get m=some (.cells 8 [] xe.cells .nil):=by rw[<-hK1];simp
   have t1:cS K1 (m+1):=λ c hc=>by
    have e1:¬c=m:=by omega
    rw[<-hK1];simp[e1,tp c (by omega)]
   clear hK1;have k21:=(g1 2 (by omega)).trans k2
   by_cases hf:yf=0
   ·subst hf;obtain rfl:=hx2 rfl;have la:∀b,blk va=some b->b<m:=λ b h=>M.oa.aK h;have lb:∀b,blk vb=some b->b<m:=λ b h=>M.ob.aK h;have oa:=M.oa.frame (H':=K1) (n':=m+1) (by omega) λ c hc=>g1 c (la c hc);have ob:=M.ob.frame (H':=K1) (n':=m+1) (by omega) λ c hc=>g1 c (lb c hc);have da:=M.da;have db:=M.db;obtain⟨hRl,⟨_,hnil⟩ | ⟨ba,ka,rfl,hba,hka,hoa⟩⟩:=oa
    ·omega
    obtain⟨hBl,⟨_,hnil⟩ | ⟨bb,kb,rfl,hbb,hkb',ZP⟩⟩:=ob
    ·omega
    obtain⟨ha4,hab⟩:=da ba rfl;have hb4:=db bb rfl;have la:=la ba rfl;have lb:=lb bb rfl;have hab:ba≠bb:=λ h=>hab (by simp[h]);have hia:=lT (b:=ba) (o:=0) (len:=t.ae.length) (sz:=8) (i:=kk) (k:=.i64) hkk;have hib:=lT (b:=bb) (o:=0) (len:=t.ae.length) (sz:=1) (i:=kk) (k:=.i64) hkk;rw[Nat.zero_add]at hia hib;obtain⟨ya,hsa,hya⟩:=qO (b:=ba) (k:=8) (o:=kk*8) (v:=.agg ye.cells 8) hoa rfl (by simp[AV.cells]) (by omega) (by simp[AV.cells]) (by rw[hRl];omega);obtain⟨yb,hsb,hyb⟩:=qO (b:=bb) (k:=1) (o:=kk*1) (v:=.bool true) ZP rfl rfl (by omega) (by simp) (by rw[hBl];omega);simp only[Nat.mul_one]at hsb hib;have k31:=(g1 3 (by omega)).trans k3;have q1:(3=bb)=False:=by simp only[eq_iff_iff,iff_false];omega
    have q2:(m=bb)=False:=by simp only[eq_iff_iff,iff_false];omega
    have q3:(ba=bb)=False:=by simp[hab]
    simp[GG,To,Tn,aa,f8,f9,x1,hib,hkb',hsb,q1,q2,q3,k31,hia,hka,hsa];have kp:∀c,c≠ba->c≠bb->((Tr.put K1 bb (some yb)).put ba (some ya)).get c=K1.get c:=λ c h1 h2=>by simp[h1,h2]
    have ka2:((Tr.put K1 bb (some yb)).put ba (some ya)).get ba=some ya:=by simp
    have kb2:((Tr.put K1 bb (some yb)).put ba (some ya)).get bb=some yb:=by simp[Ne.symm hab]
    generalize (Tr.put K1 bb (some yb)).put ba (some ya)=K2 at kp ka2 kb2 ⊢;simp[Tm,aa,f11,ah i (by omega)];have bk:∀c,c<4->K2.get c=K.get c:=λ c hc=>(kp c (by omega) (by omega)).trans (g1 c (by omega));refine⟨_,by omega,i+1,rfl,hlt,N.set kk ye,by simp[hN],.sl ba 0 t.ae.length 8,splice R ye.cells (kk*8),.sl bb 0 t.ae.length 1,⟨by simp[aa,f2],by simp[aa,f3],by simp[aa,f4],by simp[aa,f6],by simp[aa,f8],by simp[aa,f9]⟩,by omega,⟨by omega,λ c hc=>(kp c (by omega) (by omega)).trans (t1 c (by omega)),(bk 0 (by omega)).trans M.k0,(bk 1 (by omega)).trans M.k1,(bk 2 (by omega)).trans M.k2,(bk 3 (by omega)).trans M.k3,⟨?_,.inr ⟨ba,ya,rfl,by omega,ka2,hya⟩⟩,⟨by simp,.inr ⟨bb,yb,rfl,by omega,kb2,?_⟩⟩,M.da,M.db,λ h=>?_⟩,?_⟩
    ·rw[iC (by rw[hRl];simp;omega),hRl]
    ·rw[hsn,<-hset kk rfl,<-al.QR eBo hkb];simpa[RL]using hyb
    ·have e:=al.QR dz (l:=N) (i:=kk) (by rw[hN];exact hkk) ye;rw[<-e];exact(M.fz h).splice _ (aN.pure (by simp))
    rw[he,hsn]
   have htot:=ZV t (x.sets.take i++[y]) (x.sets.drop (i+1)) (N.set kk ye) hf;simp[GG,Tp,aa,f6,k21,hf];exact hbad yf hf (by rw[he];exact htot) _ _ _ (by simp[aa,f6]) (by simp) (by simp[br])
 obtain rfl:i=x.sets.length:=by omega
 simp[Mw,Tg,f3,f11,k0,aE.c7,al.ag];rw[take_length]at M;rw[take_length,drop_length,gQ]at he;exact hQ N va R vb _ K m he hN ⟨by simp[f2],by simp[f3],by simp[f4],by simp[f6],by simp[f8],by simp[f9]⟩ M
def xG (t:aR)(x:aE):ew×Int:=
 if (gQ t [] x.sets (cA t.ae.length) 0).2.1=0 then ({kind:=0,table:=t,new:=(gQ t [] x.sets (cA t.ae.length) 0).1,cond:=(pO [t.name] [t] x.cond).1},(pO [t.name] [t] x.cond).2)
 else (jU,(gQ t [] x.sets (cA t.ae.length) 0).2.1)
theorem O7 (x:aE)(hx:x.sets.length<=lim)(hr:∀y∈x.sets,y.e.sz<=lim/\y.e.may=true)(hcz:x.cond.sz<=lim)(hcm:x.cond.maybe=true)(t:aR)(htc:t.ae.length<=lim):ai pG 90 [.agg x.cells 31,aG.av t,jd.ds [(t.name,t)]] (.bg [.agg (xG t x).1.cells 25,.int .i64 (xG t x).2]):=by
 refine bf c90 (by simp) (by simp) (by simp[A90]) λ F hF=>?_
 have hbad:∀f,f≠0->(gQ t [] x.sets (cA t.ae.length) 0).2.1=f->xG t x=(jU,f):=by
  intro f h1 h2;unfold xG;rw[h2,if_neg h1]
 have hok:∀N,gQ t [] x.sets (cA t.ae.length) 0=(N,0,true)->xG t x=({kind:=0,table:=t,new:=N,cond:=(pO [t.name] [t] x.cond).1},(pO [t.name] [t] x.cond).2):=by
  intro N h;unfold xG;rw[h];rfl
 generalize xG t x=U at *;simp[A90,B90,adP,adO,adN,adM,hF,al.av,aU];refine M_ t x htc _ _ 4 _ ⟨by simp[hF],by simp,by simp,by simp,by simp,by simp⟩ (by simp) ⟨by omega,λ c hc=>by simp[show ¬c=0 by omega,show ¬c=1 by omega,show ¬c=2 by omega,show ¬c=3 by omega],by simp,by simp[aU],by simp[br],by simp[iG],ar.nil _ _ 8,ar.nil _ _ 1,by simp,by simp,λ h=>.nil⟩ λ va R vb F K m ⟨f2,f3,f4,f6,f8,f9⟩ M=>?_;clear hF;simp[adI];rw[<-Nj]at M;refine M9 t x htc hx hr _ K m _ va R vb ⟨by simp[f2],by simp[f3],by simp[f4],by simp[f6],by simp[f8],by simp[f9]⟩ (by simp) M (λ f h1 h2 F K m f6 f7 k2=>?_) λ N va R vb F K m he hN ⟨f2,f3,f4,f6,f8,f9⟩ M=>?_
 ·rw[hbad f h1 h2];simp only[br]at k2;simp[f6,f7,k2];exact kQ
 rw[hok N he];have hif:=aa9 (.own htc) x.cond hcz hcm;generalize pO [t.name] [t] x.cond=I at *;have k0:=M.k0;have k2:=M.k2;have k3:=M.k3;have oa:=M.oa;have hxo:=oa.dO;obtain⟨hx1,hx2⟩:=oa.oK;simp only[iG]at k3;simp only[br]at k2;have hif:ai pG 91 [jd.ds [(t.name,t)],.agg x.cond.cells 8] (.bg [dz.ds I.1,.int .i64 I.2]):=hif;simp[Tl,f2,f3,k0,aE.cc];refine ao.pure hif ?_;simp[Tk,Tj,f6,f8,k2,k3,hxo];generalize hK:Tr.put (Tr.put K 3 _) 2 _=K2
 have hz:dU K2.get va (dz.ds N):=by
  have:=ar.vJ (h:=K2.get) oa (by decide) (λ c h=>by rw[<-hK];simp[show c≠2 by have:=(M.da c h).1;omega,show c≠3 by have:=(M.da c h).1;omega]) (M.fz _);rw[<-hN]at this;exact this
 exact C0 (pz hz (by simp)).2
structure QP where
 ts:List aR
 L:List (List Ex)
 d:Bool
 l:Bool
 m:Int
def QP.out (q:QP)(w it nm kd od:AV):List AV:=bK 0 (aG.ds q.ts) (dw.ds q.L) w it nm kd od q.d q.l q.m
structure OW (lo:Nat)(q:QP)(c:Nat)(E:List Ex)(N:List (List Nat))(Ks:List Int)(vi vn vk:AV)(R:List AV)(K:Hp)(m:Nat):Prop where
 k0:K.get 0=some (.cells 25 [] (q.out aS vi vn vk aS) .nil)
 oi:ar K m vi R c 8
 on:ar K m vn (bB.l N) c 1
 ok:ar K m vk (bR.l Ks) c 1
 di:∀b,blk vi=some b->lo<=b/\blk vn≠some b/\blk vk≠some b
 dn:∀b,blk vn=some b->lo<=b/\blk vk≠some b
 dk:∀b,blk vk=some b->lo<=b
 fz:∀h,aN h R (dz.l E)
 hE:E.length=c
 hN:N.length=c
 hK:Ks.length=c
theorem OW.step {lo:Nat}{q:QP}{c:Nat}{E:List Ex}{N:List (List Nat)}{Ks:List Int}{vi vn vk:AV}{R:List AV}{K K':Hp}{m m':Nat}(M:OW lo q c E N Ks vi vn vk R K m)(h:m<=m')(hm:1<=m)(hk:∀b,b<m->K'.get b=K.get b):OW lo q c E N Ks vi vn vk R K' m':=
 ⟨(hk 0 (by omega)).trans M.k0,M.oi.frame h λ b hb=>hk b (M.oi.aK hb),M.on.frame h λ b hb=>hk b (M.on.aK hb),M.ok.frame h λ b hb=>hk b (M.ok.aK hb),M.di,M.dn,M.dk,M.fz,M.hE,M.hN,M.hK⟩
structure StG (l:List (List Nat×aR))(F:Fr):Prop where
 f1:F.get 1=some (jd.ds l)
 f2:F.get 2=some (.ptr 0 0)
 f4:F.get 4=some (.ptr 1 0)
theorem Pf (q:QP) (l:List (List Nat×aR)) (i:Nat) (hi:i<l.length) (c0:Nat) (t:aR) (ht:l[i].2=t) (hlim:c0+t.ae.length<=16) (E0:List Ex) (hE0:E0=cA c0) (N0:List (List Nat)) (CV:List Int) (F:Fr) (K:Hp) (m:Nat) (Q:QA) (vi vn vk:AV) (R:List AV) (G:StG l F) (f6:F.get 6=some (.int .i64 (i:Int))) (f7:F.get 7=some (.int .i64 0)) (hm:2<=m) (k1:K.get 1=some (.cells 25 [] (br 0) .nil)) (M:OW 2 q c0 E0 N0 CV vi vn vk R K m)
  (hQ:∀vi vn vk R F K m,2<=m->StG l F->F.get 6=some (.int .i64 (i:Int))->K.get 1=some (.cells 25 [] (br 0) .nil)->OW 2 q (c0+t.ae.length) (cA (c0+t.ae.length)) (N0++t.ae.map (·.name)) (CV++t.ae.map (·.kind)) vi vn vk R K m->Q .normal F K m []):au CQ pG F K m [] (bX 2 Q):=by
 subst hE0;refine au.of (λ g F K m ms=>∃(j:Nat) (vi vn vk:AV) (R:List AV),g=t.ae.length - j/\j<=t.ae.length/\2<=m/\StG l F/\F.get 6=some (.int .i64 (i:Int))/\F.get 7=some (.int .i64 (j:Int))/\K.get 1=some (.cells 25 [] (br 0) .nil)/\OW 2 q (c0+j) (cA (c0+j)) (N0++(t.ae.take j).map (·.name)) (CV++(t.ae.take j).map (·.kind)) vi vn vk R K m/\ms=[]) t.ae.length ⟨0,vi,vn,vk,R,by simp,by omega,hm,G,f6,by simpa using f7,k1,by simpa using M,rfl⟩ ?_;clear G f6 f7 hm k1 M F K m vi vn vk R;rintro g F K m ms ⟨j,vi,vn,vk,R,rfl,hj,hm,⟨f1,f2,f4⟩,f6,f7,k1,M,rfl⟩;have k0:=M.k0;simp only[QP.out,bK,aS]at k0;have hx:=jd.ix (ik:=.i64) hi;rw[tG,ht,aU]at hx
 by_cases hlt:j<t.ae.length
 ·have hcx:=aW.ix (ik:=.i64) hlt;have hld:=λ H=>aW.gM t.ae[j] (aW.l (t.ae.drop (j+1))) H;have hln:=M.oi.QL;simp[CQ,IJ,X4,f1,f6,f7,hx,al.ag,hlt,hcx,hld,al.av];generalize hK1:Tr.put (Tr.put K m _) m _=K1;have g1:∀b,b<m->K1.get b=K.get b:=λ b hb=>by rw[<-hK1];simp[dj hb]
  have x1:K1.get m=some (.cells 3 [] [.str t.ae[j].name,.int .i64 t.ae[j].kind,.bool t.ae[j].need] .nil):=by rw[<-hK1];simp[dQ]
  clear hK1;have N1:=(g1 0 (by omega)).trans k0;have k11:=(g1 1 (by omega)).trans k1;have li:∀b,blk vi=some b->2<=b/\b<m:=λ b h=>⟨(M.di b h).1,M.oi.aK h⟩;have ln:∀b,blk vn=some b->2<=b/\b<m/\blk vi≠some b:=λ b h=>⟨(M.dn b h).1,M.on.aK h,λ h2=>(M.di b h2).2.1 h⟩;have lk:∀b,blk vk=some b->2<=b/\b<m/\blk vi≠some b/\blk vn≠some b:=λ b h=>⟨M.dk b h,M.ok.aK h,λ h2=>(M.di b h2).2.2 h,λ h2=>(M.dn b h2).2 h⟩;simp[LA,f2,N1,hln];generalize hK2:Tr.put K1 (m+1) _=K2;have g2:∀b,b<m+1->K2.get b=K1.get b:=λ b hb=>by rw[<-hK2];simp[dj hb]
  have x2:K2.get (m+1)=some (.cells 8 [] (jS (c0+j)) .nil):=by rw[<-hK2];simp[jS]
  clear hK2;refine ar.jr (k:=1) (new:=jS (c0+j)) (M.oi.frame (H':=K2) (n':=m+1+1) (by omega) λ b hb=>(g2 b (by have:=li b hb;omega)).trans (g1 b (li b hb).2)) (aB x2) (by simp) (by simp[jS]) (by omega) (by omega) (by unfold big;omega) (by omega) (by simp[jS]) λ K3 o3 g3=>?_;have k03:=(g3 0 (by omega) λ h=>by have:=li 0 h;omega).trans ((g2 0 (by omega)).trans N1);have km3:=(g3 m (by omega) λ h=>by have:=li m h;omega).trans ((g2 m (by omega)).trans x1);simp[f2,k03,Lz,km3,Aj (show 0<m by omega)];generalize hK4:Tr.put (Tr.put K3 0 _) _ _=K4;have g4:∀b,b≠0->b<m+1+1+1->K4.get b=K3.get b:=λ b h1 h2=>by rw[<-hK4];simp[h1,dj h2]
  have x4:K4.get (m+1+1+1)=some (.cells 1 [] [.str t.ae[j].name] .nil):=by rw[<-hK4];simp
  have z4:K4.get 0=some (.cells 25 [] (q.out aS (.sl (m+1+1) 0 (c0+j+1) 8) vn vk aS) .nil):=by rw[<-hK4];simp[QP.out,bK,aS]
  clear hK4
  have bn:∀b,blk vn=some b->K4.get b=K.get b:=λ b h=>by
   obtain⟨h1,h2,h3⟩:=ln b h;exact(g4 b (by omega) (by omega)).trans ((g3 b (by omega) h3).trans ((g2 b (by omega)).trans (g1 b h2)))
  refine ar.jr (k:=1) (new:=[.str t.ae[j].name]) (M.on.frame (H':=K4) (n':=m+1+1+1+1) (by omega) bn) (aB x4) (by simp) (by simp) (by omega) (by omega) (by unfold big;omega) (by omega) (by simp) λ K5 o5 g5=>?_;have k05:=(g5 0 (by omega) λ h=>by have:=ln 0 h;omega).trans z4;have km5:=(g5 m (by omega) λ h=>by have:=ln m h;omega).trans ((g4 m (by omega) (by omega)).trans km3);simp only[QP.out,bK,aS]at k05;simp[f2,k05,Ly,km5,Aj (show 0<m by omega)];generalize xD:Tr.put (Tr.put K5 0 _) _ _=K6;have g6:∀b,b≠0->b<m+1+1+1+1+1->K6.get b=K5.get b:=λ b h1 h2=>by rw[<-xD];simp[h1,dj h2]
  have x6:K6.get (m+1+1+1+1+1)=some (.cells 1 [] [.int .i64 t.ae[j].kind] .nil):=by rw[<-xD];simp
  have z6:K6.get 0=some (.cells 25 [] (q.out aS (.sl (m+1+1) 0 (c0+j+1) 8) (.sl (m+1+1+1+1) 0 (c0+j+1) 1) vk aS) .nil):=by rw[<-xD];simp[QP.out,bK,aS]
  clear xD
  have bk:∀b,blk vk=some b->K6.get b=K.get b:=λ b h=>by
   obtain⟨h1,h2,h3,h4⟩:=lk b h;exact(g6 b (by omega) (by omega)).trans ((g5 b (by omega) h4).trans ((g4 b (by omega) (by omega)).trans ((g3 b (by omega) h3).trans ((g2 b (by omega)).trans (g1 b h2)))))
  refine ar.jr (k:=1) (new:=[.int .i64 t.ae[j].kind]) (M.ok.frame (H':=K6) (n':=m+1+1+1+1+1+1) (by omega) bk) (aB x6) (by simp) (by simp) (by omega) (by omega) (by unfold big;omega) (by omega) (by simp) λ K7 o7 g7=>?_;have k07:=(g7 0 (by omega) λ h=>by have:=lk 0 h;omega).trans z6;simp only[QP.out,bK,aS]at k07;simp[f2,f7,k07,Lx,ah j (by omega)];generalize hK8:Tr.put K7 0 _=K8;have g8:∀b,b≠0->K8.get b=K7.get b:=λ b h1=>by rw[<-hK8];simp[h1]
  have z8:K8.get 0=some (.cells 25 [] (q.out aS (.sl (m+1+1) 0 (c0+j+1) 8) (.sl (m+1+1+1+1) 0 (c0+j+1) 1) (.sl (m+1+1+1+1+1+1) 0 (c0+j+1) 1) aS) .nil):=by rw[<-hK8];simp[QP.out,bK,aS]
  clear hK8;have b1:K7.get 1=K.get 1:=(g7 1 (by omega) λ h=>by have:=lk 1 h;omega).trans ((g6 1 (by omega) (by omega)).trans ((g5 1 (by omega) λ h=>by have:=ln 1 h;omega).trans ((g4 1 (by omega) (by omega)).trans ((g3 1 (by omega) λ h=>by have:=li 1 h;omega).trans ((g2 1 (by omega)).trans (g1 1 (by omega)))))));have hsn:=cZ hlt;have hN':N0++take (j+1) (t.ae.map (·.name))=N0++(t.ae.take j).map (·.name)++[t.ae[j].name]:=by rw[<-map_take,hsn,map_append,append_assoc];rfl
  have hK':CV++take (j+1) (t.ae.map (·.kind))=CV++(t.ae.take j).map (·.kind)++[t.ae[j].kind]:=by rw[<-map_take,hsn,map_append,append_assoc];rfl
  refine⟨_,by omega,j+1,rfl,hlt,⟨by simp[f1],by simp[f2],by simp[f4]⟩,by simp[f6],by omega,b1.trans k1,.sl (m+1+1) 0 (c0+j+1) 8,.sl (m+1+1+1+1) 0 (c0+j+1) 1,.sl (m+1+1+1+1+1+1) 0 (c0+j+1) 1,R++jS (c0+j),?_⟩;rw[hN',hK',<-Nat.add_assoc];refine⟨z8,?_,?_,?_,λ b hb=>?_,λ b hb=>?_,λ b hb=>?_,λ h=>?_,by simp,?_,?_⟩
  ·exact o3.frame (by omega) λ b hb=>by
    simp at hb;exact(g8 b (by omega)).trans ((g7 b (by omega) λ h=>by have:=lk b h;omega).trans ((g6 b (by omega) (by omega)).trans ((g5 b (by omega) λ h=>by have:=ln b h;omega).trans (g4 b (by omega) (by omega)))))
  ·rw[al.bo,al.dF,jQ]
   exact o5.frame (by omega) λ b hb=>by
    simp at hb;exact(g8 b (by omega)).trans ((g7 b (by omega) λ h=>by have:=lk b h;omega).trans (g6 b (by omega) (by omega)))
  ·rw[al.bo,al.dF,eR];exact o7.frame (by omega) λ b hb=>g8 b (by simp at hb;omega)
  ·simp at hb;simp;omega
  ·simp at hb;simp;omega
  ·simp at hb;omega
  ·rw[lR,al.bo,al.dF];exact(M.fz h).append (rj h (c0+j))
  ·have:=M.hN;simp at this ⊢;omega
  have:=M.hK;simp at this ⊢;omega
 obtain rfl:j=t.ae.length:=by omega
 simp[CQ,IJ,f1,f6,f7,hx,al.ag];rw[take_length]at M;exact hQ vi vn vk R _ K m hm ⟨by simp[f1],by simp[f2],by simp[f4]⟩ (by simp[f6]) k1 M
def QP.res (q:QP)(r:List Ex×List (List Nat)×List Int×Int):List AV:=if r.2.2.2=0 then q.out aS (dz.ds r.1) (bB.ds r.2.1) (bR.ds r.2.2.1) aS else br 0
def kR (ts:List aR):List Ex×List (List Nat)×List Int×Int:=
 if ts.length=0 then ([],[],[],200)else if 16<(aj ts).length then ([],[],[],3)else (cA (aj ts).length,gj ts,aj ts,0)
theorem QP.zV (q:QP){r:List Ex×List (List Nat)×List Int×Int}{f:Int}(h:r.2.2.2=f)(hf:f≠0):q.res r=br 0:=by unfold QP.res;rw[h,if_neg hf]
theorem QP.uw (q:QP){h:Hf}{vi vn vk:AV}{E:List Ex}{N:List (List Nat)}{Ks:List Int}(hi:dU h vi (dz.ds E))(hn:dU h vn (bB.ds N))(hk:dU h vk (bR.ds Ks)):aN h (q.out aS vi vn vk aS) (q.out aS (dz.ds E) (bB.ds N) (bR.ds Ks) aS):=by
 simp only[QP.out,bK,aS];refine(aN.pure (l:=[_,_,_,_,_,_,_,_,_,_,_,_,_,_,_,_,_,_]) (by simp)).app (.cons _ _ _ _ hi (.cons _ _ _ _ hn (.cons _ _ _ _ hk (aN.pure (by simp)))))
theorem OW.uw {lo:Nat}{q:QP}{c:Nat}{E:List Ex}{N:List (List Nat)}{Ks:List Int}{vi vn vk:AV}{R:List AV}{K:Hp}{m:Nat}(M:OW lo q c E N Ks vi vn vk R K m){h:Hf}(hk:∀b,lo<=b->h b=K.get b):aN h (q.out aS vi vn vk aS) (q.out aS (dz.ds E) (bB.ds N) (bR.ds Ks) aS):=by
 refine q.uw ?_ ?_ ?_
 ·have:=ar.vJ M.oi (by decide) (λ b hb=>hk b (M.di b hb).1) (M.fz h)
  rwa [<-M.hE]at this
 ·have:=ar.vJ M.on (by decide) (λ b hb=>hk b (M.dn b hb).1) (aN.pure (h:=h) (by simp))
  rwa [<-M.hN]at this
 have:=ar.vJ M.ok (by decide) (λ b hb=>hk b (M.dk b hb)) (aN.pure (h:=h) (by simp))
 rwa [<-M.hK]at this
theorem ZY (q:QP) (l:List (List Nat×aR)) (hl:l.length<=lim) (hk:(aj (l.map (·.2))).length<=lim):ai pG 116 [.agg (q.out aS aS aS aS aS) 25,jd.ds l] (.bg [.agg (q.res (kR (l.map (·.2)))) 25,.int .i64 (kR (l.map (·.2))).2.2.2]):=by
 have Rq:=DI l hl hk;unfold lim at hl;refine bf c116 (by simp[QP.out,bK,aS]) (by unfold QP.res;split<;>simp[QP.out,bK,aS,br]) (by simp[A116]) λ F hF=>?_;generalize hts:l.map (·.2)=ts at *;have hlen:ts.length=l.length:=by rw[<-hts];simp
 by_cases h0:l.length=0
 ·have hs:kR ts=([],[],[],200):=by unfold kR;rw[if_pos (by omega)]
  rw[hs];simp[A116,B116,Cq,Cp,X8,hF,al.ag,h0,QP.out,bK,aS];exact .pure _ (by simp)
 by_cases h16:16<(aj ts).length
 ·have DY:(16:Int)<((aj ts).length:Int):=by omega
  have hs:kR ts=([],[],[],3):=by unfold kR;rw[if_neg (by omega),if_pos h16]
  rw[hs];simp[A116,B116,Cq,Cp,IL,hF,al.ag,h0,QP.out,bK,aS];refine ao.pure Rq ?_;simp[al.ag,DY,X7];exact .pure _ (by simp)
 have DY:¬(16:Int)<((aj ts).length:Int):=by omega
 have hs:kR ts=(cA (aj ts).length,gj ts,aj ts,0):=by unfold kR;rw[if_neg (by omega),if_neg h16]
 rw[hs];simp[A116,B116,Cq,Cp,IL,hF,al.ag,h0,QP.out,bK,aS];refine ao.pure Rq ?_;simp[al.ag,DY,X6];refine au.of (λ g F K m ms=>∃(i:Nat) (vi vn vk:AV) (R:List AV),g=l.length - i/\i<=l.length/\2<=m/\StG l F/\F.get 6=some (.int .i64 (i:Int))/\K.get 1=some (.cells 25 [] (br 0) .nil)/\OW 2 q (aj (ts.take i)).length (cA (aj (ts.take i)).length) (gj (ts.take i)) (aj (ts.take i)) vi vn vk R K m/\ms=[]) l.length ⟨0,aS,aS,aS,[],by simp,by omega,?_⟩ ?_
 ·refine⟨by omega,⟨by simp[hF],by simp,by simp⟩,by simp,by simp[br],⟨by simp[QP.out,bK,aS],?_,?_,?_,by simp[aS],by simp[aS],by simp[aS],λ h=>?_,by simp[aj],by simp[aj,gj],by simp⟩,rfl⟩
  ·simpa[aj,aS]using ar.nil _ _ 8
  ·simpa[aj,gj,aS]using ar.nil _ _ 1
  ·simpa[aj,aS]using ar.nil _ _ 1
  simpa[aj,cA]using aN.nil
 clear hF F;rintro g F K m ms ⟨i,vi,vn,vk,R,rfl,hi,hm,⟨f1,f2,f4⟩,f6,k1,M,rfl⟩;have k0:=M.k0
 by_cases hlt:i<l.length
 ·simp[Jk,IK,X5,f1,f6,al.ag,hlt];have ht:l[i].2=ts[i]'(by omega):=by simp[<-hts]
  have hkt:=gC (l:=ts) (i:=i) (by omega);have hnt:=tv (l:=ts) (i:=i) (by omega);have hle:=gD ts (i+1);rw[hkt]at hle;simp[aR.kinds]at hle hkt;refine Pf q l i hlt _ _ ht (by omega) _ rfl _ _ _ K m _ vi vn vk R ⟨by simp[f1],by simp[f2],by simp[f4]⟩ (by simp[f6]) (by simp) hm k1 M λ vi vn vk R F K m hm ⟨f1,f2,f4⟩ f6 k1 M=>?_;simp[Lw,f6,ah i (by omega)];refine⟨_,by omega,i+1,rfl,hlt,hm,⟨by simp[f1],by simp[f2],by simp[f4]⟩,by omega,k1,vi,vn,vk,R,?_⟩;rw[hkt,hnt];simpa using M
 obtain rfl:i=l.length:=by omega
 rw[<-hlen,take_length]at M;have k0:=M.k0;simp only[QP.out,bK,aS]at k0;simp only[br]at k1;have i1:=M.oi.dO;obtain⟨i2,i3⟩:=M.oi.oK;have n1:=M.on.dO;obtain⟨n2,n3⟩:=M.on.oK;have o1:=M.ok.dO;obtain⟨o2,o3⟩:=M.ok.oK;simp[Jk,IK,Lv,f1,f2,f4,f6,al.ag,k0,k1,i1,n1,o1];generalize hK:Tr.put K 1 _=K2;have hz:=M.uw (h:=K2.get) λ b hb=>by rw[<-hK];simp[show b≠1 by omega]
 exact zQ (.agg _ _ _ (by simpa[QP.res,QP.out,bK,aS]using hz))
theorem AB (ns:List (List Nat))(ts:List aR):∀(l:List fK){f:Int},f≠0->(eb ns ts l f).2.2=f
 | [],_,_=>rfl
 | x::r,f,h=>by rw[eb,Ex.Kn _ _ _ _ h];exact AB ns ts r h
theorem JS (ns:List (List Nat))(ts:List aR)(b:List fK):∀(a:List fK)(err:Int),(eb ns ts (a++b) err).2.2=(eb ns ts b (eb ns ts a err).2.2).2.2
 | [],err=>rfl
 | x::r,err=>by simp only[cons_append,eb];exact JS ns ts b r _
structure ItG (l:List (List Nat×aR))(F:Fr):Prop where
 f1:F.get 1=some (jd.ds l)
 f3:F.get 3=some (.ptr 0 0)
 f5:F.get 5=some (.ptr 1 0)
 f6:F.get 6=some (.ptr 2 0)
theorem rY (q:QP)(l:List (List Nat×aR))(i:Nat)(hi:i<=lim)(e:Ex)(nm:List Nat)(kd:Int)(E:List Ex)(N:List (List Nat))(Ks:List Int)(F:Fr)(K:Hp)(m:Nat)(Q:QA)(vi vn vk:AV)(R:List AV)(G:ItG l F)(f8:F.get 8=some (.int .i64 (i:Int)))(f9:F.get 9=some (.ptr m 0))(f10:F.get 10=some (.int .i64 kd))(f12:F.get 12=some (.str nm))(hm:3<=m)(x1:K.get m=some (.cells 8 [] e.cells .nil))(M:OW 3 q i E N Ks vi vn vk R K m)
  (hQ:∀vi vn vk R F K' m,3<=m->(∀b,b<3->b≠0->K'.get b=K.get b)->ItG l F->F.get 8=some (.int .i64 (i:Int))->OW 3 q (i+1) (E++[e]) (N++[nm]) (Ks++[kd]) vi vn vk R K' m->Q .normal F K' m []):VC pG (.seq IH (.seq Co Cn)) F K (m+1) [] Q:=by
 obtain⟨f1,f3,f5,f6⟩:=G;have k0:=M.k0;simp only[QP.out,bK,aS]at k0;unfold lim at hi;have li:∀b,blk vi=some b->3<=b/\b<m:=λ b h=>⟨(M.di b h).1,M.oi.aK h⟩;have ln:∀b,blk vn=some b->3<=b/\b<m/\blk vi≠some b:=λ b h=>⟨(M.dn b h).1,M.on.aK h,λ h2=>(M.di b h2).2.1 h⟩;have lk:∀b,blk vk=some b->3<=b/\b<m/\blk vi≠some b/\blk vn≠some b:=λ b h=>⟨M.dk b h,M.ok.aK h,λ h2=>(M.di b h2).2.2 h,λ h2=>(M.dn b h2).2 h⟩;simp[IH,f3,f9,k0,x1];generalize hK2:Tr.put K (m+1) _=K2;have g2:∀b,b<m+1->K2.get b=K.get b:=λ b hb=>by rw[<-hK2];simp[dj hb]
 have x2:K2.get (m+1)=some (.cells 8 [] e.cells .nil):=by rw[<-hK2];simp
 clear hK2;refine ar.jr (k:=1) (new:=e.cells) (M.oi.frame (H':=K2) (n':=m+1+1) (by omega) λ b hb=>g2 b (by have:=li b hb;omega)) (aB x2) (by simp) (by simp) (by omega) (by omega) (by unfold big;omega) (by omega) (by simp) λ K3 o3 g3=>?_;have k03:=(g3 0 (by omega) λ h=>by have:=li 0 h;omega).trans ((g2 0 (by omega)).trans k0);simp[f3,k03,Co,f12];generalize hK4:Tr.put (Tr.put K3 0 _) _ _=K4;have g4:∀b,b≠0->b<m+1+1+1->K4.get b=K3.get b:=λ b h1 h2=>by rw[<-hK4];simp[h1,dj h2]
 have x4:K4.get (m+1+1+1)=some (.cells 1 [] [.str nm] .nil):=by rw[<-hK4];simp
 have z4:K4.get 0=some (.cells 25 [] (q.out aS (.sl (m+1+1) 0 (i+1) 8) vn vk aS) .nil):=by rw[<-hK4];simp[QP.out,bK,aS]
 clear hK4
 have bn:∀b,blk vn=some b->K4.get b=K.get b:=λ b h=>by
  obtain⟨h1,h2,h3⟩:=ln b h;exact(g4 b (by omega) (by omega)).trans ((g3 b (by omega) h3).trans (g2 b (by omega)))
 refine ar.jr (k:=1) (new:=[.str nm]) (M.on.frame (H':=K4) (n':=m+1+1+1+1) (by omega) bn) (aB x4) (by simp) (by simp) (by omega) (by omega) (by unfold big;omega) (by omega) (by simp) λ K5 o5 g5=>?_;have k05:=(g5 0 (by omega) λ h=>by have:=ln 0 h;omega).trans z4;simp only[QP.out,bK,aS]at k05;simp[f3,k05,Cn,f10];generalize xD:Tr.put (Tr.put K5 0 _) _ _=K6;have g6:∀b,b≠0->b<m+1+1+1+1+1->K6.get b=K5.get b:=λ b h1 h2=>by rw[<-xD];simp[h1,dj h2]
 have x6:K6.get (m+1+1+1+1+1)=some (.cells 1 [] [.int .i64 kd] .nil):=by rw[<-xD];simp
 have z6:K6.get 0=some (.cells 25 [] (q.out aS (.sl (m+1+1) 0 (i+1) 8) (.sl (m+1+1+1+1) 0 (i+1) 1) vk aS) .nil):=by rw[<-xD];simp[QP.out,bK,aS]
 clear xD
 have bk:∀b,blk vk=some b->K6.get b=K.get b:=λ b h=>by
  obtain⟨h1,h2,h3,h4⟩:=lk b h;exact(g6 b (by omega) (by omega)).trans ((g5 b (by omega) h4).trans ((g4 b (by omega) (by omega)).trans ((g3 b (by omega) h3).trans (g2 b (by omega)))))
 refine ar.jr (k:=1) (new:=[.int .i64 kd]) (M.ok.frame (H':=K6) (n':=m+1+1+1+1+1+1) (by omega) bk) (aB x6) (by simp) (by simp) (by omega) (by omega) (by unfold big;omega) (by omega) (by simp) λ K7 o7 g7=>?_;have k07:=(g7 0 (by omega) λ h=>by have:=lk 0 h;omega).trans z6;simp only[QP.out,bK,aS]at k07;simp[f3,k07];generalize hK8:Tr.put K7 0 _=K8;have g8:∀b,b≠0->K8.get b=K7.get b:=λ b h1=>by rw[<-hK8];simp[h1]
 have z8:K8.get 0=some (.cells 25 [] (q.out aS (.sl (m+1+1) 0 (i+1) 8) (.sl (m+1+1+1+1) 0 (i+1) 1) (.sl (m+1+1+1+1+1+1) 0 (i+1) 1) aS) .nil):=by rw[<-hK8];simp[QP.out,bK,aS]
 clear hK8;have b1:∀b,b<3->b≠0->K8.get b=K.get b:=λ b hb h0=>(g8 b h0).trans ((g7 b (by omega) λ h=>by have:=lk b h;omega).trans ((g6 b (by omega) (by omega)).trans ((g5 b (by omega) λ h=>by have:=ln b h;omega).trans ((g4 b (by omega) (by omega)).trans ((g3 b (by omega) λ h=>by have:=li b h;omega).trans (g2 b (by omega)))))));refine hQ (.sl (m+1+1) 0 (i+1) 8) (.sl (m+1+1+1+1) 0 (i+1) 1) (.sl (m+1+1+1+1+1+1) 0 (i+1) 1) (R++e.cells) _ K8 _ (by omega) b1 ⟨by simp[f1],by simp[f3],by simp[f5],by simp[f6]⟩ (by simp[f8]) ⟨z8,?_,?_,?_,λ b hb=>?_,λ b hb=>?_,λ b hb=>?_,λ h=>?_,by simp[M.hE],by simp[M.hN],by simp[M.hK]⟩
 ·exact o3.frame (by omega) λ b hb=>by
   simp at hb;exact(g8 b (by omega)).trans ((g7 b (by omega) λ h=>by have:=lk b h;omega).trans ((g6 b (by omega) (by omega)).trans ((g5 b (by omega) λ h=>by have:=ln b h;omega).trans (g4 b (by omega) (by omega)))))
 ·rw[al.bo,al.dF,jQ]
  exact o5.frame (by omega) λ b hb=>by
   simp at hb;exact(g8 b (by omega)).trans ((g7 b (by omega) λ h=>by have:=lk b h;omega).trans (g6 b (by omega) (by omega)))
 ·rw[al.bo,al.dF,eR];exact o7.frame (by omega) λ b hb=>g8 b (by simp at hb;omega)
 ·simp at hb;simp;omega
 ·simp at hb;simp;omega
 ·simp at hb;omega
 rw[al.bo,al.dF];exact(M.fz h).append (aN.pure (by simp))
theorem Q4 (q:QP){ns:List (List Nat)}{ts:List aR}(hS:gZ ns ts) (x:aY) (hx:x.items.length<=lim) (hz:∀y∈x.items,y.e.sz<=lim/\y.e.may=true):ai pG 117 [.agg (q.out aS aS aS aS aS) 25,jd.ds (ns.zip ts),x.av] (.bg [.agg (q.res ((eb ns ts x.items 0).1,x.items.map fK.nm,(eb ns ts x.items 0).2.1,(eb ns ts x.items 0).2.2)) 25,.int .i64 (eb ns ts x.items 0).2.2]):=by
 have hx':=hx;unfold lim at hx';refine bf c117 (by simp[QP.out,bK,aS,aY.av,aY.pure]) (by unfold QP.res;split<;>simp[QP.out,bK,aS,br]) (by simp[A117]) λ F hF=>?_;simp[A117,B117,X3,X2,hF,aY.av];refine au.of (λ g F K m ms=>∃(i:Nat) (vi vn vk:AV) (R:List AV),g=x.items.length - i/\i<=x.items.length/\3<=m/\ItG (ns.zip ts) F/\F.get 8=some (.int .i64 (i:Int))/\K.get 1=some (.cells 15 [] x.cells .nil)/\K.get 2=some (.cells 25 [] (br 0) .nil)/\OW 3 q i (eb ns ts (x.items.take i) 0).1 ((x.items.take i).map fK.nm) (eb ns ts (x.items.take i) 0).2.1 vi vn vk R K m/\(eb ns ts (x.items.take i) 0).2.2=0/\ms=[]) x.items.length ⟨0,aS,aS,aS,[],by simp,by omega,by omega,⟨by simp[hF],by simp,by simp,by simp⟩,by simp,by simp,by simp[br],⟨by simp[QP.out,bK,aS],by simpa[aS,eb]using ar.nil _ _ 8,by simpa[aS]using ar.nil _ _ 1,by simpa[eb,aS]using ar.nil _ _ 1,by simp[aS],by simp[aS],by simp[aS],λ h=>by simpa[eb]using aN.nil,by simp[eb],by simp,by simp[eb]⟩,by simp[eb],rfl⟩ ?_;clear hF F;rintro g F K m ms ⟨i,vi,vn,vk,R,rfl,hi,hm,⟨f1,f3,f5,f6⟩,f8,k1,k2,M,he,rfl⟩;have k2':=k2;simp only[br]at k2'
 by_cases hlt:i<x.items.length
 ·have hZ:=jq.ix (ik:=.i64) hlt;obtain⟨hz1,hz2⟩:=hz _ (getElem_mem hlt);have hsn:=cZ hlt;have htk:=DL ns ts hlt 0;rw[he]at htk;have happ:=JS ns ts (x.items.drop (i+1)) (x.items.take (i+1)) 0;rw[take_append_drop]at happ;have htd:ai pG 120 [jd.ds (ns.zip ts),x.items[i].e.av] (.bg [.agg (dH ns ts x.items[i].e).1.cells 8,.int .i64 (dH ns ts x.items[i].e).2.1,.int .i64 (dH ns ts x.items[i].e).2.2]):=zR hS x.items[i].e hz1 hz2;generalize hit:x.items[i]=it at *;obtain⟨e,JX⟩:=it;simp only at htk hz1 hz2 htd;rw[vV]at hZ;simp[Jj,II,X1,f1,f5,f8,k1,aY.c2,al.ag,hlt,hZ];refine ao.pure htd ?_
  by_cases hf:(e.bd ns ts 0).2.2=0
  ·have ht:=qF (r:=e.bd ns ts 0) rfl hf;rw[ht];generalize e.bd ns ts 0=r at *;obtain⟨ra,rk,rf⟩:=r;simp only at hf;subst hf;simp;generalize hK1:Tr.put (Tr.put K m _) m _=K1;have g1:∀b,b<m->K1.get b=K.get b:=λ b hb=>by rw[<-hK1];simp[dj hb]
   have x1:K1.get m=some (.cells 8 [] ra.cells .nil):=by rw[<-hK1];simp
   clear hK1;have k11:=(g1 1 (by omega)).trans k1;have k21:=(g1 2 (by omega)).trans k2;obtain⟨op,v,t,mm,cu,args⟩:=e;simp only[Ex.cells,cons_append,nil_append]at hZ;have M1:=M.step (K':=K1) (m':=m) (Nat.le_refl _) (by omega) g1;have hN':∀a,a=fK.nm ⟨.mk op v t mm cu args,JX⟩->take (i+1) (x.items.map fK.nm)=(x.items.take i).map fK.nm++[a]:=λ a h=>by rw[<-map_take,hsn,map_append,h];rfl
   by_cases h0:JX=[]
   ·by_cases h2:op=2
    ·have hnm:fK.nm ⟨.mk op v t mm cu args,JX⟩=mm:=by simp[fK.nm,h0,h2,Ex.op,Ex.nm]
     subst h0 h2;simp[xd,Cm,Ck,XZ,f5,f8,k11,aY.c2,hZ];rw[<-bA];refine rY q (ns.zip ts) i (by unfold lim;omega) ra mm rk _ _ _ _ K1 m _ vi vn vk R ⟨by simp[f1],by simp[f3],by simp[f5],by simp[f6]⟩ (by simp[f8]) (by simp) (by simp) (by simp) hm x1 M1 λ vi vn vk R F K' m hm hb ⟨f1,f3,f5,f6⟩ f8 M=>?_;simp[uD,f8,ah i (by omega)];refine⟨_,by omega,i+1,rfl,hlt,hm,⟨by simp[f1],by simp[f3],by simp[f5],by simp[f6]⟩,by omega,(hb 1 (by omega) (by omega)).trans k11,(hb 2 (by omega) (by omega)).trans k21,⟨vi,vn,vk,R,?_⟩,by rw[htk]⟩;rw[htk,hN' _ hnm.symm];exact M
    have hnm:fK.nm ⟨.mk op v t mm cu args,JX⟩=JX:=by simp[fK.nm,h2,Ex.op]
    subst h0;simp[xd,Cm,Ck,f5,f8,k11,aY.c2,hZ,h2];rw[<-bA];refine rY q (ns.zip ts) i (by unfold lim;omega) ra [] rk _ _ _ _ K1 m _ vi vn vk R ⟨by simp[f1],by simp[f3],by simp[f5],by simp[f6]⟩ (by simp[f8]) (by simp) (by simp) (by simp) hm x1 M1 λ vi vn vk R F K' m hm hb ⟨f1,f3,f5,f6⟩ f8 M=>?_;simp[uD,f8,ah i (by omega)];refine⟨_,by omega,i+1,rfl,hlt,hm,⟨by simp[f1],by simp[f3],by simp[f5],by simp[f6]⟩,by omega,(hb 1 (by omega) (by omega)).trans k11,(hb 2 (by omega) (by omega)).trans k21,⟨vi,vn,vk,R,?_⟩,by rw[htk]⟩;rw[htk,hN' _ hnm.symm];exact M
   have hnm:fK.nm ⟨.mk op v t mm cu args,JX⟩=JX:=by simp[fK.nm,h0]
   simp[xd,Cm,Ck,f5,f8,k11,aY.c2,hZ,h0];rw[<-bA];refine rY q (ns.zip ts) i (by unfold lim;omega) ra JX rk _ _ _ _ K1 m _ vi vn vk R ⟨by simp[f1],by simp[f3],by simp[f5],by simp[f6]⟩ (by simp[f8]) (by simp) (by simp) (by simp) hm x1 M1 λ vi vn vk R F K' m hm hb ⟨f1,f3,f5,f6⟩ f8 M=>?_;simp[uD,f8,ah i (by omega)];refine⟨_,by omega,i+1,rfl,hlt,hm,⟨by simp[f1],by simp[f3],by simp[f5],by simp[f6]⟩,by omega,(hb 1 (by omega) (by omega)).trans k11,(hb 2 (by omega) (by omega)).trans k21,⟨vi,vn,vk,R,?_⟩,by rw[htk]⟩;rw[htk,hN' _ hnm.symm];exact M
  have ht:=mH (e:=e) rfl hf;have htot:(eb ns ts x.items 0).2.2=(e.bd ns ts 0).2.2:=by rw[happ,htk];exact AB ns ts _ hf
  rw[ht];rw[q.zV (f:=(e.bd ns ts 0).2.2) htot hf,htot];generalize (e.bd ns ts 0).2.2=f at *;simp[xd,X0,f6,k2',hf,dj (show 2<m by omega)];exact .pure _ (by simp)
 obtain rfl:i=x.items.length:=by omega
 rw[take_length]at M he;have k0:=M.k0;simp only[QP.out,bK,aS]at k0;have i1:=M.oi.dO;obtain⟨i2,i3⟩:=M.oi.oK;have n1:=M.on.dO;obtain⟨n2,n3⟩:=M.on.oK;have o1:=M.ok.dO;obtain⟨o2,o3⟩:=M.ok.oK;simp[Jj,II,Lu,f3,f5,f6,f8,k1,aY.c2,al.ag,k0,k2',i1,n1,o1];generalize hK:Tr.put K 2 _=K2;have hzz:=M.uw (h:=K2.get) λ b hb=>by rw[<-hK];simp[show b≠2 by omega]
 rw[he];exact zQ (.agg _ _ _ (by simpa[QP.res,QP.out,bK,aS]using hzz))
def C5:CT:=(.seq wF (.cond (aC 27) akL (.seq xW (.cond (aC 32) akK (.seq rC (.cond (aC 39) Vg (.seq tQ (.cond (aC 44) (.seq Vf (.seq Ve (.seq Vd Vb))) (.seq wG (.cond (aC 67) Va (.seq zD (.cond (aC 72) (.seq U' (.seq U_ (.cond (aC 83) U9 .skip))) (.seq EG (.cond (aC 92) U8 (.seq KN (.cond (aC 97) U7 .skip))))))))))))))))
theorem b5:B5=(.seq Vi (.seq (.seq Vh (.cond (aC 17) (.seq ab2 .ret) .skip)) (.seq akO (.seq akN (.seq (.seq akM (.block 0 C5)) M5))))):=rfl
def dB (s:bD)(x:aE)(err:Int):ew×Int:=({kind:=x.kind,table:=(s.table (s.index x.name).1.table).1,index:=(s.index x.name).1},keep err 202 (!(s.index x.name).2))
def jB (s:bD)(x:aE)(err:Int):ew×Int:=
 if keep err 200 (!(s.named x.table).2)≠0 then ({kind:=x.kind,table:=(s.named x.table).1},keep err 200 (!(s.named x.table).2))
 else ({kind:=x.kind,table:=(s.named x.table).1,cond:=(cQ [(s.named x.table).1.name] [(s.named x.table).1] x.cond 0).1},(cQ [(s.named x.table).1.name] [(s.named x.table).1] x.cond 0).2)
def bM (s:bD)(x:aE):ew×Int:=
 if x.kind=1 then cY s x 0
 else if x.kind=2 then ({kind:=x.kind,table:=(s.named x.table).1},keep 0 200 (!(s.named x.table).2))
 else if x.kind=3 then indexB s x 0
 else if x.kind=4 then dB s x 0
 else if x.kind=5 then cV s x 0
 else if x.kind=6 then jB s x 0
 else if x.kind=7 then gO s x 0
 else if x.kind=8 then cJ s x.q x.kind 0
 else ({kind:=x.kind},0)
def dZ (s:bD)(x:aE):ew×Int:=if eY s/\x.may=true then dJ (bM s x)else (jU,1)
structure E5 (s:bD)(x:aE)(F:Fr)(K:Hp):Prop where
 f2:F.get 2=some (.ptr 0 0)
 f3:F.get 3=some (.ptr 1 0)
 f4:F.get 4=some (.ptr 2 0)
 f6:F.get 6=some (.ptr 3 0)
 f7:F.get 7=some (.ptr 4 0)
 f26:F.get 26=some (.int .i64 x.kind)
 k0:K.get 0=some (.cells 2 [] (cw.cells s) .nil)
 k1:K.get 1=some (.cells 31 [] x.cells .nil)
 k2:K.get 2=some (.cells 25 [] (br 0) .nil)
 k3:K.get 3=some (bV s 0)
 k4:K.get 4=some (.cells 25 [] (br x.kind) .nil)
 top:cS K 5
def xZ (s:bD)(x:aE)(Q:QA):Prop:=∀F' K' n',F'.get 4=some (.ptr 2 0)->F'.get 6=some (.ptr 3 0)->F'.get 7=some (.ptr 4 0)->ab6 s (bM s x).1 (bM s x).2 K'->Q .normal F' K' n' []
theorem ew.one (b:ew):bm b.cells=true:=by simp[ew.cells,al.ds]
theorem mU {s:bD}{b:ew}{e:Int}{K:Hp}(k2:K.get 2=some (.cells 25 [] (br 0) .nil)):ab6 s b e ((K.put 3 (some (bV s e))).put 4 (some (.cells 25 [] b.cells .nil))):=
 ⟨by simp[k2],by simp,_,by simp,rfl,b.one,λ h=>kP.refl h _⟩
theorem abL (s:bD)(hs:s.dE)(x:aE)(hx:x.sm)(hk:x.kind=1)(F:Fr)(K:Hp)(Q:QA)(E:E5 s x F K)(hQ:xZ s x Q):VC pG C5 F K 5 [] Q:=by
 obtain⟨f2,f3,f4,f6,f7,f26,k0,k1,k2,k3,k4,top⟩:=E;have hc:=RY s hs x hx.ae 3 4 0 K 5 (by omega) (by omega) (by omega) k3 k4;have hb:bM s x=cY s x 0:=by simp[bM,hk]
 have xl:=x.aA;rw[<-hb]at hc;have gN:x.av=.agg x.cells 31:=Eq.trans rfl rfl;rw[gN]at hc;rw[hk]at f26;generalize x.cells=xs at *;simp[C5,wF,akL,f26,f3,f6,f7,k1];refine ao.ok hc ?_;simp;exact hQ _ _ _ (by simp[f4]) (by simp[f6]) (by simp[f7]) (mU k2)
theorem abJ (s:bD)(hs:s.dE)(x:aE)(hx:x.sm)(hk:x.kind=3)(F:Fr)(K:Hp)(Q:QA)(E:E5 s x F K)(hQ:xZ s x Q):VC pG C5 F K 5 [] Q:=by
 obtain⟨f2,f3,f4,f6,f7,f26,k0,k1,k2,k3,k4,top⟩:=E;have hc:=aa8 s hs x hx.on 3 4 0 K 5 (by omega) (by omega) (by omega) k3 k4;have hb:bM s x=indexB s x 0:=by simp[bM,hk]
 have xl:=x.aA;rw[<-hb]at hc;have gN:x.av=.agg x.cells 31:=Eq.trans rfl rfl;rw[gN]at hc;rw[hk]at f26;generalize x.cells=xs at *;simp[C5,wF,xW,rC,Vg,f26,f3,f6,f7,k1];refine ao.ok hc ?_;simp;exact hQ _ _ _ (by simp[f4]) (by simp[f6]) (by simp[f7]) (mU k2)
theorem abH (s:bD)(hs:s.dE)(x:aE)(hx:x.sm)(hr:∀r∈x.rows,r.length<=lim/\∀e∈r,e.sz<=lim/\e.may=true)(hk:x.kind=5)(F:Fr)(K:Hp)(Q:QA)(E:E5 s x F K)(hQ:xZ s x Q):VC pG C5 F K 5 [] Q:=by
 obtain⟨f2,f3,f4,f6,f7,f26,k0,k1,k2,k3,k4,top⟩:=E;have hc:=Q7 s hs x hx.rows hr 3 4 0 K 5 (by omega) (by omega) (by omega) k3 k4;have hb:bM s x=cV s x 0:=by simp[bM,hk]
 have xl:=x.aA;rw[<-hb]at hc;have gN:x.av=.agg x.cells 31:=Eq.trans rfl rfl;rw[gN]at hc;rw[hk]at f26;generalize x.cells=xs at *;simp[C5,wF,xW,rC,tQ,wG,Va,f26,f3,f6,f7,k1];refine ao.ok hc ?_;simp;exact hQ _ _ _ (by simp[f4]) (by simp[f6]) (by simp[f7]) (mU k2)
theorem abF (s:bD)(hs:s.dE)(x:aE)(hx:x.sm)(hr:∀y∈x.sets,y.e.sz<=lim/\y.e.may=true)(hcm:x.cond.maybe=true)(hk:x.kind=7)(F:Fr)(K:Hp)(Q:QA)(E:E5 s x F K)(hQ:xZ s x Q):VC pG C5 F K 5 [] Q:=by
 obtain⟨f2,f3,f4,f6,f7,f26,k0,k1,k2,k3,k4,top⟩:=E;have hc:=O8 s hs x hx.sets hr hx.cond hcm 3 4 K 5 (by omega) (by omega) (by omega) k3 k4;have hb:bM s x=gO s x 0:=by simp[bM,hk]
 have xl:=x.aA;rw[<-hb]at hc;have gN:x.av=.agg x.cells 31:=Eq.trans rfl rfl;rw[gN]at hc;rw[hk]at f26;generalize x.cells=xs at *;simp[C5,wF,xW,rC,tQ,wG,zD,EG,U8,f26,f3,f6,f7,k1];refine ao.ok hc ?_;simp;exact hQ _ _ _ (by simp[f4]) (by simp[f6]) (by simp[f7]) (mU k2)
theorem abE (s:bD)(hs:s.dE)(x:aE)(hq:x.q.dE s)(hk:x.kind=8)(F:Fr)(K:Hp)(Q:QA)(E:E5 s x F K)(hQ:xZ s x Q):VC pG C5 F K 5 [] Q:=by
 obtain⟨f2,f3,f4,f6,f7,f26,k0,k1,k2,k3,k4,top⟩:=E;have hc:=aaf s hs x.q hq x.kind 3 4 0 K 5 (by omega) (by omega) (by omega) k3 k4;have hb:bM s x=cJ s x.q x.kind 0:=by simp[bM,hk]
 have xl:=x.aA;have xq:=x.tq;rw[<-hb]at hc;have gN:x.q.av=.agg x.q.cells 15:=Eq.trans rfl rfl;rw[gN]at hc;rw[hk]at f26;generalize x.cells=xs at *;generalize x.q.cells=qs at *;have hg:gJ 31 [] xs .nil 16 15=some qs:=by simp[xl,xq]
 simp[C5,wF,xW,rC,tQ,wG,zD,EG,KN,U7,f26,f3,f6,f7,k1,hg];refine ao.ok hc ?_;simp;exact hQ _ _ _ (by simp[f4]) (by simp[f6]) (by simp[f7]) (mU k2)
theorem abD (s:bD)(x:aE)(h1:¬x.kind=1)(h2:¬x.kind=2)(h3:¬x.kind=3)(h4:¬x.kind=4)(h5:¬x.kind=5)(h6:¬x.kind=6)(h7:¬x.kind=7)(h8:¬x.kind=8)(F:Fr)(K:Hp)(Q:QA)(E:E5 s x F K)(hQ:xZ s x Q):VC pG C5 F K 5 [] Q:=by
 obtain⟨f2,f3,f4,f6,f7,f26,k0,k1,k2,k3,k4,top⟩:=E;have hb:bM s x=({kind:=x.kind},0):=by simp[bM,h1,h2,h3,h4,h5,h6,h7,h8]
 have hO:ab6 s (bM s x).1 (bM s x).2 K:=by
  rw[hb];exact⟨k2,k3,_,k4,rfl,Dn _,mR _⟩
 generalize x.kind=kk at f26 h1 h2 h3 h4 h5 h6 h7 h8;simp[C5,wF,xW,rC,tQ,wG,zD,EG,KN,f26,h1,h2,h3,h4,h5,h6,h7,h8];exact hQ _ _ _ (by simp[f4]) (by simp[f6]) (by simp[f7]) hO
theorem Fg (op:Int):0<=(dA op).1.kind/\(dA op).1.kind<=3:=by
 unfold dA
 split<;>(repeat' split)<;>simp
def ga (ts:List aR):Prop:=∀k∈aj ts,0<=k/\k<=3
theorem abN {ns:List (List Nat)}{ts:List aR}(hk:ga ts):∀(e:Ex),e.may=true->0<=(e.bd ns ts 0).2.1/\(e.bd ns ts 0).2.1<=3
 | .mk op v t m cu args,hm=>by
  unfold Ex.bd
  split
  ·split
   ·simp only
    rcases Nat.lt_or_ge (iE ns ts t m).1.toNat (aj ts).length with h | h
    ·rw[getD_eq_getElem?_getD,getElem?_eq_getElem h];exact hk _ (getElem_mem h)
    rw[getD_eq_getElem?_getD,getElem?_eq_none h];simp
   simp
  split
  ·rename_i h2 h1;unfold Ex.may at hm;rw[if_pos h1]at hm;simp only[Bool.and_eq_true]at hm;have hv:=hm.2.1;unfold Val.may at hv;simp only
   repeat' split at hv
   all_goals first
    | omega
    | exact absurd hv (by decide)
  exact Fg op
theorem qW {ns:List (List Nat)}{ts:List aR}(hk:ga ts) (e:Ex) (hm:e.maybe=true):(cQ ns ts e 0).2=(pO ns ts e).2/\((pO ns ts e).2=0->cQ ns ts e 0=pO ns ts e):=by
 by_cases hb:e.bare 0
 ·have h0:e.op=0:=by obtain⟨op,v,t,m,cu,args⟩:=e;exact hb.1
  unfold cQ pO;rw[if_pos hb,if_pos h0];exact⟨rfl,λ _=>rfl⟩
 have iK:e.may=true:=by simpa[Ex.maybe,hb]using hm
 have h0:¬e.op=0:=by
  obtain⟨op,v,t,m,cu,args⟩:=e;rintro h;simp only[Ex.op]at h;subst h;simp[Ex.may]at iK
 have hr:=abN (ns:=ns) hk e iK;unfold cQ pO dH;rw[if_neg hb,if_neg h0];generalize e.bd ns ts 0=X at *;obtain⟨a,k,f⟩:=X;simp only at hr
 by_cases hf:f=0
 ·subst hf
  by_cases h12:k=1∨k=2
  ·have h3:¬k=3:=by omega
   have h4:¬k=0:=by omega
   simp[h12,keep,h3,h4]
  have h3:k=3∨k=0:=by omega
  rcases h3 with rfl | rfl<;>simp[keep]
 simp[hf,keep]
theorem qY (ns:List (List Nat))(ts:List aR)(e:Ex){f:Int}(h:f≠0):(cQ ns ts e f).2=f:=by
 unfold cQ
 split
 ·rfl
 simp only;rw[Ex.Kn _ _ _ _ h,eO h]
theorem Qm (ns:List (List Nat))(ts:List aR)(l:List Src):∀(d i:Nat),(gB ns ts l i 0).2≠0->(gB ns ts l (i+d) 0).2=(gB ns ts l i 0).2
 | 0,i,_=>rfl
 | d+1,i,h=>by
  have h1:=Qm ns ts l d i h;rw[show i+(d+1)=(i+d)+1 by omega,gB,h1];exact qY _ _ _ h
theorem N8 (ns:List (List Nat))(ts:List aR)(q:aY){f:Int}(h:f≠0):(aT ns ts q f).2.2.2=f:=by
 unfold aT
 split
 ·simp only;rw[eO h,eO h];exact AB _ _ _ h
 exact AB _ _ _ h
theorem Af (N:List (List Nat))(l:List Ord):∀(d i:Nat)(e:Int),(eD N l i e).2≠0->(eD N l (i+d) e).2=(eD N l i e).2
 | 0,i,e,_=>rfl
 | d+1,i,e,h=>by
  have h1:=Af N l d i e h;rw[show i+(d+1)=(i+d)+1 by omega,eD,h1];simp only;rw[eO h,eO h]
theorem C3 (ns:List (List Nat))(ts:List aR)(q:aY)(hs:q.star=true)(hi:q.items=[]):(aT ns ts q 0).2.2.2=(kR ts).2.2.2/\((kR ts).2.2.2=0->aT ns ts q 0=kR ts):=by
 unfold aT kR;rw[if_pos hs,hi];simp only[eb,map_nil,append_nil]
 by_cases h0:ts=[]
 ·subst h0;simp[keep]
 have hl:¬ts.length=0:=by simpa using h0
 rw[if_neg hl]
 by_cases h16:16<(aj ts).length
 ·have:(16:Int)<((aj ts).length:Int):=by omega
  simp[keep,h0,h16,this]
 have:¬(16:Int)<((aj ts).length:Int):=by omega
 simp[keep,h0,h16,this]
theorem Pj (s:bD)(l:List Src):l.map s.so=(l.map Src.nm).zip (l.map s.tb):=by
 induction l with
 | nil=>rfl
 | cons a l ih=>simp only[map_cons,zip_cons_cons,ih];rfl
def mC (nm:List Nat)(N:List (List Nat))(k:Nat):List Nat:=(List.range k).filter λ j=>decide (N.getD j []=nm)
theorem ND (nm:List Nat)(N:List (List Nat)){k:Nat}(h:k<N.length):mC nm N (k+1)=mC nm N k++(if N[k]=nm then [k]else []):=by
 unfold mC;rw[range_succ,filter_append]
 congr 1
 have:N.getD k []=N[k]:=by simp[h]
 by_cases e:N[k]=nm
 ·rw[if_pos e,filter_cons,if_pos (by rw[this];simpa using e)];rfl
 rw[if_neg e,filter_cons,if_neg (by rw[this];simpa using e)];rfl
theorem mP {nm:List Nat}{N:List (List Nat)}{j:Nat}:j∈mC nm N N.length↔∃h:j<N.length,N[j]=nm:=by
 unfold mC;rw[mem_filter,mem_range];constructor
 ·rintro⟨h1,h2⟩;refine⟨h1,?_⟩;simpa[h1]using h2
 rintro⟨h1,h2⟩;refine⟨h1,?_⟩;simpa[h1]using h2
theorem Qa {nm:List Nat}{N:List (List Nat)}(h:mC nm N N.length=[]):eE (λ y=>decide (nm=y)) N = -1:=
 kW λ j hj=>by
  have:¬j∈mC nm N N.length:=by rw[h];simp
  rw[mP]at this;simp;intro e;exact this ⟨hj,e.symm⟩
theorem NF {nm:List Nat}{N:List (List Nat)}{a:Nat}{r:List Nat}(h:mC nm N N.length=a::r):eE (λ y=>decide (nm=y)) N=(a:Int)/\(nm∈N.drop (a+1)↔r≠[]):=by
 have hp:(a::r).Pairwise (·<·):=by rw[<-h];exact pairwise_lt_range.filter _
 have ha:a∈mC nm N N.length:=by rw[h];simp
 obtain⟨ha1,ha2⟩:=mP.1 ha;rw[pairwise_cons]at hp;refine⟨nX ha1 (by simp[ha2]) λ j hj=>?_,λ hm=>?_,λ hr=>?_⟩
 ·cases hd:decide (nm=N[j]'(by omega))with
  | false=>rfl
  | true =>
   have hj2:j∈a::r:=by rw[<-h];exact mP.2 ⟨by omega,(by simpa using hd:nm=N[j]'(by omega)).symm⟩
   rcases mem_cons.1 hj2 with e | e
   ·omega
   have:=hp.1 j e;omega
 ·obtain⟨i,hi,he⟩:=mem_iff_getElem.1 hm;rw[getElem_drop]at he;rw[length_drop]at hi;have hj2:a+1+i∈a::r:=by rw[<-h];exact mP.2 ⟨by omega,he⟩
  rcases mem_cons.1 hj2 with e | e
  ·omega
  rintro rfl;simp at e
 obtain⟨b,r',rfl⟩:=exists_cons_of_ne_nil hr;have hb:=hp.1 b (by simp);obtain⟨hb1,hb2⟩:=mP.1 (show b∈mC nm N N.length by rw[h];simp);refine mem_iff_getElem.2 ⟨b - (a+1),by rw[length_drop];omega,?_⟩;rw[getElem_drop];simp only[show a+1+(b - (a+1))=b by omega];exact hb2
def fu (q:aY)(vf vo:AV):List AV:=bK 0 vf vo aS aS aS aS aS q.jA q.limited q.limit
structure QaF (l:List (List Nat×aR))(i:Nat)(F:Fr):Prop where
 f3:F.get 3=some (.ptr 1 0)
 f4:F.get 4=some (.ptr 2 0)
 f6:F.get 6=some (jd.ds l)
 f8:F.get 8=some (.ptr 3 0)
 f9:F.get 9=some (.int .i64 (i:Int))
structure QaM (q:aY)(T:List aR)(L:List (List Ex))(i:Nat)(vf vo:AV)(K:Hp)(m:Nat):Prop where
 hm:4<=m
 tp:cS K m
 k1:K.get 1=some (.cells 15 [] q.cells .nil)
 k2:K.get 2=some (.cells 25 [] (br 0) .nil)
 k3:K.get 3=some (.cells 25 [] (fu q vf vo) .nil)
 of:ar K m vf (aG.l T) i 4
 oo:ar K m vo (dw.l L) i 1
 df:∀b,blk vf=some b->4<=b/\blk vo≠some b
 doo:∀b,blk vo=some b->4<=b
 hT:T.length=i
 hL:L.length=i
structure QaZ (q:aY)(T:List aR)(L:List (List Ex))(K:Hp)(m:Nat):Prop where
 hm:4<=m
 tp:cS K m
 k1:K.get 1=some (.cells 15 [] q.cells .nil)
 k2:K.get 2=some (.cells 25 [] (br 0) .nil)
 k3:∃v w,K.get 3=some (.cells 25 [] (fu q v w) .nil)/\NV v (aG.ds T)/\NV w (dw.ds L)
theorem ar.aoQ {α:Type}{k:Nat}{E:al α k}{K:Hp}{m n:Nat}{v:AV}{l:List α}{h:Hf}(ho:ar K m v (E.l l) n k)(hn:l.length=n)(hk:0<k)(hh:∀c,blk v=some c->h c=K.get c):dU h v (E.ds l):=by
 subst hn;exact ar.vJ ho hk hh (aN.pure (by simp))
theorem QaM.shut {q:aY}{T:List aR}{L:List (List Ex)}{i:Nat}{vf vo:AV}{K:Hp}{m:Nat}{F:Fr}(M:QaM q T L i vf vo K m):∃h K2,eH h F K F K2/\QaZ q T L K2 m:=by
 have dl:∀(v:AV) (H:Hp) (b:Nat),(match blk v with
  | some c=>H.put c none
  | none=>H:Hp).get b=if blk v=some b then none else H.get b:=by
  intro v H b
  cases hb:blk v with
  | none=>simp
  | some c=>simp[eq_comm]
 let h:Hf:=λ b=>if blk vf=some b∨blk vo=some b then K.get b else none
 let K1:Hp:=(match blk vf with
  | some c=>K.put c none
  | none=>K)
 let K2:Hp:=(match blk vo with
  | some c=>K1.put c none
  | none=>K1)
 have hK2:∀b,K2.get b=if blk vf=some b∨blk vo=some b then none else K.get b:=by
  intro b;have e1:K2.get b=if blk vo=some b then none else K1.get b:=dl vo K1 b
  have e2:K1.get b=if blk vf=some b then none else K.get b:=dl vf K b
  rw[e1,e2]
  by_cases h1:blk vf=some b<;>by_cases h2:blk vo=some b<;>simp[h1,h2]
 have zf:dU h vf (aG.ds T):=M.of.aoQ M.hT (by decide) λ c hc=>by simp[h,hc]
 have zo:dU h vo (dw.ds L):=M.oo.aoQ M.hL (by decide) λ c hc=>by simp[h,hc]
 have d4:∀b,blk vf=some b∨blk vo=some b->4<=b:=λ b hb=>by
  rcases hb with hb | hb
  ·exact(M.df b hb).1
  exact M.doo b hb
 have get:∀b,b≠3->((K2.put 3 (some (.cells 25 [] (fu q (aG.ds T) (dw.ds L)) .nil))).get b)=if blk vf=some b∨blk vo=some b then none else K.get b:=λ b hb=>by simp[hb,hK2]
 have low:∀b,b<4->¬(blk vf=some b∨blk vo=some b):=λ b h1 h2=>by have:=d4 b h2;omega
 refine⟨h,K2.put 3 (some (.cells 25 [] (fu q (aG.ds T) (dw.ds L)) .nil)),⟨λ b k hb=>?_,λ b hb=>?_,λ t v hv=>⟨v,hv,.inl rfl⟩,λ b y hb=>?_⟩,M.hm,λ b hb=>?_,?_,?_,_,_,by simp,.inl rfl,.inl rfl⟩
 ·have hb:(if blk vf=some b∨blk vo=some b then K.get b else none)=some k:=hb
  split at hb
  ·exact hb
  cases hb
 ·have hb:(if blk vf=some b∨blk vo=some b then K.get b else none)≠none:=hb
  by_cases hc:blk vf=some b∨blk vo=some b
  ·rw[get b (by have:=d4 b hc;omega),if_pos hc]
  simp[hc]at hb
 ·by_cases h1:b=3
  ·subst h1;simp at hb;subst hb;exact⟨_,M.k3,kP.bz (by simp[fu,bK];exact⟨.inr zf,.inr zo⟩) rfl⟩
  rw[get b h1]at hb
  split at hb
  ·cases hb
  exact⟨y,hb,.inl rfl⟩
 ·rw[get b (by have:=M.hm;omega)]
  split
  ·rfl
  exact M.tp b hb
 ·rw[get 1 (by omega),if_neg (low 1 (by omega))];exact M.k1
 rw[get 2 (by omega),if_neg (low 2 (by omega))];exact M.k2
theorem gZ.take {ns:List (List Nat)}{ts:List aR}(h:gZ ns ts)(i:Nat):gZ (ns.take i) (ts.take i):=
 ⟨by simp[h.n],by have:=h.l;simp;omega,Nat.le_trans (gD ts i) h.k,λ t ht=>h.c t (mem_of_mem_take ht)⟩
theorem ga.take {ts:List aR}(h:ga ts)(i:Nat):ga (ts.take i):=by
 intro k hk;refine h k ?_
 have:aj ts=aj (ts.take i)++aj (ts.drop i):=by
  unfold aj;rw[<-flatMap_append,take_append_drop]
 rw[this];exact mem_append_left _ hk
theorem PV (q:aY){ns:List (List Nat)}{ts:List aR}(hS:gZ ns ts) (hk:ga ts) (hl:ts.length=q.ab.length) (hz:∀x∈q.ab,x.cond.sz<=lim/\x.cond.maybe=true) (F:Fr) (K:Hp) (m:Nat) (Q:QA) (G:QaF (ns.zip ts) 0 F) (M:QaM q [] [] 0 aS aS K m)
  (hbad:∀f,f≠0->(gB ns ts q.ab q.ab.length 0).2=f->∀F K m,F.get 4=some (.ptr 2 0)->F.get 5=some (.int .i64 f)->K.get 2=some (.cells 25 [] (br 0) .nil)->Q .ret F K m [])
  (hQ:(gB ns ts q.ab q.ab.length 0).2=0->∀F K m,QaF (ns.zip ts) q.ab.length F->QaZ q ts (gB ns ts q.ab q.ab.length 0).1 K m->Q .normal F K m []):au MB pG F K m [] (bX 0 Q):=by
 have hll:=hS.l;have hnn:=hS.n;unfold lim at hll;have hzl:(ns.zip ts).length=ts.length:=by simp;omega
 refine au.ofZ (λ g F K m ms=>∃(i:Nat),g=q.ab.length - i/\i<=q.ab.length/\QaF (ns.zip ts) i F/\(i<q.ab.length->∃(vf vo:AV),QaM q (ts.take i) (gB ns ts q.ab i 0).1 i vf vo K m)/\(i=q.ab.length->QaZ q ts (gB ns ts q.ab i 0).1 K m)/\(gB ns ts q.ab i 0).2=0/\ms=[]) q.ab.length (Zs.refl ⟨0,by simp,by omega,G,λ _=>⟨aS,aS,by simpa[gB]using M⟩,λ h=>⟨M.hm,M.tp,M.k1,M.k2,aS,aS,M.k3,by rw[show ts=[]from length_eq_zero_iff.1 (by omega)];simp[aS],by simp[gB,aS]⟩,rfl,rfl⟩) ?_;clear G M F K m;rintro g F K m ms ⟨i,rfl,hi,⟨f3,f4,f6,f8,f9⟩,M,MZ,he,rfl⟩
 by_cases hlt:i<q.ab.length
 ·obtain⟨vf,vo,M⟩:=M hlt;clear MZ;have k1:=M.k1;have k2:=M.k2;have k3:=M.k3;have hm:=M.hm;have tp:=M.tp;simp only[fu,bK,aS]at k3;simp only[br]at k2;have hxs:=jd.ix (ik:=.i64) (show i<(ns.zip ts).length by omega);rw[tG,getElem_zip]at hxs;have hZ:=gq.ix (ik:=.i64) hlt;rw[qd]at hZ;simp only at hxs;have hsl:=jd.xJ (l:=ns.zip ts) (i:=i+1) (by omega);rw[show ((i+1:Nat):Int)=(i:Int)+1 by omega]at hsl;have n3:K.get m=none:=tp _ (Nat.le_refl _);have hld:∀r H,eo 4 (.dp (aG.cells ts[i]++r)) H=.val (.agg (aG.cells ts[i]) 4):=λ r H=>aG.gM ts[i] r H;simp[MB,TQ,f6,f9,al.ag,hnn,hl,hlt];simp only[ad',cH];refine bY.of (bH (P:=pG)) ?_;simp[aa,f6,f8,f9,k3,hxs,bw,bL,n3,hld];generalize hK1:Tr.put K m _=K1;have g1:∀b,b<m->K1.get b=K.get b:=λ b hb=>by rw[<-hK1];simp[dj hb]
  have x1:K1.get m=some (.cells 4 [] (aG.cells ts[i]) .nil):=by rw[<-hK1];simp
  have t1:cS K1 (m+1):=λ b hb=>by
   have e1:¬b=m:=by omega
   rw[<-hK1];simp[e1,tp b (by omega)]
  clear hK1;have lf:∀b,blk vf=some b->4<=b/\b<m:=λ b h=>⟨(M.df b h).1,M.of.aK h⟩;have lo:∀b,blk vo=some b->4<=b/\b<m/\blk vf≠some b:=λ b h=>⟨M.doo b h,M.oo.aK h,λ h2=>(M.df b h2).2 h⟩;refine ar.ru (k:=1) (new:=aG.cells ts[i]) (M.of.frame (H':=K1) (n':=m+1) (by omega) λ b hb=>g1 b (lf b hb).2) (aB x1) (by simp) (by simp) (by omega) (by omega) (by unfold big;omega) (by omega) (by simp) λ K2 o2 g2=>?_;have g2':∀b,b≠m+1->blk vf≠some b->K2.get b=K1.get b:=λ b h1 h2=>g2 b h1 λ e=>h2 (by rw[e];rfl);clear g2;have k32:=(g2' 3 (by omega) λ h=>by have:=lf 3 h;omega).trans ((g1 3 (by omega)).trans k3);simp[aa,f8,k32];generalize hK3:Tr.put K2 3 _=K3;have g3:∀b,b≠3->K3.get b=K2.get b:=λ b h1=>by rw[<-hK3];simp[h1]
  have z3:K3.get 3=some (.cells 25 [] (fu q (.sl (m+1) 0 (i+1) 4) vo) .nil):=by rw[<-hK3];simp[fu,bK,aS]
  have t3:cS K3 (m+1+1):=λ b hb=>(g3 b (by omega)).trans ((g2' b (by omega) λ h=>by have:=lf b h;omega).trans (t1 b (by omega)));clear hK3;have b3:∀b,b<m->b≠3->blk vf≠some b->K3.get b=K.get b:=λ b h1 h2 h3=>(g3 b h2).trans ((g2' b (by omega) h3).trans (g1 b h1));have k13:=(b3 1 (by omega) (by omega) λ h=>by have:=lf 1 h;omega).trans k1;have k23:=(b3 2 (by omega) (by omega) λ h=>by have:=lf 2 h;omega).trans k2
  have of3:ar K3 (m+1+1) (.sl (m+1) 0 (i+1) 4) (aG.l (ts.take (i+1))) (i+1) 4:=by
   rw[cZ (show i<ts.length by omega),al.bo,al.dF];exact o2.frame (by omega) λ b hb=>g3 b (by simp at hb;omega)
  have oo3:ar K3 (m+1+1) vo (dw.l (gB ns ts q.ab i 0).1) i 1:=M.oo.frame (by omega) λ b hb=>by
   obtain⟨h1,h2,h3⟩:=lo b hb;exact b3 b h2 (by omega) h3
  obtain⟨hz1,hz2⟩:=hz _ (getElem_mem hlt)
  have hif:ai pG 91 [jd.ds ((ns.zip ts).take (i+1)),q.ab[i].cond.av] (.bg [dz.ds (pO (ns.take (i+1)) (ts.take (i+1)) q.ab[i].cond).1,.int .i64 (pO (ns.take (i+1)) (ts.take (i+1)) q.ab[i].cond).2]):=by
   have:=aa9 (hS.take (i+1)) q.ab[i].cond hz1 hz2
   rwa [show (ns.take (i+1)).zip (ts.take (i+1))=(ns.zip ts).take (i+1) by rw[zip_eq_zipWith,zip_eq_zipWith,take_zipWith]]at this
  obtain⟨hc1,hc2⟩:=qW (ns:=ns.take (i+1)) (hk.take (i+1)) q.ab[i].cond hz2
  have hon:gB ns ts q.ab (i+1) 0=((gB ns ts q.ab i 0).1++[(cQ (ns.take (i+1)) (ts.take (i+1)) q.ab[i].cond 0).1],(cQ (ns.take (i+1)) (ts.take (i+1)) q.ab[i].cond 0).2):=by
   rw[gB,mL hlt,he]
  generalize pO (ns.take (i+1)) (ts.take (i+1)) q.ab[i].cond=I at *;generalize cQ (ns.take (i+1)) (ts.take (i+1)) q.ab[i].cond 0=C at *;obtain⟨ia,ie⟩:=I;obtain⟨ca,ce⟩:=C;simp only at hc1 hc2 hif hon;subst hc1;simp only[ad_,cH];refine bY.of (iN (l:=[(91,[jd.ds ((ns.zip ts).take (i+1)),q.ab[i].cond.av],λ H n=>.mk (.bg [dz.ds ia,.int .i64 ce]) H n)]) ?_) ?_
  ·intro y hy;simp only[mem_cons,not_mem_nil,or_false]at hy;subst hy;exact eX hif
  simp[aa,f3,f6,f9,k13,aY.c3,hZ,ah i (by omega),hsl];rw[fA];simp
  by_cases hf:ce=0
  ·subst hf;obtain⟨rfl,_⟩:=Prod.mk.inj (hc2 rfl);simp only[fu,bK,aS]at z3;simp[TP,T1,aa,f8,z3];generalize hK4:Tr.put K3 (m+1+1) _=K4;have g4:∀b,b<m+1+1->K4.get b=K3.get b:=λ b hb=>by rw[<-hK4];simp[dj hb]
   have x4:K4.get (m+1+1)=some (.cells 1 [] [dz.ds ca] .nil):=by rw[<-hK4];simp
   have t4:cS K4 (m+1+1+1):=λ b hb=>by
    have e1:¬b=m+1+1:=by omega
    rw[<-hK4];simp[e1,t3 b (by omega)]
   clear hK4;refine ar.jr (k:=1) (new:=[dz.ds ca]) (oo3.frame (H':=K4) (n':=m+1+1+1) (by omega) λ b hb=>g4 b (by have:=lo b hb;omega)) (aB x4) (by simp) (by simp) (by omega) (by omega) (by unfold big;omega) (by omega) (by simp) λ K5 o5 g5=>?_;have z5:=(g5 3 (by omega) λ h=>by have:=lo 3 h;omega).trans ((g4 3 (by omega)).trans z3);simp[aa,f8,z5,T0,f9,ah i (by omega)];generalize xD:Tr.put K5 3 _=K6;have g6:∀b,b≠3->K6.get b=K5.get b:=λ b h1=>by rw[<-xD];simp[h1]
   have z6:K6.get 3=some (.cells 25 [] (fu q (.sl (m+1) 0 (i+1) 4) (.sl (m+1+1+1) 0 (i+1) 1)) .nil):=by rw[<-xD];simp[fu,bK,aS]
   clear xD;have b6:∀b,b<3->K6.get b=K3.get b:=λ b hb=>(g6 b (by omega)).trans ((g5 b (by omega) λ h=>by have:=lo b h;omega).trans (g4 b (by omega)))
   have M2:QaM q (ts.take (i+1)) (gB ns ts q.ab (i+1) 0).1 (i+1) (.sl (m+1) 0 (i+1) 4) (.sl (m+1+1+1) 0 (i+1) 1) K6 (m+1+1+1+1):=by
    refine⟨by omega,λ b hb=>?_,(b6 1 (by omega)).trans k13,(b6 2 (by omega)).trans (by simpa[br]using k23),z6,?_,?_,λ b hb=>by simp at hb;simp;omega,λ b hb=>by simp at hb;omega,by simp;omega,by rw[hon];simp[Ag]⟩
    ·exact(g6 b (by omega)).trans ((g5 b (by omega) λ h=>by have:=lo b h;omega).trans (t4 b (by omega)))
    ·exact of3.frame (by omega) λ b hb=>by
      simp at hb;exact(g6 b (by omega)).trans ((g5 b (by omega) λ h=>by have:=lo b h;omega).trans (g4 b (by omega)))
    rw[hon,al.bo,al.dF,jR];exact o5.frame (by omega) λ b hb=>g6 b (by simp at hb;omega)
   generalize hF':(Fp 9 _ _:Fr)=F';have G':QaF (ns.zip ts) (i+1) F':=by rw[<-hF'];exact⟨by simp[aa,f3],by simp[aa,f4],by simp[aa,f6],by simp[aa,f8],by simp⟩
   clear hF'
   by_cases hl2:i+1=q.ab.length
   ·obtain⟨h,K7,sh,Z⟩:=M2.shut (F:=F');rw[show ts.take (i+1)=ts by rw[take_of_length_le (by omega)]]at Z;exact⟨q.ab.length - (i+1),by omega,h,_,K7,sh,i+1,rfl,hlt,G',λ h=>by omega,λ _=>Z,by rw[hon],rfl⟩
   exact⟨q.ab.length - (i+1),by omega,_,_,_,eH.refl _ _,i+1,rfl,hlt,G',λ _=>⟨_,_,M2⟩,λ h=>absurd h hl2,by rw[hon],rfl⟩
  have htot:(gB ns ts q.ab q.ab.length 0).2=ce:=by
   have:=Qm ns ts q.ab (q.ab.length - (i+1)) (i+1) (by rw[hon];exact hf);rw[show i+1+(q.ab.length - (i+1))=q.ab.length by omega,hon]at this;exact this
  simp[TP,T3,aa,f4,k23,hf];exact hbad ce hf htot _ _ _ (by simp[aa,f4]) (by simp) (by simp[br])
 obtain rfl:i=q.ab.length:=by omega
 have hq:q.ab.length<=1048576:=by omega
 simp[MB,TQ,f6,f9,al.ag,hnn,hl];exact hQ he _ K m ⟨by simp[f3],by simp[f4],by simp[f6],by simp[f8],by simp[f9]⟩ (MZ rfl)
end Go.Abs
