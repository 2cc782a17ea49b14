/- A part. -/
import Derived.Test.YtlhafglnokpioaaGreatBt3
noncomputable section
namespace Go.Abs
open List
open Go.Proofs
open Classical
set_option maxRecDepth 100000
def qA (ns:List (List Nat))(ts:List bo)(l:List Src):Nat->Int->List (List Ex)×Int
 |0,err=>([],err)
 |i+1,err=>((qA ns ts l i err).1++[(fG (ns.take (i+1)) (ts.take (i+1)) (tK l i).cond (qA ns ts l i err).2).1],(fG (ns.take (i+1)) (ts.take (i+1)) (tK l i).cond (qA ns ts l i err).2).2)
theorem KL (ns:List (List Nat))(ts:List bo)(l:List Src)(err:Int):∀i,(qA ns ts l i err).1.length=i
 |0=>rfl
 |i+1=>by simp[qA,KL ns ts l err i]
structure QyM (H0:Hp)(n p o:Nat)(s:bB)(ns:List (List Nat))(ts:List bo)(q:cM)(e:Int)(K:Hp)(m:Nat):Prop where
 hm:n+2<=m
 tp:cA K m
 kf:∀b,b<n->b≠p->b≠o->K.get b=H0.get b
 kp:K.get p=some (eg s e)
 kn:K.get n=aG 15 q.cells
 ks:K.get (n+1)=aG 2 (lC ns ts)
theorem QyM.next {H0:Hp}{n p o:Nat}{s:bB}{ns:List (List Nat)}{ts:List bo}{q:cM}{e:Int}{K:Hp}{m:Nat}(M:QyM H0 n p o s ns ts q e K m)(hpn:p<n)(hon:o<n){K':Hp}{m':Nat}{e':Int}(hm:m<=m')(ht:cA K' m')(hk:∀b,b<n+2->b≠p->b≠o->K'.get b=K.get b)(hp:K'.get p=some (eg s e')):QyM H0 n p o s ns ts q e' K' m':=by
 have hm0:=M.hm;exact⟨by omega,ht,λ b h1 h2 h3=>(hk b (by omega) h2 h3).trans (M.kf b h1 h2 h3),hp,(hk n (by omega) (by omega) (by omega)).trans M.kn,(hk (n+1) (by omega) (by omega) (by omega)).trans M.ks⟩
structure OnF (n p o:Nat)(q:cM)(i:Nat)(F:Fr):Prop where
 f0:F.get 0=some (.ptr p 0)
 f2:F.get 2=some (.ptr o 0)
 f4:F.get 4=some (.ptr n 0)
 f6:F.get 6=some (.ptr (n+1) 0)
 f64:F.get 64=some (gA.ds q.ay)
 f65:F.get 65=some (zI (q.ay.length:Int))
 f66:F.get 66=some (zI (i:Int))
def G8 (kind:Int)(ts:List bo)(on:AV):List AV:=jU kind (aA.ds ts) on (.al (.slice none 0 0)) (.al (.slice none 0 0)) (.al (.slice none 0 0)) (.al (.slice none 0 0)) (.al (.slice none 0 0)) false false 0
structure OnM (H0:Hp)(n p o:Nat)(s:bB)(ns:List (List Nat))(ts:List bo)(q:cM)(kind:Int)(e:Int)(i:Nat)(L:List (List Ex))(va:AV)(K:Hp)(m:Nat):Prop where
 mem:QyM H0 n p o s ns ts q e K m
 ko:K.get o=aG 25 (G8 kind ts va)
 oa:au K m va (dA.l L) i 1
 da:∀b,blk va=some b->n+2<=b
theorem RY (n p o:Nat)(hpn:p<n)(hon:o<n)(hpo:p≠o)(H0:Hp)(s:bB)(ns:List (List Nat))(ts:List bo)(hn:ns.length=ts.length)(hl:(aB ts).length<=aM)(ht:ts.length<=aM)(hcl:∀t∈ts,t.cols.length<=aM)(q:cM)(hlen:q.ay.length=ts.length)(hz:∀x∈q.ay,C25 x.cond)(kind e0:Int)
  (F:Fr)(K:Hp)(m:Nat)(Q:QA)(I0:Zs (λ g F K m ms=>∃va,g=q.ay.length/\OnF n p o q 0 F/\OnM H0 n p o s ns ts q kind e0 0 [] va K m/\ms=[]) q.ay.length F K m [])
  (hQ:∀va F K m,OnF n p o q q.ay.length F->OnM H0 n p o s ns ts q kind (qA ns ts q.ay q.ay.length e0).2 q.ay.length (qA ns ts q.ay q.ay.length e0).1 va K m->Q .normal F K m []):aE On pG F K m [] (fy 2 Q):=by
 have htl:=ht;unfold aM at ht;refine aE.ZZ (λ g F K m ms=>∃(i:Nat) (va:AV),g=q.ay.length - i/\i<=q.ay.length/\OnF n p o q i F/\OnM H0 n p o s ns ts q kind (qA ns ts q.ay i e0).2 i (qA ns ts q.ay i e0).1 va K m/\ms=[]) q.ay.length ?_ ?_
 ·obtain⟨h,F2,K2,h1,va,_,h3,h4,h5⟩:=I0;exact⟨h,F2,K2,h1,0,va,by simp,by omega,h3,by simpa[qA]using h4,h5⟩
 clear I0 F K m;rintro g F K m ms ⟨i,va,rfl,hi,⟨f0,f2,f4,f6,f64,f65,f66⟩,M,rfl⟩;have hm:=M.mem.hm
 by_cases hlt:i<q.ay.length
 ·have hxx:=gA.ix (ik:=.i64) hlt;have hld:=λ H=>gA.mf q.ay[i] (gA.l (q.ay.drop (i+1))) H;have hz1:=hz _ (b6 hlt);simp[On,f64,f65,f66,hlt,hxx,hld,aL.av];generalize hK1:Tr.put _ m _=K1;have g1:∀b,b<m->K1.get b=K.get b:=λ b hb=>by rw[<-hK1];simp[ga hb]
  have x1:K1.get m=aG 10 (gA.cells q.ay[i]):=by rw[<-hK1];simp
  have t1:cA K1 (m+1):=λ b hb=>by
   have e1:¬b=m:=by omega
   rw[<-hK1];simp[e1,M.mem.tp b (by omega)]
  clear hK1 hxx hld;have hva:∀b,blk va=some b->b<m:=λ b h=>M.oa.bg h;have nva:∀b,b<n+2->blk va≠some b:=λ b h1 h2=>by have:=M.da b h2;omega
  have ks1:=(g1 (n+1) (by omega)).trans M.mem.ks;have ko1:=(g1 o (by omega)).trans M.ko;simp only[lC]at ks1;simp only[G8,jU]at ko1
  have hsl1:mL 1 none (some (zI ((i:Int)+1))) none (cK.ds ns)=.val (cK.ds (ns.take (i+1))):=by
   have:=cK.OT (l:=ns) (i:=i+1) (by omega);simpa using this
  have hsl2:mL 4 none (some (zI ((i:Int)+1))) none (aA.ds ts)=.val (aA.ds (ts.take (i+1))):=by
   have:=aA.OT (l:=ts) (i:=i+1) (by omega);simpa using this
  have qb:=pe ts (i+1);have hcd:=hz1 (ns.take (i+1)) (ts.take (i+1)) (by simp;omega) (by omega) (by simp;omega) (λ t h=>hcl t (mem_of_mem_take h)) s p (qA ns ts q.ay i e0).2 K1 (m+1) (by omega) ((g1 p (by omega)).trans M.mem.kp);have hav:q.ay[i].cond.av=.agg q.ay[i].cond.cells 8:=Eq.trans rfl rfl;rw[hav]at hcd
  have abL:qA ns ts q.ay (i+1) e0=((qA ns ts q.ay i e0).1++[(fG (ns.take (i+1)) (ts.take (i+1)) q.ay[i].cond (qA ns ts q.ay i e0).2).1],(fG (ns.take (i+1)) (ts.take (i+1)) q.ay[i].cond (qA ns ts q.ay i e0).2).2):=by
   rw[qA,DV hlt]
  generalize fG (ns.take (i+1)) (ts.take (i+1)) q.ay[i].cond (qA ns ts q.ay i e0).2=cd at hcd abL;obtain⟨cl,ce⟩:=cd;simp only[lC]at hcd;simp only at hcd abL;simp only[V1,kZ];refine cj.of (xe (l:=[⟨53,[.ptr p 0,.agg [cK.ds (ns.take (i+1)),aA.ds (ts.take (i+1))] 2,.agg q.ay[i].cond.cells 8],K1,m+1,eX.ds cl,K1.put p (some (eg s ce)),m+1⟩]) ?_) ?_
  ·simp only[mem_cons,not_mem_nil,or_false];rintro c rfl;exact hcd
  have arA:take 8 q.ay[i].cond.cells=q.ay[i].cond.cells:=eZ (by simp);rw[HO]at x1;simp[ab,f0,f2,f6,ks1,x1,aC i (by omega),hsl1,hsl2,arA,qT];have op:(o=p)=False:=by simp[Ne.symm hpo]
  have n1:=t1 (m+1) (aP _);have n2:(K1.put p (some (eg s ce))).get (m+1)=none:=by simp[show ¬m+1=p by omega,n1]
  have j2:∀b,b≠p->(K1.put p (some (eg s ce))).get b=K1.get b:=λ b hb=>by simp[hb]
  have jp:(K1.put p (some (eg s ce))).get p=some (eg s ce):=by simp
  have ko2:=(j2 o (by omega)).trans ko1;simp[op,ko1];generalize K1.put p (some (eg s ce))=K2 at n2 j2 jp ko2 ⊢;simp[cG,dj,n1,n2];generalize hK3:Tr.put K2 (m+1) _=K3;have g3:∀b,b<m+1->K3.get b=K2.get b:=λ b hb=>by rw[<-hK3];simp[ga hb]
  have x3:K3.get (m+1)=aG 1 [eX.ds cl]:=by rw[<-hK3];simp
  have t3:cA K3 (m+1+1):=λ b hb=>by
   have e1:¬b=m+1:=by omega
   rw[<-hK3];simp[e1,j2 b (by omega),t1 b (by omega)]
  clear hK3;have bk3:∀b,b<m->b≠p->K3.get b=K.get b:=λ b h1 h2=>(g3 b (by omega)).trans ((j2 b h2).trans (g1 b h1));have oa3:au K3 (m+1+1) va (dA.l (qA ns ts q.ay i e0).1) i 1:=M.oa.frame (by omega) λ b hb=>bk3 b (hva b hb) (by have:=M.da b hb;omega);refine au.Bv (k:=1) (new:=[eX.ds cl]) oa3 (aR x3) (by simp) (by simp) (by omega) (by omega) (by unfold big;omega) (by omega) (by simp) λ K4 o4 g4=>?_;have g4':∀b,b≠m+1+1->blk va≠some b->K4.get b=K3.get b:=λ b h1 h2=>g4 b h1 λ e=>h2 (by rw[e];rfl);clear g4;have ko4:=(g4' o (by omega) (nva o (by omega))).trans ((g3 o (by omega)).trans ko2);simp[ab,f2,ko4];generalize hK5:Tr.put K4 o _=K5;have g5:∀b,b≠o->K5.get b=K4.get b:=λ b hb=>by rw[<-hK5];simp[hb]
  have o5:K5.get o=aG 25 (G8 kind ts (.sl (m+1+1) 0 (i+1) 1)):=by rw[<-hK5];simp[G8,jU]
  clear hK5;simp[V0,ab,f66,aC i (by omega)];refine⟨q.ay.length - (i+1),by omega,Zs.refl ⟨i+1,rfl,hlt,⟨by simp[ab,f0],by simp[ab,f2],by simp[ab,f4],by simp[ab,f6],by simp[ab,f64],by simp[ab,f65],by simp⟩,⟨.sl (m+1+1) 0 (i+1) 1,M.mem.next hpn hon (by omega) (λ b hb=>?_) (λ b h1 h2 h3=>?_) ?_,o5,?_,λ b hb=>by simp at hb;omega⟩,rfl⟩⟩
  ·exact(g5 b (by omega)).trans ((g4' b (by omega) λ h=>by have:=hva b h;omega).trans (t3 b (by omega)))
  ·exact(g5 b h3).trans ((g4' b (by omega) (nva b h1)).trans (bk3 b (by omega) h2))
  ·rw[abL];exact(g5 p (by omega)).trans ((g4' p (by omega) (nva p (by omega))).trans ((g3 p (by omega)).trans jp))
  rw[abL,aL.dV,aL.lP,Be];refine o4.frame (by omega) λ b hb=>?_;simp at hb;subst hb;exact g5 _ (by omega)
 have hje:i=q.ay.length:=by omega
 subst hje;simp[On,f65,f66];exact hQ va _ K m ⟨by simp[f0],by simp[f2],by simp[f4],by simp[f6],by simp[f64],by simp[f65],by simp[f66]⟩ M
def yY (l:List Ord)(i:Nat):Ord:=l.getD i ⟨[],false⟩
def aaT (N:List (List Nat))(x:Ord):Int:=kL (λ y=>decide (x.name=y)) N
def yg (N:List (List Nat))(l:List Ord):Nat->Int->List (Int×Bool)×Int
 |0,err=>([],err)
 |i+1,err=>((yg N l i err).1++[(aaT N (yY l i),(yY l i).desc)],keep (keep (yg N l i err).2 201 (decide (aaT N (yY l i)<0))) 205 (decide (0<=aaT N (yY l i))&&decide ((yY l i).name∈N.drop ((aaT N (yY l i)).toNat+1))))
theorem Ei (N:List (List Nat))(l:List Ord)(err:Int):∀i,(yg N l i err).1.length=i
 |0=>rfl
 |i+1=>by simp[yg,Ei N l err i]
structure OrF (n p o:Nat)(q:cM)(i:Nat)(F:Fr):Prop where
 f0:F.get 0=some (.ptr p 0)
 f2:F.get 2=some (.ptr o 0)
 f4:F.get 4=some (.ptr n 0)
 f6:F.get 6=some (.ptr (n+1) 0)
 f110:F.get 110=some (Fe.ds q.order)
 f111:F.get 111=some (zI (q.order.length:Int))
 f112:F.get 112=some (zI (i:Int))
def aaQ (kind:Int)(ts:List bo)(on:AV)(W E:List Ex)(N:List (List Nat))(Ks:List Int)(od:AV):List AV:=jU kind (aA.ds ts) on (eX.ds W) (eX.ds E) (cK.ds N) (cQ.ds Ks) od false false 0
structure OrM (H0:Hp)(n p o:Nat)(s:bB)(ns:List (List Nat))(ts:List bo)(q:cM)(kind:Int)(L:List (List Ex))(W E:List Ex)(N:List (List Nat))(Ks:List Int)(x9:AV)(e:Int)(i:Nat)(O:List (Int×Bool))(va:AV)(K:Hp)(m:Nat):Prop where
 mem:QyM H0 n p o s ns ts q e K m
 ko:K.get o=aG 25 (aaQ kind ts x9 W E N Ks va)
 ov:au K m x9 (dA.l L) L.length 1
 dv:∀b,blk x9=some b->n+2<=b
 oa:au K m va (Up.l O) i 2
 da:∀b,blk va=some b->n+2<=b/\blk x9≠some b
def O28 (q:cM):Prop:=∀(n p o:Nat) (_hpn:p<n) (_hon:o<n) (_hpo:p≠o) (H0:Hp) (s:bB) (ns:List (List Nat)) (ts:List bo) (kind:Int) (L:List (List Ex)) (W E:List Ex) (N:List (List Nat)) (_hN:N.length<=aM) (Ks:List Int) (x9:AV) (_hvo:x9.one=true) (e0:Int)
  (F:Fr)(K:Hp)(m:Nat)(Q:QA)(va:AV)(_hF:OrF n p o q 0 F)(_M:OrM H0 n p o s ns ts q kind L W E N Ks x9 e0 0 [] va K m)
  (_hQ:∀va F K m,OrF n p o q q.order.length F->OrM H0 n p o s ns ts q kind L W E N Ks x9 (yg N q.order q.order.length e0).2 q.order.length (yg N q.order q.order.length e0).1 va K m->Q .normal F K m []),aE ZA pG F K m [] (fy 4 Q)
theorem RV {q:cM}(h0:q.order=[]):O28 q:=by
 intro n p o hpn hon hpo H0 s ns ts kind L W E N hN Ks x9 hvo e0 F K m Q va hF M hQ;refine aE.Py 0 (eE.step ?_);have amy:=hF.f111;rw[h0]at amy;simp[ZA,amy,hF.f112];obtain⟨f0,f2,f4,f6,f110,f111,f112⟩:=hF;refine hQ va _ K m ⟨by simp[f0],by simp[f2],by simp[f4],by simp[f6],by simp[f110],by simp[f111],by simp[f112,h0]⟩ ?_;simpa[h0,yg]using M
theorem au.amP {K:Hp}{m:Nat}{v:AV}{l l':List AV}{len sz:Nat}{h:Hf}(ho:au K m v l len sz)(hz:0<sz)(hh:∀c,blk v=some c->h c=K.get c)(hl:bh h l l'):eY h v (.ds l' len sz):=by
 obtain⟨s',rfl⟩:∃s',sz=s'+1:=⟨sz - 1,by omega⟩;obtain⟨h0,⟨rfl,rfl⟩|⟨b,kk,rfl,hb,hk,ho⟩⟩:=ho
 ·have:l=[]:=by simpa using h0
  subst this;cases hl;exact .nil _
 obtain⟨u,z,bs,t,rfl,hg⟩:=ho.fX (o:=0) (c:=len*(s'+1)) (by omega);refine .sl _ _ _ _ _ _ _ _ _ _ ((hh b rfl).trans hk) hg ?_;rw[drop_zero,eZ (by omega)];exact hl
theorem akO {F F2:Fr}{K:Hp}{m n o:Nat}{kind:Int}{ns:List (List Nat)}{ts:List bo}{vn vt:AV}(hon:o≠n+1) (hF:∀(t:Nat) v,F2.get t=some v->F.get t=some v) (ks:K.get (n+1)=aG 2 [vn,vt])
  (ko:K.get o=aG 25 (jU kind vt (.al (.slice none 0 0)) (.al (.slice none 0 0)) (.al (.slice none 0 0)) (.al (.slice none 0 0)) (.al (.slice none 0 0)) (.al (.slice none 0 0)) false false 0))(on:au K m vn (cK.l ns) ns.length 1)(ot:au K m vt (aA.l ts) ts.length 4)
  (dn:∀b,blk vn=some b->b≠n+1/\b≠o)(dt:∀b,blk vt=some b->b≠n+1/\b≠o):
  ∃h K2,ez h F K F2 K2/\K2.get (n+1)=aG 2 (lC ns ts)/\K2.get o=aG 25 (G8 kind ts (.al (.slice none 0 0)))/\∀b,b≠n+1->b≠o->K2.get b=if blk vn=some b∨blk vt=some b then none else K.get b:=by
 have dl:∀(v:AV) (H:Hp) (b:Nat),(match blk v with
  |some c=>H.put c none
  |none=>H:Hp).get b=if blk v=some b then none else H.get b:=by
  intro v H b
  cases hb:blk v with
  |none=>simp
  |some c=>simp[eq_comm]
 let h:Hf:=λ b=>if blk vn=some b∨blk vt=some b then K.get b else none
 let K1:Hp:=(match blk vn with
  |some c=>K.put c none
  |none=>K)
 let K2:Hp:=(match blk vt with
  |some c=>K1.put c none
  |none=>K1)
 have hK2:∀b,K2.get b=if blk vn=some b∨blk vt=some b then none else K.get b:=by
  intro b;have e1:K2.get b=if blk vt=some b then none else K1.get b:=dl vt K1 b
  have e2:K1.get b=if blk vn=some b then none else K.get b:=dl vn K b
  rw[e1,e2]
  by_cases h1:blk vn=some b<;>by_cases h2:blk vt=some b<;>simp[h1,h2]
 have zn:eY h vn (cK.ds ns):=on.amP (by omega) (λ c hc=>by simp[h,hc]) (bh.pure (cK.nR ns));have zt:eY h vt (aA.ds ts):=ot.amP (by omega) (λ c hc=>by simp[h,hc]) (bh.pure (aA.nR ts));refine⟨h,(K2.put (n+1) (aG 2 (lC ns ts))).put o (aG 25 (G8 kind ts (.al (.slice none 0 0)))),⟨λ b k hb=>?_,λ b hb=>?_,λ t v hv=>⟨v,hF t v hv,.inl rfl⟩,λ b y hb=>?_⟩,by simp[Ne.symm hon],by simp,λ b h1 h2=>?_⟩
 ·have hb:(if blk vn=some b∨blk vt=some b then K.get b else none)=some k:=hb
  split at hb
  ·exact hb
  cases hb
 ·have hb:(if blk vn=some b∨blk vt=some b then K.get b else none)≠none:=hb
  by_cases hc:blk vn=some b∨blk vt=some b
  ·have hne:b≠n+1/\b≠o:=by
    rcases hc with hc|hc
    ·exact dn b hc
    exact dt b hc
   simp[hne.1,hne.2,hK2,hc]
  simp[hc]at hb
 ·by_cases h1:b=o
  ·subst h1;simp at hb;subst hb;exact⟨_,ko,nw.bz (by simp[jU,G8];exact .inr zt) rfl⟩
  by_cases h2:b=n+1
  ·subst h2;simp[h1]at hb;subst hb;exact⟨_,ks,nw.bz (by simp[lC];exact⟨.inr zn,.inr zt⟩) rfl⟩
  simp only[Tr.get_put,h1,h2,if_false,hK2]at hb
  split at hb
  ·cases hb
  exact⟨y,hb,.inl rfl⟩
 simp[h1,h2,hK2]
def jJ (s:bB)(q:cM)(kind err:Int):mZ×Int:=
 if mi s q.ay q.ay.length err≠0 then ({kind:=kind},mi s q.ay q.ay.length err)else
 ({kind:=kind,wM:=q.ay.map s.tb,on:=(qA (q.ay.map Src.nm) (q.ay.map s.tb) q.ay q.ay.length 0).1,
   items:=(bX (q.ay.map Src.nm) (q.ay.map s.tb) q (qA (q.ay.map Src.nm) (q.ay.map s.tb) q.ay q.ay.length 0).2).1,
   names:=(bX (q.ay.map Src.nm) (q.ay.map s.tb) q (qA (q.ay.map Src.nm) (q.ay.map s.tb) q.ay q.ay.length 0).2).2.1,
   kinds:=(bX (q.ay.map Src.nm) (q.ay.map s.tb) q (qA (q.ay.map Src.nm) (q.ay.map s.tb) q.ay q.ay.length 0).2).2.2.1,
   cond:=(fG (q.ay.map Src.nm) (q.ay.map s.tb) q.cond (bX (q.ay.map Src.nm) (q.ay.map s.tb) q (qA (q.ay.map Src.nm) (q.ay.map s.tb) q.ay q.ay.length 0).2).2.2.2).1,
   order:=(yg (bX (q.ay.map Src.nm) (q.ay.map s.tb) q (qA (q.ay.map Src.nm) (q.ay.map s.tb) q.ay q.ay.length 0).2).2.1 q.order q.order.length (fG (q.ay.map Src.nm) (q.ay.map s.tb) q.cond (bX (q.ay.map Src.nm) (q.ay.map s.tb) q (qA (q.ay.map Src.nm) (q.ay.map s.tb) q.ay q.ay.length 0).2).2.2.2).2).1,
   sS:=q.sS,limited:=q.limited,limit:=q.limit},
  (yg (bX (q.ay.map Src.nm) (q.ay.map s.tb) q (qA (q.ay.map Src.nm) (q.ay.map s.tb) q.ay q.ay.length 0).2).2.1 q.order q.order.length (fG (q.ay.map Src.nm) (q.ay.map s.tb) q.cond (bX (q.ay.map Src.nm) (q.ay.map s.tb) q (qA (q.ay.map Src.nm) (q.ay.map s.tb) q.ay q.ay.length 0).2).2.2.2).2).2)
theorem cM.c12 (q:cM)(h:12<q.cells.length):q.cells[12]=Fe.ds q.order:=by simp[cM.cells]
theorem cM.c13 (q:cM)(h:13<q.cells.length):q.cells[13]=.bool q.limited:=by simp[cM.cells]
theorem cM.c14 (q:cM)(h:14<q.cells.length):q.cells[14]=zI q.limit:=by simp[cM.cells]
theorem cM.cc (q:cM):(q.cells.drop 4).take 8=q.cond.cells:=by
 simp only[cM.cells,cons_append,nil_append,drop_succ_cons,drop_zero];rw[take_append_of_le_length (by simp)];simp
structure cM.dz (s:bB)(q:cM):Prop where
 k:(aB (q.ay.map s.tb)).length+q.items.length<=aM
 s:q.ay.length<=aM
 o:q.order.length<=aM
 it:∀x∈q.items,x.e.sz<=aM/\x.e.may=true
 sr:∀x∈q.ay,x.cond.sz<=aM/\x.cond.maybe=true
 cz:q.cond.sz<=aM
 cm:q.cond.maybe=true
theorem Hv (ns:List (List Nat))(ts:List bo)(q:cM)(e:Int):(bX ns ts q e).2.1.length<=(aB ts).length+q.items.length:=by
 have hn:(namesT ts).length=(aB ts).length:=by simp[namesT,aB,bo.kinds,length_flatMap]
 unfold bX
 split
 ·simp[hn]
 simp
theorem aaD (s:bB)(hs:s.dz)(q:cM)(hq:q.dz s)(hC:C25 q.cond)(hS:∀x∈q.ay,C25 x.cond)(hI:I76 q)(hO:O28 q)(kind:Int)(p o:Nat)(err:Int)(H:Hp)(n:Nat)(hpn:p<n)(hon:o<n)(hpo:p≠o)(hp:H.get p=some (eg s err))(ho:H.get o=aG 25 (lj kind)):
  bc pG 56 [.ptr p 0,q.av,.ptr o 0] H n (.aX []) ((H.put p (some (eg s (jJ s q kind err).2))).put o (some (.cells 25 [] (jJ s q kind err).1.cells .nil))) n:=by
 refine ais (args:=[q.av]) c56 (by simp[A56]) (by simp[cM.av,cM.pure]) hpn hon hpo hp ho (aJ.jI (by simp[lj])) (aJ.jI (by simp)) λ F H0 hF htop hp0 ho0=>?_;have q1:=ga hpn;have q':=KT hpn;have r':=KT hon
 have hcl:∀t∈q.ay.map s.tb,t.cols.length<=aM:=by
  intro t ht;obtain⟨x,_,rfl⟩:=mem_map.1 ht;exact gU (Q:=λ t:bo=>t.cols.length<=aM) (by simp[bo.zero]) hs.tc
 simp[A56,hF,cM.av,cM.c3,aL.aD];generalize hK:Tr.put _ (n+1) _=K0;have k0:∀c,c<n->K0.get c=H0.get c:=λ c hc=>by rw[<-hK];simp[ga hc]
 have kn:K0.get n=aG 15 q.cells:=by rw[<-hK];simp
 have ks:K0.get (n+1)=aG 2 [.al (.slice none 0 0),.al (.slice none 0 0)]:=by rw[<-hK];simp
 have kt:cA K0 (n+1+1):=λ c hc=>by
  have e1:¬c=n:=by omega
  have e2:¬c=n+1:=by omega
  rw[<-hK];simp[e1,e2,htop c (by omega)]
 clear hK;refine RZ n p o hpn hon hpo H0 s hs q hq.s kind err _ K0 (n+1+1) _ (.al (.slice none 0 0)) (.al (.slice none 0 0)) ⟨by simp[hF],by simp[hF],by simp,by simp,by simp,by simp,by simp⟩ ⟨by omega,kt,λ b h1 _ _=>k0 b h1,(k0 p hpn).trans hp0,kn,ks,(k0 o hon).trans ho0,by simpa using au.nil _ _ 1,by simpa using au.nil _ _ 4,by simp,by simp⟩ λ vn vt F1 K1 m1 S1 M1=>?_;clear hF k0 kn ks kt htop hp0 ho0;obtain⟨f0,f2,f4,f6,_,_,_⟩:=S1;have kp1:=M1.kp;have ks1:=M1.ks;have ko1:=M1.ko;have hm1:=M1.hm;have aho:=M1.on;have TM:=M1.ot;rw[take_length]at aho TM;have ade:K1.get p=aG 3 [aA.ds s.tables,aQ.ds s.indexes,zI (mi s q.ay q.ay.length err)]:=kp1
 have hqb:jJ s q kind err=if mi s q.ay q.ay.length err≠0 then ({kind:=kind},mi s q.ay q.ay.length err)else (jJ s q kind err):=by
  unfold jJ;split<;>rfl
 by_cases h0:mi s q.ay q.ay.length err=0
 ·simp only[lj]at ko1;obtain⟨hl1,hl2⟩:=TM.Aw;have hl3:=TM.cO;have kn1:=M1.kn;have no:(n=o)=False:=by simp only[eq_iff_iff,iff_false];omega
  simp[IH,V3,V2,f0,f2,f4,f6,ade,h0,ks1,ko1,hl1,hl2,hl3,no,kn1,cM.c3,aL.aD];have g2:∀b,b≠o->(K1.put o (aG 25 (jU kind vt (.al (.slice none 0 0)) (.al (.slice none 0 0)) (.al (.slice none 0 0)) (.al (.slice none 0 0)) (.al (.slice none 0 0)) (.al (.slice none 0 0)) false false 0))).get b=K1.get b:=λ b hb=>by simp[hb]
  have o2:(K1.put o (aG 25 (jU kind vt (.al (.slice none 0 0)) (.al (.slice none 0 0)) (.al (.slice none 0 0)) (.al (.slice none 0 0)) (.al (.slice none 0 0)) (.al (.slice none 0 0)) false false 0))).get o=aG 25 (jU kind vt (.al (.slice none 0 0)) (.al (.slice none 0 0)) (.al (.slice none 0 0)) (.al (.slice none 0 0)) (.al (.slice none 0 0)) (.al (.slice none 0 0)) false false 0):=by simp
  simp only[jU]at g2 o2;generalize Tr.put K1 o _=K2 at g2 o2 ⊢;generalize hF2:(Fp 66 _ _:Fr)=F2;have w0:F2.get 0=some (.ptr p 0):=by rw[<-hF2];simp[f0]
  have w2:F2.get 2=some (.ptr o 0):=by rw[<-hF2];simp[f2]
  have w4:F2.get 4=some (.ptr n 0):=by rw[<-hF2];simp[f4]
  have w6:F2.get 6=some (.ptr (n+1) 0):=by rw[<-hF2];simp[f6]
  have yC:F2.get 64=some (gA.ds q.ay):=by rw[<-hF2];simp
  have w65:F2.get 65=some (zI (q.ay.length:Int)):=by rw[<-hF2];simp
  have w66:F2.get 66=some (zI ((0:Nat):Int)):=by rw[<-hF2];simp
  clear hF2;have dn:=M1.dn;have dt:=M1.dt
  obtain⟨hh,K3,hsh,s3,o3,g3⟩:=akO (F:=F2) (F2:=tN F2 [0,2,4,6,64,65,66]) (K:=K2) (m:=m1) (n:=n) (o:=o) (kind:=kind) (ns:=q.ay.map Src.nm) (ts:=q.ay.map s.tb) (vn:=vn) (vt:=vt) (by omega) (λ t v hv=>yT hv) ((g2 (n+1) (by omega)).trans ks1) o2
   (by rw[length_map];exact aho.frame (aP _) λ c hc=>g2 c (by have:=(dn c hc).1;omega)) (by rw[length_map];exact TM.frame (aP _) λ c hc=>g2 c (by have:=dt c hc;omega)) (λ b hb=>by have:=(dn b hb).1;omega) (λ b hb=>by have:=dt b hb;omega)
  have bk3:∀b,b<n+2->b≠n+1->b≠o->K3.get b=K1.get b:=λ b h1 h2 h3=>by
   rw[g3 b h2 h3,ah,g2 b h3];rintro(h|h)
   ·have:=(dn b h).1;omega
   have:=dt b h;omega
  have t3:cA K3 m1:=λ b hb=>by
   rw[g3 b (by omega) (by omega)]
   split
   ·rfl
   rw[g2 b (by omega)];exact M1.tp b hb
  have Q3:QyM H0 n p o s (q.ay.map Src.nm) (q.ay.map s.tb) q 0 K3 m1:=⟨hm1,t3,λ b h1 h2 h3=>(bk3 b (by omega) (by omega) h3).trans (M1.kf b h1 h2 h3),by rw[bk3 p (by omega) (by omega) hpo,kp1,h0],(bk3 n (by omega) (by omega) (by omega)).trans kn1,s3⟩;have qb:(aB (q.ay.map s.tb)).length<=aM:=by have:=hq.k;omega
  refine RY n p o hpn hon hpo H0 s (q.ay.map Src.nm) (q.ay.map s.tb) (by simp) qb (by simpa using hq.s) hcl q (by simp) hS kind 0 _ K2 m1 _ ⟨hh,_,K3,hsh,.al (.slice none 0 0),rfl,⟨(eI (by simp)).trans w0,(eI (by simp)).trans w2,(eI (by simp)).trans w4,(eI (by simp)).trans w6,(eI (by simp)).trans yC,(eI (by simp)).trans w65,(eI (by simp)).trans w66⟩,⟨Q3,o3,by simpa using au.nil _ _ 1,by simp⟩,rfl⟩ λ x9 F4 K4 m4 S4 M4=>?_;have hb0:jJ s q kind err=jJ s q kind err:=rfl;rw[jJ,ah (by simpa using h0)];have hnl:=Hv (q.ay.map Src.nm) (q.ay.map s.tb) q (qA (q.ay.map Src.nm) (q.ay.map s.tb) q.ay q.ay.length 0).2;have hkq:=hq.k;have hlq:(q.ay.map Src.nm).length=(q.ay.map s.tb).length:=by simp
  have hsq:=hq.s;have al9:(q.ay.map s.tb).length<=aM:=by simpa using hsq
  have hol:=KL (q.ay.map Src.nm) (q.ay.map s.tb) q.ay 0 q.ay.length;generalize q.ay.map Src.nm=ns at *;generalize q.ay.map s.tb=ts at *;clear hsh g3 bk3 t3 Q3 s3 o3 w0 w2 w4 w6 yC w65 w66 g2 o2 K3 K2 dn dt aho TM M1 f0 f2 f4 f6;generalize qA ns ts q.ay q.ay.length 0=ON at *;obtain⟨L,e4⟩:=ON;obtain⟨f0,f2,f4,f6,_,_,_⟩:=S4;have N4:=M4.mem;have hm4:=N4.hm;have ks4:=N4.ks;have kn4:=N4.kn;have ko4:=M4.ko;simp only at hol hnl M4 N4 ko4 ⊢;simp only[lC]at ks4;simp[VZ,f0,f2,f4,f6,ks4,kn4];have oa4:=M4.oa;have da4:=M4.da;have hv1:=oa4.cO
  have hvl:cT m4 [aA.ds ts,x9,(.al (.slice none 0 0)),(.al (.slice none 0 0))]:=by
   obtain⟨_,⟨rfl,_⟩|⟨b,k,rfl,hb,_⟩⟩:=oa4
   ·simp[Pure.jI]
   simp[Pure.jI,hb]
  have hit:=hI ns ts hlq qb al9 hcl s hkq ⟨kind,aA.ds ts,x9,(.al (.slice none 0 0)),(.al (.slice none 0 0)),false,false,0⟩ ⟨by simp,hv1,by simp,by simp⟩ p o e4 K4 m4 (by omega) (by omega) hpo hvl N4.kp ko4;refine aw.ok hit ?_;generalize bX ns ts q e4=IT at *;obtain⟨E,N,Ks,e5⟩:=IT;simp only[QC.out]at hnl ⊢;have g5:∀b,b≠p->b≠o->((K4.put p (some (eg s e5))).put o (aG 25 (jU kind (aA.ds ts) x9 (.al (.slice none 0 0)) (eX.ds E) (cK.ds N) (cQ.ds Ks) (.al (.slice none 0 0)) false false 0))).get b=K4.get b:=λ b h1 h2=>by simp[h1,h2]
  have p5:((K4.put p (some (eg s e5))).put o (aG 25 (jU kind (aA.ds ts) x9 (.al (.slice none 0 0)) (eX.ds E) (cK.ds N) (cQ.ds Ks) (.al (.slice none 0 0)) false false 0))).get p=some (eg s e5):=by simp[hpo]
  have o5:((K4.put p (some (eg s e5))).put o (aG 25 (jU kind (aA.ds ts) x9 (.al (.slice none 0 0)) (eX.ds E) (cK.ds N) (cQ.ds Ks) (.al (.slice none 0 0)) false false 0))).get o=aG 25 (jU kind (aA.ds ts) x9 (.al (.slice none 0 0)) (eX.ds E) (cK.ds N) (cQ.ds Ks) (.al (.slice none 0 0)) false false 0):=by simp
  generalize Tr.put (K4.put p _) o _=K5 at g5 p5 o5 ⊢;have N5:=N4.next hpn hon (aP _) (λ b hb=>(g5 b (by omega) (by omega)).trans (N4.tp b hb)) (λ b _ h2 h3=>g5 b h2 h3) p5;have QJ:au K5 m4 x9 (dA.l L) q.ay.length 1:=oa4.frame (aP _) λ b hb=>g5 b (by have:=da4 b hb;omega) (by have:=da4 b hb;omega);have ks5:=N5.ks;have kn5:=N5.kn;simp only[lC]at ks5;simp only[jU]at o5;have hcd:=hC ns ts hlq qb al9 hcl s p e5 K5 m4 (by omega) p5;have hav:q.cond.av=.agg q.cond.cells 8:=Eq.trans rfl rfl;rw[hav]at hcd;simp only[lC]at hcd;simp[VY,f0,f2,f4,f6,ks5,kn5,cM.cc];refine aw.ok hcd ?_;generalize fG ns ts q.cond e5=CD at *;obtain⟨W,e6⟩:=CD;simp only;have op:(o=p)=False:=by simp[Ne.symm hpo]
  have no:(n=o)=False:=by simp only[eq_iff_iff,iff_false];omega
  have np:(n=p)=False:=by simp only[eq_iff_iff,iff_false];omega
  simp[op,o5,VX,f4,no,np,kn5,cM.c12,aL.aD];generalize hK6:Tr.put (K5.put p _) o _=K6;have g6:∀b,b≠p->b≠o->K6.get b=K5.get b:=λ b h1 h2=>by rw[<-hK6];simp[h1,h2]
  have p6:K6.get p=some (eg s e6):=by rw[<-hK6];simp[hpo]
  have o6:K6.get o=aG 25 (aaQ kind ts x9 W E N Ks (.al (.slice none 0 0))):=by rw[<-hK6];simp[aaQ,jU]
  clear hK6;have N6:=N5.next hpn hon (aP _) (λ b hb=>(g6 b (by omega) (by omega)).trans (N5.tp b hb)) (λ b _ h2 h3=>g6 b h2 h3) p6
  have Pz:au K6 m4 x9 (dA.l L) L.length 1:=by
   rw[hol];exact QJ.frame (aP _) λ b hb=>g6 b (by have:=da4 b hb;omega) (by have:=da4 b hb;omega)
  refine hO n p o hpn hon hpo H0 s ns ts kind L W E N (by omega) Ks x9 hv1 e6 _ K6 m4 _ (.al (.slice none 0 0)) ⟨by simp[f0],by simp[f2],by simp[f4],by simp[f6],by simp,by simp,by simp⟩ ⟨N6,o6,Pz,da4,by simpa using au.nil _ _ 2,by simp⟩ λ va F7 K7 m7 S7 M7=>?_;have hor:=Ei N q.order e6 q.order.length;generalize yg N q.order q.order.length e6=OR at *;obtain⟨O,e7⟩:=OR;simp only at hor M7 ⊢;obtain⟨f0,f2,f4,f6,_,_,_⟩:=S7;have kn7:=M7.mem.kn;have ko7:=M7.ko;simp only[aaQ,jU]at ko7;have zv:eY (above n K7) x9 (dA.ds L):=M7.ov.EV (λ b hb=>by have:=M7.dv b hb;omega) (bh.pure (dA.nR L)) (by omega)
  have zo:eY (above n K7) va (Up.ds O):=by
   have:=M7.oa.EV (n0:=n) (λ b hb=>by have:=(M7.da b hb).1;omega) (bh.pure (Up.nR O)) (by omega);rw[aL.ds,hor];exact this
  simp only[DY,VW,kZ];refine cj.of (cN (P:=pG)) ?_;simp[ab,f2,f4,kn7,ko7,no,cM.c0,cM.c13,cM.c14];have zm:∀K':Hp,(∀b,b≠o->K'.get b=K7.get b)->eY (above n K') x9 (dA.ds L)/\eY (above n K') va (Up.ds O):=λ K' h=>⟨zv.mono (Ge λ b k h1 h2=>⟨h1,(h b (by omega)).trans h2⟩),zo.mono (Ge λ b k h1 h2=>⟨h1,(h b (by omega)).trans h2⟩)⟩;refine⟨.pure _ (by simp),λ c h1 h2 h3=>by simp[h3,M7.mem.kf c h1 h2 h3],by simp[hpo];exact M7.mem.kp,?_⟩;generalize hK9:Tr.put (Tr.put (Tr.put K7 o _) o _) o _=K9;have zz:=zm K9 λ b hb=>by rw[<-hK9];simp[hb]
  simp[mZ.cells,bo.zero,mb.zero];exact⟨.inr zz.1,.inr zz.2⟩
 rw[hqb];simp[IH,f0,ade,h0];exact⟨.pure _ (by simp),M1.kf,rfl,_,ko1,rfl,by simp[lj,mZ.cells,bo.zero,mb.zero]⟩
theorem cM.g1 (q:cM):q.cells[1]?=some (.bool q.star):=by simp[cM.cells]
theorem cM.g2 (q:cM):q.cells[2]?=some (Fg.ds q.items):=by simp[cM.cells]
theorem cM.g3 (q:cM):q.cells[3]?=some (gA.ds q.ay):=by simp[cM.cells]
theorem cM.g12 (q:cM):q.cells[12]?=some (Fe.ds q.order):=by
 simp only[cM.cells];rw[getElem?_append_right (by simp)];simp
theorem cM.Lt (q:cM):q.cells[13]?=some (.bool q.limited):=by
 simp only[cM.cells];rw[getElem?_append_right (by simp)];simp
theorem cM.g14 (q:cM):q.cells[14]?=some (zI q.limit):=by
 simp only[cM.cells];rw[getElem?_append_right (by simp)];simp
theorem bN.g0 (x:bN):x.cells[0]?=some (zI x.kind):=by simp[bN.cells]
theorem bN.g1 (x:bN):x.cells[1]?=some (.str x.table):=by simp[bN.cells]
theorem bN.g2 (x:bN):x.cells[2]?=some (.str x.name):=by simp[bN.cells]
theorem bN.g3 (x:bN):x.cells[3]?=some (bL.ds x.cols):=by simp[bN.cells]
theorem bN.g4 (x:bN):x.cells[4]?=some (cK.ds x.on):=by simp[bN.cells]
theorem bN.g5 (x:bN):x.cells[5]?=some (.bool x.uniq):=by simp[bN.cells]
theorem bN.g6 (x:bN):x.cells[6]?=some (dA.ds x.rows):=by simp[bN.cells]
theorem bN.g7 (x:bN):x.cells[7]?=some (ahQ.ds x.sets):=by simp[bN.cells]
theorem bN.g8 (x:bN):x.cells[8]?=some (zI x.cond.op):=by
 obtain⟨_,_,_,_,_,_,_,_,⟨op,v,t,m,dT,args⟩,_⟩:=x;simp[bN.cells,Ex.cells,Ex.op]
theorem cM.g0 (q:cM):q.cells[0]?=some (.bool q.sS):=by simp[cM.cells]
theorem cM.g4 (q:cM):q.cells[4]?=some (zI q.cond.op):=by
 obtain⟨_,_,_,_,⟨op,v,t,m,dT,args⟩,_⟩:=q;simp[cM.cells,Ex.cells,Ex.op]
theorem bN.tq (x:bN):(x.cells.drop 16).take 15=x.q.cells:=by rw[bN.cq,eZ (by simp)]
def LI (a b:Ex):Bool:=decide (a.op=b.op)&&(decide (b.op≠0)||decide (a.bare 0))
def yO (x t:bN):Bool:=decide (x.table=t.table)&&(decide (x.name=t.name)&&(decide (x.cols.length=t.cols.length)&&(decide (x.on.length=t.on.length)&&((x.uniq == t.uniq)&&(decide (x.rows.length=t.rows.length)&&(decide (x.sets.length=t.sets.length)&&(LI x.cond t.cond &&
 ((x.q.sS == t.q.sS)&&((x.q.star == t.q.star)&&(decide (x.q.items.length=t.q.items.length)&&(decide (x.q.ay.length=t.q.ay.length)&&(LI x.q.cond t.q.cond&&(decide (x.q.order.length=t.q.order.length)&&((x.q.limited == t.q.limited)&&decide (x.q.limit=t.q.limit)))))))))))))))
set_option maxHeartbeats 4000000 in
theorem af5 (x t:bN):ae pG 114 [.agg x.cells 31,.agg t.cells 31] (.bool (yO x t)):=by
 refine pv c114 λ F hF=>?_;have la:=uP x.cond;have lb:=uP x.q.cond;have ax:aY x.q.cells=true:=by simp[cM.cells]
 have at':aY t.q.cells=true:=by simp[cM.cells]
 have hav:x.cond.av=.agg x.cond.cells 8:=Eq.trans rfl rfl;have hbv:x.q.cond.av=.agg x.q.cond.cells 8:=Eq.trans rfl rfl;rw[hav]at la;rw[hbv]at lb;have x1:=x.g1;have x2:=x.g2;have x3:=x.g3;have x4:=x.g4;have x5:=x.g5;have x6:=x.g6;have x7:=x.g7;have x8:=x.g8;have xc:=x.cc;have xq:=x.tq;have xl:=x.bf;have t1:=t.g1;have t2:=t.g2;have t3:=t.g3;have t4:=t.g4;have t5:=t.g5;have t6:=t.g6;have t7:=t.g7;have t8:=t.g8;have tq:=t.tq;have tl:=t.bf;have y0:=x.q.g0;have y1:=x.q.g1;have y2:=x.q.g2;have y3:=x.q.g3;have y4:=x.q.g4;have y12:=x.q.g12;have y13:=x.q.Lt;have y14:=x.q.g14;have yc:=x.q.cc;have yl:=x.q.bf;have z0:=t.q.g0;have z1:=t.q.g1;have z2:=t.q.g2;have z3:=t.q.g3;have z4:=t.q.g4;have z12:=t.q.g12;have z13:=t.q.Lt;have z14:=t.q.g14;have zl:=t.q.bf;generalize hr:yO x t=R;unfold yO LI at hr;generalize x.cells=xs at *;generalize t.cells=ts at *;generalize x.q.cells=xqs at *;generalize t.q.cells=tqs at *;simp[A114,hF];simp only[Zh,kZ];refine cj.of (cN (P:=pG)) ?_;simp[ab,xl,tl,xq,tq,yl,zl,cG,dj,ax,at'];generalize hK:(Tr.put (Tr.put _ 2 _) 3 _:Hp)=K;have k0:K.get 0=aG 31 xs:=by rw[<-hK];simp
 have k1:K.get 1=aG 31 ts:=by rw[<-hK];simp
 have k2:K.get 2=aG 15 xqs:=by rw[<-hK];simp
 have k3:K.get 3=aG 15 tqs:=by rw[<-hK];simp
 clear hK;generalize hF0:(Fp 10 _ _:Fr)=F0;have f2:F0.get 2=some (.ptr 0 0):=by rw[<-hF0];simp[ab]
 have f3:F0.get 3=some (.ptr 1 0):=by rw[<-hF0];simp[ab]
 have f5:F0.get 5=some (.ptr 2 0):=by rw[<-hF0];simp
 have f6:F0.get 6=some (.ptr 3 0):=by rw[<-hF0];simp
 clear hF0 hF F;simp[Zg,f2,f3,k0,k1,x1,t1]
 by_cases h1n:¬x.table=t.table
 ·simp[h1n];exact .bool (by rw[<-hr];simp[h1n])
 have h1:=Classical.not_not.1 h1n;clear h1n;simp[f2,f3,k0,k1,x2,t2,h1]
 by_cases h2n:¬x.name=t.name
 ·simp[h2n];exact .bool (by rw[<-hr];simp[h2n])
 have h2:=Classical.not_not.1 h2n;clear h2n;simp[f2,f3,k0,k1,x3,t3,aL.aD,h2]
 by_cases h3n:¬x.cols.length=t.cols.length
 ·simp[h3n];exact .bool (by rw[<-hr];simp[h3n])
 have h3:=Classical.not_not.1 h3n;clear h3n;simp[f2,f3,k0,k1,x4,t4,aL.aD,h3]
 by_cases h4n:¬x.on.length=t.on.length
 ·simp[h4n];exact .bool (by rw[<-hr];simp[h4n])
 have h4:=Classical.not_not.1 h4n;clear h4n;simp[f2,f3,k0,k1,x5,t5,h4]
 by_cases h5n:¬(x.uniq == t.uniq)=true
 ·simp[h5n];exact .bool (by rw[<-hr];simp[h5n])
 have h5:=Classical.not_not.1 h5n;clear h5n;simp[f2,f3,k0,k1,x6,t6,aL.aD,h5]
 by_cases h6n:¬x.rows.length=t.rows.length
 ·simp[h6n];exact .bool (by rw[<-hr];simp[h6n])
 have h6:=Classical.not_not.1 h6n;clear h6n;simp[f2,f3,k0,k1,x7,t7,aL.aD,h6]
 by_cases h7n:¬x.sets.length=t.sets.length
 ·simp[h7n];exact .bool (by rw[<-hr];simp[h7n])
 have h7:=Classical.not_not.1 h7n;clear h7n;simp[f2,f3,k0,k1,x8,t8,h7]
 by_cases h8n:¬x.cond.op=t.cond.op
 ·simp[h8n];exact .bool (by rw[<-hr];simp[h8n])
 have h8:=Classical.not_not.1 h8n;clear h8n;simp[f3,k1,t8,h8]
 by_cases w8:t.cond.op=0
 ·simp[f2,k0,xc,w8,xl];refine aw.pure la ?_
  by_cases b8:¬x.cond.bare 0
  ·simp[b8];exact .bool (by rw[<-hr];simp[h8,w8,b8])
  have b8':=Classical.not_not.1 b8;clear b8;simp[f5,f6,k2,k3,y0,z0,b8']
  by_cases h9n:¬(x.q.sS == t.q.sS)=true
  ·simp[h9n];exact .bool (by rw[<-hr];simp[h9n])
  have h9:=Classical.not_not.1 h9n;clear h9n;simp[f5,f6,k2,k3,y1,z1,h9]
  by_cases AP:¬(x.q.star == t.q.star)=true
  ·simp[AP];exact .bool (by rw[<-hr];simp[AP])
  have h10:=Classical.not_not.1 AP;clear AP;simp[f5,f6,k2,k3,y2,z2,aL.aD,h10]
  by_cases AO:¬x.q.items.length=t.q.items.length
  ·simp[AO];exact .bool (by rw[<-hr];simp[AO])
  have h11:=Classical.not_not.1 AO;clear AO;simp[f5,f6,k2,k3,y3,z3,aL.aD,h11]
  by_cases AM:¬x.q.ay.length=t.q.ay.length
  ·simp[AM];exact .bool (by rw[<-hr];simp[AM])
  have h12:=Classical.not_not.1 AM;clear AM;simp[f5,f6,k2,k3,y4,z4,h12]
  by_cases AL:¬x.q.cond.op=t.q.cond.op
  ·simp[AL];exact .bool (by rw[<-hr];simp[AL])
  have h13:=Classical.not_not.1 AL;clear AL;simp[f6,k3,z4,h13]
  by_cases QP:t.q.cond.op=0
  ·simp[f5,k2,yc,QP,yl];refine aw.pure lb ?_
   by_cases b13:¬x.q.cond.bare 0
   ·simp[b13];exact .bool (by rw[<-hr];simp[h13,QP,b13])
   have U3:=Classical.not_not.1 b13;clear b13;simp[f5,f6,k2,k3,y12,z12,aL.aD,U3]
   by_cases mF:¬x.q.order.length=t.q.order.length
   ·simp[mF];exact .bool (by rw[<-hr];simp[mF])
   have pq:=Classical.not_not.1 mF;clear mF;simp[f5,f6,k2,k3,y13,z13,pq]
   by_cases mE:¬(x.q.limited == t.q.limited)=true
   ·simp[mE];exact .bool (by rw[<-hr];simp[mE])
   have h15:=Classical.not_not.1 mE;clear mE;simp[f5,f6,k2,k3,y14,z14,h15]
   by_cases mD:¬x.q.limit=t.q.limit
   ·simp[mD];exact .bool (by rw[<-hr];simp[mD])
   have lR:=Classical.not_not.1 mD;clear mD;simp[lR];exact .bool (by rw[<-hr];simp[h1,h2,h3,h4,h5,h6,h7,h8,w8,b8',h9,h10,h11,h12,h13,QP,U3,pq,h15,lR])
  simp[f5,f6,k2,k3,y12,z12,aL.aD,QP]
  by_cases mF:¬x.q.order.length=t.q.order.length
  ·simp[mF];exact .bool (by rw[<-hr];simp[mF])
  have pq:=Classical.not_not.1 mF;clear mF;simp[f5,f6,k2,k3,y13,z13,pq]
  by_cases mE:¬(x.q.limited == t.q.limited)=true
  ·simp[mE];exact .bool (by rw[<-hr];simp[mE])
  have h15:=Classical.not_not.1 mE;clear mE;simp[f5,f6,k2,k3,y14,z14,h15]
  by_cases mD:¬x.q.limit=t.q.limit
  ·simp[mD];exact .bool (by rw[<-hr];simp[mD])
  have lR:=Classical.not_not.1 mD;clear mD;simp[lR];exact .bool (by rw[<-hr];simp[h1,h2,h3,h4,h5,h6,h7,h8,w8,b8',h9,h10,h11,h12,h13,QP,pq,h15,lR])
 simp[f5,f6,k2,k3,y0,z0,w8]
 by_cases h9n:¬(x.q.sS == t.q.sS)=true
 ·simp[h9n];exact .bool (by rw[<-hr];simp[h9n])
 have h9:=Classical.not_not.1 h9n;clear h9n;simp[f5,f6,k2,k3,y1,z1,h9]
 by_cases AP:¬(x.q.star == t.q.star)=true
 ·simp[AP];exact .bool (by rw[<-hr];simp[AP])
 have h10:=Classical.not_not.1 AP;clear AP;simp[f5,f6,k2,k3,y2,z2,aL.aD,h10]
 by_cases AO:¬x.q.items.length=t.q.items.length
 ·simp[AO];exact .bool (by rw[<-hr];simp[AO])
 have h11:=Classical.not_not.1 AO;clear AO;simp[f5,f6,k2,k3,y3,z3,aL.aD,h11]
 by_cases AM:¬x.q.ay.length=t.q.ay.length
 ·simp[AM];exact .bool (by rw[<-hr];simp[AM])
 have h12:=Classical.not_not.1 AM;clear AM;simp[f5,f6,k2,k3,y4,z4,h12]
 by_cases AL:¬x.q.cond.op=t.q.cond.op
 ·simp[AL];exact .bool (by rw[<-hr];simp[AL])
 have h13:=Classical.not_not.1 AL;clear AL;simp[f6,k3,z4,h13]
 by_cases QP:t.q.cond.op=0
 ·simp[f5,k2,yc,QP,yl];refine aw.pure lb ?_
  by_cases b13:¬x.q.cond.bare 0
  ·simp[b13];exact .bool (by rw[<-hr];simp[h13,QP,b13])
  have U3:=Classical.not_not.1 b13;clear b13;simp[f5,f6,k2,k3,y12,z12,aL.aD,U3]
  by_cases mF:¬x.q.order.length=t.q.order.length
  ·simp[mF];exact .bool (by rw[<-hr];simp[mF])
  have pq:=Classical.not_not.1 mF;clear mF;simp[f5,f6,k2,k3,y13,z13,pq]
  by_cases mE:¬(x.q.limited == t.q.limited)=true
  ·simp[mE];exact .bool (by rw[<-hr];simp[mE])
  have h15:=Classical.not_not.1 mE;clear mE;simp[f5,f6,k2,k3,y14,z14,h15]
  by_cases mD:¬x.q.limit=t.q.limit
  ·simp[mD];exact .bool (by rw[<-hr];simp[mD])
  have lR:=Classical.not_not.1 mD;clear mD;simp[lR];exact .bool (by rw[<-hr];simp[h1,h2,h3,h4,h5,h6,h7,h8,w8,h9,h10,h11,h12,h13,QP,U3,pq,h15,lR])
 simp[f5,f6,k2,k3,y12,z12,aL.aD,QP]
 by_cases mF:¬x.q.order.length=t.q.order.length
 ·simp[mF];exact .bool (by rw[<-hr];simp[mF])
 have pq:=Classical.not_not.1 mF;clear mF;simp[f5,f6,k2,k3,y13,z13,pq]
 by_cases mE:¬(x.q.limited == t.q.limited)=true
 ·simp[mE];exact .bool (by rw[<-hr];simp[mE])
 have h15:=Classical.not_not.1 mE;clear mE;simp[f5,f6,k2,k3,y14,z14,h15]
 by_cases mD:¬x.q.limit=t.q.limit
 ·simp[mD];exact .bool (by rw[<-hr];simp[mD])
 have lR:=Classical.not_not.1 mD;clear mD;simp[lR];exact .bool (by rw[<-hr];simp[h1,h2,h3,h4,h5,h6,h7,h8,w8,h9,h10,h11,h12,h13,QP,pq,h15,lR])
def ny.ok (c:ny):Bool:=decide (bA c.name)&&(decide (1<=c.kind)&&decide (c.kind<=3))
def St1.ok (x:St1):Bool:=decide (bA x.name)&&x.e.may
structure Z7 (x:bN)(tc:List AV)(b:Bool)(F:Fr)(K:Hp)(n:Nat):Prop where
 f1:F.get 1=some (.ptr 0 0)
 f3:F.get 3=some (.ptr 1 0)
 f4:F.get 4=some (.bool b)
 k0:K.get 0=aG 31 x.cells
 k1:K.get 1=aG 31 tc
 hn:2<=n
theorem DN {α:Type}{l:List α}{i:Nat}(h:i<l.length)(f:α->Bool)(b:Bool):(b&&(l.take (i+1)).all f)=((b&&(l.take i).all f)&&f l[i]):=by
 rw[take_add_one,cE h,all_append];simp only[Option.toList,all_cons,all_nil,Bool.and_true,Bool.and_assoc]
structure RwF (x:bN)(i:Nat)(F:Fr):Prop where
 f136:F.get 136=some (dA.ds x.rows)
 f137:F.get 137=some (zI (x.rows.length:Int))
 f138:F.get 138=some (zI (i:Int))
theorem agQ (x:bN)(r:List Ex)(k:Nat)(hl:r.length<=aM)(hz:∀y∈r,y.sz<=aM)(tc:List AV)(b:Bool)(F:Fr)(K:Hp)(n:Nat)(Q:QA)(M:Z7 x tc b F K n)(W:RwF x k F)(amw:F.get 148=some (eX.ds r))(amv:F.get 149=some (zI (r.length:Int)))(amu:F.get 150=some (zI 0))
  (hQ:∀F' K' n',Z7 x tc (b&&r.all Ex.may) F' K' n'->RwF x k F'->Q .normal F' K' n' []):aE Gu pG F K n [] (fy 7 Q):=by
 unfold aM at hl;refine aE.of (λ t F K n ms=>∃i,t=r.length - i/\i<=r.length/\Z7 x tc (b&&(r.take i).all Ex.may) F K n/\RwF x k F/\F.get 148=some (eX.ds r)/\F.get 149=some (zI (r.length:Int))/\F.get 150=some (zI (i:Int))/\ms=[]) r.length ⟨0,by simp,by simp,by simpa using M,W,amw,amv,amu,rfl⟩ ?_;clear M W amw amv amu F K n;rintro t F K n ms ⟨i,rfl,hi,M,⟨f136,f137,f138⟩,f148,f149,f150,rfl⟩;obtain⟨f1,f3,f4,k0,k1,hn⟩:=M
 by_cases hlt:i<r.length
 ·have hx:=eX.ix (ik:=.i64) hlt;have hld:=λ H=>eX.mf r[i] (eX.l (r.drop (i+1))) H;have hta:=DN hlt Ex.may b;simp[Gu,f148,f149,f150,hlt,hx,Us];generalize hK1:Tr.put _ n (some (br.cells 8 [] r[i].cells .nil))=K1;have g0:K1.get 0=aG 31 x.cells:=by rw[<-hK1];simp[show ¬ 0=n by omega,k0]
  have g1:K1.get 1=aG 31 tc:=by rw[<-hK1];simp[show ¬ 1=n by omega,k1]
  have gn:K1.get n=some (.cells 8 [] r[i].cells .nil):=by rw[<-hK1];simp
  clear hK1;have hmy:=ac3 r[i] (hz _ (b6 hlt));have hav:r[i].av=.agg r[i].cells 8:=Eq.trans rfl rfl;rw[hav]at hmy;generalize hb:(b&&(r.take i).all Ex.may)=b1 at f4 hta
  have fin:∀(F4:Fr) (b2:Bool),F4.get 1=some (.ptr 0 0)->F4.get 3=some (.ptr 1 0)->F4.get 4=some (.bool b2)->RwF x k F4->F4.get 148=some (eX.ds r)->F4.get 149=some (zI (r.length:Int))->F4.get 150=some (zI (i:Int))->b2=(b1&&r[i].may)->VC pG IV F4 K1 (n+1) [] (uE (λ t F K n ms=>∃i,t=r.length - i/\i<=r.length/\Z7 x tc (b&&(r.take i).all Ex.may) F K n/\RwF x k F/\F.get 148=some (eX.ds r)/\F.get 149=some (zI (r.length:Int))/\F.get 150=some (zI (i:Int))/\ms=[]) (r.length - i) (fy 7 Q)):=by
   intro F4 b2 w1 w3 w4 ⟨afJ,afI,afH⟩ w38 w39 w40 hb2;simp[IV,w40,aC i (by omega)];refine⟨_,by omega,i+1,rfl,hlt,⟨by simp[w1],by simp[w3],?_,g0,g1,by omega⟩,⟨by simp[afJ],by simp[afI],by simp[afH]⟩,by simp[w38],by simp[w39],by simp⟩;rw[hta,<-hb2];simp[w4]
  cases b1 with
  |false =>
   simp[IW,f4];generalize hF3:(Fp 4 _ _:Fr)=F3;have:=fin F3 false (by rw[<-hF3];simp[f1]) (by rw[<-hF3];simp[f3]) (by rw[<-hF3];simp) ⟨by rw[<-hF3];simp[f136],by rw[<-hF3];simp[f137],by rw[<-hF3];simp[f138]⟩ (by rw[<-hF3];simp[f148]) (by rw[<-hF3];simp[f149]) (by rw[<-hF3];simp[f150]) (by simp);simpa using this
  |true =>
   simp[IW,f4,gn];refine aw.pure hmy ?_;simp;generalize hF3:(Fp 4 _ _:Fr)=F3;have:=fin F3 r[i].may (by rw[<-hF3];simp[f1]) (by rw[<-hF3];simp[f3]) (by rw[<-hF3];simp) ⟨by rw[<-hF3];simp[f136],by rw[<-hF3];simp[f137],by rw[<-hF3];simp[f138]⟩ (by rw[<-hF3];simp[f148]) (by rw[<-hF3];simp[f149]) (by rw[<-hF3];simp[f150]) (by simp);simpa using this
 have hie:i=r.length:=by omega
 subst hie;rw[take_length]at f4;simp[Gu,f149,f150];exact hQ _ K n ⟨by simp[f1],by simp[f3],by simp[f4],k0,k1,hn⟩ ⟨by simp[f136],by simp[f137],by simp[f138]⟩
def rowOk (r:List Ex):Bool:=decide (1<=r.length/\r.length<=16)&&r.all Ex.may
theorem agP (x:bN) (hl:x.rows.length<=aM) (hr:∀r∈x.rows,r.length<=aM/\∀y∈r,y.sz<=aM) (tc:List AV) (b:Bool) (F:Fr) (K:Hp) (n:Nat) (Q:QA) (M:Z7 x tc b F K n) (W:RwF x 0 F)
  (hQ:∀F' K' n',Z7 x tc (b&&x.rows.all rowOk) F' K' n'->Q .normal F' K' n' []):aE xU pG F K n [] (fy 5 Q):=by
 unfold aM at hl;refine aE.of (λ t F K n ms=>∃i,t=x.rows.length - i/\i<=x.rows.length/\Z7 x tc (b&&(x.rows.take i).all rowOk) F K n/\RwF x i F/\ms=[]) x.rows.length ⟨0,by simp,by simp,by simpa using M,W,rfl⟩ ?_;clear M W F K n;rintro t F K n ms ⟨i,rfl,hi,M,⟨f136,f137,f138⟩,rfl⟩;obtain⟨f1,f3,f4,k0,k1,hn⟩:=M
 by_cases hlt:i<x.rows.length
 ·have hx:=dA.ix (ik:=.i64) hlt;rw[Be]at hx;obtain⟨hr1,hr2⟩:=hr _ (b6 hlt);have hta:=DN hlt rowOk b;generalize hb:(b&&(x.rows.take i).all rowOk)=b1 at f4 hta
  have fin:∀(F4:Fr) (b2:Bool),Z7 x tc b2 F4 K n->RwF x i F4->F4.get 10=some (eX.ds x.rows[i])->b2=(b1&&decide (1<=x.rows[i].length/\x.rows[i].length<=16))->VC pG IX F4 K n [] (pW pG (.block 7 (.loop Gu)) (fy 6 (pW pG IU (uE (λ t F K n ms=>∃i,t=x.rows.length - i/\i<=x.rows.length/\Z7 x tc (b&&(x.rows.take i).all rowOk) F K n/\RwF x i F/\ms=[]) (x.rows.length - i) (fy 5 Q))))):=by
   intro F4 b2 ⟨w1,w3,w4,_,_,_⟩ ⟨afJ,afI,afH⟩ w10 hb2;simp[IX,w10,aL.aD];refine agQ x x.rows[i] i hr1 hr2 tc b2 _ K n _ ⟨by simp[w1],by simp[w3],by simp[w4],k0,k1,hn⟩ ⟨by simp[afJ],by simp[afI],by simp[afH]⟩ (by simp) (by simp) (by simp) λ F5 K5 n5 M5 W5=>?_;have am1:=W5.f138;simp[IU,am1,aC i (by omega)];refine⟨_,by omega,i+1,rfl,hlt,⟨by simp[M5.f1],by simp[M5.f3],?_,M5.k0,M5.k1,M5.hn⟩,⟨by simp[W5.f136],by simp[W5.f137],by simp⟩⟩;have:=M5.f4;rw[hta,rowOk,<-Bool.and_assoc,<-hb2];simp[this]
  cases b1 with
  |false =>
   simp[xU,f136,f137,f138,hlt,hx,f4];generalize hF3:(Fp 4 _ _:Fr)=F3;have:=fin F3 false ⟨by rw[<-hF3];simp[f1],by rw[<-hF3];simp[f3],by rw[<-hF3];simp,k0,k1,hn⟩ ⟨by rw[<-hF3];simp[f136],by rw[<-hF3];simp[f137],by rw[<-hF3];simp[f138]⟩ (by rw[<-hF3];simp) (by simp);simpa using this
  |true =>
   simp[xU,f136,f137,f138,hlt,hx,f4,aL.aD];refine aw.pure (afM (x.rows[i].length:Int) 16) ?_;simp;generalize hF3:(Fp 4 _ _:Fr)=F3
   have:=fin F3 (decide ((1:Int)<=(x.rows[i].length:Int)/\(x.rows[i].length:Int)<=16)) ⟨by rw[<-hF3];simp[f1],by rw[<-hF3];simp[f3],by rw[<-hF3];simp,k0,k1,hn⟩ ⟨by rw[<-hF3];simp[f136],by rw[<-hF3];simp[f137],by rw[<-hF3];simp[f138]⟩ (by rw[<-hF3];simp) (by
    rw[Bool.true_and]
    congr 1
    exact propext (by omega))
   simpa using this
 have hie:i=x.rows.length:=by omega
 subst hie;rw[take_length]at f4;simp[xU,f137,f138];exact hQ _ K n ⟨by simp[f1],by simp[f3],by simp[f4],k0,k1,hn⟩
@[simp] theorem aoi (e:Eff)(F:Fr)(n:Nat)(A B C D:Hp)(As:List Hp):fg e F n 4 (A::B::C::D::As)=(vE (e F A n)).bind λ v=>Z3 v ((vE (e F B n)).bind λ v=>Z3 v ((vE (e F C n)).bind λ v=>Z3 v (vE (e F D n)))):=by rw[jh e F n 2,jh e F n 1,jh e F n 0,mP]
def NV (v v':AV):Prop:=v=v'∨(v=.al (.slice none 0 0)/\∃k,v'=.ds [] 0 (k+1))
def NL:List AV->List AV->Prop
 |[],[]=>True
 |v::l,v'::l'=>NV v v'/\NL l l'
 |_,_=>False
@[simp] theorem atV:NL [] []=True:=by simp[NL]
@[simp] theorem SL (v v':AV)(l l':List AV):NL (v::l) (v'::l')=(NV v v'/\NL l l'):=by simp[NL]
@[simp] theorem atQ (v:AV):NV v v=True:=by simp[NV]
@[simp] theorem atS {α:Type}{k:Nat}(E:aL α (k+1)):NV (.al (.slice none 0 0)) (E.ds [])=True:=by
 simp only[eq_iff_iff,iff_true];exact .inr ⟨rfl,k,rfl⟩
theorem PD:NV (.al (.slice none 0 0)) (.ds (Ex.bq []) 0 8):=.inr ⟨rfl,7,by simp[Ex.bq]⟩
theorem NV.vr {φ:Ph}{D:Da}{v v':AV}{x:Value}(h:NV v v')(hx:VR φ D v x):VR φ D v' x:=by
 rcases h with rfl|⟨rfl,k,rfl⟩
 ·exact hx
 cases hx;exact .rH _
theorem NL.len:∀ {l l':List AV},NL l l'->l'.length=l.length
 |[],[],_=>rfl
 |[],_::_,k=>by simp[NL]at k
 |_::_,[],k=>by simp[NL]at k
 |_::_,_::_,k=>by simp only[SL]at k;simp[NL.len k.2]
theorem NL.uh {φ:Ph}{D:Da}:∀ {l l':List AV}{xs:List Value},NL l l'->bO φ D l xs->bO φ D l' xs
 |[],[],_,_,h=>h
 |[],_::_,_,k,_=>by simp[NL]at k
 |_::_,[],_,k,_=>by simp[NL]at k
 |_::_,_::_,_,k,.cons _ _ _ _ h1 h2=>by
  simp only[SL]at k;exact .cons _ _ _ _ (k.1.vr h1) (NL.uh k.2 h2)
theorem ae.conv {P:Program}{g:FuncId}{args args':List AV}{v:AV}(h:ae P g args' v)(hp:aJ args)(hc:∀D xs,bO lF D args xs->bO lF D args' xs):ae P g args v:=
 ⟨h.body,hp,h.ak7,λ D w xs hd hv=>h.run D w xs hd (hc D xs hv)⟩
def nA:Ex:=.mk 0 ⟨0,0,[]⟩ [] [] 0 []
def nI:cM:=⟨false,false,[],[],nA,[],false,0⟩
def bN.z (k:Int):bN:=⟨k,[],[],[],[],false,[],[],nA,nI⟩
def bN.cut (x:bN):bN:=
 if x.kind=1 then {bN.z x.kind with table:=x.table,cols:=x.cols}
 else if x.kind=2 then {bN.z x.kind with table:=x.table}
 else if x.kind=3 then {bN.z x.kind with table:=x.table,name:=x.name,on:=x.on,uniq:=x.uniq}
 else if x.kind=4 then {bN.z x.kind with name:=x.name}
 else if x.kind=5 then {bN.z x.kind with table:=x.table,rows:=x.rows}
 else if x.kind=6 then {bN.z x.kind with table:=x.table,cond:=x.cond}
 else if x.kind=7 then {bN.z x.kind with table:=x.table,sets:=x.sets,cond:=x.cond}
 else if x.kind=8 then {bN.z x.kind with q:=x.q}
 else bN.z x.kind
def bN.ok (x:bN):Bool:=
 if x.kind=1 then decide (bA x.table)&&decide (1<=x.cols.length/\x.cols.length<=16)&&x.cols.all ny.ok
 else if x.kind=2 then decide (bA x.table)
 else if x.kind=3 then decide (bA x.table)&&decide (bA x.name)&&decide (1<=x.on.length/\x.on.length<=16)&&x.on.all λ s=>decide (bA s)
 else if x.kind=4 then decide (bA x.name)
 else if x.kind=5 then decide (bA x.table)&&decide (0<x.rows.length)&&x.rows.all rowOk
 else if x.kind=6 then decide (bA x.table)&&x.cond.maybe
 else if x.kind=7 then decide (bA x.table)&&decide (1<=x.sets.length/\x.sets.length<=16)&&x.cond.maybe&&x.sets.all St1.ok
 else if x.kind=8 then x.q.may
 else decide (x.kind=9∨x.kind=10∨x.kind=11)
structure bN.sm (x:bN):Prop where
 cols:x.cols.length<=aM
 on:x.on.length<=aM
 rows:x.rows.length<=aM
 row:∀r∈x.rows,r.length<=aM/\∀y∈r,y.sz<=aM
 sets:x.sets.length<=aM
 set:∀y∈x.sets,y.e.sz<=aM
 cond:x.cond.sz<=aM
 items:x.q.items.length<=aM
 item:∀y∈x.q.items,y.e.sz<=aM
 ay:x.q.ay.length<=aM
 src:∀y∈x.q.ay,y.cond.sz<=aM
 order:x.q.order.length<=aM
 qc:x.q.cond.sz<=aM
def tcZ (kind:Int):List AV:=[(zI kind),(.str []),(.str []),(.al (.slice none 0 0)),(.al (.slice none 0 0)),(.bool false),(.al (.slice none 0 0)),(.al (.slice none 0 0)),(zI 0),(zI 0),(zI 0),(.str []),(.str []),(.str []),(zI 0),(.al (.slice none 0 0)),(.bool false),(.bool false),(.al (.slice none 0 0)),(.al (.slice none 0 0)),(zI 0),(zI 0),(zI 0),(.str []),(.str []),(.str []),(zI 0),(.al (.slice none 0 0)),(.al (.slice none 0 0)),(.bool false),(zI 0)]
def M17:CT:=(.seq Gh (.cond (ar 20) (.seq aeA (.seq aez (.seq aey (.block 1 (.loop afs))))) (.seq xJ (.cond (ar 61) (.seq WR WQ) (.seq xI (.cond (ar 69) (.seq WO (.seq WN (.seq WM (.block 3 (.loop afr))))) (.seq xH (.cond (ar 110) (.seq WJ WI) (.seq xG (.cond (ar 118) (.seq IZ (.seq IY (.seq BA (.block 5 (.loop xU))))) (.seq Bz (.cond (ar 161) (.seq IQ IP) (.seq IM (.cond (ar 177) (.seq WG (.seq WE (.seq WC (.block 9 (.loop afq))))) (.seq IL (.cond (ar 221) (.seq IK IJ) (.seq (.seq WB (.cond (ar 229) .skip (.seq WA (.cond (ar 229) .skip V')))) (.cond (ar 229) V9 .skip))))))))))))))))))
theorem b17:A45.code=(.seq WU (.seq WT (.seq WL (.seq (.seq WH (.block 0 M17)) (.seq tw .ret))))):=rfl
structure Gy (x:bN)(F:Fr)(K:Hp):Prop where
 f1:F.get 1=some (.ptr 0 0)
 f3:F.get 3=some (.ptr 1 0)
 f4:F.get 4=some (.bool false)
 f19:F.get 19=some (zI x.kind)
 k0:K.get 0=aG 31 x.cells
 k1:K.get 1=aG 31 (tcZ x.kind)
structure acq (x:bN)(tc:List AV):Prop where
 len:tc.length=31
 pure:aJ tc
 cut:NL tc x.cut.cells
def Gx (x:bN)(Q:QA):Prop:=∀F' K' n' tc b,Z7 x tc b F' K' n'->acq x tc->b=x.ok->Q .normal F' K' n' []
theorem abp (x:bN)(hs:x.sm)(hk:x.kind=5)(F:Fr)(K:Hp)(Q:QA)(E:Gy x F K)(hQ:Gx x Q):VC pG M17 F K 2 [] Q:=by
 obtain⟨f1,f3,f4,f19,k0,k1⟩:=E;have x1:=x.g1;have x6:=x.g6;rw[hk]at f19 k1;generalize hxs:x.cells=xs at *;simp[M17,f19,Gh,xJ,xI,xH,xG];simp[IZ];refine cj.of (cN (P:=pG)) ?_;simp[ab,f1,f3,k0,k1,x1,x6,tcZ];generalize hK2:Tr.put _ 1 _=K2;obtain⟨tc,g1,ht⟩:∃tc,K2.get 1=aG 31 tc/\acq x tc:=⟨_,by rw[<-hK2];exact(Tr.get_put _ _ _ _).trans (ao rfl),by simp,by simp,by simp[bN.cut,hk,bN.cells,bN.z,nA,nI,Ex.cells,cM.cells,PD]⟩;have g0:K2.get 0=aG 31 xs:=by rw[<-hK2];simp[k0]
 clear hK2;generalize hF2:(Fp 125 _ _:Fr)=F2;have h1:F2.get 1=some (.ptr 0 0):=by rw[<-hF2];simp[ab,f1]
 have h3:F2.get 3=some (.ptr 1 0):=by rw[<-hF2];simp[ab,f3]
 clear hF2 f1 f3 f4 f19 k0 k1 F
 have fin:∀(F':Fr) (b:Bool),F'.get 1=some (.ptr 0 0)->F'.get 3=some (.ptr 1 0)->F'.get 4=some (.bool b)->b=(decide (bA x.table)&&decide (0<x.rows.length))->VC pG BA F' K2 2 [] (pW pG (.block 5 xU.loop) Q):=by
  intro F' b w1 w3 w4 hb;simp[BA,w1,g0,x6,aL.aD];refine agP x hs.rows hs.row tc b _ K2 2 _ ⟨by simp[w1],by simp[w3],by simp[w4],by rw[hxs];exact g0,g1,by omega⟩ ⟨by simp,by simp,by simp⟩ λ F5 K5 n5 M5=>?_;exact hQ _ _ _ _ _ M5 ht (by rw[hb];simp[bN.ok,hk])
 simp[IY,h1,g0,x1];refine aw.pure (rz x.table) ?_
 by_cases hn:bA x.table
 ·simp[hn,h1,g0,x6,aL.aD];generalize hF3:(Fp 4 _ _:Fr)=F3;have:=fin F3 (decide (0<x.rows.length)) (by rw[<-hF3];simp[h1]) (by rw[<-hF3];simp[h3]) (by rw[<-hF3];simp) (by simp[hn]);simpa using this
 simp[hn];generalize hF3:(Fp 4 _ _:Fr)=F3;have:=fin F3 false (by rw[<-hF3];simp[h1]) (by rw[<-hF3];simp[h3]) (by rw[<-hF3];simp) (by simp[hn]);simpa using this
theorem len8 {α:Type}:∀ {l:List α},l.length=8->∃a b c d e f g h,l=[a,b,c,d,e,f,g,h]
 |[a,b,c,d,e,f,g,h],_=>⟨a,b,c,d,e,f,g,h,rfl⟩
theorem alO {α:Type}:∀ {l:List α},l.length=15->∃a b c d e f g h i j k m n o p,l=[a,b,c,d,e,f,g,h,i,j,k,m,n,o,p]
 |[a,b,c,d,e,f,g,h,i,j,k,m,n,o,p],_=>⟨a,b,c,d,e,f,g,h,i,j,k,m,n,o,p,rfl⟩
theorem nvQ:NL [.bool false,.bool false,.al (.slice none 0 0),.al (.slice none 0 0),zI 0,zI 0,zI 0,.str [],.str [],.str [],zI 0,.al (.slice none 0 0),.al (.slice none 0 0),.bool false,zI 0] nI.cells:=by
 simp[nI,nA,Ex.cells,cM.cells,PD]
theorem abo (x:bN)(hs:x.sm)(hk:x.kind=6)(F:Fr)(K:Hp)(Q:QA)(E:Gy x F K)(hQ:Gx x Q):VC pG M17 F K 2 [] Q:=by
 obtain⟨f1,f3,f4,f19,k0,k1⟩:=E;have x1:=x.g1;rw[hk]at f19 k1;have xc:=x.cc;have xl:=x.bf;have hmy:=KX x.cond hs.cond;have hav:x.cond.av=.agg x.cond.cells 8:=Eq.trans rfl rfl;rw[hav]at hmy;obtain⟨a0,a1,a2,a3,a4,a5,a6,a7,hce⟩:=len8 x.cond.bf;have hpc:=x.cond.tM;have ho:aY x.cond.cells=true:=by cases x.cond;simp[Ex.cells]
 rw[hce]at xc hmy hpc ho;simp at hpc ho;generalize hxs:x.cells=xs at *;have hg:fX 31 [] xs .nil 8 8=some [a0,a1,a2,a3,a4,a5,a6,a7]:=by simp[xl,xc]
 clear xl;simp[M17,f19,Gh,xJ,xI,xH,xG,Bz];simp[IQ];refine cj.of (cN (P:=pG)) ?_;simp[ab,f1,f3,k0,k1,x1,hg,tcZ,ho];generalize hK2:Tr.put _ 1 _=K2;obtain⟨tc,g1,ht⟩:∃tc,K2.get 1=aG 31 tc/\acq x tc:=⟨_,by rw[<-hK2];exact(Tr.get_put _ _ _ _).trans (ao rfl),by simp,by simp[hpc],by simp only[bN.cut,hk,bN.cells,bN.z];simp[hce,nvQ]⟩;have g0:K2.get 0=aG 31 xs:=by rw[<-hK2];simp[k0]
 clear hK2;generalize hF2:(Fp 168 _ _:Fr)=F2;have h1:F2.get 1=some (.ptr 0 0):=by rw[<-hF2];simp[ab,f1]
 have h3:F2.get 3=some (.ptr 1 0):=by rw[<-hF2];simp[ab,f3]
 clear hF2 f1 f3 f4 f19 k0 k1 F;have fin:∀(F':Fr) (b:Bool),F'.get 1=some (.ptr 0 0)->F'.get 3=some (.ptr 1 0)->F'.get 4=some (.bool b)->b=x.ok->Q .normal F' K2 2 []:=λ F' b w1 w3 w4 hb=>hQ _ _ _ _ _ ⟨w1,w3,w4,by rw[hxs];exact g0,g1,by omega⟩ ht hb;simp[IP,h1,g0,x1];refine aw.pure (rz x.table) ?_
 by_cases hn:bA x.table
 ·simp[hn,h1,g0,hg];refine aw.pure hmy ?_;simp;generalize hF3:(Fp 4 _ _:Fr)=F3;have:=fin F3 x.cond.maybe (by rw[<-hF3];simp[h1]) (by rw[<-hF3];simp[h3]) (by rw[<-hF3];simp) (by simp[bN.ok,hk,hn]);simpa using this
 simp[hn];generalize hF3:(Fp 4 _ _:Fr)=F3;have:=fin F3 false (by rw[<-hF3];simp[h1]) (by rw[<-hF3];simp[h3]) (by rw[<-hF3];simp) (by simp[bN.ok,hk,hn]);simpa using this
theorem abn (x:bN)(_hs:x.sm)(hmy:ae pG 113 [.agg x.q.cells 15] (.bool x.q.may))(hk:x.kind=8)(F:Fr)(K:Hp)(Q:QA)(E:Gy x F K)(hQ:Gx x Q):VC pG M17 F K 2 [] Q:=by
 obtain⟨f1,f3,f4,f19,k0,k1⟩:=E;rw[hk]at f19 k1;have xq:=x.tq;have xl:=x.bf;obtain⟨a0,a1,a2,a3,a4,a5,a6,a7,a8,a9,a10,a11,a12,a13,a14,hce⟩:=alO x.q.bf;have hpc:=x.q.pure;have ho:aY x.q.cells=true:=by simp[cM.cells]
 rw[hce]at xq hmy hpc ho;simp at hpc ho;generalize hxs:x.cells=xs at *;have hg:fX 31 [] xs .nil 16 15=some [a0,a1,a2,a3,a4,a5,a6,a7,a8,a9,a10,a11,a12,a13,a14]:=by simp[xl,xq]
 clear xl;simp[M17,f19,Gh,xJ,xI,xH,xG,Bz,IM,IL,IK,f1,f3,k0,k1,hg,tcZ,ho];generalize hK2:Tr.put _ 1 _=K2;obtain⟨tc,g1,ht⟩:∃tc,K2.get 1=aG 31 tc/\acq x tc:=⟨_,by rw[<-hK2];exact(Tr.get_put _ _ _ _).trans (ao rfl),by simp,by simp[hpc],by simp only[bN.cut,hk,bN.cells,bN.z];simp[hce,nA,Ex.cells,PD]⟩;have g0:K2.get 0=aG 31 xs:=by rw[<-hK2];simp[k0]
 clear hK2;generalize hF2:(Fp 225 _ _:Fr)=F2;have h1:F2.get 1=some (.ptr 0 0):=by rw[<-hF2];simp[f1]
 have h3:F2.get 3=some (.ptr 1 0):=by rw[<-hF2];simp[f3]
 clear hF2 f1 f3 f4 f19 k0 k1 F;have fin:∀(F':Fr) (b:Bool),F'.get 1=some (.ptr 0 0)->F'.get 3=some (.ptr 1 0)->F'.get 4=some (.bool b)->b=x.ok->Q .normal F' K2 2 []:=λ F' b w1 w3 w4 hb=>hQ _ _ _ _ _ ⟨w1,w3,w4,by rw[hxs];exact g0,g1,by omega⟩ ht hb;simp[IJ,h1,g0,hg];refine aw.pure hmy ?_;simp;generalize hF3:(Fp 4 _ _:Fr)=F3;exact fin F3 _ (by rw[<-hF3];simp[h1]) (by rw[<-hF3];simp[h3]) (by rw[<-hF3];simp;rfl) (by simp[bN.ok,hk])
def bN.may (x:bN):Bool:=x.ok&&yO x x.cut
theorem agO (x:bN) (_hs:x.sm) (hb:∀(F:Fr) (K:Hp) (Q:QA),Gy x F K->Gx x Q->VC pG M17 F K 2 [] Q):ae pG 45 [x.av] (.bool x.may):=by
 refine pv c45 λ F hF=>?_;have x0:=x.g0;have xl:=x.bf
 have fin:Gx x (fy 0 (pW pG (.seq tw .ret) (iO [aI 2] λ v1 H' _=>eY H'.get v1 (.bool x.may)))):=by
  intro F' K' n' tc b ⟨f1,f3,f4,k0,k1,hn⟩ ⟨htl,hpt,hnl⟩ hb
  cases b with
  |false =>
   simp[tw,f4,bN.may,<-hb];exact .bool rfl
  |true =>
   simp[tw,f1,f3,f4,k0,k1,bN.may,<-hb];have hr:=af5 x x.cut;refine aw.pure (hr.conv ?_ λ D xs hv=>?_) ?_
   ·simp[hpt]
   ·cases hv with
    |cons _ y0 _ ys h0 hv =>
    cases hv with
    |cons _ y1 _ ys h1 hv =>
    refine .cons _ _ _ _ h0 (.cons _ _ _ _ ?_ hv)
    cases h1 with
    |agg _ l _ a b=>exact .agg _ _ _ (hnl.uh a) (by simp)
   simp;exact .bool rfl
 have hcx:x.av=.agg x.cells 31:=Eq.trans rfl rfl;rw[hcx]at hF
 have body:∀(F:Fr) (K:Hp),Gy x F K->VC pG M17 F K 2 [] (fy 0 (pW pG (.seq tw .ret) (iO [aI 2] λ v1 H' _=>eY H'.get v1 (.bool x.may)))):=by
  exact λ F K E=>hb F K _ E fin
 clear fin hb;have xp:=x.pure;generalize hxs:x.cells=xs at hF x0 xl xp;simp only[b17];simp[WU,hF];simp[WT,WL,WH,x0];generalize hK:Tr.put _ 1 _=K;have k0:K.get 0=aG 31 xs:=by rw[<-hK];simp
 have k1:K.get 1=aG 31 (tcZ x.kind):=by rw[<-hK];simp[tcZ]
 clear hK;refine body _ K ⟨?_,?_,?_,?_,by rw[hxs];exact k0,k1⟩
 all_goals simp
theorem agN (x:bN)(hs:x.sm)(hk:x.kind=5∨x.kind=6∨(x.kind=8/\ae pG 113 [.agg x.q.cells 15] (.bool x.q.may))):ae pG 45 [x.av] (.bool x.may):=by
 refine agO x hs λ F K Q E fin=>?_
 rcases hk with h|h|⟨h,hm⟩
 ·exact abp x hs h F K Q E fin
 ·exact abo x hs h F K Q E fin
 exact abn x hs hm h F K Q E fin
theorem akI (d t:bo)(b:Nat)(H:Hp)(n:Nat)(hb:H.get b=aG 4 (aA.cells t))(ht:cA H n):aj pG 84 [aA.av d,.ptr b 0] H n (λ u K k=>u=.bool (decide (d.name=t.name))/\K=H/\k=n):=by
 refine aj.forget (by simp) (aj.of c84 (by simp[A84]) λ F hF=>?_);have q:¬b=n:=by have:=ht.lt hb;omega
 simp[A84,hF,aL.av,dB,q,hb];rintro c hc rfl;exact ai (ht _ (aP _)) hc
theorem al3 (d t:mb)(b:Nat)(H:Hp)(n:Nat)(hb:H.get b=aG 6 (aQ.cells t))(ht:cA H n):aj pG 87 [aQ.av d,.ptr b 0] H n (λ u K k=>u=.bool (decide (d.name=t.name))/\K=H/\k=n):=by
 refine aj.forget (by simp) (aj.of c87 (by simp[A87]) λ F hF=>?_);have q:¬b=n:=by have:=ht.lt hb;omega
 simp[A87,hF,aL.av,eC,q,hb];rintro c hc rfl;exact ai (ht _ (aP _)) hc
theorem ah3 {f:FuncId}{first cap:List AV}{p:bo->Bool}{H:Hp}{n:Nat}(l:List bo)(hl:l.length<=aM)(hp:∀x∈l,aj pG f (first++([aA.av x]++cap)) H n (λ u K k=>u=.bool (p x)/\K=H/\k=n)):
  aj pG 83 [aA.ds l,.fn (.func f) first cap] H n (λ u K k=>u=.bool (l.any p)/\K=H/\k=n):=
 w_ c83 (nU (el:=aA.av) c161 hl (aA.aD _) (λ i h=>⟨_,aA.ix h,λ F H n pq=>by simp[pq,aA.mf]⟩) hp)
theorem ah4 {f:FuncId}{first cap:List AV}{p:mb->Bool}{H:Hp}{n:Nat}(l:List mb)(hl:l.length<=aM)(hp:∀x∈l,aj pG f (first++([aQ.av x]++cap)) H n (λ u K k=>u=.bool (p x)/\K=H/\k=n)):
  aj pG 86 [aQ.ds l,.fn (.func f) first cap] H n (λ u K k=>u=.bool (l.any p)/\K=H/\k=n):=
 w_ c86 (nU (el:=aQ.av) c163 hl (aQ.aD _) (λ i h=>⟨_,aQ.ix h,λ F H n pq=>by simp[pq,aQ.mf]⟩) hp)
def fL (t:bo)(l:List Int):Prop:=l≠[]/\l.length<=16/\∀i (h:i<l.length),0<=l[i]/\l[i]<(t.cols.length:Int)/\l[i]∉l.take i
theorem Sm (t:bo) (l:List Int) (_hc:t.cols.length<=aM):ae pG 85 [aA.av t,cQ.ds l] (.bool (decide (fL t l))):=by
 refine pv c85 λ F hF=>?_
 by_cases h0:l=[]
 ·have:¬fL t l:=λ h=>h.1 h0;simp[A85,hF,aL.av,aL.aD,h0];exact .bool (by subst h0;simp[this])
 by_cases lR:l.length<=16
 ·simp[A85,hF,aL.av,aL.aD,h0,show ¬(16:Int)<(l.length:Int) by omega,dB];generalize hK:Tr.put _ 0 _=K;have k0:K.get 0=aG 4 [.int .u32 t.id,.str t.name,bL.ds t.cols,.int .u32 t.head]:=by rw[<-hK];simp
  clear hK;refine aE.of (λ q F K' n ms=>∃i,q=l.length - i/\i<=l.length/\F.get 1=some (cQ.ds l)/\F.get 2=some (.ptr 0 0)/\F.get 15=some (cQ.ds l)/\F.get 16=some (zI (l.length:Int))/\F.get 17=some (zI (i:Int))/\ms=[]/\K'=K/\∀k (h:k<i) (h2:k<l.length),0<=l[k]/\l[k]<(t.cols.length:Int)/\l[k]∉l.take k) l.length ⟨0,by simp,by simp,by simp[hF],by simp,by simp,by simp,by simp,rfl,rfl,λ k h=>by omega⟩ ?_;rintro q F K' n ms ⟨i,rfl,hi,f1,f2,f15,f16,f17,rfl,rfl,hk⟩
  by_cases hlt:i<l.length
  ·have hx:=cQ.ix (ik:=.i64) hlt;rw[HQ]at hx;have hsl:=cQ.OT (l:=l) (i:=i) hi;have no:∀P:Prop,(fL t l->P)->¬P->¬fL t l:=λ P h1 h2 h3=>h2 (h1 h3);simp[Zt,f16,f17,hlt,f15,hx]
   by_cases hn:l[i]<0
   ·have:=no (0<=l[i]) (λ h=>(h.2.2 i hlt).1) (by omega);simp[hn,MA];exact .bool (by simp[this])
   by_cases hb:(t.cols.length:Int)<=l[i]
   ·have:=no (l[i]<(t.cols.length:Int)) (λ h=>(h.2.2 i hlt).2.1) (by omega);simp[hn,f2,k0,aL.aD,hb,MA];exact .bool (by simp[this])
   simp[hn,f2,k0,aL.aD,hb,f1,Bd,uN,hsl];refine aw.pure (HW (l.take i) l[i] (by simp;unfold aM;omega)) ?_
   by_cases hm:l[i]∈l.take i
   ·have:=no (l[i]∉l.take i) (λ h=>(h.2.2 i hlt).2.2) (by simpa using hm);simp[hm,MA];exact .bool (by simp[this])
   simp[hm,ad2,f1,f2,f15,f16,f17,aC i (by omega)];refine⟨l.length - (i+1),by omega,i+1,rfl,hlt,rfl,λ k h h2=>?_⟩
   by_cases e:k=i
   ·subst e;exact⟨by omega,by omega,hm⟩
   exact hk k (by omega) h2
  obtain rfl:i=l.length:=by omega
  have:fL t l:=⟨h0,lR,λ j h=>hk j h h⟩;simp[Zt,f16,f17,ad1];exact .bool (by simp[this])
 have:¬fL t l:=λ h=>lR h.2.1;simp[A85,hF,aL.av,aL.aD,h0,show (16:Int)<(l.length:Int) by omega];exact .bool (by simp[this])
end Go.Abs
