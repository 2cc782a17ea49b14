/- A part. -/
import Derived.Test.YtfdoeenlgkkaiaaGreatBt6
noncomputable section
namespace Go.Abs
open List
open Go.Proofs
open Classical
set_option maxRecDepth 100000
def tg (l:List Ord)(i:Nat):Ord:=l.getD i ⟨[],false⟩
theorem Dq {l:List Ord}{i:Nat}(h:i<l.length):tg l i=l[i]:=by simp[tg,h]
def pF (N:List (List Nat))(x:Ord):Int:=eE (λ y=>decide (x.name=y)) N
def eD (N:List (List Nat))(l:List Ord):Nat->Int->List (Int×Bool)×Int
 | 0,err=>([],err)
 | i+1,err=>((eD N l i err).1++[(pF N (tg l i),(tg l i).desc)],keep (keep (eD N l i err).2 201 (decide (pF N (tg l i)<0))) 205 (decide (0<=pF N (tg l i))&&decide ((tg l i).name∈N.drop ((pF N (tg l i)).toNat+1))))
theorem u9 (N:List (List Nat))(l:List Ord)(err:Int):∀i,(eD N l i err).1.length=i
 | 0=>rfl
 | i+1=>by simp[eD,u9 N l err i]
structure OrF (n p o:Nat)(q:aY)(i:Nat)(F:Fr):Prop where
 f0:F.get 0=some (.ptr p 0)
 f2:F.get 2=some (.ptr o 0)
 f4:F.get 4=some (.ptr n 0)
 f6:F.get 6=some (.ptr (n+1) 0)
 f110:F.get 110=some (jm.ds q.order)
 f111:F.get 111=some (.int .i64 (q.order.length:Int))
 f112:F.get 112=some (.int .i64 (i:Int))
def Ae (kind:Int)(ts:List aR)(on:AV)(W E:List Ex)(N:List (List Nat))(Ks:List Int)(od:AV):List AV:=bK kind (aG.ds ts) on (dz.ds W) (dz.ds E) (bB.ds N) (bR.ds Ks) od false false 0
structure OrM (H0:Hp)(n p o:Nat)(s:bD)(ns:List (List Nat))(ts:List aR)(q:aY)(kind:Int)(L:List (List Ex))(W E:List Ex)(N:List (List Nat))(Ks:List Int)(qE:AV)(e:Int)(i:Nat)(O:List (Int×Bool))(va:AV)(K:Hp)(m:Nat):Prop where
 mem:QyM H0 n p o s ns ts q e K m
 ko:K.get o=some (.cells 25 [] (Ae kind ts qE W E N Ks va) .nil)
 ov:ar K m qE (dw.l L) L.length 1
 dv:∀b,blk qE=some b->n+2<=b
 oa:ar K m va (sA.l O) i 2
 da:∀b,blk va=some b->n+2<=b/\blk qE≠some b
theorem OrM.next {H0:Hp}{n p o:Nat}{s:bD}{ns:List (List Nat)}{ts:List aR}{q:aY}{kind:Int}{L:List (List Ex)}{W E:List Ex}{N:List (List Nat)}{Ks:List Int}{qE:AV}{e:Int}{i:Nat}{O:List (Int×Bool)}{va:AV}{K:Hp}{m:Nat}(M:OrM H0 n p o s ns ts q kind L W E N Ks qE e i O va K m)(hpn:p<n)(hon:o<n)(hpo:p≠o){K':Hp}{m':Nat}{e':Int}(hm:m<=m')(ht:cS K' m')(hk:∀b,b<m->b≠p->K'.get b=K.get b)(hp:K'.get p=some (bV s e')):OrM H0 n p o s ns ts q kind L W E N Ks qE e' i O va K' m':=by
 have hm0:=M.mem.hm;exact⟨M.mem.next hpn hon hm ht (λ b h1 h2 _=>hk b (by omega) h2) hp,(hk o (by omega) (by omega)).trans M.ko,M.ov.frame hm λ b hb=>hk b (M.ov.aK hb) (by have:=M.dv b hb;omega),M.dv,M.oa.frame hm λ b hb=>hk b (M.oa.aK hb) (by have:=(M.da b hb).1;omega),M.da⟩
theorem P6 (n p o:Nat) (hpn:p<n) (hon:o<n) (hpo:p≠o) (H0:Hp) (s:bD) (ns:List (List Nat)) (ts:List aR) (q:aY) (hlim:q.order.length<=lim) (kind:Int) (L:List (List Ex)) (W E:List Ex) (N:List (List Nat)) (hN:N.length<=lim) (Ks:List Int) (qE:AV) (_hvo:qE.one=true) (e0:Int)
  (F:Fr)(K:Hp)(m:Nat)(Q:QA)(va:AV)(hF:OrF n p o q 0 F)(M:OrM H0 n p o s ns ts q kind L W E N Ks qE e0 0 [] va K m)
  (hQ:∀va F K m,OrF n p o q q.order.length F->OrM H0 n p o s ns ts q kind L W E N Ks qE (eD N q.order q.order.length e0).2 q.order.length (eD N q.order q.order.length e0).1 va K m->Q .normal F K m []):au MQ pG F K m [] (bX 4 Q):=by
 have axW:=hlim;unfold lim at hlim;refine au.of (λ g F K m ms=>∃(i:Nat) (va:AV),g=q.order.length - i/\i<=q.order.length/\OrF n p o q i F/\OrM H0 n p o s ns ts q kind L W E N Ks qE (eD N q.order i e0).2 i (eD N q.order i e0).1 va K m/\ms=[]) q.order.length ⟨0,va,by simp,by omega,hF,by simpa[eD]using M,rfl⟩ ?_;clear hF M F K m va;rintro g F K m ms ⟨i,va,rfl,hi,⟨f0,f2,f4,f6,f110,f111,f112⟩,M,rfl⟩;have hm:=M.mem.hm
 by_cases hlt:i<q.order.length
 ·have hZ:=jm.ix (ik:=.i64) hlt;have hld:=λ H=>jm.gM q.order[i] (jm.l (q.order.drop (i+1))) H;simp[MQ,HL,WG,f110,f111,f112,hlt,hZ,hld,al.av];generalize hK1:Tr.put _ m _=K1;have g1:∀b,b<m->K1.get b=K.get b:=λ b hb=>by rw[<-hK1];simp[dj hb]
  have x1:K1.get m=some (.cells 2 [] (jm.cells q.order[i]) .nil):=by rw[<-hK1];simp
  have t1:cS K1 (m+1):=λ b hb=>by
   have e1:¬b=m:=by omega
   rw[<-hK1];simp[e1,M.mem.tp b (by omega)]
  clear hK1 hZ hld;have hva:∀b,blk va=some b->b<m:=λ b h=>M.oa.aK h;have M1:=M.next hpn hon hpo (Nat.le_succ m) t1 (λ b h1 _=>g1 b h1) ((g1 p (by omega)).trans M.mem.kp);clear M g1;have NX:=M1.ko;simp only[Ae,bK]at NX;rw[vU]at x1;have hix:=JZ N q.order[i].name hN
  have hor:eD N q.order (i+1) e0=((eD N q.order i e0).1++[(pF N q.order[i],q.order[i].desc)],keep (keep (eD N q.order i e0).2 201 (decide (pF N q.order[i]<0))) 205 (decide (0<=pF N q.order[i])&&decide (q.order[i].name∈N.drop ((pF N q.order[i]).toNat+1)))):=by
   rw[eD,Dq hlt]
  have hkl:=nY (λ y=>decide (q.order[i].name=y)) N;have hke:eE (λ y=>decide (q.order[i].name=y)) N=pF N q.order[i]:=rfl;rw[hke]at hix hkl;generalize pF N q.order[i]=k at hix hkl hor;generalize eD N q.order i e0=A at M1 hor;obtain⟨O,er⟩:=A;simp only at M1 hor;generalize q.order[i]=it at *;simp only[WE,cH];refine bY.of (iN (l:=[(72,[bB.ds N,.str it.name],λ H n=>.mk (.int .i64 k) H n)]) ?_) ?_
  ·intro y hy;simp only[mem_cons,not_mem_nil,or_false]at hy;subst hy;exact eX hix
  simp[aa,f2,NX,x1];rw[fA];simp[WC,aa,f0];refine ao.ok (fL p s er 201 (decide (k<0)) K1 _ (by omega) M1.mem.kp) ?_;generalize hE1:keep er 201 (decide (k<0))=e1 at hor;have j2:∀b,b≠p->(K1.put p (some (bV s e1))).get b=K1.get b:=λ b hb=>by simp[hb]
  have jp:(K1.put p (some (bV s e1))).get p=some (bV s e1):=by simp
  generalize K1.put p (some (bV s e1))=K2 at j2 jp ⊢;have t2:cS K2 (m+1):=λ b hb=>(j2 b (by omega)).trans (t1 b hb);have M2:=M1.next hpn hon hpo (Nat.le_refl _) t2 (λ b h1 h2=>j2 b h2) jp;have JR:=M2.ko;simp only[Ae,bK]at JR;have x2:=(j2 m (by omega)).trans x1;clear x1 NX M1
  have fin:∀(F4:Fr) (K4:Hp) (e2:Int),OrF n p o q i F4->F4.get 14=some (.ptr m 0)->F4.get 15=some (.int .i64 k)->K4.get m=some (.cells 2 [] [.str it.name,.bool it.desc] .nil)->OrM H0 n p o s ns ts q kind L W E N Ks qE e2 i O va K4 (m+1)->eD N q.order (i+1) e0=(O++[(k,it.desc)],e2)->VC pG HK F4 K4 (m+1) [] (bX 5 (hJ pG HJ (mE (λ g F K m ms=>∃(i:Nat) (va:AV),g=q.order.length - i/\i<=q.order.length/\OrF n p o q i F/\OrM H0 n p o s ns ts q kind L W E N Ks qE (eD N q.order i e0).2 i (eD N q.order i e0).1 va K m/\ms=[]) (q.order.length - i) (bX 4 Q)))):=by
   intro F4 K4 e2 ⟨w0,w2,w4,w6,aug,auf,aue⟩ w14 w15 x4 M4 ho;have QW:=M4.ko;simp only[Ae,bK]at QW;have t4:=M4.mem.tp;simp only[HK,cH];refine bY.of (bH (P:=pG)) ?_;have tm:=t4 (m+1) (Nat.le_refl _);simp[aa,w2,w14,w15,QW,x4,bw,bL,tm];generalize j8:Tr.put K4 (m+1) _=K5;have g5:∀b,b<m+1->K5.get b=K4.get b:=λ b hb=>by rw[<-j8];simp[dj hb]
   have x5:K5.get (m+1)=some (.cells 2 [] [.int .i64 k,.bool it.desc] .nil):=by rw[<-j8];simp
   have t5:cS K5 (m+1+1):=λ b hb=>by
    have e1:¬b=m+1:=by omega
    rw[<-j8];simp[e1,t4 b (by omega)]
   clear j8;have JG:ar K5 (m+1+1) va (sA.l O) i 2:=M4.oa.frame (by omega) λ b hb=>g5 b (by have:=hva b hb;omega);refine ar.ru (k:=1) (new:=[.int .i64 k,.bool it.desc]) JG (aB x5) (by simp) (by simp) (by omega) (by omega) (by unfold big;omega) (by omega) (by simp) λ K6 o6 g6=>?_;have yY:∀b,b≠m+1+1->blk va≠some b->K6.get b=K5.get b:=λ b h1 h2=>g6 b h1 λ e=>h2 (by rw[e];rfl);clear g6;have nva:∀b,b<n+2->blk va≠some b:=λ b h1 h2=>by have:=(M4.da b h2).1;omega
   have ko6:=(yY o (by omega) (nva o (by omega))).trans ((g5 o (by omega)).trans QW);simp[aa,w2,ko6];generalize Oc:Tr.put K6 o _=K7;have g7:∀b,b≠o->K7.get b=K6.get b:=λ b hb=>by rw[<-Oc];simp[hb]
   have o7:K7.get o=some (.cells 25 [] (Ae kind ts qE W E N Ks (.sl (m+1+1) 0 (i+1) 2)) .nil):=by rw[<-Oc];simp[Ae,bK]
   clear Oc;simp[HJ,aa,aue,ah i (by omega)];have bk7:∀b,b<m+1->b≠o->blk va≠some b->K7.get b=K4.get b:=λ b h1 h2 h3=>(g7 b h2).trans ((yY b (by omega) h3).trans (g5 b h1));have avm:∀b,blk qE=some b->blk va≠some b:=λ b h1 h2=>(M4.da b h2).2 h1;refine⟨q.order.length - (i+1),by omega,i+1,rfl,hlt,⟨by simp[aa,w0],by simp[aa,w2],by simp[aa,w4],by simp[aa,w6],by simp[aa,aug],by simp[aa,auf],by simp⟩,.sl (m+1+1) 0 (i+1) 2,?_⟩;rw[ho]
   refine⟨M4.mem.next hpn hon (by omega) (λ b hb=>?_) (λ b h1 h2 h3=>bk7 b (by omega) h3 (nva b h1)) ((bk7 p (by omega) (by omega) (nva p (by omega))).trans M4.mem.kp),o7,M4.ov.frame (by omega) λ b hb=>bk7 b (M4.ov.aK hb) (by have:=M4.dv b hb;omega) (avm b hb),M4.dv,?_,λ b hb=>by
    simp at hb;exact⟨by omega,λ h=>by have:=M4.ov.aK h;omega⟩⟩
   ·exact(g7 b (by omega)).trans ((yY b (by omega) λ h=>by have:=hva b h;omega).trans (t5 b (by omega)))
   rw[al.bo,al.dF,Gj];refine o6.frame (by omega) λ b hb=>?_;simp at hb;subst hb;exact g7 _ (by omega)
  simp only[WB,gz,bA,cH,zO]
  by_cases hk0:0<=k
  ·obtain⟨kk,rfl⟩:∃kk:Nat,k=(kk:Int):=⟨k.toNat,by omega⟩;have hkk:kk<N.length:=by omega
   have hsl:jZ 1 (some (.int .i64 ((kk:Int)+1))) none none (bB.ds N)=.val (bB.ds (N.drop (kk+1))):=by
    have:=bB.auu (l:=N) (i:=kk+1) (by omega);simpa using this
   have hct:=qh (N.drop (kk+1)) it.name (by simp;omega);have hfl:=fL p s e1 205 (decide (it.name∈N.drop (kk+1))) K2 (m+1) (by omega) jp;refine bY.of (fP (l:=[⟨58,[bB.ds (N.drop (kk+1)),.str it.name],K2,m+1,.bool (decide (it.name∈N.drop (kk+1))),K2,m+1⟩,⟨16,[.ptr p 0,.int .i64 205,.bool (decide (it.name∈N.drop (kk+1)))],K2,m+1,.bg [],K2.put p (some (bV s (keep e1 205 (decide (it.name∈N.drop (kk+1)))))),m+1⟩]) ?_) ?_
   ·simp only[mem_cons,not_mem_nil,or_false];rintro c (rfl | rfl)
    ·exact hct.gY _ _
    exact hfl
   have e2':∀l v c1 c2,(Kk [⟨58,l,K2,m+1,v,K2,m+1⟩,⟨16,[.ptr p 0,.int .i64 205,.bool (decide (it.name∈N.drop (kk+1)))],K2,m+1,.bg [],K2.put p (some (bV s (keep e1 205 (decide (it.name∈N.drop (kk+1)))))),m+1⟩]).call 16 c1 K2 c2=(Kk [⟨16,[.ptr p 0,.int .i64 205,.bool (decide (it.name∈N.drop (kk+1)))],K2,m+1,.bg [],K2.put p (some (bV s (keep e1 205 (decide (it.name∈N.drop (kk+1)))))),m+1⟩]).call 16 c1 K2 c2:=λ l v c1 c2=>Bh (by decide);simp[aa,f0,f2,JR,x2,ah kk (by unfold lim at hN;omega),hsl,fQ,e2'];generalize FX:(Fp 142 _ _:Fr)=F5;have j3:∀b,b≠p->(K2.put p (some (bV s (keep e1 205 (decide (it.name∈N.drop (kk+1))))))).get b=K2.get b:=λ b hb=>by simp[hb]
   have E':(K2.put p (some (bV s (keep e1 205 (decide (it.name∈N.drop (kk+1))))))).get p=some (bV s (keep e1 205 (decide (it.name∈N.drop (kk+1))))):=by simp
   generalize K2.put p (some (bV s (keep e1 205 (decide (it.name∈N.drop (kk+1))))))=K4 at j3 E' ⊢;have M4:=M2.next hpn hon hpo (Nat.le_refl _) (λ b hb=>(j3 b (by omega)).trans (t2 b hb)) (λ b h1 h2=>j3 b h2) E';have:=fin F5 K4 _ (by rw[<-FX];exact⟨by simp[aa,f0],by simp[aa,f2],by simp[aa,f4],by simp[aa,f6],by simp[aa,f110],by simp[aa,f111],by simp[aa,f112]⟩) (by rw[<-FX];simp[aa]) (by rw[<-FX];simp[aa]) ((j3 m (by omega)).trans x2) M4 (by rw[hor];simp);simpa using this
  have aok:k<0:=by omega
  have hfl:=fL p s e1 205 false K2 (m+1) (by omega) jp;refine bY.of (fP (l:=[⟨16,[.ptr p 0,.int .i64 205,.bool false],K2,m+1,.bg [],K2.put p (some (bV s (keep e1 205 false))),m+1⟩]) ?_) ?_
  ·simp only[mem_cons,not_mem_nil,or_false];rintro c rfl;exact hfl
  simp[aa,f0,hk0,fQ];generalize FX:(Fp 142 _ _:Fr)=F5;have j3:∀b,b≠p->(K2.put p (some (bV s (keep e1 205 false)))).get b=K2.get b:=λ b hb=>by simp[hb]
  have E':(K2.put p (some (bV s (keep e1 205 false)))).get p=some (bV s (keep e1 205 false)):=by simp
  generalize K2.put p (some (bV s (keep e1 205 false)))=K4 at j3 E' ⊢;have M4:=M2.next hpn hon hpo (Nat.le_refl _) (λ b hb=>(j3 b (by omega)).trans (t2 b hb)) (λ b h1 h2=>j3 b h2) E';have:=fin F5 K4 _ (by rw[<-FX];exact⟨by simp[aa,f0],by simp[aa,f2],by simp[aa,f4],by simp[aa,f6],by simp[aa,f110],by simp[aa,f111],by simp[aa,f112]⟩) (by rw[<-FX];simp[aa]) (by rw[<-FX];simp[aa]) ((j3 m (by omega)).trans x2) M4 (by rw[hor];simp[hk0]);simpa using this
 have J2:i=q.order.length:=by omega
 subst J2;simp[MQ,HL,f111,f112];exact hQ va _ K m ⟨by simp[f0],by simp[f2],by simp[f4],by simp[f6],by simp[f110],by simp[f111],by simp[f112]⟩ M
theorem ar.vJ {K:Hp}{m:Nat}{v:AV}{l l':List AV}{len sz:Nat}{h:Hf}(ho:ar K m v l len sz)(hz:0<sz)(hh:∀c,blk v=some c->h c=K.get c)(hl:aN h l l'):dU h v (.ds l' len sz):=by
  obtain⟨s',rfl⟩:∃s',sz=s'+1:=⟨sz - 1,by omega⟩
  obtain⟨h0,⟨rfl,rfl⟩ | ⟨b,kk,rfl,hb,hk,ho⟩⟩:=ho
  · have:l=[]:=by simpa using h0
    subst this
    cases hl
    exact .nil _
  · obtain⟨u,z,bs,t,rfl,hg⟩:=ho.gJ (o:=0) (c:=len*(s'+1)) (by omega)
    refine .sl _ _ _ _ _ _ _ _ _ _ ((hh b rfl).trans hk) hg ?_
    rw[drop_zero,take_of_length_le (by omega)]
    exact hl
theorem amW {F F2:Fr}{K:Hp}{m n o:Nat}{kind:Int}{ns:List (List Nat)}{ts:List aR}{vn vt:AV}(hon:o≠n+1) (hF:∀(t:Nat) v,F2.get t=some v->F.get t=some v) (ks:K.get (n+1)=some (.cells 2 [] [vn,vt] .nil))
    (ko:K.get o=some (.cells 25 [] (bK kind vt (.ak (.slice none 0 0)) (.ak (.slice none 0 0)) (.ak (.slice none 0 0)) (.ak (.slice none 0 0)) (.ak (.slice none 0 0)) (.ak (.slice none 0 0)) false false 0) .nil))(on:ar K m vn (bB.l ns) ns.length 1)(ot:ar K m vt (aG.l ts) ts.length 4)
    (dn:∀b,blk vn=some b->b≠n+1/\b≠o)(dt:∀b,blk vt=some b->b≠n+1/\b≠o):
    ∃h K2,eH h F K F2 K2/\K2.get (n+1)=some (.cells 2 [] (ju ns ts) .nil)/\K2.get o=some (.cells 25 [] (FA kind ts (.ak (.slice none 0 0))) .nil)/\∀b,b≠n+1->b≠o->K2.get b=if blk vn=some b∨blk vt=some b then none else K.get b:=by
  have dl:∀(v:AV) (H:Hp) (b:Nat),(match blk v with
    | some c=>H.put c none
    | none=>H:Hp).get b=if blk v=some b then none else H.get b:=by
    intro v H b
    cases hb:blk v with
    | none=>simp
    | some c=>simp[eq_comm]
  let h:Hf:=λ b=>if blk vn=some b∨blk vt=some b then K.get b else none
  let K1:Hp:=(match blk vn with
    | some c=>K.put c none
    | none=>K)
  let K2:Hp:=(match blk vt with
    | some c=>K1.put c none
    | none=>K1)
  have hK2:∀b,K2.get b=if blk vn=some b∨blk vt=some b then none else K.get b:=by
    intro b
    have e1:K2.get b=if blk vt=some b then none else K1.get b:=dl vt K1 b
    have e2:K1.get b=if blk vn=some b then none else K.get b:=dl vn K b
    rw[e1,e2]
    by_cases h1:blk vn=some b<;>by_cases h2:blk vt=some b<;>simp[h1,h2]
  have zn:dU h vn (bB.ds ns):=on.vJ (by omega) (λ c hc=>by simp[h,hc]) (aN.pure (bB.mY ns))
  have zt:dU h vt (aG.ds ts):=ot.vJ (by omega) (λ c hc=>by simp[h,hc]) (aN.pure (aG.mY ts))
  refine⟨h,(K2.put (n+1) (some (.cells 2 [] (ju ns ts) .nil))).put o (some (.cells 25 [] (FA kind ts (.ak (.slice none 0 0))) .nil)),⟨λ b k hb=>?_,λ b hb=>?_,λ t v hv=>⟨v,hF t v hv,.inl rfl⟩,λ b y hb=>?_⟩,by simp[Ne.symm hon],by simp,λ b h1 h2=>?_⟩
  · have hb:(if blk vn=some b∨blk vt=some b then K.get b else none)=some k:=hb
    split at hb
    · exact hb
    · cases hb
  · have hb:(if blk vn=some b∨blk vt=some b then K.get b else none)≠none:=hb
    by_cases hc:blk vn=some b∨blk vt=some b
    · have hne:b≠n+1/\b≠o:=by
        rcases hc with hc | hc
        · exact dn b hc
        · exact dt b hc
      simp[hne.1,hne.2,hK2,hc]
    · simp[hc]at hb
  · by_cases h1:b=o
    · subst h1
      simp at hb
      subst hb
      exact⟨_,ko,kP.bz (by simp[bK,FA];exact .inr zt) rfl⟩
    · by_cases h2:b=n+1
      · subst h2
        simp[h1]at hb
        subst hb
        exact⟨_,ks,kP.bz (by simp[ju];exact⟨.inr zn,.inr zt⟩) rfl⟩
      · simp only[Tr.get_put,h1,h2,if_false,hK2]at hb
        split at hb
        · cases hb
        · exact⟨y,hb,.inl rfl⟩
  · simp[h1,h2,hK2]
def cJ (s:bD)(q:aY)(kind err:Int):ew×Int:=
  if ep s q.ab q.ab.length err≠0 then ({kind:=kind},ep s q.ab q.ab.length err)else
  ({kind:=kind,Fa:=q.ab.map s.tb,on:=(gB (q.ab.map Src.nm) (q.ab.map s.tb) q.ab q.ab.length 0).1,
     items:=(aT (q.ab.map Src.nm) (q.ab.map s.tb) q (gB (q.ab.map Src.nm) (q.ab.map s.tb) q.ab q.ab.length 0).2).1,
     names:=(aT (q.ab.map Src.nm) (q.ab.map s.tb) q (gB (q.ab.map Src.nm) (q.ab.map s.tb) q.ab q.ab.length 0).2).2.1,
     kinds:=(aT (q.ab.map Src.nm) (q.ab.map s.tb) q (gB (q.ab.map Src.nm) (q.ab.map s.tb) q.ab q.ab.length 0).2).2.2.1,
     cond:=(cQ (q.ab.map Src.nm) (q.ab.map s.tb) q.cond (aT (q.ab.map Src.nm) (q.ab.map s.tb) q (gB (q.ab.map Src.nm) (q.ab.map s.tb) q.ab q.ab.length 0).2).2.2.2).1,
     order:=(eD (aT (q.ab.map Src.nm) (q.ab.map s.tb) q (gB (q.ab.map Src.nm) (q.ab.map s.tb) q.ab q.ab.length 0).2).2.1 q.order q.order.length (cQ (q.ab.map Src.nm) (q.ab.map s.tb) q.cond (aT (q.ab.map Src.nm) (q.ab.map s.tb) q (gB (q.ab.map Src.nm) (q.ab.map s.tb) q.ab q.ab.length 0).2).2.2.2).2).1,
     jA:=q.jA,limited:=q.limited,limit:=q.limit},
   (eD (aT (q.ab.map Src.nm) (q.ab.map s.tb) q (gB (q.ab.map Src.nm) (q.ab.map s.tb) q.ab q.ab.length 0).2).2.1 q.order q.order.length (cQ (q.ab.map Src.nm) (q.ab.map s.tb) q.cond (aT (q.ab.map Src.nm) (q.ab.map s.tb) q (gB (q.ab.map Src.nm) (q.ab.map s.tb) q.ab q.ab.length 0).2).2.2.2).2).2)
theorem aY.c12 (q:aY)(h:12<q.cells.length):q.cells[12]=jm.ds q.order:=by simp[aY.cells]
theorem aY.c13 (q:aY)(h:13<q.cells.length):q.cells[13]=.bool q.limited:=by simp[aY.cells]
theorem aY.c14 (q:aY)(h:14<q.cells.length):q.cells[14]=.int .i64 q.limit:=by simp[aY.cells]
theorem aY.cc (q:aY):(q.cells.drop 4).take 8=q.cond.cells:=by
  simp only[aY.cells,cons_append,nil_append,drop_succ_cons,drop_zero]
  rw[take_append_of_le_length (by simp)];simp
structure aY.dE (s:bD)(q:aY):Prop where
 k:(aj (q.ab.map s.tb)).length+q.items.length<=lim
 s:q.ab.length<=lim
 o:q.order.length<=lim
 it:∀x∈q.items,x.e.sz<=lim/\x.e.may=true
 sr:∀x∈q.ab,x.cond.sz<=lim/\x.cond.maybe=true
 cz:q.cond.sz<=lim
 cm:q.cond.maybe=true
theorem pK (ns:List (List Nat))(ts:List aR)(q:aY)(e:Int):(aT ns ts q e).2.1.length<=(aj ts).length+q.items.length:=by
 have hn:(gj ts).length=(aj ts).length:=by simp[gj,aj,aR.kinds,length_flatMap]
 unfold aT
 split
 ·simp[hn]
 simp
theorem aaf (s:bD)(hs:s.dE)(q:aY)(hq:q.dE s)(kind:Int)(p o:Nat)(err:Int)(H:Hp)(n:Nat)(hpn:p<n)(hon:o<n)(hpo:p≠o)(hp:H.get p=some (bV s err))(ho:H.get o=some (.cells 25 [] (br kind) .nil)):
  bT pG 22 [.ptr p 0,q.av,.ptr o 0] H n (.bg []) ((H.put p (some (bV s (cJ s q kind err).2))).put o (some (.cells 25 [] (cJ s q kind err).1.cells .nil))) n:=by
 refine OA (args:=[q.av]) c22 (by simp[A22]) (by simp[aY.av,aY.pure]) hpn hon hpo hp ho (aL.kA (by simp[br])) (aL.kA (by simp)) λ F H0 hF htop hp0 ho0=>?_;have q1:=dj hpn;have q':=Aj hpn;have r':=Aj hon
 have hcl:∀t∈q.ab.map s.tb,t.ae.length<=lim:=by
  intro t ht;obtain⟨x,_,rfl⟩:=mem_map.1 ht;exact cE (Q:=λ t:aR=>t.ae.length<=lim) (by simp[aR.zero]) hs.tc
 simp[A22,B22,ahr,ahq,ahp,hF,aY.av,aY.c3,al.ag];generalize hK:Tr.put _ (n+1) _=K0;have k0:∀c,c<n->K0.get c=H0.get c:=λ c hc=>by rw[<-hK];simp[dj hc]
 have kn:K0.get n=some (.cells 15 [] q.cells .nil):=by rw[<-hK];simp
 have ks:K0.get (n+1)=some (.cells 2 [] [.ak (.slice none 0 0),.ak (.slice none 0 0)] .nil):=by rw[<-hK];simp
 have kt:cS K0 (n+1+1):=λ c hc=>by
  have e1:¬c=n:=by omega
  have e2:¬c=n+1:=by omega
  rw[<-hK];simp[e1,e2,htop c (by omega)]
 clear hK;refine P8 n p o hpn hon hpo H0 s hs q hq.s kind err _ K0 (n+1+1) _ (.ak (.slice none 0 0)) (.ak (.slice none 0 0)) ⟨by simp[hF],by simp[hF],by simp,by simp,by simp,by simp,by simp⟩ ⟨by omega,kt,λ b h1 _ _=>k0 b h1,(k0 p hpn).trans hp0,kn,ks,(k0 o hon).trans ho0,by simpa using ar.nil _ _ 1,by simpa using ar.nil _ _ 4,by simp,by simp⟩ λ vn vt F1 K1 m1 S1 M1=>?_;clear hF k0 kn ks kt htop hp0 ho0;obtain⟨f0,f2,f4,f6,_,_,_⟩:=S1;have kp1:=M1.kp;have ks1:=M1.ks;have NX:=M1.ko;have hm1:=M1.hm;have ajE:=M1.on;have Ri:=M1.ot;rw[take_length]at ajE Ri;have acH:K1.get p=some (.cells 3 [] [aG.ds s.tables,bC.ds s.indexes,.int .i64 (ep s q.ab q.ab.length err)] .nil):=kp1
 have hqb:cJ s q kind err=if ep s q.ab q.ab.length err≠0 then ({kind:=kind},ep s q.ab q.ab.length err)else (cJ s q kind err):=by
  unfold cJ;split<;>rfl
 by_cases h0:ep s q.ab q.ab.length err=0
 ·simp only[br]at NX;obtain⟨hl1,hl2⟩:=Ri.oK;have hl3:=Ri.dO;have kn1:=M1.kn;have no:(n=o)=False:=by simp only[eq_iff_iff,iff_false];omega
  simp[HN,WO,WN,f0,f2,f4,f6,acH,h0,ks1,NX,hl1,hl2,hl3,no,kn1,aY.c3,al.ag];have g2:∀b,b≠o->(K1.put o (some (.cells 25 [] (bK kind vt (.ak (.slice none 0 0)) (.ak (.slice none 0 0)) (.ak (.slice none 0 0)) (.ak (.slice none 0 0)) (.ak (.slice none 0 0)) (.ak (.slice none 0 0)) false false 0) .nil))).get b=K1.get b:=λ b hb=>by simp[hb]
  have o2:(K1.put o (some (.cells 25 [] (bK kind vt (.ak (.slice none 0 0)) (.ak (.slice none 0 0)) (.ak (.slice none 0 0)) (.ak (.slice none 0 0)) (.ak (.slice none 0 0)) (.ak (.slice none 0 0)) false false 0) .nil))).get o=some (.cells 25 [] (bK kind vt (.ak (.slice none 0 0)) (.ak (.slice none 0 0)) (.ak (.slice none 0 0)) (.ak (.slice none 0 0)) (.ak (.slice none 0 0)) (.ak (.slice none 0 0)) false false 0) .nil):=by simp
  simp only[bK]at g2 o2;generalize Tr.put K1 o _=K2 at g2 o2 ⊢;generalize hF2:(Fp 66 _ _:Fr)=F2;have w0:F2.get 0=some (.ptr p 0):=by rw[<-hF2];simp[f0]
  have w2:F2.get 2=some (.ptr o 0):=by rw[<-hF2];simp[f2]
  have w4:F2.get 4=some (.ptr n 0):=by rw[<-hF2];simp[f4]
  have w6:F2.get 6=some (.ptr (n+1) 0):=by rw[<-hF2];simp[f6]
  have w64:F2.get 64=some (gq.ds q.ab):=by rw[<-hF2];simp
  have w65:F2.get 65=some (.int .i64 (q.ab.length:Int)):=by rw[<-hF2];simp
  have w66:F2.get 66=some (.int .i64 ((0:Nat):Int)):=by rw[<-hF2];simp
  clear hF2;have dn:=M1.dn;have dt:=M1.dt
  obtain⟨hh,K3,hsh,s3,o3,g3⟩:=amW (F:=F2) (F2:=qN F2 [0,2,4,6,64,65,66]) (K:=K2) (m:=m1) (n:=n) (o:=o) (kind:=kind) (ns:=q.ab.map Src.nm) (ts:=q.ab.map s.tb) (vn:=vn) (vt:=vt) (by omega) (λ t v hv=>rV hv) ((g2 (n+1) (by omega)).trans ks1) o2
   (by rw[length_map];exact ajE.frame (Nat.le_refl _) λ c hc=>g2 c (by have:=(dn c hc).1;omega)) (by rw[length_map];exact Ri.frame (Nat.le_refl _) λ c hc=>g2 c (by have:=dt c hc;omega)) (λ b hb=>by have:=(dn b hb).1;omega) (λ b hb=>by have:=dt b hb;omega)
  have bk3:∀b,b<n+2->b≠n+1->b≠o->K3.get b=K1.get b:=λ b h1 h2 h3=>by
   rw[g3 b h2 h3,if_neg,g2 b h3];rintro(h | h)
   ·have:=(dn b h).1;omega
   have:=dt b h;omega
  have t3:cS K3 m1:=λ b hb=>by
   rw[g3 b (by omega) (by omega)]
   split
   ·rfl
   rw[g2 b (by omega)];exact M1.tp b hb
  have Q3:QyM H0 n p o s (q.ab.map Src.nm) (q.ab.map s.tb) q 0 K3 m1:=⟨hm1,t3,λ b h1 h2 h3=>(bk3 b (by omega) (by omega) h3).trans (M1.kf b h1 h2 h3),by rw[bk3 p (by omega) (by omega) hpo,kp1,h0],(bk3 n (by omega) (by omega) (by omega)).trans kn1,s3⟩;have hkl:(aj (q.ab.map s.tb)).length<=lim:=by have:=hq.k;omega
  refine P7 n p o hpn hon hpo H0 s (q.ab.map Src.nm) (q.ab.map s.tb) (by simp) hkl (by simpa using hq.s) hcl q (by simp) hq.sr kind 0 _ K2 m1 _ ⟨hh,_,K3,hsh,.ak (.slice none 0 0),rfl,⟨(dC (by simp)).trans w0,(dC (by simp)).trans w2,(dC (by simp)).trans w4,(dC (by simp)).trans w6,(dC (by simp)).trans w64,(dC (by simp)).trans w65,(dC (by simp)).trans w66⟩,⟨Q3,o3,by simpa using ar.nil _ _ 1,by simp⟩,rfl⟩ λ qE F4 K4 m4 S4 M4=>?_;have hb0:cJ s q kind err=cJ s q kind err:=rfl;rw[cJ,if_neg (by simpa using h0)];have hnl:=pK (q.ab.map Src.nm) (q.ab.map s.tb) q (gB (q.ab.map Src.nm) (q.ab.map s.tb) q.ab q.ab.length 0).2;have hkq:=hq.k;have hlq:(q.ab.map Src.nm).length=(q.ab.map s.tb).length:=by simp
  have ZO:=hq.s;have DV:(q.ab.map s.tb).length<=lim:=by simpa using ZO
  have hol:=Ag (q.ab.map Src.nm) (q.ab.map s.tb) q.ab 0 q.ab.length;generalize q.ab.map Src.nm=ns at *;generalize q.ab.map s.tb=ts at *;clear hsh g3 bk3 t3 Q3 s3 o3 w0 w2 w4 w6 w64 w65 w66 g2 o2 K3 K2 dn dt ajE Ri M1 f0 f2 f4 f6;generalize gB ns ts q.ab q.ab.length 0=ON at *;obtain⟨L,e4⟩:=ON;obtain⟨f0,f2,f4,f6,_,_,_⟩:=S4;have N4:=M4.mem;have hm4:=N4.hm;have ks4:=N4.ks;have kn4:=N4.kn;have QW:=M4.ko;simp only at hol hnl M4 N4 QW ⊢;simp only[ju]at ks4;simp[WJ,f0,f2,f4,f6,ks4,kn4];have oa4:=M4.oa;have da4:=M4.da;have hv1:=oa4.dO
  have hvl:fB m4 [aG.ds ts,qE,(.ak (.slice none 0 0)),(.ak (.slice none 0 0))]:=by
   obtain⟨_,⟨rfl,_⟩ | ⟨b,k,rfl,hb,_⟩⟩:=oa4
   ·simp[Pure.kA]
   simp[Pure.kA,hb]
  have hit:=aa5 ns ts hlq hkl DV hcl s q hkq hq.it ⟨kind,aG.ds ts,qE,(.ak (.slice none 0 0)),(.ak (.slice none 0 0)),false,false,0⟩ ⟨by simp,hv1,by simp,by simp⟩ p o e4 K4 m4 (by omega) (by omega) hpo hvl N4.kp QW;refine ao.ok hit ?_;generalize aT ns ts q e4=IT at *;obtain⟨E,N,Ks,e5⟩:=IT;simp only[QC.out]at hnl ⊢;have g5:∀b,b≠p->b≠o->((K4.put p (some (bV s e5))).put o (some (.cells 25 [] (bK kind (aG.ds ts) qE (.ak (.slice none 0 0)) (dz.ds E) (bB.ds N) (bR.ds Ks) (.ak (.slice none 0 0)) false false 0) .nil))).get b=K4.get b:=λ b h1 h2=>by simp[h1,h2]
  have p5:((K4.put p (some (bV s e5))).put o (some (.cells 25 [] (bK kind (aG.ds ts) qE (.ak (.slice none 0 0)) (dz.ds E) (bB.ds N) (bR.ds Ks) (.ak (.slice none 0 0)) false false 0) .nil))).get p=some (bV s e5):=by simp[hpo]
  have o5:((K4.put p (some (bV s e5))).put o (some (.cells 25 [] (bK kind (aG.ds ts) qE (.ak (.slice none 0 0)) (dz.ds E) (bB.ds N) (bR.ds Ks) (.ak (.slice none 0 0)) false false 0) .nil))).get o=some (.cells 25 [] (bK kind (aG.ds ts) qE (.ak (.slice none 0 0)) (dz.ds E) (bB.ds N) (bR.ds Ks) (.ak (.slice none 0 0)) false false 0) .nil):=by simp
  generalize Tr.put (K4.put p _) o _=K5 at g5 p5 o5 ⊢;have N5:=N4.next hpn hon (Nat.le_refl _) (λ b hb=>(g5 b (by omega) (by omega)).trans (N4.tp b hb)) (λ b _ h2 h3=>g5 b h2 h3) p5;have JG:ar K5 m4 qE (dw.l L) q.ab.length 1:=oa4.frame (Nat.le_refl _) λ b hb=>g5 b (by have:=da4 b hb;omega) (by have:=da4 b hb;omega);have ks5:=N5.ks;have kn5:=N5.kn;simp only[ju]at ks5;simp only[bK]at o5;have hcd:=Bc ns ts hlq hkl DV hcl s q.cond hq.cz hq.cm p e5 K5 m4 (by omega) p5;have gN:q.cond.av=.agg q.cond.cells 8:=Eq.trans rfl rfl;rw[gN]at hcd;simp only[ju]at hcd;simp[WI,f0,f2,f4,f6,ks5,kn5,aY.cc];refine ao.ok hcd ?_;generalize cQ ns ts q.cond e5=CD at *;obtain⟨W,e6⟩:=CD;simp only;have op:(o=p)=False:=by simp[Ne.symm hpo]
  have no:(n=o)=False:=by simp only[eq_iff_iff,iff_false];omega
  have np:(n=p)=False:=by simp only[eq_iff_iff,iff_false];omega
  simp[op,o5,WH,f4,no,np,kn5,aY.c12,al.ag];generalize xD:Tr.put (K5.put p _) o _=K6;have g6:∀b,b≠p->b≠o->K6.get b=K5.get b:=λ b h1 h2=>by rw[<-xD];simp[h1,h2]
  have p6:K6.get p=some (bV s e6):=by rw[<-xD];simp[hpo]
  have o6:K6.get o=some (.cells 25 [] (Ae kind ts qE W E N Ks (.ak (.slice none 0 0))) .nil):=by rw[<-xD];simp[Ae,bK]
  clear xD;have N6:=N5.next hpn hon (Nat.le_refl _) (λ b hb=>(g6 b (by omega) (by omega)).trans (N5.tp b hb)) (λ b _ h2 h3=>g6 b h2 h3) p6
  have Qu:ar K6 m4 qE (dw.l L) L.length 1:=by
   rw[hol];exact JG.frame (Nat.le_refl _) λ b hb=>g6 b (by have:=da4 b hb;omega) (by have:=da4 b hb;omega)
  refine P6 n p o hpn hon hpo H0 s ns ts q hq.o kind L W E N (by omega) Ks qE hv1 e6 _ K6 m4 _ (.ak (.slice none 0 0)) ⟨by simp[f0],by simp[f2],by simp[f4],by simp[f6],by simp,by simp,by simp⟩ ⟨N6,o6,Qu,da4,by simpa using ar.nil _ _ 2,by simp⟩ λ va F7 K7 m7 S7 M7=>?_;have hor:=u9 N q.order e6 q.order.length;generalize eD N q.order q.order.length e6=OR at *;obtain⟨O,e7⟩:=OR;simp only at hor M7 ⊢;obtain⟨f0,f2,f4,f6,_,_,_⟩:=S7;have kn7:=M7.mem.kn;have ko7:=M7.ko;simp only[Ae,bK]at ko7;have zv:dU (above n K7) qE (dw.ds L):=M7.ov.vK (λ b hb=>by have:=M7.dv b hb;omega) (aN.pure (dw.mY L)) (by omega)
  have zo:dU (above n K7) va (sA.ds O):=by
   have:=M7.oa.vK (n0:=n) (λ b hb=>by have:=(M7.da b hb).1;omega) (aN.pure (sA.mY O)) (by omega);rw[al.ds,hor];exact this
  simp only[gz,WA,cH];refine bY.of (bH (P:=pG)) ?_;simp[aa,f2,f4,kn7,ko7,no,aY.c0,aY.c13,aY.c14];have zm:∀K':Hp,(∀b,b≠o->K'.get b=K7.get b)->dU (above n K') qE (dw.ds L)/\dU (above n K') va (sA.ds O):=λ K' h=>⟨zv.mono (EC λ b k h1 h2=>⟨h1,(h b (by omega)).trans h2⟩),zo.mono (EC λ b k h1 h2=>⟨h1,(h b (by omega)).trans h2⟩)⟩;refine⟨.pure _ (by simp),λ c h1 h2 h3=>by simp[h3,M7.mem.kf c h1 h2 h3],by simp[hpo];exact M7.mem.kp,?_⟩;generalize Ob:Tr.put (Tr.put (Tr.put K7 o _) o _) o _=K9;have zz:=zm K9 λ b hb=>by rw[<-Ob];simp[hb]
  simp[ew.cells,aR.zero,jb.zero];exact⟨.inr zz.1,.inr zz.2⟩
 rw[hqb];simp[HN,f0,acH,h0];exact⟨.pure _ (by simp),M1.kf,rfl,_,NX,rfl,by simp[br,ew.cells,aR.zero,jb.zero]⟩
theorem wi (t:aR)(s:List Nat)(h:t.ae.length<=lim):ai pG 118 [aG.av t,.str s] (.int .i64 (eE (λ c:eW=>decide (c.name=s)) t.ae)):=by
 unfold lim at h;refine bf c118 (by simp) (by simp) (by simp[A118]) λ F hF=>?_;simp[A118,B118,XY,XX,hF,al.av];refine au.of (λ q F K n ms=>∃i,q=t.ae.length - i/\i<=t.ae.length/\F.get 1=some (.str s)/\F.get 2=some (.ptr 0 0)/\F.get 5=some (.int .i64 (i:Int))/\K.get 0=some (.cells 4 [] (aG.cells t) .nil)/\ms=[]/\∀j (_:j<i) (h:j<t.ae.length),t.ae[j].name≠s) t.ae.length ⟨0,by simp[hF]⟩ ?_;clear hF F;rintro q F K n ms ⟨i,rfl,hi,f1,f2,f5,k0,rfl,hj⟩;rw[aU]at k0
 by_cases hlt:i<t.ae.length
 ·have hx:=aW.ix (ik:=.i64) hlt;rw[dQ]at hx
  by_cases he:t.ae[i].name=s
  ·simp[CP,Cj,IG,XW,f1,f2,f5,k0,al.ag,hlt,hx,he];refine .eq (by simp) ?_;rw[nX hlt (by simp[he]) λ j hj'=>by simpa using hj j hj' (by omega)]
  simp[CP,Cj,IG,XV,f1,f2,f5,k0,al.ag,hlt,hx,he,ah i (by omega)];refine⟨_,by omega,i+1,rfl,hlt,rfl,aU t,λ j hj' h=>?_⟩
  by_cases e:j=i
  ·subst e;exact he
  exact hj j (by omega) h
 obtain rfl:i=t.ae.length:=by omega
 simp[CP,Cj,XU,f2,f5,k0,al.ag];refine .eq (by simp) ?_;rw[kW λ j h=>by simpa using hj j h h]
theorem acj (t:aR)(r:List AV)(H:Hp):eo 4 (.dp (.int .u32 t.id::.str t.name::aW.ds t.ae::.int .u32 t.head::r)) H=.val (aG.av t):=aG.gM t r H
theorem JL (s:bD) (hs:s.dE) (name:List Nat):ai pG 84 [cw.av s,.str name] (.bg [aG.av (s.named name).1,.bool (s.named name).2]):=by
 have ht:=hs.t;unfold lim at ht;refine bf c84 (by simp) (by simp) (by simp[A84]) λ F hF=>?_;simp[A84,B84,aeo,aen,hF,al.av];refine au.of (λ q F K n ms=>∃i,q=s.tables.length - i/\i<=s.tables.length/\F.get 1=some (.str name)/\F.get 2=some (.ptr 0 0)/\F.get 4=some (.ptr 1 0)/\F.get 6=some (.int .i64 (i:Int))/\K.get 0=some (.cells 2 [] (cw.cells s) .nil)/\K.get 1=some (.cells 4 [] [(.int .u32 0),(.str []),(.ak (.slice none 0 0)),(.int .u32 0)] .nil)/\ms=[]/\∀j (_:j<i) (h:j<s.tables.length),s.tables[j].name≠name) s.tables.length ⟨0,by simp[hF]⟩ ?_;clear hF F;rintro q F K n ms ⟨i,rfl,hi,f1,f2,f4,f6,k0,k1,rfl,hj⟩;rw[cC]at k0
 by_cases hlt:i<s.tables.length
 ·have hx:=aG.ix (ik:=.i64) hlt
  by_cases he:s.tables[i].name=name
  ·subst he
   have hf:s.named s.tables[i].name=(s.tables[i],true):=by
    unfold bD.named e8;rw[find?_eq_some_iff_getElem.2 ⟨by simp,i,hlt,rfl,λ j hj'=>by simpa using hj j hj' (by omega)⟩]
   rw[aU]at hx;simp[MC,Kz,Ua,aem,f1,f2,f4,f6,k0,k1,al.ag,hlt,hx,acj,al.av,aU,hf];exact .pure _ (by simp)
  rw[aU]at hx;simp[MC,Kz,Ua,ael,f1,f2,f4,f6,k0,al.ag,hlt,hx,he,ah i (by omega)];refine⟨_,by omega,i+1,rfl,hlt,rfl,?_⟩;refine⟨by rw[cC],k1,λ j hj' h=>?_⟩
  by_cases e:j=i
  ·subst e;exact he
  exact hj j (by omega) h
 obtain rfl:i=s.tables.length:=by omega
 have hf:s.named name=(aR.zero,false):=by
  unfold bD.named e8
  rw[find?_eq_none.2 λ x hx=>by
   obtain⟨j,h,rfl⟩:=getElem_of_mem hx;simpa using hj j h h]
 simp[MC,Kz,aek,f2,f4,f6,k0,k1,al.ag,hf];exact .bg _ _ (.cons _ _ _ _ (.agg _ _ _ (ZS _)) (.cons _ _ _ _ (.pure _ (by simp)) .nil))
def jd:al (List Nat×aR) 5:=⟨λ x=>.str x.1::aG.cells x.2,λ _=>by simp,λ _=>by simp,λ _=>by simp⟩
theorem tG (x:List Nat×aR):jd.cells x=.str x.1::aG.cells x.2:=rfl
def dK (table name:List Nat):List (List Nat×aR)->Nat->List Int
 | [],_=>[]
 | x::r,a=>(if (table=[]∨table=x.1)/\0<=eE (λ c:eW=>decide (c.name=name)) x.2.ae then [(a:Int)+eE (λ c:eW=>decide (c.name=name)) x.2.ae]else [])++dK table name r (a+x.2.ae.length)
def lu (table:List Nat):List (List Nat×aR)->Nat
 | []=>0
 | x::r=>(if table=[]∨table=x.1 then 1 else 0)+lu table r
theorem vB (table name:List Nat)(x:List Nat×aR):∀(l:List (List Nat×aR))(a:Nat),dK table name (l++[x]) a=dK table name l a++(if (table=[]∨table=x.1)/\0<=eE (λ c:eW=>decide (c.name=name)) x.2.ae then [((a+(aj (l.map (·.2))).length:Nat):Int)+eE (λ c:eW=>decide (c.name=name)) x.2.ae]else [])
 | [],a=>by simp[dK,aj]
 | y::r,a=>by
  have h:=vB table name x r (a+y.2.ae.length);simp only[cons_append,dK,h,map_cons,tB,append_assoc,Nat.add_assoc]
theorem yu (table:List Nat)(x:List Nat×aR):∀(l:List (List Nat×aR)),lu table (l++[x])=lu table l+(if table=[]∨table=x.1 then 1 else 0)
 | []=>by simp[lu]
 | y::r=>by simp only[cons_append,lu,yu table x r,Nat.add_assoc]
def gE (table name:List Nat)(l:List (List Nat×aR)):Int×Int:=
 if (dK table name l 0).length=1 then ((dK table name l 0).getD 0 0,0)else if 1<(dK table name l 0).length then (0,205)else if table≠[]/\lu table l=0 then (0,200)else (0,201)
theorem yT (table name:List Nat):∀(l:List (List Nat×aR))(a:Nat),(dK table name l a).length<=l.length
 | [],a=>by simp[dK]
 | y::r,a=>by
  have h:=yT table name r (a+y.2.ae.length);simp only[dK,length_append,length_cons]
  split<;>simp<;>omega
theorem C6 (table:List Nat):∀(l:List (List Nat×aR)),lu table l<=l.length
 | []=>by simp[lu]
 | y::r=>by
  have h:=C6 table r;simp only[lu,length_cons]
  split<;>omega
theorem cZ {α:Type}{l:List α}{i:Nat}(h:i<l.length):l.take (i+1)=l.take i++[l[i]]:=by
 rw[take_add_one,getElem?_eq_getElem h];rfl
theorem uI (x:Int)(h1 : -2147483648<=x)(h2:x<2147483648):IntKind.i64.wrap x=x:=by
 simp[IntKind.wrap,IntKind.signed,IntKind.bits];omega
theorem ar.QL {H:Hp}{n:Nat}{v:AV}{l:List AV}{len sz:Nat}(h:ar H n v l len sz):aX v=.val (.int .i64 (len:Int)):=by
 obtain⟨_,⟨rfl,rfl⟩ | ⟨b,k,rfl,_⟩⟩:=h<;>rfl
theorem ajQ (l:List (List Nat×aR))(table name:List Nat)(hl:l.length<=lim)(hk:(aj (l.map (·.2))).length<=lim)(hc:∀x∈l,x.2.ae.length<=lim):
  ai pG 130 [jd.ds l,.str table,.str name] (.bg [.int .i64 (gE table name l).1,.int .i64 (gE table name l).2]):=by
 unfold lim at hl hk;generalize hts:l.map (·.2)=ts at hk;have htl:ts.length=l.length:=by rw[<-hts,length_map]
 refine bf c130 (by simp) (by simp) (by simp[A130]) λ F hF=>?_;simp[A130,B130,Xk,Xj,Xi,Xh,Xg];refine au.of (λ q F K n ms=>∃(i:Nat) (x:AV),q=l.length - i/\i<=l.length/\F.get 0=some (jd.ds l)/\F.get 1=some (.str table)/\F.get 2=some (.str name)/\F.get 8=some x/\F.get 9=some (.int .i64 ((aj (ts.take i)).length:Int))/\F.get 10=some (.int .i64 (lu table (l.take i):Int))/\F.get 11=some (.int .i64 (i:Int))/\ar K n x (bR.l (dK table name (l.take i) 0)) (dK table name (l.take i) 0).length 1/\ms=[]) l.length ⟨0,.ak (.slice none 0 0),by simp[hF,aj,lu,dK,ar.nil]⟩ ?_;clear hF F;rintro q F K n ms ⟨i,x,rfl,hi,f0,f1,f2,f8,f9,f10,f11,ho,rfl⟩;have hh:=yT table name (l.take i) 0;have hs:=C6 table (l.take i);rw[length_take]at hh hs
 by_cases hlt:i<l.length
 ·have hx:=jd.ix (ik:=.i64) hlt;rw[tG]at hx;have hld:=λ r H=>aG.gM l[i].2 r H;have hci:=hc _ (getElem_mem hlt);have hti:ts[i]'(by omega)=l[i].2:=by subst hts;simp
  have hkl:(aj (ts.take (i+1))).length=(aj (ts.take i)).length+l[i].2.ae.length:=by
   rw[cZ (by omega),hti];simp[aj,aR.kinds]
  have hkb:(aj (ts.take (i+1))).length<=(aj ts).length:=gD _ _;have hit:dK table name (l.take (i+1)) 0=_:=(congrArg (λ z=>dK table name z 0) (cZ hlt)).trans (vB table name l[i] (l.take i) 0);have hsr:lu table (l.take (i+1))=_:=(congrArg (lu table) (cZ hlt)).trans (yu table l[i] (l.take i));rw[Nat.zero_add,map_take,hts]at hit;have hid:=nY (λ c:eW=>decide (c.name=name)) l[i].2.ae;have FU:=wi l[i].2 name hci;simp[Jf,HS,Xf,f0,f2,f11,al.ag,hlt,hx,hld];refine ao.pure FU ?_;generalize eE (λ c:eW=>decide (c.name=name)) l[i].2.ae=kk at hit hid
  have w1:IntKind.i64.wrap (((aj (ts.take i)).length:Int)+(l[i].2.ae.length:Int))=((aj (ts.take (i+1))).length:Int):=by
   rw[hkl,Int.natCast_add];exact uI _ (by omega) (by omega)
  have w4:=ah i (by omega);generalize ZO:lu table (l.take i)=S at *;generalize DV:lu table (l.take (i+1))=S' at *;generalize Rm:dK table name (l.take (i+1)) 0=Rl at *
  by_cases h1:table=[]∨table=l[i].1
  ·have h1':S'=S+1:=by rw[hsr,if_pos h1]
   have w2:IntKind.i64.wrap ((S:Int)+1)=(S':Int):=by rw[h1'];exact uI _ (by omega) (by omega)
   have d1:¬table=[]->decide (table=l[i].1)=true:=λ h=>by simpa[h]using h1
   by_cases h2:0<=kk
   ·rw[if_pos ⟨h1,h2⟩]at hit;have w3:IntKind.i64.wrap (((aj (ts.take i)).length:Int)+kk)=((aj (ts.take i)).length:Int)+kk:=uI _ (by omega) (by omega);have hlen:Rl.length=(dK table name (l.take i) 0).length+1:=by rw[hit];simp
    have fin:∀(K':Hp) (n':Nat),ar K' n' (.sl (n+1) 0 ((dK table name (l.take i) 0).length+1) 1) (bR.l (dK table name (l.take i) 0)++[.int .i64 (((aj (ts.take i)).length:Int)+kk)]) ((dK table name (l.take i) 0).length+1) 1->ar K' n' (.sl (n+1) 0 ((dK table name (l.take i) 0).length+1) 1) (bR.l Rl) Rl.length 1:=λ K' n' h=>by
     rw[hlen,hit,al.bo,al.dF,eR];exact h
    rcases Classical.em (table=[])with rfl | h3
    ·simp[sS,wX,wW,BN,f1,f8,f9,f10,h2,w2,w3];refine ar.app (k:=1) (new:=[.int .i64 (((aj (ts.take i)).length:Int)+kk)]) (ho.frame (by omega) λ c hc=>by have:=ho.aK hc;simp[dj this]) (aB (by simp)) (by simp) (by simp) (by omega) (by omega) (by unfold big;omega) (by omega) (by simp[bm]) λ K' o' _=>?_;simp[oH,oG,f0,f1,f2,f9,f11,hx,w1,w4,aU,al.ag];exact⟨_,by omega,i+1,rfl,hlt,rfl,DV.symm,rfl,by rw[Rm];exact fin _ _ o'⟩
    have d1:=d1 h3;simp[sS,wX,wW,BN,f0,f1,f8,f9,f10,f11,hx,h2,h3,w2,w3,d1];refine ar.app (k:=1) (new:=[.int .i64 (((aj (ts.take i)).length:Int)+kk)]) (ho.frame (by omega) λ c hc=>by have:=ho.aK hc;simp[dj this]) (aB (by simp)) (by simp) (by simp) (by omega) (by omega) (by unfold big;omega) (by omega) (by simp[bm]) λ K' o' _=>?_;simp[oH,oG,f0,f1,f2,f9,f11,hx,w1,w4,aU,al.ag];exact⟨_,by omega,i+1,rfl,hlt,rfl,DV.symm,rfl,by rw[Rm];exact fin _ _ o'⟩
   rw[if_neg (by simp[h2])]at hit;simp at hit;rw[<-hit]at ho
   rcases Classical.em (table=[])with rfl | h3
   ·simp[sS,wX,wW,oH,oG,f0,f1,f2,f8,f9,f10,f11,hx,h2,w1,w2,w4,aU,al.ag];exact⟨_,by omega,i+1,rfl,hlt,rfl,DV.symm,rfl,by rw[Rm];exact ho⟩
   have d1:=d1 h3;simp[sS,wX,wW,oH,oG,f0,f1,f2,f8,f9,f10,f11,hx,h2,h3,w1,w2,w4,d1,aU,al.ag];exact⟨_,by omega,i+1,rfl,hlt,rfl,DV.symm,rfl,by rw[Rm];exact ho⟩
  have h1':S'=S:=by rw[hsr,if_neg h1,Nat.add_zero]
  rw[if_neg (by simp[h1])]at hit;simp at hit h1;rw[<-hit]at ho;simp[sS,oH,oG,f0,f1,f2,f8,f9,f10,f11,hx,h1,w1,w4,aU,al.ag];exact⟨_,by omega,i+1,rfl,hlt,rfl,h1'.symm.trans DV.symm,rfl,by rw[Rm];exact ho⟩
 obtain rfl:i=l.length:=by omega
 rw[take_length]at *;simp[Jf,HS,f0,f11,al.ag]
 by_cases g1:(dK table name l 0).length=1
 ·obtain⟨_,⟨_,h0⟩ | ⟨b,k,rfl,hb,hk',ZP⟩⟩:=ho
  ·omega
  obtain⟨z,hz⟩:=length_eq_one_iff.1 g1;have hfd:gE table name l=(z,0):=by simp[gE,hz]
  have hld:=Qh (i:=0) hk' ZP (by rw[hz,al.dF,eR];simp);have hze:(bR.l (dK table name l 0))[0]'(by rw[hz,al.dF,eR];simp)=.int .i64 z:=by simp[hz,al.dF,eR]
  rw[hze]at hld;have hxa:cO 1 (.sl b 0 1 1) (.int .i64 0)=.val (.ptr b 0):=rfl;simp[oF,Lk,f8,g1,hxa,hld,hfd];exact .pure _ (by simp)
 have hln:=ho.QL
 by_cases g2:1<(dK table name l 0).length
 ·have hfd:gE table name l=(0,205):=by simp[gE,g1,g2]
  simp[oF,rF,Lj,f8,hln,hfd,show ((dK table name l 0).length:Int)≠1 by omega,show (1:Int)<((dK table name l 0).length:Int) by omega];exact .pure _ (by simp)
 have i1:¬((dK table name l 0).length:Int)=1:=by omega
 have i2:¬(1:Int)<((dK table name l 0).length:Int):=by omega
 rcases Classical.em (table=[])with rfl | g3
 ·have hfd:gE [] name l=(0,201):=by simp[gE,g1,g2]
  simp[oF,rF,uC,BM,f1,f8,i1,i2,hln,hfd];exact .pure _ (by simp)
 by_cases g4:lu table l=0
 ·have hfd:gE table name l=(0,200):=by simp[gE,g1,g2,g3,g4]
  simp[oF,rF,uC,Li,f1,f8,f10,i1,i2,hln,hfd,g3,g4];exact .pure _ (by simp)
 have hfd:gE table name l=(0,201):=by simp[gE,g1,g2,g4]
 simp[oF,rF,uC,BM,f1,f8,f10,i1,i2,g4,hln,hfd,g3];exact .pure _ (by simp)
theorem al.ajf {α:Type}{k:Nat}(E:al α k){l:List α}{i j:Nat}(h:i<l.length)(hj:j<k):(E.l l)[i*k+j]?=(E.cells l[i])[j]?:=by
 rw[<-getElem?_drop,E.QV h,getElem?_append_left (by simpa using hj)]
theorem aao {H:Hp}{b i:Nat}{k:bI}{L:List AV}{v:AV}(hb:H.get b=some k)(ho:fe k L)(hv:L[i]?=some v):eT (.ptr b i) H=.val v:=by
 obtain⟨h1,h2⟩:=List.getElem?_eq_some_iff.1 hv;rw[Qh hb ho h1,h2]
theorem ar.ld {H:Hp}{n:Nat}{v y:AV}{l:List AV}{len sz i o:Nat}{ik:IntKind}(h:ar H n v l len sz)(hi:i<len)(hv:l[o]?=some y):∃b,cO sz v (.int ik (i:Int))=.val (.ptr b (i*sz))/\eT (.ptr b o) H=.val y:=by
 obtain⟨_,⟨_,h0⟩ | ⟨b,k,rfl,hb,hk,ho⟩⟩:=h
 ·omega
 exact⟨b,by rw[lT hi,Nat.zero_add],aao hk ho hv⟩
theorem eO {err e:Int}{b:Bool}(h:err≠0):keep err e b=err:=by simp[keep,h]
theorem FM (e:Int)(b:Bool):keep 0 e b=if b=true then e else 0:=by simp[keep]
theorem Ju (s:bD)(l:List Src)(e:Int):∀(d i:Nat),ep s l i e≠0->ep s l (i+d) e=ep s l i e
 | 0,i,_=>rfl
 | d+1,i,h=>by
  have h1:=Ju s l e d i h;rw[show i+(d+1)=(i+d)+1 by omega,ep,h1,eO h,eO h]
def bD.so (s:bD)(x:Src):List Nat×aR:=(x.nm,s.tb x)
structure SoM (s:bD)(q:aY)(i:Nat)(x:AV)(K:Hp)(m:Nat):Prop where
 hm:2<=m
 tp:cS K m
 k0:K.get 0=some (.cells 2 [] (cw.cells s) .nil)
 k1:K.get 1=some (.cells 15 [] q.cells .nil)
 ow:ar K m x (jd.l ((q.ab.take i).map s.so)) i 5
 dx:∀b,blk x=some b->2<=b
structure SoG (i:Nat)(x:AV)(F:Fr):Prop where
 f2:F.get 2=some (.ptr 0 0)
 f3:F.get 3=some (.ptr 1 0)
 f6:F.get 6=some x
 f7:F.get 7=some (.int .i64 (i:Int))
theorem Fq (s:bD)(q:aY)(i:Nat)(hi:i<=q.ab.length)(hl:q.ab.length<=lim)(x:AV)(nm:List Nat)(F:Fr)(K:Hp)(m a:Nat)(Q:QA)(G:SoG i x F)(f8:F.get 8=some (.ptr a 0))(f10:F.get 10=some (.str nm))(f11:F.get 11=some (.int .i64 0))(M:SoM s q i x K m)
  (hin:nm∈(q.ab.take i).map Src.nm->∀F,F.get 4=some (.ak (.slice none 0 0))->F.get 5=some (.int .i64 205)->Q .ret F K m [])
  (hQ:nm∉(q.ab.take i).map Src.nm->∀F,SoG i x F->F.get 8=some (.ptr a 0)->F.get 10=some (.str nm)->Q .normal F K m []):au sY pG F K m [] (bX 2 Q):=by
 unfold lim at hl;have hlen:(q.ab.take i).length=i:=by rw[length_take];omega
 refine au.of (λ g F K' m' ms=>∃k:Nat,g=i - k/\k<=i/\SoG i x F/\F.get 8=some (.ptr a 0)/\F.get 10=some (.str nm)/\F.get 11=some (.int .i64 (k:Int))/\K'=K/\m'=m/\ms=[]/\nm∉(q.ab.take k).map Src.nm) i ⟨0,by simp,by omega,G,f8,f10,by simpa using f11,rfl,rfl,rfl,by simp⟩ ?_;clear G f8 f10 f11 F;rintro g F K' m' ms ⟨k,rfl,hk,⟨f2,f3,f6,f7⟩,f8,f10,f11,rfl,rfl,rfl,hno⟩;have hln:=M.ow.QL
 by_cases hlt:k<i
 ·have hkl:k<q.ab.length:=by omega
  have hsn:q.ab.take (k+1)=q.ab.take k++[q.ab[k]]:=cZ hkl;obtain⟨b,h1,h2⟩:=M.ow.ld (ik:=.i64) (o:=k*5) (y:=.str q.ab[k].nm) hlt (by rw[show k*5=k*5+0 from rfl,jd.ajf (by simp;omega) (by omega)];simp[tG,bD.so])
  by_cases he:q.ab[k].nm=nm
  ·have hmem:nm∈(q.ab.take i).map Src.nm:=mem_map.2 ⟨q.ab[k],mem_take_iff_getElem.2 ⟨k,by omega,rfl⟩,he⟩;simp[sY,uE,Cu,LD,f6,f10,f11,hln,hlt,h1,h2,he];exact hin hmem _ (by simp) (by simp)
  simp[sY,uE,Cu,LC,f6,f10,f11,hln,hlt,h1,h2,he,ah k (by omega)];refine⟨_,by omega,k+1,rfl,hlt,⟨by simp[f2],by simp[f3],by simp[f6],by simp[f7]⟩,by simp[f8],rfl,?_⟩;rw[<-map_take,hsn,map_append,mem_append];rintro(h | h)
  ·exact hno h
  exact he (by simp at h;exact h.symm)
 obtain rfl:k=i:=by omega
 simp[sY,uE,f6,f11,hln];exact hQ hno _ ⟨by simp[f2],by simp[f3],by simp[f6],by simp[f7]⟩ (by simp[f8]) (by simp[f10])
theorem uR (s:bD)(q:aY)(i:Nat)(hlt:i<q.ab.length)(hl:q.ab.length<=lim)(x:AV)(F:Fr)(K:Hp)(m a:Nat)(Q:QA)(G:SoG i x F)(f8:F.get 8=some (.ptr a 0))(f10:F.get 10=some (.str q.ab[i].nm))(M:SoM s q i x K m)(ha:K.get a=some (.cells 4 [] (aG.cells (s.tb q.ab[i])) .nil))
  (hin:q.ab[i].nm∈(q.ab.take i).map Src.nm->∀F,F.get 4=some (.ak (.slice none 0 0))->F.get 5=some (.int .i64 205)->Q .ret F K m [])
  (hQ:q.ab[i].nm∉(q.ab.take i).map Src.nm->∀F K m x,SoG i x F->SoM s q (i+1) x K m->Q .normal F K m []):VC pG (.seq (.seq Cv (.block 2 (.loop sY))) Ct) F K m [] Q:=by
 have hl':=hl;unfold lim at hl';obtain⟨w2,w3,w6,w7⟩:=G;simp[Cv];refine Fq s q i (by omega) hl x q.ab[i].nm _ K m a _ ⟨by simp[w2],by simp[w3],by simp[w6],by simp[w7]⟩ (by simp[f8]) (by simp[f10]) (by simp) M (λ hin' F4 f4 f5=>by simpa using hin hin' F4 f4 f5) λ hno F4 ⟨w2,w3,w6,w7⟩ w8 w10=>?_;rw[aU]at ha;simp[Ct,w6,w8,w10,ha];have hm:=M.hm;have tp:=M.tp;generalize hK1:Tr.put K m _=K1;have g1:∀b,b<m->K1.get b=K.get b:=λ b hb=>by rw[<-hK1];simp[dj hb]
 have x1:K1.get m=some (.cells 5 [] (jd.cells (s.so q.ab[i])) .nil):=by rw[<-hK1];simp[tG,aU,bD.so]
 have t1:cS K1 (m+1):=λ b hb=>by
  have e1:¬b=m:=by omega
  rw[<-hK1];simp[e1,tp b (by omega)]
 clear hK1;have o1:=M.ow.frame (H':=K1) (n':=m+1) (by omega) λ b hb=>g1 b (M.ow.aK hb);refine ar.jr (k:=1) (new:=jd.cells (s.so q.ab[i])) o1 (aB x1) (by simp) (by simp) (by omega) (by omega) (by unfold big;omega) (by omega) (by simp) λ K2 o2 g2=>?_;have nx:∀b,b<2->blk x≠some b:=λ b h1 h2=>by have:=M.dx b h2;omega
 have hxl:∀b,blk x=some b->b<m:=λ b h=>M.ow.aK h;simp;refine hQ hno _ K2 _ (.sl (m+1) 0 (i+1) 5) ⟨by simp[w2],by simp[w3],by simp,by simp[w7]⟩ ⟨by omega,λ b hb=>?_,?_,?_,?_,λ b hb=>by simp at hb;omega⟩
 ·exact(g2 b (by omega) λ h=>by have:=hxl b h;omega).trans (t1 b (by omega))
 ·exact(g2 0 (by omega) (nx 0 (by omega))).trans ((g1 0 (by omega)).trans M.k0)
 ·exact(g2 1 (by omega) (nx 1 (by omega))).trans ((g1 1 (by omega)).trans M.k1)
 rw[cZ hlt,map_append,al.bo];simpa[al.dF]using o2
theorem Ng (s:bD) (hs:s.dE) (q:aY) (hl:q.ab.length<=lim):ai pG 115 [cw.av s,q.av]
  (.bg [jd.ds (if ep s q.ab q.ab.length 0=0 then q.ab.map s.so else []),.int .i64 (ep s q.ab q.ab.length 0)]):=by
 have hl':=hl;unfold lim at hl';refine bf c115 (by simp[aY.av,aY.pure]) (by simp) (by simp[A115]) λ F hF=>?_;simp[A115,B115,Ye,Yd,Yc,hF,al.av,aY.av]
 refine au.of (λ g F K m ms=>∃(i:Nat) (x:AV),g=q.ab.length - i/\i<=q.ab.length/\SoG i x F/\SoM s q i x K m/\ep s q.ab i 0=0/\ms=[]) q.ab.length
  ⟨0,.ak (.slice none 0 0),by simp,by omega,⟨by simp,by simp,by simp,by simp⟩,⟨by omega,λ b hb=>by simp[show ¬b=0 by omega,show ¬b=1 by omega],by simp,by simp,by simpa using ar.nil _ _ 5,by simp⟩,rfl,rfl⟩ ?_
 clear hF F;rintro g F K m ms ⟨i,x,rfl,hi,⟨f2,f3,f6,f7⟩,M,he,rfl⟩;have k0:=M.k0;have k1:=M.k1;have hm:=M.hm;have tp:=M.tp
 by_cases hlt:i<q.ab.length
 ·have hx:=gq.ix (ik:=.i64) hlt;rw[qd]at hx;have h35:=JL s hs q.ab[i].table;have he1:ep s q.ab (i+1) 0=keep (keep 0 200 (!(s.named q.ab[i].table).2)) 205 (decide (q.ab[i].nm∈(q.ab.take i).map Src.nm)):=by rw[ep,he,mL hlt]
  have hon:ep s q.ab (i+1) 0≠0->ep s q.ab q.ab.length 0=ep s q.ab (i+1) 0:=λ h=>by
   have:=Ju s q.ab 0 (q.ab.length - (i+1)) (i+1) h
   rwa [show i+1+(q.ab.length - (i+1))=q.ab.length by omega]at this
  have htm:=tp m (Nat.le_refl _);simp only[Jl,IQ,Yb];simp[f3,f7,k1,aY.c3,al.ag,hlt];refine bY.of (fP (l:=[⟨84,[.agg (cw.cells s) 2,.str q.ab[i].table],K,m,.bg [.agg (aG.cells (s.named q.ab[i].table).1) 4,.bool (s.named q.ab[i].table).2],K,m⟩]) ?_) ?_
  ·simp only[mem_singleton];rintro c rfl;exact h35.gY K m
  have hsl:(cw.cells s).length=2:=cw.aA s;simp[aa,f2,f3,f7,k0,k1,aY.c3,hx,fQ,bw,bL,htm];generalize hK1:Tr.put (Tr.put K m _) m _=K1;have g1:∀b,b<m->K1.get b=K.get b:=λ b hb=>by rw[<-hK1];simp[dj hb]
  have x1:K1.get m=some (.cells 4 [] (aG.cells (s.tb q.ab[i])) .nil):=by rw[<-hK1];simp[bD.tb]
  have t1:cS K1 (m+1):=λ b hb=>by
   have e1:¬b=m:=by omega
   rw[<-hK1];simp[e1,tp b (by omega)]
  clear hK1;generalize hF2:(Fp 9 _ _:Fr)=F2;have w2:F2.get 2=some (.ptr 0 0):=by rw[<-hF2];simp[aa,f2]
  have w3:F2.get 3=some (.ptr 1 0):=by rw[<-hF2];simp[aa,f3]
  have w6:F2.get 6=some x:=by rw[<-hF2];simp[aa,f6]
  have w7:F2.get 7=some (.int .i64 (i:Int)):=by rw[<-hF2];simp[aa,f7]
  have w8:F2.get 8=some (.ptr m 0):=by rw[<-hF2];simp
  have w9:F2.get 9=some (.bool (s.named q.ab[i].table).2):=by rw[<-hF2];simp
  clear hF2 f2 f3 f6 f7;have M1:SoM s q i x K1 (m+1):=⟨by omega,t1,(g1 0 (by omega)).trans k0,(g1 1 (by omega)).trans k1,M.ow.frame (by omega) λ b hb=>g1 b (M.ow.aK hb),M.dx⟩;have k10:=M1.k1
  cases hb:(s.named q.ab[i].table).2 with
  | false =>
   rw[hb]at he1 w9;have he2:ep s q.ab (i+1) 0=200:=by rw[he1];simp[keep]
   have he3:=(hon (by omega)).trans he2;simp[Cr,Ya,w9,he3];exact .bg _ _ (.cons _ _ _ _ (.nil 4) (.cons _ _ _ _ (.pure _ (by simp)) .nil))
  | true =>
   rw[hb]at he1 w9;simp[keep]at he1
   have hin:q.ab[i].nm∈(q.ab.take i).map Src.nm->ep s q.ab q.ab.length 0=205:=λ hin=>by
    have he2:ep s q.ab (i+1) 0=205:=by rw[he1,if_pos (by simpa using hin)]
    exact(hon (by omega)).trans he2
   have hno:q.ab[i].nm∉(q.ab.take i).map Src.nm->ep s q.ab (i+1) 0=0:=λ hin=>by rw[he1,if_neg (by simpa using hin)]
   have hw:=ah i (by omega)
   by_cases h0:q.ab[i].name=[]
   ·have hnm:q.ab[i].nm=q.ab[i].table:=by simp[Src.nm,h0]
    simp[Cr,w9,IP,w3,w7,k10,aY.c3,hx,IM,h0];rw[<-bA];refine uR s q i hlt hl x _ K1 (m+1) m _ ⟨by simp[w2],by simp[w3],by simp[w6],by simp[w7]⟩ (by simp[w8]) (by simp[hnm]) M1 x1 (λ hi' F4 f4 f5=>?_) λ hi' F4 K4 m4 x4 ⟨f2,f3,f6,f7⟩ M4=>?_
    ·have he3:=hin hi';simp[f4,f5,he3];exact .bg _ _ (.cons _ _ _ _ (.nil 4) (.cons _ _ _ _ (.pure _ (by simp)) .nil))
    simp[Cs,f7,hw];exact⟨_,by omega,i+1,rfl,hlt,x4,⟨by simp[f2],by simp[f3],by simp[f6],by simp⟩,M4,hno hi'⟩
   have hnm:q.ab[i].nm=q.ab[i].name:=by simp[Src.nm,h0]
   simp[Cr,w9,IP,w3,w7,k10,aY.c3,hx,IM,h0,X9];rw[<-bA];refine uR s q i hlt hl x _ K1 (m+1) m _ ⟨by simp[w2],by simp[w3],by simp[w6],by simp[w7]⟩ (by simp[w8]) (by simp[hnm]) M1 x1 (λ hi' F4 f4 f5=>?_) λ hi' F4 K4 m4 x4 ⟨f2,f3,f6,f7⟩ M4=>?_
   ·have he3:=hin hi';simp[f4,f5,he3];exact .bg _ _ (.cons _ _ _ _ (.nil 4) (.cons _ _ _ _ (.pure _ (by simp)) .nil))
   simp[Cs,f7,hw];exact⟨_,by omega,i+1,rfl,hlt,x4,⟨by simp[f2],by simp[f3],by simp[f6],by simp⟩,M4,hno hi'⟩
 obtain rfl:i=q.ab.length:=by omega
 have ow:=M.ow;rw[take_length]at ow;simp[Jl,IQ,LB,f3,f6,f7,k1,aY.c3,al.ag,he];refine .bg _ _ (.cons _ _ _ _ ?_ (.cons _ _ _ _ (.pure _ (by simp)) .nil));have:=ow.uw (aN.pure (by simp)) (by omega);simpa[al.ds]using this
end Go.Abs
namespace Go.Abs
open List
open Go.Proofs
set_option maxRecDepth 100000
theorem Sn {l:List Int}{p:Int->Bool}(h:∀j (hj:j<l.length),p l[j]=false):l.any p=false:=by
 rw[any_eq_false];intro x hx;obtain⟨j,hj,rfl⟩:=getElem_of_mem hx;simp[h j hj]
theorem NS {F:Fr}{Q:QA}(l:List Int) (hl:l.length<=lim) (wk:Int) (g0:F.get 1=some (.ds (bU l) l.length 1)) (g6:F.get 6=some (.int .i64 wk)) (g7:F.get 7=some (.int .i64 0))
  (hf:(l.any λ k=>decide (k≠0)&&decide (k≠wk))=true->∀F:Fr,F.get 4=some (.int .i64 0)->F.get 5=some (.bool false)->Q .ret F .nil 0 [])
  (ht:(l.any λ k=>decide (k≠0)&&decide (k≠wk))=false->∀F:Fr,F.get 6=some (.int .i64 wk)->Q (.exit 0) F .nil 0 []):au qB pG F .nil 0 [] Q:=by
 unfold lim at hl
 refine au.of (λ j F K m_ ms=>∃i,j=l.length - i/\i<=l.length/\F.get 1=some (.ds (bU l) l.length 1)/\F.get 6=some (.int .i64 wk)/\F.get 7=some (.int .i64 (i:Int))/\K=.nil/\m_=0/\ms=[] /\
  ∀j (hj:j<i) (h:j<l.length),(decide (l[j]≠0)&&decide (l[j]≠wk))=false) l.length ⟨0,by simp[g0,g6,g7]⟩ ?_
 rintro j F K m_ ms ⟨i,rfl,hi,f1,f6,f7,rfl,rfl,rfl,hj⟩
 by_cases hlt:i<l.length
 ·have hx:=lI (k:=.i64) hlt
  by_cases hz:l[i]=0
  ·simp[qB,rE,uB,f1,f6,f7,hlt,hx,hz,BL,ah i (by omega)];refine⟨l.length - (i+1),by omega,i+1,rfl,hlt,by omega,λ j hj' h=>?_⟩
   by_cases e:j=i
   ·subst e;exact λ hh=>absurd hz hh
   have:=hj j (by omega) h;simpa using this
  by_cases hw:l[i]=wk
  ·subst hw;simp[qB,rE,uB,f1,f6,f7,hlt,hx,hz,BL,ah i (by omega)];refine⟨l.length - (i+1),by omega,i+1,rfl,hlt,by omega,λ j hj' h=>?_⟩
   by_cases e:j=i
   ·subst e;exact λ _=>rfl
   have:=hj j (by omega) h;simpa using this
  simp[qB,rE,uB,f1,f6,f7,hlt,hx,hz,hw,Lh];refine hf ?_ _ (by simp) (by simp);rw[any_eq_true];exact⟨l[i],getElem_mem hlt,by simp[hz,hw]⟩
 simp[qB,rE,f1,f7,hlt];exact ht (Sn λ j h=>hj j (by omega) h) _ (by simp[f6])
def j6 (op:Int)(l:List Int):Int×Bool:=if (dA op).1.any=true then (3,(dA op).1.fits l)else if (dA op).1.fits l=true then ((dA op).1.kind,true)else (0,false)
theorem aa1 (op:Int)(l:List Int)(ho:4<=op/\op<=21)(hl:l.length<=lim)(hn:(l.length:Int)=(dA op).1.n):ai pG 131 [.int .i64 op,.ds (bU l) l.length 1] (.bg [.int .i64 (j6 op l).1,.bool (j6 op l).2]):=by
 have:op=4∨op=5∨op=6∨op=7∨op=8∨op=9∨op=10∨op=11∨op=12∨op=13∨op=14∨op=15∨op=16∨op=17∨op=18∨op=19∨op=20∨op=21:=by omega
 refine bf c131 (by simp) (by simp) (by simp[A131]) λ F hF=>?_
 have fin:∀(wn wk:Int) (F:Fr),(dA op).1=⟨wn,wk,wk,false,false⟩->F.get 1=some (.ds (bU l) l.length 1)->F.get 6=some (.int .i64 wk)->F.get 7=some (.int .i64 0) ->
   au qB pG F .nil 0 [] (bX 0 (hJ pG (.seq BJ .ret) (iR [aP 4,aP 5] λ v1 H' _=>dU H'.get v1 (.bg [.int .i64 (j6 op l).1,.bool (j6 op l).2])))):=by
  intro wn wk F hw g1 g6 g7;refine NS l hl wk g1 g6 g7 (λ ha F g4 g5=>?_) λ ha F g6=>?_
  ·have:j6 op l=(0,false):=by unfold j6;rw[hw];simp only[Want.fits,ha];simp
   rw[this];simp[g4,g5];exact .pure _ (by simp)
  have:j6 op l=(wk,true):=by unfold j6;rw[hw];simp only[Want.fits,ha];simp
  rw[this];simp[BJ,g6];exact .pure _ (by simp)
 rcases this with h | h | h | h | h | h | h | h | h | h | h | h | h | h | h | h | h | h<;>subst h
 ·simp[A131,B131,kK,kJ,nI,qu,qt,qp,qo,qn,lY,hF];exact fin 1 1 _ rfl (by simp[hF]) (by simp) (by simp)
 ·simp[A131,B131,kK,kJ,nI,qu,qt,qp,qo,qn,lY,hF];exact fin 1 3 _ rfl (by simp[hF]) (by simp) (by simp)
 ·simp[A131,B131,kK,kJ,HR,hF];exact .pure _ (by simp)
 ·simp[A131,B131,kK,kJ,HR,hF];exact .pure _ (by simp)
 iterate 5
  simp[A131,B131,kK,kJ,nI,qu,qt,qp,qo,qn,lY,hF];exact fin 2 1 _ rfl (by simp[hF]) (by simp) (by simp)
 ·simp[A131,B131,kK,kJ,nI,qu,qt,qp,qo,qn,lY,hF];exact fin 2 2 _ rfl (by simp[hF]) (by simp) (by simp)
 iterate 6
  have hn2:l.length=2:=by have:((l.length:Int))=2:=hn;omega
  match l,hn2 with
  | [a, b],_ =>
   have x0:cO 1 (.ds (bU [a,b]) 2 1) (.int .i64 0)=.val (.dp (.int .i64 a::bU [b])):=by
    have:=lI (l:=[a,b]) (i:=0) (k:=.i64) (by simp);simpa using this
   have x1:cO 1 (.ds (bU [a,b]) 2 1) (.int .i64 1)=.val (.dp (.int .i64 b::bU [])):=by
    have:=lI (l:=[a,b]) (i:=1) (k:=.i64) (by simp);simpa using this
   simp[A131,B131,kK,kJ,nI,Xe,hF];refine bY.of (bH (P:=pG)) ?_
   by_cases e1:a=b
   ·subst e1;simp[aa,hF,x0,x1];exact .eq (by simp) (by simp[j6,dA,Want.fits])
   by_cases e2:a=0
   ·subst e2;simp[aa,hF,x0,x1,e1];exact .eq (by simp) (by simp[j6,dA,Want.fits])
   simp[aa,hF,x0,x1,e1,e2];exact .eq (by simp) (by simp[j6,dA,Want.fits,e1,e2])
 ·simp[A131,B131,kK,kJ,nI,qu,qt,qp,qo,qn,lY,hF];exact fin 2 3 _ rfl (by simp[hF]) (by simp) (by simp)
 simp[A131,B131,kK,kJ,nI,qu,qt,qp,qo,qn,lY,hF];exact fin 2 3 _ rfl (by simp[hF]) (by simp) (by simp)
theorem rQ:∀(N:Nat) (e:Ex),e.sz<=N->N<=lim->mz pG 121 [e.av] (Ex.aI e.split) e.split.length 8
 | 0,e,h,_=>by have:=Ex.gd e;omega
 | N + 1,.mk op v t m cu args,ha,hN=>by
  have hs:=Ex.gR (N+1) (.mk op v t m cu args) ha;refine mz.of (by simp) (by simp) hs.2 (aH.of c121 (by simp[A121]) λ F hF=>?_)
  by_cases hc:op=20/\args.length=2
  ·obtain⟨rfl,hl⟩:=hc
   match args,hl with
   | [a, b],_ =>
    simp only[Ex.sz,Ex.mB]at ha;have ia:=rQ N a (by omega) (by omega);have ib:=rQ N b (by omega) (by omega);have sa:=Ex.gR N a (by omega);have sb:=Ex.gR N b (by omega);have la:=Ex.jf a.split;have lb:=Ex.jf b.split;unfold lim at hN
    have x0:cO 8 (.ds (Ex.aI [a,b]) 2 8) (.int .i64 0)=.val (.dp (a.cells++Ex.aI [b])):=by
     have:=jM (l:=[a,b]) (i:=0) (k:=.i64) (by simp);simpa using this
    have x1:cO 8 (.ds (Ex.aI [a,b]) 2 8) (.int .i64 1)=.val (.dp (b.cells++Ex.aI [])):=by
     have:=jM (l:=[a,b]) (i:=1) (k:=.i64) (by simp);simpa using this
    rw[Ex.rP];simp[A121,B121,BP,BO,XB,XA,Xz,hF,Ex.av,Ex.cells,x0];refine ao.own ia ?_;simp[x1];refine ao.own ib ?_;simp
    refine au.of (λ k F H n m_=>∃i x,k=b.split.length - i/\i<=b.split.length/\F.get 4=some (.sl 2 0 b.split.length 8)/\F.get 5=some (.int .i64 (i:Int))/\F.get 3=some x /\
     ar H n x (Ex.aI (a.split++b.split.take i)) (a.split.length+i) 8/\3<=n/\x≠.sl 2 0 (a.split.length+i) 8/\H.get 2=some (.cells (b.split.length*8) [] (Ex.aI b.split) .nil)/\m_=[]) b.split.length
     ⟨0,.sl 1 0 a.split.length 8,by simp;exact⟨by simp,.inr ⟨1,_,rfl,by omega,by simp;rfl,.list (by simp)⟩⟩⟩ ?_
    rintro k F H n m_ ⟨i,x,rfl,hi,f4,f5,f3,ho,hn,hx2,h2,rfl⟩
    by_cases hlt:i<b.split.length
    ·have hx:=lT (b:=2) (o:=0) (sz:=8) (k:=.i64) hlt
     have hg:gJ (b.split.length*8) [] (Ex.aI b.split) .nil (0+i*8) 8=some b.split[i].cells:=by
      rw[Og (by simp) (by omega),Nat.zero_add,Ex.drop_take _ _ hlt]
     simp[Jh,HX,Xy,f4,f5,f3,hlt,hx,h2];rw[show i*8=0+i*8 by omega,hg];simp;refine ar.app (k:=1) (new:=b.split[i].cells) (len:=a.split.length+i) (l:=Ex.aI (a.split++b.split.take i)) (ar.step ho (by omega) λ c hc _=>by simp[show ¬c=n by omega]) ?_ (by simp) (by simp) (by omega) (by omega) (by unfold big;omega) (by omega) (by simp) λ H' ho' hk=>?_
     ·rw[fU (l:=b.split[i].cells) (k:=.cells 8 [] b.split[i].cells .nil) (by simp) (fe.list (by simp)) (by simp)];simp
     simp[f4,f5,Xx,ah i (by omega)];refine⟨b.split.length - (i+1),by omega,i+1,rfl,hlt,by omega,?_,by omega,by omega,?_⟩
     ·rw[take_succ_eq_append_getElem hlt,<-append_assoc,Ex.fZ];simpa[Ex.aI,Nat.add_assoc]using ho'
     rw[hk 2 (by omega) hx2];simp[show ¬ 2=n by omega,h2]
    have hi':i=b.split.length:=by omega
    subst hi';rw[take_length]at ho;simp[Jh,HX,f4,f5,f3,Xw];exact ho
  rw[Ex.rO hc]
  by_cases h20:op=20
  ·have hl:¬args.length=2:=λ e=>hc ⟨h20,e⟩;have hl':¬(args.length:Int)=2:=by omega
   simp[A121,B121,BP,BO,HY,hF,Ex.av,Ex.cells,h20,hl'];exact uj _ (by simp[Ex.cells])
  simp[A121,B121,BP,BO,HY,hF,Ex.av,Ex.cells,h20];exact uj _ (by simp[Ex.cells])
theorem Pl (e:Ex)(h:e.sz<=lim):mz pG 121 [e.av] (Ex.aI e.split) e.split.length 8:=rQ lim e h (Nat.le_refl _)
theorem mz.Di {P:Program}{g:FuncId}{args l:List AV}{len sz:Nat}(h:mz P g args l len sz)(ha:aL args)(hl:aL l)(hz:0<sz)(hn:l.length=len*sz):ai P g args (.ds l len sz):=
 ai.ofR ha (by simp[hl]) ((h .nil 0).iB.mono λ v H' n' ⟨e1,e2,e3⟩=>by
  subst e1 e2 e3;exact ar.uw (H:=(Tr.nil:Hp).put 0 (some (.cells (len*sz) [] l .nil))) (n:=1) ⟨hn,.inr ⟨0,_,rfl,by omega,(Tr.get_put _ _ _ _).trans (if_pos rfl),fe.list hn.symm⟩⟩ (aN.pure hl) hz)
theorem aiF (e:Ex)(h:e.sz<=lim):ai pG 121 [e.av] (dz.ds e.split):=by
 have:=(Pl e h).Di (by simp) (by simp) (by omega) (by simp)
 rwa [<-RJ]at this
end Go.Abs
namespace Go.Abs
open List
open Go.Proofs
open Classical
set_option maxRecDepth 100000
structure KdF (l:List (List Nat×aR))(i:Nat)(x:AV)(F:Fr):Prop where
 f0:F.get 0=some (jd.ds l)
 f3:F.get 3=some x
 f4:F.get 4=some (.int .i64 (i:Int))
theorem NY (l:List (List Nat×aR))(hk:(aj (l.map (·.2))).length<=lim)(i:Nat)(hi:i<l.length)(x:AV)(F:Fr)(K:Hp)(n:Nat)(Q:QA)(S:KdF l i x F)(f5:F.get 5=some (.int .i64 0))(ow:ar K n x (bR.l (aj ((l.take i).map (·.2)))) (aj ((l.take i).map (·.2))).length 1)
  (hQ:∀F K n x,KdF l i x F->ar K n x (bR.l (aj ((l.take (i+1)).map (·.2)))) (aj ((l.take (i+1)).map (·.2))).length 1->Q .normal F K n []):au CO pG F K n [] (bX 2 Q):=by
 unfold lim at hk
 have hkl:aj ((l.take (i+1)).map (·.2))=aj ((l.take i).map (·.2))++l[i].2.kinds:=by
  rw[cZ hi,map_append];simp[aj]
 have hkb:(aj ((l.take (i+1)).map (·.2))).length<=(aj (l.map (·.2))).length:=by
  rw[map_take];exact gD _ _
 rw[hkl]at hQ hkb;have hkc:l[i].2.kinds.length=l[i].2.ae.length:=by simp[aR.kinds]
 rw[length_append,hkc]at hkb;generalize aj ((l.take i).map (·.2))=P at *;have hx:=jd.ix (ik:=.i64) hi;rw[tG,aU]at hx;have hkd:l[i].2.kinds=l[i].2.ae.map (·.kind):=rfl;rw[hkd]at hQ;generalize hcs:l[i].2.ae=cs at *;refine au.of (λ g F K n ms=>∃(k:Nat) (x:AV),g=cs.length - k/\k<=cs.length/\KdF l i x F/\F.get 5=some (.int .i64 (k:Int))/\ar K n x (bR.l (P++(cs.take k).map (·.kind))) (P.length+k) 1/\ms=[]) cs.length ⟨0,x,by simp,by omega,S,by simpa using f5,by simpa using ow,rfl⟩ ?_;clear S f5 ow F K n x;rintro g F K n ms ⟨k,x,rfl,hk',⟨f0,f3,f4⟩,f5,ow,rfl⟩
 by_cases hlt:k<cs.length
 ·have hy:=aW.ix (ik:=.i64) hlt;rw[dQ]at hy;simp[CO,HT,Xp,f0,f3,f4,f5,hx,hy,al.ag,hlt];have hvl:∀b,blk x=some b->b<n:=λ b h=>ow.aK h;refine ar.jr (k:=1) (new:=[.int .i64 cs[k].kind]) (ow.frame (n':=n+1) (by omega) λ b hb=>by have:=hvl b hb;simp[dj this]) (aB (by simp)) (by simp) (by simp) (by omega) (by omega) (by unfold big;omega) (by omega) (by simp) λ K2 o2 g2=>?_;simp[Xo,f5,ah k (by omega)];refine⟨_,by omega,k+1,rfl,hlt,_,⟨by simp[f0],by simp;rfl,by simp[f4]⟩,rfl,?_⟩;rw[<-map_take,cZ hlt,map_append,<-append_assoc,al.bo,<-Nat.add_assoc];simpa[al.dF,eR]using o2
 obtain rfl:k=cs.length:=by omega
 rw[take_length]at ow;simp[CO,HT,f0,f4,f5,hx,al.ag];exact hQ _ K n x ⟨by simp[f0],by simp[f3],by simp[f4]⟩ (by simpa using ow)
theorem DI (l:List (List Nat×aR))(hl:l.length<=lim)(hk:(aj (l.map (·.2))).length<=lim):ai pG 129 [jd.ds l] (bR.ds (aj (l.map (·.2)))):=by
 have hl':=hl;unfold lim at hl;refine bf c129 (by simp) (by simp) (by simp[A129]) λ F hF=>?_;simp[A129,B129,Xt,Xs,Xr];refine au.of (λ g F K n ms=>∃(i:Nat) (x:AV),g=l.length - i/\i<=l.length/\KdF l i x F/\ar K n x (bR.l (aj ((l.take i).map (·.2)))) (aj ((l.take i).map (·.2))).length 1/\ms=[]) l.length ⟨0,.ak (.slice none 0 0),by simp,by omega,⟨by simp[hF],by simp,by simp⟩,by simpa[aj]using ar.nil _ _ 1,rfl⟩ ?_;clear hF F;rintro g F K n ms ⟨i,x,rfl,hi,⟨f0,f3,f4⟩,ow,rfl⟩
 by_cases hlt:i<l.length
 ·simp[Jg,HU,Xq,f0,f4,al.ag,hlt];refine NY l hk i hlt x _ K n _ ⟨by simp[f0],by simp[f3],by simp[f4]⟩ (by simp) ow λ F K n x ⟨f0,f3,f4⟩ ow=>?_;simp[Xn,f4,ah i (by omega)];exact⟨_,by omega,i+1,rfl,hlt,x,⟨by simp[f0],by simp[f3],by simp⟩,by simpa[map_take]using ow⟩
 obtain rfl:i=l.length:=by omega
 rw[take_length]at ow;simp[Jg,HU,f0,f4,al.ag,Xm,f3];have:=ow.uw (aN.pure (by simp)) (by omega);simpa[al.ds]using this
end Go.Abs
