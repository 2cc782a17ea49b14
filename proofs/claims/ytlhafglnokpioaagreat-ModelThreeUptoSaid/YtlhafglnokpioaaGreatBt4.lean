/- A part. -/
import Derived.Test.YtlhafglnokpioaaGreatBt3
noncomputable section
namespace Go.Abs
open List
open Go.Proofs
open Classical
set_option maxRecDepth 100000
def Bm (l:List Ord)(i:Nat):Ord:=l.getD i ⟨[],false⟩
def ae7 (N:List (List Nat))(x:Ord):Int:=lJ (λ y=>decide (x.name=y)) N
def Ai (N:List (List Nat))(l:List Ord):Nat->Int->List (Int×Bool)×Int
 |0,err=>([],err)
 |i+1,err=>((Ai N l i err).1++[(ae7 N (Bm l i),(Bm l i).desc)],keep (keep (Ai N l i err).2 201 (decide (ae7 N (Bm l i)<0))) 205 (decide (0<=ae7 N (Bm l i))&&decide ((Bm l i).name∈N.drop ((ae7 N (Bm l i)).toNat+1))))
theorem Hi (N:List (List Nat))(l:List Ord)(err:Int):∀i,(Ai N l i err).1.length=i
 |0=>rfl
 |i+1=>by simp[Ai,Hi N l err i]
structure OrF (n p o:Nat)(q:bG)(i:Nat)(F:Fr):Prop where
 f0:F.get 0=some (.ptr p 0)
 f2:F.get 2=some (.ptr o 0)
 f4:F.get 4=some (.ptr n 0)
 f6:F.get 6=some (.ptr (n+1) 0)
 f110:F.get 110=some (pf.ds q.order)
 f111:F.get 111=some (zI (q.order.length:Int))
 f112:F.get 112=some (zI (i:Int))
def ae5 (kind:Int)(ts:List bR)(on:AV)(W E:List Ex)(N:List (List Nat))(Ks:List Int)(od:AV):List AV:=jE kind (aM.ds ts) on (jc.ds W) (jc.ds E) (dz.ds N) (dA.ds Ks) od false false 0
structure OrM (H0:Hp)(n p o:Nat)(s:cG)(ns:List (List Nat))(ts:List bR)(q:bG)(kind:Int)(L:List (List Ex))(W E:List Ex)(N:List (List Nat))(Ks:List Int)(zZ:AV)(e:Int)(i:Nat)(O:List (Int×Bool))(va:AV)(K:Hp)(m:Nat):Prop where
 mem:QyM H0 n p o s ns ts q e K m
 ko:K.get o=aN 25 (ae5 kind ts zZ W E N Ks va)
 ov:aD K m zZ (pe.l L) L.length 1
 dv:∀b,blk zZ=some b->n+2<=b
 oa:aD K m va (KB.l O) i 2
 da:∀b,blk va=some b->n+2<=b/\blk zZ≠some b
def O28 (q:bG):Prop:=∀(n p o:Nat) (_hpn:p<n) (_hon:o<n) (_hpo:p≠o) (H0:Hp) (s:cG) (ns:List (List Nat)) (ts:List bR) (kind:Int) (L:List (List Ex)) (W E:List Ex) (N:List (List Nat)) (_hN:N.length<=aU) (Ks:List Int) (zZ:AV) (_hvo:zZ.one=true) (e0:Int)
  (F:Fr)(K:Hp)(m:Nat)(Q:QA)(va:AV)(_hF:OrF n p o q 0 F)(_M:OrM H0 n p o s ns ts q kind L W E N Ks zZ e0 0 [] va K m)
  (_hQ:∀va F K m,OrF n p o q q.order.length F->OrM H0 n p o s ns ts q kind L W E N Ks zZ (Ai N q.order q.order.length e0).2 q.order.length (Ai N q.order q.order.length e0).1 va K m->Q .normal F K m []),aF adN pG F K m [] (ig 4 Q)
theorem W8 {q:bG}(h0:q.order=[]):O28 q:=by
 intro n p o hpn hon hpo H0 s ns ts kind L W E N hN Ks zZ hvo e0 F K m Q va hF M hQ;refine aF.XO 0 (eT.step ?_);have aqE:=hF.f111;rw[h0]at aqE;simp[adN,aqE,hF.f112];obtain⟨f0,f2,f4,f6,f110,f111,f112⟩:=hF;refine hQ va _ K m ⟨by simp[f0],by simp[f2],by simp[f4],by simp[f6],by simp[f110],by simp[f111],by simp[f112,h0]⟩ ?_;simpa[h0,Ai]using M
theorem aD.aqT {K:Hp}{m:Nat}{v:AV}{l l':List AV}{len sz:Nat}{h:Hf}(ho:aD K m v l len sz)(hz:0<sz)(hh:∀c,blk v=some c->h c=K.get c)(hl:bp h l l'):fj h v (.ds l' len sz):=by
 obtain⟨s',rfl⟩:∃s',sz=s'+1:=⟨sz - 1,ah⟩;obtain⟨h0,⟨rfl,rfl⟩|⟨b,kk,rfl,hb,hk,ho⟩⟩:=ho
 ·have:l=[]:=by simpa using h0
  subst this;cases hl;exact .nil _
 obtain⟨u,z,bs,t,rfl,hg⟩:=ho.jT (o:=0) (c:=len*(s'+1)) ah;refine .sl _ _ _ _ _ _ _ _ _ _ ((hh b rfl).trans hk) hg ?_;rw[drop_zero,fZ ah];exact hl
theorem aoR {F F2:Fr}{K:Hp}{m n o:Nat}{kind:Int}{ns:List (List Nat)}{ts:List bR}{vn vt:AV}(hon:o≠n+1) (hF:∀(t:Nat) v,F2.get t=some v->F.get t=some v) (ks:K.get (n+1)=aN 2 [vn,vt])
  (ko:K.get o=aN 25 (jE kind vt (.aV (.slice none 0 0)) (.aV (.slice none 0 0)) (.aV (.slice none 0 0)) (.aV (.slice none 0 0)) (.aV (.slice none 0 0)) (.aV (.slice none 0 0)) false false 0))(on:aD K m vn (dz.l ns) ns.length 1)(ot:aD K m vt (aM.l ts) ts.length 4)
  (dn:∀b,blk vn=some b->b≠n+1/\b≠o)(dt:∀b,blk vt=some b->b≠n+1/\b≠o):
  ∃h K2,eG h F K F2 K2/\K2.get (n+1)=aN 2 (oN ns ts)/\K2.get o=aN 25 (JF kind ts (.aV (.slice none 0 0)))/\∀b,b≠n+1->b≠o->K2.get b=if blk vn=some b∨blk vt=some b then none else K.get b:=by
 have dl:∀(v:AV) (H:Hp) (b:Nat),(match blk v with
  |some c=>H.put c none
  |none=>H:Hp).get b=if blk v=some b then none else H.get b:=by
  intro v H b
  cases hb:blk v with
  |none=>simp
  |some c=>simp[eq_comm]
 let h:Hf:=λ b=>if blk vn=some b∨blk vt=some b then K.get b else none
 let K1:Hp:=(match blk vn with
  |some c=>K.put c none
  |none=>K)
 let K2:Hp:=(match blk vt with
  |some c=>K1.put c none
  |none=>K1)
 have hK2:∀b,K2.get b=if blk vn=some b∨blk vt=some b then none else K.get b:=by
  intro b;have e1:K2.get b=if blk vt=some b then none else K1.get b:=dl vt K1 b
  have e2:K1.get b=if blk vn=some b then none else K.get b:=dl vn K b
  rw[e1,e2]
  by_cases h1:blk vn=some b<;>by_cases h2:blk vt=some b<;>simp[h1,h2]
 have zn:fj h vn (dz.ds ns):=on.aqT ah (λ c hc=>by simp[h,hc]) (bp.pure (dz.rX ns));have zt:fj h vt (aM.ds ts):=ot.aqT ah (λ c hc=>by simp[h,hc]) (bp.pure (aM.rX ts));refine⟨h,(K2.put (n+1) (aN 2 (oN ns ts))).put o (aN 25 (JF kind ts (.aV (.slice none 0 0)))),⟨λ b k hb=>?_,λ b hb=>?_,λ t v hv=>⟨v,hF t v hv,.inl rfl⟩,λ b y hb=>?_⟩,by simp[Ne.symm hon],ai,λ b h1 h2=>?_⟩
 ·have hb:(if blk vn=some b∨blk vt=some b then K.get b else none)=some k:=hb
  split at hb
  ·exact hb
  cases hb
 ·have hb:(if blk vn=some b∨blk vt=some b then K.get b else none)≠none:=hb
  by_cases hc:blk vn=some b∨blk vt=some b
  ·have hne:b≠n+1/\b≠o:=by
    rcases hc with hc|hc
    ·exact dn b hc
    exact dt b hc
   simp[hne.1,hne.2,hK2,hc]
  simp[hc]at hb
 ·by_cases h1:b=o
  ·subst h1;simp at hb;subst hb;exact⟨_,ko,uk.bz (by simp[jE,JF];exact .inr zt) rfl⟩
  by_cases h2:b=n+1
  ·subst h2;simp[h1]at hb;subst hb;exact⟨_,ks,uk.bz (by simp[oN];exact⟨.inr zn,.inr zt⟩) rfl⟩
  simp only[Tr.get_put,h1,h2,if_false,hK2]at hb
  split at hb
  ·cases hb
  exact⟨y,hb,.inl rfl⟩
 simp[h1,h2,hK2]
def gq (s:cG)(q:bG)(kind err:Int):oU×Int:=
 if kR s q.ar q.ar.length err≠0 then ({kind:=kind},kR s q.ar q.ar.length err)else
 ({kind:=kind,iM:=q.ar.map s.tb,on:=(rp (q.ar.map Src.nm) (q.ar.map s.tb) q.ar q.ar.length 0).1,
   items:=(cL (q.ar.map Src.nm) (q.ar.map s.tb) q (rp (q.ar.map Src.nm) (q.ar.map s.tb) q.ar q.ar.length 0).2).1,
   names:=(cL (q.ar.map Src.nm) (q.ar.map s.tb) q (rp (q.ar.map Src.nm) (q.ar.map s.tb) q.ar q.ar.length 0).2).2.1,
   kinds:=(cL (q.ar.map Src.nm) (q.ar.map s.tb) q (rp (q.ar.map Src.nm) (q.ar.map s.tb) q.ar q.ar.length 0).2).2.2.1,
   cond:=(ew (q.ar.map Src.nm) (q.ar.map s.tb) q.cond (cL (q.ar.map Src.nm) (q.ar.map s.tb) q (rp (q.ar.map Src.nm) (q.ar.map s.tb) q.ar q.ar.length 0).2).2.2.2).1,
   order:=(Ai (cL (q.ar.map Src.nm) (q.ar.map s.tb) q (rp (q.ar.map Src.nm) (q.ar.map s.tb) q.ar q.ar.length 0).2).2.1 q.order q.order.length (ew (q.ar.map Src.nm) (q.ar.map s.tb) q.cond (cL (q.ar.map Src.nm) (q.ar.map s.tb) q (rp (q.ar.map Src.nm) (q.ar.map s.tb) q.ar q.ar.length 0).2).2.2.2).2).1,
   kE:=q.kE,limited:=q.limited,limit:=q.limit},
  (Ai (cL (q.ar.map Src.nm) (q.ar.map s.tb) q (rp (q.ar.map Src.nm) (q.ar.map s.tb) q.ar q.ar.length 0).2).2.1 q.order q.order.length (ew (q.ar.map Src.nm) (q.ar.map s.tb) q.cond (cL (q.ar.map Src.nm) (q.ar.map s.tb) q (rp (q.ar.map Src.nm) (q.ar.map s.tb) q.ar q.ar.length 0).2).2.2.2).2).2)
theorem bG.c12 (q:bG)(h:12<q.cells.length):q.cells[12]=pf.ds q.order:=by simp[bG.cells]
theorem bG.c13 (q:bG)(h:13<q.cells.length):q.cells[13]=.bool q.limited:=by simp[bG.cells]
theorem bG.c14 (q:bG)(h:14<q.cells.length):q.cells[14]=zI q.limit:=by simp[bG.cells]
theorem bG.cc (q:bG):(q.cells.drop 4).take 8=q.cond.cells:=by
 simp only[bG.cells,cons_append,nil_append,drop_succ_cons,drop_zero];rw[take_append_of_le_length ai];simp
structure bG.gA (s:cG)(q:bG):Prop where
 k:(aI (q.ar.map s.tb)).length+q.items.length<=aU
 s:q.ar.length<=aU
 o:q.order.length<=aU
 it:∀x∈q.items,x.e.sz<=aU/\x.e.may=true
 sr:∀x∈q.ar,x.cond.sz<=aU/\x.cond.maybe=true
 cz:q.cond.sz<=aU
 cm:q.cond.maybe=true
theorem J1 (ns:List (List Nat))(ts:List bR)(q:bG)(e:Int):(cL ns ts q e).2.1.length<=(aI ts).length+q.items.length:=by
 have hn:(namesT ts).length=(aI ts).length:=by simp[namesT,aI,bR.kinds,length_flatMap]
 unfold cL
 split
 ·simp[hn]
 simp
theorem aeS (s:cG)(hs:s.gA)(q:bG)(hq:q.gA s)(hC:C25 q.cond)(hS:∀x∈q.ar,C25 x.cond)(hI:I76 q)(hO:O28 q)(kind:Int)(p o:Nat)(err:Int)(H:Hp)(n:Nat)(hpn:p<n)(hon:o<n)(hpo:p≠o)(hp:H.get p=some (fP s err))(ho:H.get o=aN 25 (oY kind)):
  bC pG 56 [.ptr p 0,q.av,.ptr o 0] H n (.br []) ((H.put p (some (fP s (gq s q kind err).2))).put o (some (.cells 25 [] (gq s q kind err).1.cells .nil))) n:=by
 refine asg (args:=[q.av]) c56 (by simp[A56]) (by simp[bG.av,bG.pure]) hpn hon hpo hp ho (aS.jQ (by simp[oY])) (aS.jQ ai) λ F H0 hF htop hp0 ho0=>?_;have q1:=jz hpn;have q':=XU hpn;have r':=XU hon
 have hcl:∀t∈q.ar.map s.tb,t.cols.length<=aU:=by
  intro t ht;obtain⟨x,_,rfl⟩:=mem_map.1 ht;exact lg (Q:=λ t:bR=>t.cols.length<=aU) (by simp[bR.zero]) hs.tc
 simp[A56,hF,bG.av,bG.c3,bf.aT];generalize hK:Tr.put _ (n+1) _=K0;have k0:∀c,c<n->K0.get c=H0.get c:=λ c hc=>by rw[<-hK];simp[jz hc]
 have kn:K0.get n=aN 15 q.cells:=by rw[<-hK];simp
 have ks:K0.get (n+1)=aN 2 [.aV (.slice none 0 0),.aV (.slice none 0 0)]:=by rw[<-hK];simp
 have kt:dm K0 (n+1+1):=λ c hc=>by
  have e1:¬c=n:=ah;have e2:¬c=n+1:=ah;rw[<-hK];simp[e1,e2,htop c ah]
 clear hK;refine Xn n p o hpn hon hpo H0 s hs q hq.s kind err _ K0 (n+1+1) _ (.aV (.slice none 0 0)) (.aV (.slice none 0 0)) ⟨by simp[hF],by simp[hF],ai,ai,ai,ai,ai⟩ ⟨ah,kt,λ b h1 _ _=>k0 b h1,(k0 p hpn).trans hp0,kn,ks,(k0 o hon).trans ho0,by simpa using aD.nil _ _ 1,by simpa using aD.nil _ _ 4,ai,ai⟩ λ vn vt F1 K1 m1 S1 M1=>?_;clear hF k0 kn ks kt htop hp0 ho0;obtain⟨f0,f2,f4,f6,_,_,_⟩:=S1;have kp1:=M1.kp;have ks1:=M1.ks;have ko1:=M1.ko;have hm1:=M1.hm;have alo:=M1.on;have YA:=M1.ot;rw[take_length]at alo YA;have ahf:K1.get p=aN 3 [aM.ds s.tables,bw.ds s.indexes,zI (kR s q.ar q.ar.length err)]:=kp1
 have hqb:gq s q kind err=if kR s q.ar q.ar.length err≠0 then ({kind:=kind},kR s q.ar q.ar.length err)else (gq s q kind err):=by
  unfold gq;split<;>rfl
 by_cases h0:kR s q.ar q.ar.length err=0
 ·simp only[oY]at ko1;obtain⟨hl1,hl2⟩:=YA.awc;have hl3:=YA.fS;have wN:=M1.kn;have no:(n=o)=False:=by simp only[eq_iff_iff,iff_false];omega
  simp[LC,aav,aau,f0,f2,f4,f6,ahf,h0,ks1,ko1,hl1,hl2,hl3,no,wN,bG.c3,bf.aT];have g2:∀b,b≠o->(K1.put o (aN 25 (jE kind vt (.aV (.slice none 0 0)) (.aV (.slice none 0 0)) (.aV (.slice none 0 0)) (.aV (.slice none 0 0)) (.aV (.slice none 0 0)) (.aV (.slice none 0 0)) false false 0))).get b=K1.get b:=λ b hb=>by simp[hb]
  have o2:(K1.put o (aN 25 (jE kind vt (.aV (.slice none 0 0)) (.aV (.slice none 0 0)) (.aV (.slice none 0 0)) (.aV (.slice none 0 0)) (.aV (.slice none 0 0)) (.aV (.slice none 0 0)) false false 0))).get o=aN 25 (jE kind vt (.aV (.slice none 0 0)) (.aV (.slice none 0 0)) (.aV (.slice none 0 0)) (.aV (.slice none 0 0)) (.aV (.slice none 0 0)) (.aV (.slice none 0 0)) false false 0):=ai;simp only[jE]at g2 o2;generalize Tr.put K1 o _=K2 at g2 o2 ⊢;generalize hF2:(Fp 66 _ _:Fr)=F2;have w0:F2.get 0=some (.ptr p 0):=by rw[<-hF2];simp[f0]
  have w2:F2.get 2=some (.ptr o 0):=by rw[<-hF2];simp[f2]
  have w4:F2.get 4=some (.ptr n 0):=by rw[<-hF2];simp[f4]
  have w6:F2.get 6=some (.ptr (n+1) 0):=by rw[<-hF2];simp[f6]
  have GN:F2.get 64=some (ju.ds q.ar):=by rw[<-hF2];simp
  have w65:F2.get 65=some (zI (q.ar.length:Int)):=by rw[<-hF2];simp
  have w66:F2.get 66=some (zI ((0:Nat):Int)):=by rw[<-hF2];simp
  clear hF2;have dn:=M1.dn;have dt:=M1.dt
  obtain⟨hh,K3,hsh,s3,o3,g3⟩:=aoR (F:=F2) (F2:=ym F2 [0,2,4,6,64,65,66]) (K:=K2) (m:=m1) (n:=n) (o:=o) (kind:=kind) (ns:=q.ar.map Src.nm) (ts:=q.ar.map s.tb) (vn:=vn) (vt:=vt) ah (λ t v hv=>Us hv) ((g2 (n+1) ah).trans ks1) o2
   (by rw[length_map];exact alo.frame (aL _) λ c hc=>g2 c (by have:=(dn c hc).1;omega)) (by rw[length_map];exact YA.frame (aL _) λ c hc=>g2 c (by have:=dt c hc;omega)) (λ b hb=>by have:=(dn b hb).1;omega) (λ b hb=>by have:=dt b hb;omega)
  have bk3:∀b,b<n+2->b≠n+1->b≠o->K3.get b=K1.get b:=λ b h1 h2 h3=>by
   rw[g3 b h2 h3,ak,g2 b h3];rintro(h|h)
   ·have:=(dn b h).1;omega
   have:=dt b h;omega
  have t3:dm K3 m1:=λ b hb=>by
   rw[g3 b ah ah]
   split
   ·rfl
   rw[g2 b ah];exact M1.tp b hb
  have Q3:QyM H0 n p o s (q.ar.map Src.nm) (q.ar.map s.tb) q 0 K3 m1:=⟨hm1,t3,λ b h1 h2 h3=>(bk3 b ah ah h3).trans (M1.kf b h1 h2 h3),by rw[bk3 p ah ah hpo,kp1,h0],(bk3 n ah ah ah).trans wN,s3⟩;have hkl:(aI (q.ar.map s.tb)).length<=aU:=by have:=hq.k;omega
  refine Xm n p o hpn hon hpo H0 s (q.ar.map Src.nm) (q.ar.map s.tb) ai hkl (by simpa using hq.s) hcl q ai hS kind 0 _ K2 m1 _ ⟨hh,_,K3,hsh,.aV (.slice none 0 0),rfl,⟨(kX ai).trans w0,(kX ai).trans w2,(kX ai).trans w4,(kX ai).trans w6,(kX ai).trans GN,(kX ai).trans w65,(kX ai).trans w66⟩,⟨Q3,o3,by simpa using aD.nil _ _ 1,ai⟩,rfl⟩ λ zZ F4 K4 m4 S4 M4=>?_;have hb0:gq s q kind err=gq s q kind err:=rfl;rw[gq,ak (by simpa using h0)];have hnl:=J1 (q.ar.map Src.nm) (q.ar.map s.tb) q (rp (q.ar.map Src.nm) (q.ar.map s.tb) q.ar q.ar.length 0).2;have hkq:=hq.k;have hlq:(q.ar.map Src.nm).length=(q.ar.map s.tb).length:=ai;have hsq:=hq.s;have aqg:(q.ar.map s.tb).length<=aU:=by simpa using hsq
  have hol:=Dw (q.ar.map Src.nm) (q.ar.map s.tb) q.ar 0 q.ar.length;generalize q.ar.map Src.nm=ns at *;generalize q.ar.map s.tb=ts at *;clear hsh g3 bk3 t3 Q3 s3 o3 w0 w2 w4 w6 GN w65 w66 g2 o2 K3 K2 dn dt alo YA M1 f0 f2 f4 f6;generalize rp ns ts q.ar q.ar.length 0=ON at *;obtain⟨L,e4⟩:=ON;obtain⟨f0,f2,f4,f6,_,_,_⟩:=S4;have N4:=M4.mem;have hm4:=N4.hm;have ks4:=N4.ks;have kn4:=N4.kn;have ko4:=M4.ko;simp only at hol hnl M4 N4 ko4 ⊢;simp only[oN]at ks4;simp[aar,f0,f2,f4,f6,ks4,kn4];have oa4:=M4.oa;have da4:=M4.da;have hv1:=oa4.fS
  have hvl:dO m4 [aM.ds ts,zZ,(.aV (.slice none 0 0)),(.aV (.slice none 0 0))]:=by
   obtain⟨_,⟨rfl,_⟩|⟨b,k,rfl,hb,_⟩⟩:=oa4
   ·simp[Pure.jQ]
   simp[Pure.jQ,hb]
  have hit:=hI ns ts hlq hkl aqg hcl s hkq ⟨kind,aM.ds ts,zZ,(.aV (.slice none 0 0)),(.aV (.slice none 0 0)),false,false,0⟩ ⟨ai,hv1,ai,ai⟩ p o e4 K4 m4 ah ah hpo hvl N4.kp ko4;refine aB.ok hit ?_;generalize cL ns ts q e4=IT at *;obtain⟨E,N,Ks,e5⟩:=IT;simp only[QC.out]at hnl ⊢;have g5:∀b,b≠p->b≠o->((K4.put p (some (fP s e5))).put o (aN 25 (jE kind (aM.ds ts) zZ (.aV (.slice none 0 0)) (jc.ds E) (dz.ds N) (dA.ds Ks) (.aV (.slice none 0 0)) false false 0))).get b=K4.get b:=λ b h1 h2=>by simp[h1,h2]
  have p5:((K4.put p (some (fP s e5))).put o (aN 25 (jE kind (aM.ds ts) zZ (.aV (.slice none 0 0)) (jc.ds E) (dz.ds N) (dA.ds Ks) (.aV (.slice none 0 0)) false false 0))).get p=some (fP s e5):=by simp[hpo]
  have o5:((K4.put p (some (fP s e5))).put o (aN 25 (jE kind (aM.ds ts) zZ (.aV (.slice none 0 0)) (jc.ds E) (dz.ds N) (dA.ds Ks) (.aV (.slice none 0 0)) false false 0))).get o=aN 25 (jE kind (aM.ds ts) zZ (.aV (.slice none 0 0)) (jc.ds E) (dz.ds N) (dA.ds Ks) (.aV (.slice none 0 0)) false false 0):=ai;generalize Tr.put (K4.put p _) o _=K5 at g5 p5 o5 ⊢;have N5:=N4.next hpn hon (aL _) (λ b hb=>(g5 b ah ah).trans (N4.tp b hb)) (λ b _ h2 h3=>g5 b h2 h3) p5;have oa5:aD K5 m4 zZ (pe.l L) q.ar.length 1:=oa4.frame (aL _) λ b hb=>g5 b (by have:=da4 b hb;omega) (by have:=da4 b hb;omega);have ks5:=N5.ks;have kn5:=N5.kn;simp only[oN]at ks5;simp only[jE]at o5;have hcd:=hC ns ts hlq hkl aqg hcl s p e5 K5 m4 ah p5;have hav:q.cond.av=.agg q.cond.cells 8:=Eq.trans rfl rfl;rw[hav]at hcd;simp only[oN]at hcd;simp[aaq,f0,f2,f4,f6,ks5,kn5,bG.cc];refine aB.ok hcd ?_;generalize ew ns ts q.cond e5=CD at *;obtain⟨W,e6⟩:=CD;simp only;have op:(o=p)=False:=by simp[Ne.symm hpo]
  have no:(n=o)=False:=by simp only[eq_iff_iff,iff_false];omega
  have np:(n=p)=False:=by simp only[eq_iff_iff,iff_false];omega
  simp[op,o5,aap,f4,no,np,kn5,bG.c12,bf.aT];generalize hK6:Tr.put (K5.put p _) o _=K6;have g6:∀b,b≠p->b≠o->K6.get b=K5.get b:=λ b h1 h2=>by rw[<-hK6];simp[h1,h2]
  have p6:K6.get p=some (fP s e6):=by rw[<-hK6];simp[hpo]
  have o6:K6.get o=aN 25 (ae5 kind ts zZ W E N Ks (.aV (.slice none 0 0))):=by rw[<-hK6];simp[ae5,jE]
  clear hK6;have N6:=N5.next hpn hon (aL _) (λ b hb=>(g6 b ah ah).trans (N5.tp b hb)) (λ b _ h2 h3=>g6 b h2 h3) p6
  have oa6:aD K6 m4 zZ (pe.l L) L.length 1:=by
   rw[hol];exact oa5.frame (aL _) λ b hb=>g6 b (by have:=da4 b hb;omega) (by have:=da4 b hb;omega)
  refine hO n p o hpn hon hpo H0 s ns ts kind L W E N ah Ks zZ hv1 e6 _ K6 m4 _ (.aV (.slice none 0 0)) ⟨by simp[f0],by simp[f2],by simp[f4],by simp[f6],ai,ai,ai⟩ ⟨N6,o6,oa6,da4,by simpa using aD.nil _ _ 2,ai⟩ λ va F7 K7 m7 S7 M7=>?_;have hor:=Hi N q.order e6 q.order.length;generalize Ai N q.order q.order.length e6=OR at *;obtain⟨O,e7⟩:=OR;simp only at hor M7 ⊢;obtain⟨f0,f2,f4,f6,_,_,_⟩:=S7;have kn7:=M7.mem.kn;have ko7:=M7.ko;simp only[ae5,jE]at ko7;have zv:fj (above n K7) zZ (pe.ds L):=M7.ov.UT (λ b hb=>by have:=M7.dv b hb;omega) (bp.pure (pe.rX L)) ah
  have zo:fj (above n K7) va (KB.ds O):=by
   have:=M7.oa.UT (n0:=n) (λ b hb=>by have:=(M7.da b hb).1;omega) (bp.pure (KB.rX O)) ah;rw[bf.ds,hor];exact this
  simp only[pI,aao,nG];refine bF.of (bq (P:=pG)) ?_;simp[ae,f2,f4,kn7,ko7,no,bG.c0,bG.c13,bG.c14];have zm:∀K':Hp,(∀b,b≠o->K'.get b=K7.get b)->fj (above n K') zZ (pe.ds L)/\fj (above n K') va (KB.ds O):=λ K' h=>⟨zv.mono (IP λ b k h1 h2=>⟨h1,(h b ah).trans h2⟩),zo.mono (IP λ b k h1 h2=>⟨h1,(h b ah).trans h2⟩)⟩;refine⟨.pure _ ai,λ c h1 h2 h3=>by simp[h3,M7.mem.kf c h1 h2 h3],by simp[hpo];exact M7.mem.kp,?_⟩;generalize hK9:Tr.put (Tr.put (Tr.put K7 o _) o _) o _=K9;have zz:=zm K9 λ b hb=>by rw[<-hK9];simp[hb]
  simp[oU.cells,bR.zero,pz.zero];exact⟨.inr zz.1,.inr zz.2⟩
 rw[hqb];simp[LC,f0,ahf,h0];exact⟨.pure _ ai,M1.kf,rfl,_,ko1,rfl,by simp[oY,oU.cells,bR.zero,pz.zero]⟩
theorem bG.g1 (q:bG):q.cells[1]?=some (.bool q.star):=by simp[bG.cells]
theorem bG.g2 (q:bG):q.cells[2]?=some (my.ds q.items):=by simp[bG.cells]
theorem bG.g3 (q:bG):q.cells[3]?=some (ju.ds q.ar):=by simp[bG.cells]
theorem bG.g12 (q:bG):q.cells[12]?=some (pf.ds q.order):=by
 simp only[bG.cells];rw[getElem?_append_right ai];simp
theorem bG.g13 (q:bG):q.cells[13]?=some (.bool q.limited):=by
 simp only[bG.cells];rw[getElem?_append_right ai];simp
theorem bG.g14 (q:bG):q.cells[14]?=some (zI q.limit):=by
 simp only[bG.cells];rw[getElem?_append_right ai];simp
def bG.JP (q:bG):Bool:=q.cond.maybe&&decide (q.ar.length<=4)&&decide (q.order.length<=16)&&decide (0<=q.limit)&&(q.limited||decide (q.limit=0))
def bG.X6 (q:bG):Bool:=if q.star then decide (q.items.length=0)else decide (1<=q.items.length/\q.items.length<=16)
theorem W3 (q:bG) (hc:q.cond.sz<=aU) (F:Fr) (K:Hp) (n:Nat) (Q:QA) (h1:F.get 1=some (.ptr 0 0)) (k0:K.get 0=aN 15 q.cells)
  (hQ:∀F' b,F'.get 1=some (.ptr 0 0)->F'.get 3=some (.bool b)->b=q.JP->Q .normal F' K n []):VC pG NR F K n [] Q:=by
 have hm:=afs q.cond hc;have hav:q.cond.av=.agg q.cond.cells 8:=Eq.trans rfl rfl;rw[hav]at hm
 have e4:(q.cells.drop 4).take 8=q.cond.cells:=by
  simp only[bG.cells,cons_append,nil_append,drop_succ_cons,drop_zero];rw[take_append_of_le_length ai];simp
 have g3:=q.g3;have g12:=q.g12;have g13:=q.g13;have g14:=q.g14;have hl:=q.bm;generalize q.cells=cs at *;simp[NR,h1,k0,hl,e4];refine aB.pure hm ?_
 cases hcm:q.cond.maybe with
 |false =>
  simp;refine hQ _ false ?_ ?_ ?_
  ·simp[h1]
  ·simp
  simp[bG.JP,hcm]
 |true =>
  by_cases h4:(q.ar.length:Int)<=4
  ·have h4':q.ar.length<=4:=ah
   by_cases kK:(q.order.length:Int)<=16
   ·have afV:q.order.length<=16:=ah
    by_cases hl0:0<=q.limit
    ·cases hlm:q.limited with
     |true =>
      simp[h1,k0,g3,g12,g13,g14,bf.aT,h4,kK,hl0,hlm];refine hQ _ true ?_ ?_ ?_
      ·simp[h1]
      ·simp
      simp[bG.JP,hcm,h4',afV,hl0,hlm]
     |false =>
      simp[h1,k0,g3,g12,g13,g14,bf.aT,h4,kK,hl0,hlm];refine hQ _ (decide (q.limit=0)) ?_ ?_ ?_
      ·simp[h1]
      ·simp
      simp[bG.JP,hcm,h4',afV,hl0,hlm]
    simp[h1,k0,g3,g12,g14,bf.aT,h4,kK,hl0];refine hQ _ false ?_ ?_ ?_
    ·simp[h1]
    ·simp
    simp[bG.JP,hl0]
   simp[h1,k0,g3,g12,bf.aT,h4,kK];refine hQ _ false ?_ ?_ ?_
   ·simp[h1]
   ·simp
   have afV:¬q.order.length<=16:=ah;simp[bG.JP,afV]
  simp[h1,k0,g3,bf.aT,h4];refine hQ _ false ?_ ?_ ?_
  ·simp[h1]
  ·simp
  have h4':¬q.ar.length<=4:=ah;simp[bG.JP,h4']
theorem W1 (q:bG) (b:Bool) (F:Fr) (K:Hp) (n:Nat) (Q:QA) (h1:F.get 1=some (.ptr 0 0)) (h3:F.get 3=some (.bool b)) (k0:K.get 0=aN 15 q.cells)
  (hQ:∀F' c,F'.get 1=some (.ptr 0 0)->F'.get 3=some (.bool c)->c=(b&&q.X6)->Q .normal F' K n []):VC pG sV F K n [] (nj pG (.cond (aA 40) zQ FV) Q):=by
 have g1:=q.g1;have g2:=q.g2;generalize q.cells=cs at *
 cases hst:q.star with
 |true =>
  cases b with
  |true =>
   by_cases hl:q.items.length=0
   ·simp[sV,zQ,h1,h3,k0,g1,g2,hst,bf.aT,hl];exact hQ _ true (by simp[h1]) ai (by simp[bG.X6,hst,hl])
   simp[sV,zQ,h1,h3,k0,g1,g2,hst,bf.aT,hl];have hl':¬q.items=[]:=by simpa using hl
   first
   |exact hQ _ false (by simp[h1]) ai (by simp[bG.X6,hst,hl])
   |(simp[hl'];exact hQ _ false (by simp[h1]) ai (by simp[bG.X6,hst,hl]))
  |false =>
   simp[sV,zQ,h1,h3,k0,g1,hst];exact hQ _ false (by simp[h1]) ai ai
 |false =>
  cases b with
  |true =>
   simp[sV,FV,h1,h3,k0,g1,g2,hst,bf.aT];refine aB.pure (ajH (q.items.length:Int) 16) ?_;simp;refine hQ _ (decide ((1:Int)<=(q.items.length:Int))&&decide ((q.items.length:Int)<=16)) ?_ ?_ ?_
   ·simp[h1]
   ·simp
   simp[bG.X6,hst]
   congr 1
   ·simp;omega
   simp;omega
  |false =>
   simp[sV,FV,h1,h3,k0,g1,hst];exact hQ _ false (by simp[h1]) ai ai
theorem aeR (q:bG)(hc:q.cond.sz<=aU)(ho:q.order.length<=aU)(hs:q.ar.length<=aU)(hi:q.items.length<=aU)(hz1:∀x∈q.items,x.e.sz<=aU)(hz2:∀x∈q.ar,x.cond.sz<=aU):aj pG 113 [.agg q.cells 15] (.bool q.may):=by
 refine gf c113 (by simp[bG.pure]) ai (by simp[A113]) λ F hF=>?_;simp[A113,hF];have k0:(Tr.nil.put 0 (some (bJ.cells 15 [] q.cells Ov.nil)):Hp).get 0=aN 15 q.cells:=ai;refine W3 q hc _ _ _ _ ?_ k0 λ F' b g1 g3 hb=>?_
 ·simp
 simp only[pI,ux];refine W1 q b F' _ _ _ g1 g3 k0 λ F2 c g1 g3 hc=>?_;have:=W4 q ho hs hi hz1 hz2 c F2 _ 1 g1 g3 k0 ah;have hm:q.may=((((c&&q.items.all nD.ok)&&jP q.ar)&&q.order.all Ord.ok)):=by rw[hc,hb];rfl
 rw[hm];simp only[pI,ux];simp only[ux]at this;exact this
theorem dE.g0 (x:dE):x.cells[0]?=some (zI x.kind):=by simp[dE.cells]
theorem dE.g1 (x:dE):x.cells[1]?=some (.str x.table):=by simp[dE.cells]
theorem dE.g2 (x:dE):x.cells[2]?=some (.str x.name):=by simp[dE.cells]
theorem dE.g3 (x:dE):x.cells[3]?=some (dV.ds x.cols):=by simp[dE.cells]
theorem dE.g4 (x:dE):x.cells[4]?=some (dz.ds x.on):=by simp[dE.cells]
theorem dE.g5 (x:dE):x.cells[5]?=some (.bool x.uniq):=by simp[dE.cells]
theorem dE.g6 (x:dE):x.cells[6]?=some (pe.ds x.rows):=by simp[dE.cells]
theorem dE.g7 (x:dE):x.cells[7]?=some (arl.ds x.sets):=by simp[dE.cells]
theorem dE.g8 (x:dE):x.cells[8]?=some (zI x.cond.op):=by
 obtain⟨_,_,_,_,_,_,_,_,⟨op,v,t,m,cD,args⟩,_⟩:=x;simp[dE.cells,Ex.cells,Ex.op]
theorem bG.g0 (q:bG):q.cells[0]?=some (.bool q.kE):=by simp[bG.cells]
theorem bG.g4 (q:bG):q.cells[4]?=some (zI q.cond.op):=by
 obtain⟨_,_,_,_,⟨op,v,t,m,cD,args⟩,_⟩:=q;simp[bG.cells,Ex.cells,Ex.op]
theorem dE.tq (x:dE):(x.cells.drop 16).take 15=x.q.cells:=by rw[dE.cq,fZ ai]
def vN (a b:Ex):Bool:=decide (a.op=b.op)&&(decide (b.op≠0)||decide (a.bare 0))
def G0 (x t:dE):Bool:=decide (x.table=t.table)&&(decide (x.name=t.name)&&(decide (x.cols.length=t.cols.length)&&(decide (x.on.length=t.on.length)&&((x.uniq == t.uniq)&&(decide (x.rows.length=t.rows.length)&&(decide (x.sets.length=t.sets.length)&&(vN x.cond t.cond &&
 ((x.q.kE == t.q.kE)&&((x.q.star == t.q.star)&&(decide (x.q.items.length=t.q.items.length)&&(decide (x.q.ar.length=t.q.ar.length)&&(vN x.q.cond t.q.cond&&(decide (x.q.order.length=t.q.order.length)&&((x.q.limited == t.q.limited)&&decide (x.q.limit=t.q.limit)))))))))))))))
set_option maxHeartbeats 4000000 in
theorem ajV (x t:dE):aj pG 114 [.agg x.cells 31,.agg t.cells 31] (.bool (G0 x t)):=by
 refine pv c114 λ F hF=>?_;have la:=wK x.cond;have lb:=wK x.q.cond;have ax:bo x.q.cells=true:=by simp[bG.cells]
 have at':bo t.q.cells=true:=by simp[bG.cells]
 have hav:x.cond.av=.agg x.cond.cells 8:=Eq.trans rfl rfl;have hbv:x.q.cond.av=.agg x.q.cond.cells 8:=Eq.trans rfl rfl;rw[hav]at la;rw[hbv]at lb;have x1:=x.g1;have x2:=x.g2;have x3:=x.g3;have x4:=x.g4;have x5:=x.g5;have x6:=x.g6;have x7:=x.g7;have x8:=x.g8;have xc:=x.cc;have xq:=x.tq;have xl:=x.bm;have t1:=t.g1;have t2:=t.g2;have t3:=t.g3;have t4:=t.g4;have t5:=t.g5;have t6:=t.g6;have t7:=t.g7;have t8:=t.g8;have tq:=t.tq;have tl:=t.bm;have y0:=x.q.g0;have y1:=x.q.g1;have y2:=x.q.g2;have y3:=x.q.g3;have y4:=x.q.g4;have y12:=x.q.g12;have y13:=x.q.g13;have y14:=x.q.g14;have yc:=x.q.cc;have yl:=x.q.bm;have z0:=t.q.g0;have z1:=t.q.g1;have z2:=t.q.g2;have z3:=t.q.g3;have z4:=t.q.g4;have z12:=t.q.g12;have z13:=t.q.g13;have z14:=t.q.g14;have zl:=t.q.bm;generalize hr:G0 x t=R;unfold G0 vN at hr;generalize x.cells=xs at *;generalize t.cells=ts at *;generalize x.q.cells=xqs at *;generalize t.q.cells=tqs at *;simp[A114,hF];simp only[adB,nG];refine bF.of (bq (P:=pG)) ?_;simp[ae,xl,tl,xq,tq,yl,zl,bX,cS,ax,at'];generalize hK:(Tr.put (Tr.put _ 2 _) 3 _:Hp)=K;have k0:K.get 0=aN 31 xs:=by rw[<-hK];simp
 have k1:K.get 1=aN 31 ts:=by rw[<-hK];simp
 have k2:K.get 2=aN 15 xqs:=by rw[<-hK];simp
 have k3:K.get 3=aN 15 tqs:=by rw[<-hK];simp
 clear hK;generalize hF0:(Fp 10 _ _:Fr)=F0;have f2:F0.get 2=some (.ptr 0 0):=by rw[<-hF0];simp[ae]
 have f3:F0.get 3=some (.ptr 1 0):=by rw[<-hF0];simp[ae]
 have f5:F0.get 5=some (.ptr 2 0):=by rw[<-hF0];simp
 have f6:F0.get 6=some (.ptr 3 0):=by rw[<-hF0];simp
 clear hF0 hF F;simp[adA,f2,f3,k0,k1,x1,t1]
 by_cases h1n:¬x.table=t.table
 ·simp[h1n];exact .bool (by rw[<-hr];simp[h1n])
 have h1:=Classical.not_not.1 h1n;clear h1n;simp[f2,f3,k0,k1,x2,t2,h1]
 by_cases h2n:¬x.name=t.name
 ·simp[h2n];exact .bool (by rw[<-hr];simp[h2n])
 have h2:=Classical.not_not.1 h2n;clear h2n;simp[f2,f3,k0,k1,x3,t3,bf.aT,h2]
 by_cases h3n:¬x.cols.length=t.cols.length
 ·simp[h3n];exact .bool (by rw[<-hr];simp[h3n])
 have h3:=Classical.not_not.1 h3n;clear h3n;simp[f2,f3,k0,k1,x4,t4,bf.aT,h3]
 by_cases h4n:¬x.on.length=t.on.length
 ·simp[h4n];exact .bool (by rw[<-hr];simp[h4n])
 have h4:=Classical.not_not.1 h4n;clear h4n;simp[f2,f3,k0,k1,x5,t5,h4]
 by_cases h5n:¬(x.uniq == t.uniq)=true
 ·simp[h5n];exact .bool (by rw[<-hr];simp[h5n])
 have h5:=Classical.not_not.1 h5n;clear h5n;simp[f2,f3,k0,k1,x6,t6,bf.aT,h5]
 by_cases h6n:¬x.rows.length=t.rows.length
 ·simp[h6n];exact .bool (by rw[<-hr];simp[h6n])
 have h6:=Classical.not_not.1 h6n;clear h6n;simp[f2,f3,k0,k1,x7,t7,bf.aT,h6]
 by_cases h7n:¬x.sets.length=t.sets.length
 ·simp[h7n];exact .bool (by rw[<-hr];simp[h7n])
 have h7:=Classical.not_not.1 h7n;clear h7n;simp[f2,f3,k0,k1,x8,t8,h7]
 by_cases h8n:¬x.cond.op=t.cond.op
 ·simp[h8n];exact .bool (by rw[<-hr];simp[h8n])
 have h8:=Classical.not_not.1 h8n;clear h8n;simp[f3,k1,t8,h8]
 by_cases w8:t.cond.op=0
 ·simp[f2,k0,xc,w8,xl];refine aB.pure la ?_
  by_cases b8:¬x.cond.bare 0
  ·simp[b8];exact .bool (by rw[<-hr];simp[h8,w8,b8])
  have b8':=Classical.not_not.1 b8;clear b8;simp[f5,f6,k2,k3,y0,z0,b8']
  by_cases h9n:¬(x.q.kE == t.q.kE)=true
  ·simp[h9n];exact .bool (by rw[<-hr];simp[h9n])
  have h9:=Classical.not_not.1 h9n;clear h9n;simp[f5,f6,k2,k3,y1,z1,h9]
  by_cases D5:¬(x.q.star == t.q.star)=true
  ·simp[D5];exact .bool (by rw[<-hr];simp[D5])
  have h10:=Classical.not_not.1 D5;clear D5;simp[f5,f6,k2,k3,y2,z2,bf.aT,h10]
  by_cases D4:¬x.q.items.length=t.q.items.length
  ·simp[D4];exact .bool (by rw[<-hr];simp[D4])
  have h11:=Classical.not_not.1 D4;clear D4;simp[f5,f6,k2,k3,y3,z3,bf.aT,h11]
  by_cases DZ:¬x.q.ar.length=t.q.ar.length
  ·simp[DZ];exact .bool (by rw[<-hr];simp[DZ])
  have h12:=Classical.not_not.1 DZ;clear DZ;simp[f5,f6,k2,k3,y4,z4,h12]
  by_cases DY:¬x.q.cond.op=t.q.cond.op
  ·simp[DY];exact .bool (by rw[<-hr];simp[DY])
  have h13:=Classical.not_not.1 DY;clear DY;simp[f6,k3,z4,h13]
  by_cases OK:t.q.cond.op=0
  ·simp[f5,k2,yc,OK,yl];refine aB.pure lb ?_
   by_cases b13:¬x.q.cond.bare 0
   ·simp[b13];exact .bool (by rw[<-hr];simp[h13,OK,b13])
   have Zx:=Classical.not_not.1 b13;clear b13;simp[f5,f6,k2,k3,y12,z12,bf.aT,Zx]
   by_cases nY:¬x.q.order.length=t.q.order.length
   ·simp[nY];exact .bool (by rw[<-hr];simp[nY])
   have rq:=Classical.not_not.1 nY;clear nY;simp[f5,f6,k2,k3,y13,z13,rq]
   by_cases nX:¬(x.q.limited == t.q.limited)=true
   ·simp[nX];exact .bool (by rw[<-hr];simp[nX])
   have h15:=Classical.not_not.1 nX;clear nX;simp[f5,f6,k2,k3,y14,z14,h15]
   by_cases nW:¬x.q.limit=t.q.limit
   ·simp[nW];exact .bool (by rw[<-hr];simp[nW])
   have kK:=Classical.not_not.1 nW;clear nW;simp[kK];exact .bool (by rw[<-hr];simp[h1,h2,h3,h4,h5,h6,h7,h8,w8,b8',h9,h10,h11,h12,h13,OK,Zx,rq,h15,kK])
  simp[f5,f6,k2,k3,y12,z12,bf.aT,OK]
  by_cases nY:¬x.q.order.length=t.q.order.length
  ·simp[nY];exact .bool (by rw[<-hr];simp[nY])
  have rq:=Classical.not_not.1 nY;clear nY;simp[f5,f6,k2,k3,y13,z13,rq]
  by_cases nX:¬(x.q.limited == t.q.limited)=true
  ·simp[nX];exact .bool (by rw[<-hr];simp[nX])
  have h15:=Classical.not_not.1 nX;clear nX;simp[f5,f6,k2,k3,y14,z14,h15]
  by_cases nW:¬x.q.limit=t.q.limit
  ·simp[nW];exact .bool (by rw[<-hr];simp[nW])
  have kK:=Classical.not_not.1 nW;clear nW;simp[kK];exact .bool (by rw[<-hr];simp[h1,h2,h3,h4,h5,h6,h7,h8,w8,b8',h9,h10,h11,h12,h13,OK,rq,h15,kK])
 simp[f5,f6,k2,k3,y0,z0,w8]
 by_cases h9n:¬(x.q.kE == t.q.kE)=true
 ·simp[h9n];exact .bool (by rw[<-hr];simp[h9n])
 have h9:=Classical.not_not.1 h9n;clear h9n;simp[f5,f6,k2,k3,y1,z1,h9]
 by_cases D5:¬(x.q.star == t.q.star)=true
 ·simp[D5];exact .bool (by rw[<-hr];simp[D5])
 have h10:=Classical.not_not.1 D5;clear D5;simp[f5,f6,k2,k3,y2,z2,bf.aT,h10]
 by_cases D4:¬x.q.items.length=t.q.items.length
 ·simp[D4];exact .bool (by rw[<-hr];simp[D4])
 have h11:=Classical.not_not.1 D4;clear D4;simp[f5,f6,k2,k3,y3,z3,bf.aT,h11]
 by_cases DZ:¬x.q.ar.length=t.q.ar.length
 ·simp[DZ];exact .bool (by rw[<-hr];simp[DZ])
 have h12:=Classical.not_not.1 DZ;clear DZ;simp[f5,f6,k2,k3,y4,z4,h12]
 by_cases DY:¬x.q.cond.op=t.q.cond.op
 ·simp[DY];exact .bool (by rw[<-hr];simp[DY])
 have h13:=Classical.not_not.1 DY;clear DY;simp[f6,k3,z4,h13]
 by_cases OK:t.q.cond.op=0
 ·simp[f5,k2,yc,OK,yl];refine aB.pure lb ?_
  by_cases b13:¬x.q.cond.bare 0
  ·simp[b13];exact .bool (by rw[<-hr];simp[h13,OK,b13])
  have Zx:=Classical.not_not.1 b13;clear b13;simp[f5,f6,k2,k3,y12,z12,bf.aT,Zx]
  by_cases nY:¬x.q.order.length=t.q.order.length
  ·simp[nY];exact .bool (by rw[<-hr];simp[nY])
  have rq:=Classical.not_not.1 nY;clear nY;simp[f5,f6,k2,k3,y13,z13,rq]
  by_cases nX:¬(x.q.limited == t.q.limited)=true
  ·simp[nX];exact .bool (by rw[<-hr];simp[nX])
  have h15:=Classical.not_not.1 nX;clear nX;simp[f5,f6,k2,k3,y14,z14,h15]
  by_cases nW:¬x.q.limit=t.q.limit
  ·simp[nW];exact .bool (by rw[<-hr];simp[nW])
  have kK:=Classical.not_not.1 nW;clear nW;simp[kK];exact .bool (by rw[<-hr];simp[h1,h2,h3,h4,h5,h6,h7,h8,w8,h9,h10,h11,h12,h13,OK,Zx,rq,h15,kK])
 simp[f5,f6,k2,k3,y12,z12,bf.aT,OK]
 by_cases nY:¬x.q.order.length=t.q.order.length
 ·simp[nY];exact .bool (by rw[<-hr];simp[nY])
 have rq:=Classical.not_not.1 nY;clear nY;simp[f5,f6,k2,k3,y13,z13,rq]
 by_cases nX:¬(x.q.limited == t.q.limited)=true
 ·simp[nX];exact .bool (by rw[<-hr];simp[nX])
 have h15:=Classical.not_not.1 nX;clear nX;simp[f5,f6,k2,k3,y14,z14,h15]
 by_cases nW:¬x.q.limit=t.q.limit
 ·simp[nW];exact .bool (by rw[<-hr];simp[nW])
 have kK:=Classical.not_not.1 nW;clear nW;simp[kK];exact .bool (by rw[<-hr];simp[h1,h2,h3,h4,h5,h6,h7,h8,w8,h9,h10,h11,h12,h13,OK,rq,h15,kK])
def q7.ok (c:q7):Bool:=decide (cO c.name)&&(decide (1<=c.kind)&&decide (c.kind<=3))
def St1.ok (x:St1):Bool:=decide (cO x.name)&&x.e.may
structure MyF (x:dE)(tc:List AV)(b:Bool)(F:Fr)(K:Hp)(n:Nat):Prop where
 f1:F.get 1=some (.ptr 0 0)
 f3:F.get 3=some (.ptr 1 0)
 f4:F.get 4=some (.bool b)
 k0:K.get 0=aN 31 x.cells
 k1:K.get 1=aN 31 tc
 hn:2<=n
def rowOk (r:List Ex):Bool:=decide (1<=r.length/\r.length<=16)&&r.all Ex.may
@[simp] theorem asr (e:Eff)(F:Fr)(n:Nat)(A B C D:Hp)(As:List Hp):fG e F n 4 (A::B::C::D::As)=(vE (e F A n)).bind λ v=>eqA v ((vE (e F B n)).bind λ v=>eqA v ((vE (e F C n)).bind λ v=>eqA v (vE (e F D n)))):=by rw[jx e F n 2,jx e F n 1,jx e F n 0,oz]
def NV (v v':AV):Prop:=v=v'∨(v=.aV (.slice none 0 0)/\∃k,v'=.ds [] 0 (k+1))
def NL:List AV->List AV->Prop
 |[],[]=>True
 |v::l,v'::l'=>NV v v'/\NL l l'
 |_,_=>False
@[simp] theorem ay5:NL [] []=True:=by simp[NL]
@[simp] theorem XS (v v':AV)(l l':List AV):NL (v::l) (v'::l')=(NV v v'/\NL l l'):=by simp[NL]
@[simp] theorem ay2 (v:AV):NV v v=True:=by simp[NV]
@[simp] theorem ay3 {α:Type}{k:Nat}(E:bf α (k+1)):NV (.aV (.slice none 0 0)) (E.ds [])=True:=by
 simp only[eq_iff_iff,iff_true];exact .inr ⟨rfl,k,rfl⟩
theorem akB:NV (.aV (.slice none 0 0)) (.ds (Ex.aK []) 0 8):=.inr ⟨rfl,7,by simp[Ex.aK]⟩
theorem NV.vr {φ:Ph}{D:Da}{v v':AV}{x:Value}(h:NV v v')(hx:VR φ D v x):VR φ D v' x:=by
 rcases h with rfl|⟨rfl,k,rfl⟩
 ·exact hx
 cases hx;exact .tQ _
theorem NL.len:∀ {l l':List AV},NL l l'->l'.length=l.length
 |[],[],_=>rfl
 |[],_::_,k=>by simp[NL]at k
 |_::_,[],k=>by simp[NL]at k
 |_::_,_::_,k=>by simp only[XS]at k;simp[NL.len k.2]
theorem NL.vW {φ:Ph}{D:Da}:∀ {l l':List AV}{xs:List Value},NL l l'->bT φ D l xs->bT φ D l' xs
 |[],[],_,_,h=>h
 |[],_::_,_,k,_=>by simp[NL]at k
 |_::_,[],_,k,_=>by simp[NL]at k
 |_::_,_::_,_,k,.cons _ _ _ _ h1 h2=>by
  simp only[XS]at k;exact .cons _ _ _ _ (k.1.vr h1) (NL.vW k.2 h2)
theorem aj.conv {P:Program}{g:FuncId}{args args':List AV}{v:AV}(h:aj P g args' v)(hp:aS args)(hc:∀D xs,bT lF D args xs->bT lF D args' xs):aj P g args v:=
 ⟨h.body,hp,h.apa,λ D w xs hd hv=>h.run D w xs hd (hc D xs hv)⟩
def vJ:Ex:=.mk 0 ⟨0,0,[]⟩ [] [] 0 []
def avD:bG:=⟨false,false,[],[],vJ,[],false,0⟩
def dE.z (k:Int):dE:=⟨k,[],[],[],[],false,[],[],vJ,avD⟩
def dE.cut (x:dE):dE:=
 if x.kind=1 then {dE.z x.kind with table:=x.table,cols:=x.cols}
 else if x.kind=2 then {dE.z x.kind with table:=x.table}
 else if x.kind=3 then {dE.z x.kind with table:=x.table,name:=x.name,on:=x.on,uniq:=x.uniq}
 else if x.kind=4 then {dE.z x.kind with name:=x.name}
 else if x.kind=5 then {dE.z x.kind with table:=x.table,rows:=x.rows}
 else if x.kind=6 then {dE.z x.kind with table:=x.table,cond:=x.cond}
 else if x.kind=7 then {dE.z x.kind with table:=x.table,sets:=x.sets,cond:=x.cond}
 else if x.kind=8 then {dE.z x.kind with q:=x.q}
 else dE.z x.kind
def dE.ok (x:dE):Bool:=
 if x.kind=1 then decide (cO x.table)&&decide (1<=x.cols.length/\x.cols.length<=16)&&x.cols.all q7.ok
 else if x.kind=2 then decide (cO x.table)
 else if x.kind=3 then decide (cO x.table)&&decide (cO x.name)&&decide (1<=x.on.length/\x.on.length<=16)&&x.on.all λ s=>decide (cO s)
 else if x.kind=4 then decide (cO x.name)
 else if x.kind=5 then decide (cO x.table)&&decide (0<x.rows.length)&&x.rows.all rowOk
 else if x.kind=6 then decide (cO x.table)&&x.cond.maybe
 else if x.kind=7 then decide (cO x.table)&&decide (1<=x.sets.length/\x.sets.length<=16)&&x.cond.maybe&&x.sets.all St1.ok
 else if x.kind=8 then x.q.may
 else decide (x.kind=9∨x.kind=10∨x.kind=11)
structure dE.sm (x:dE):Prop where
 cols:x.cols.length<=aU
 on:x.on.length<=aU
 rows:x.rows.length<=aU
 row:∀r∈x.rows,r.length<=aU/\∀y∈r,y.sz<=aU
 sets:x.sets.length<=aU
 set:∀y∈x.sets,y.e.sz<=aU
 cond:x.cond.sz<=aU
 items:x.q.items.length<=aU
 item:∀y∈x.q.items,y.e.sz<=aU
 ar:x.q.ar.length<=aU
 src:∀y∈x.q.ar,y.cond.sz<=aU
 order:x.q.order.length<=aU
 qc:x.q.cond.sz<=aU
def tcZ (kind:Int):List AV:=[(zI kind),(.str []),(.str []),(.aV (.slice none 0 0)),(.aV (.slice none 0 0)),(.bool false),(.aV (.slice none 0 0)),(.aV (.slice none 0 0)),(zI 0),(zI 0),(zI 0),(.str []),(.str []),(.str []),(zI 0),(.aV (.slice none 0 0)),(.bool false),(.bool false),(.aV (.slice none 0 0)),(.aV (.slice none 0 0)),(zI 0),(zI 0),(zI 0),(.str []),(.str []),(.str []),(zI 0),(.aV (.slice none 0 0)),(.aV (.slice none 0 0)),(.bool false),(zI 0)]
def M17:CT:=(.seq aaJ (.cond (aA 20) (.seq aiv (.seq aiu (.seq ait (.block 1 (.loop ajl))))) (.seq LO (.cond (aA 61) (.seq aaV aaU) (.seq LN (.cond (aA 69) (.seq aaT (.seq aaS (.seq aaR (.block 3 (.loop ajk))))) (.seq LM (.cond (aA 110) (.seq aaP aaO) (.seq LL (.cond (aA 118) (.seq aaN (.seq aaM (.seq aaL (.block 5 (.loop ajj))))) (.seq LJ (.cond (aA 161) (.seq aaI aaH) (.seq LI (.cond (aA 177) (.seq aaG (.seq aaF (.seq aaE (.block 9 (.loop aji))))) (.seq LH (.cond (aA 221) (.seq LG LF) (.seq (.seq aaD (.cond (aA 229) .skip (.seq aaC (.cond (aA 229) .skip aaB)))) (.cond (aA 229) aaA .skip))))))))))))))))))
theorem b17:A45.code=(.seq aaX (.seq aaW (.seq aaQ (.seq (.seq aaK (.block 0 M17)) (.seq u7 .ret))))):=rfl
structure ad3 (x:dE)(F:Fr)(K:Hp):Prop where
 f1:F.get 1=some (.ptr 0 0)
 f3:F.get 3=some (.ptr 1 0)
 f4:F.get 4=some (.bool false)
 f19:F.get 19=some (zI x.kind)
 k0:K.get 0=aN 31 x.cells
 k1:K.get 1=aN 31 (tcZ x.kind)
structure asy (x:dE)(tc:List AV):Prop where
 len:tc.length=31
 pure:aS tc
 cut:NL tc x.cut.cells
def ad2 (x:dE)(Q:QA):Prop:=∀F' K' n' tc b,MyF x tc b F' K' n'->asy x tc->b=x.ok->Q .normal F' K' n' []
theorem apM {α:Type}:∀ {l:List α},l.length=15->∃a b c d e f g h i j k m n o p,l=[a,b,c,d,e,f,g,h,i,j,k,m,n,o,p]
 |[a,b,c,d,e,f,g,h,i,j,k,m,n,o,p],_=>⟨a,b,c,d,e,f,g,h,i,j,k,m,n,o,p,rfl⟩
theorem afu (x:dE)(_hs:x.sm)(hmy:aj pG 113 [.agg x.q.cells 15] (.bool x.q.may))(hk:x.kind=8)(F:Fr)(K:Hp)(Q:QA)(E:ad3 x F K)(hQ:ad2 x Q):VC pG M17 F K 2 [] Q:=by
 obtain⟨f1,f3,f4,f19,k0,k1⟩:=E;rw[hk]at f19 k1;have xq:=x.tq;have xl:=x.bm;obtain⟨a0,a1,a2,a3,a4,a5,a6,a7,a8,a9,a10,a11,a12,a13,a14,hce⟩:=apM x.q.bm;have hpc:=x.q.pure;have ho:bo x.q.cells=true:=by simp[bG.cells]
 rw[hce]at xq hmy hpc ho;simp at hpc ho;generalize hxs:x.cells=xs at *;have hg:jT 31 [] xs .nil 16 15=some [a0,a1,a2,a3,a4,a5,a6,a7,a8,a9,a10,a11,a12,a13,a14]:=by simp[xl,xq]
 clear xl;simp[M17,f19,aaJ,LO,LN,LM,LL,LJ,LI,LH,LG,f1,f3,k0,k1,hg,tcZ,ho];generalize hK2:Tr.put _ 1 _=K2;obtain⟨tc,g1,ht⟩:∃tc,K2.get 1=aN 31 tc/\asy x tc:=⟨_,by rw[<-hK2];exact(Tr.get_put _ _ _ _).trans (ay rfl),ai,by simp[hpc],by simp only[dE.cut,hk,dE.cells,dE.z];simp[hce,vJ,Ex.cells,akB]⟩;have g0:K2.get 0=aN 31 xs:=by rw[<-hK2];simp[k0]
 clear hK2;generalize hF2:(Fp 225 _ _:Fr)=F2;have h1:F2.get 1=some (.ptr 0 0):=by rw[<-hF2];simp[f1]
 have h3:F2.get 3=some (.ptr 1 0):=by rw[<-hF2];simp[f3]
 clear hF2 f1 f3 f4 f19 k0 k1 F;have fin:∀(F':Fr) (b:Bool),F'.get 1=some (.ptr 0 0)->F'.get 3=some (.ptr 1 0)->F'.get 4=some (.bool b)->b=x.ok->Q .normal F' K2 2 []:=λ F' b w1 w3 w4 hb=>hQ _ _ _ _ _ ⟨w1,w3,w4,by rw[hxs];exact g0,g1,ah⟩ ht hb;simp[LF,h1,g0,hg];refine aB.pure hmy ?_;simp;generalize hF3:(Fp 4 _ _:Fr)=F3;exact fin F3 _ (by rw[<-hF3];simp[h1]) (by rw[<-hF3];simp[h3]) (by rw[<-hF3];simp;rfl) (by simp[dE.ok,hk])
def dE.may (x:dE):Bool:=x.ok&&G0 x x.cut
theorem akL (x:dE) (_hs:x.sm) (hb:∀(F:Fr) (K:Hp) (Q:QA),ad3 x F K->ad2 x Q->VC pG M17 F K 2 [] Q):aj pG 45 [x.av] (.bool x.may):=by
 refine pv c45 λ F hF=>?_;have x0:=x.g0;have xl:=x.bm
 have fin:ad2 x (ig 0 (nj pG (.seq u7 .ret) (kH [aH 2] λ v1 H' _=>fj H'.get v1 (.bool x.may)))):=by
  intro F' K' n' tc b ⟨f1,f3,f4,k0,k1,hn⟩ ⟨htl,hpt,hnl⟩ hb
  cases b with
  |false =>
   simp[u7,f4,dE.may,<-hb];exact .bool rfl
  |true =>
   simp[u7,f1,f3,f4,k0,k1,dE.may,<-hb];have hr:=ajV x x.cut;refine aB.pure (hr.conv ?_ λ D xs hv=>?_) ?_
   ·simp[hpt]
   ·cases hv with
    |cons _ y0 _ ys h0 hv =>
    cases hv with
    |cons _ y1 _ ys h1 hv =>
    refine .cons _ _ _ _ h0 (.cons _ _ _ _ ?_ hv)
    cases h1 with
    |agg _ l _ a b=>exact .agg _ _ _ (hnl.vW a) ai
   simp;exact .bool rfl
 have hcx:x.av=.agg x.cells 31:=Eq.trans rfl rfl;rw[hcx]at hF
 have body:∀(F:Fr) (K:Hp),ad3 x F K->VC pG M17 F K 2 [] (ig 0 (nj pG (.seq u7 .ret) (kH [aH 2] λ v1 H' _=>fj H'.get v1 (.bool x.may)))):=by
  exact λ F K E=>hb F K _ E fin
 clear fin hb;have xp:=x.pure;generalize hxs:x.cells=xs at hF x0 xl xp;simp only[b17];simp[aaX,hF];simp[aaW,aaQ,aaK,x0];generalize hK:Tr.put _ 1 _=K;have k0:K.get 0=aN 31 xs:=by rw[<-hK];simp
 have k1:K.get 1=aN 31 (tcZ x.kind):=by rw[<-hK];simp[tcZ]
 clear hK;refine body _ K ⟨?_,?_,?_,?_,by rw[hxs];exact k0,k1⟩
 all_goals simp
theorem aoM (d t:bR)(b:Nat)(H:Hp)(n:Nat)(hb:H.get b=aN 4 (aM.cells t))(ht:dm H n):ao pG 84 [aM.av d,.ptr b 0] H n (λ u K k=>u=.bool (decide (d.name=t.name))/\K=H/\k=n):=by
 refine ao.forget ai (ao.of c84 (by simp[A84]) λ F hF=>?_);have q:¬b=n:=by have:=ht.lt hb;omega
 simp[A84,hF,bf.av,fc,q,hb];rintro c hc rfl;exact aw (ht _ (aL _)) hc
theorem ap3 (d t:pz)(b:Nat)(H:Hp)(n:Nat)(hb:H.get b=aN 6 (bw.cells t))(ht:dm H n):ao pG 87 [bw.av d,.ptr b 0] H n (λ u K k=>u=.bool (decide (d.name=t.name))/\K=H/\k=n):=by
 refine ao.forget ai (ao.of c87 (by simp[A87]) λ F hF=>?_);have q:¬b=n:=by have:=ht.lt hb;omega
 simp[A87,hF,bf.av,iQ,q,hb];rintro c hc rfl;exact aw (ht _ (aL _)) hc
theorem al2 {f:FuncId}{first cap:List AV}{p:bR->Bool}{H:Hp}{n:Nat}(l:List bR)(hl:l.length<=aU)(hp:∀x∈l,ao pG f (first++([aM.av x]++cap)) H n (λ u K k=>u=.bool (p x)/\K=H/\k=n)):
  ao pG 83 [aM.ds l,.fn (.func f) first cap] H n (λ u K k=>u=.bool (l.any p)/\K=H/\k=n):=
 zd c83 (rZ (el:=aM.av) c161 hl (aM.aT _) (λ i h=>⟨_,aM.ix h,λ F H n rq=>by simp[rq,aM.pT]⟩) hp)
theorem al3 {f:FuncId}{first cap:List AV}{p:pz->Bool}{H:Hp}{n:Nat}(l:List pz)(hl:l.length<=aU)(hp:∀x∈l,ao pG f (first++([bw.av x]++cap)) H n (λ u K k=>u=.bool (p x)/\K=H/\k=n)):
  ao pG 86 [bw.ds l,.fn (.func f) first cap] H n (λ u K k=>u=.bool (l.any p)/\K=H/\k=n):=
 zd c86 (rZ (el:=bw.av) c163 hl (bw.aT _) (λ i h=>⟨_,bw.ix h,λ F H n rq=>by simp[rq,bw.pT]⟩) hp)
def fX (t:bR)(l:List Int):Prop:=l≠[]/\l.length<=16/\∀i (h:i<l.length),0<=l[i]/\l[i]<(t.cols.length:Int)/\l[i]∉l.take i
theorem Xu (t:bR) (l:List Int) (_hc:t.cols.length<=aU):aj pG 85 [aM.av t,dA.ds l] (.bool (decide (fX t l))):=by
 refine pv c85 λ F hF=>?_
 by_cases h0:l=[]
 ·have:¬fX t l:=λ h=>h.1 h0;simp[A85,hF,bf.av,bf.aT,h0];exact .bool (by subst h0;simp[this])
 by_cases kK:l.length<=16
 ·simp[A85,hF,bf.av,bf.aT,h0,show ¬(16:Int)<(l.length:Int) by omega,fc];generalize hK:Tr.put _ 0 _=K;have k0:K.get 0=aN 4 [.int .u32 t.id,.str t.name,dV.ds t.cols,.int .u32 t.head]:=by rw[<-hK];simp
  clear hK;refine aF.of (λ q F K' n ms=>∃i,q=l.length - i/\i<=l.length/\F.get 1=some (dA.ds l)/\F.get 2=some (.ptr 0 0)/\F.get 15=some (dA.ds l)/\F.get 16=some (zI (l.length:Int))/\F.get 17=some (zI (i:Int))/\ms=[]/\K'=K/\∀k (h:k<i) (h2:k<l.length),0<=l[k]/\l[k]<(t.cols.length:Int)/\l[k]∉l.take k) l.length ⟨0,ai,ai,by simp[hF],ai,ai,ai,ai,rfl,rfl,λ k h=>ah⟩ ?_;rintro q F K' n ms ⟨i,rfl,hi,f1,f2,f15,f16,f17,rfl,rfl,hk⟩
  by_cases hlt:i<l.length
  ·have hx:=dA.ix (ik:=.i64) hlt;rw[KC]at hx;have hsl:=dA.TV (l:=l) (i:=i) hi;have no:∀P:Prop,(fX t l->P)->¬P->¬fX t l:=λ P h1 h2 h3=>h2 (h1 h3);simp[adI,f16,f17,hlt,f15,hx]
   by_cases hn:l[i]<0
   ·have:=no (0<=l[i]) (λ h=>(h.2.2 i hlt).1) ah;simp[hn,QN];exact .bool (by simp[this])
   by_cases hb:(t.cols.length:Int)<=l[i]
   ·have:=no (l[i]<(t.cols.length:Int)) (λ h=>(h.2.2 i hlt).2.1) ah;simp[hn,f2,k0,bf.aT,hb,QN];exact .bool (by simp[this])
   simp[hn,f2,k0,bf.aT,hb,f1,wq,vB,hsl];refine aB.pure (KG (l.take i) l[i] (by simp;unfold aU;omega)) ?_
   by_cases hm:l[i]∈l.take i
   ·have:=no (l[i]∉l.take i) (λ h=>(h.2.2 i hlt).2.2) (by simpa using hm);simp[hm,QN];exact .bool (by simp[this])
   simp[hm,ah8,f1,f2,f15,f16,f17,aE i ah];refine⟨l.length - (i+1),ah,i+1,rfl,hlt,rfl,λ k h h2=>?_⟩
   by_cases e:k=i
   ·subst e;exact⟨ah,ah,hm⟩
   exact hk k ah h2
  obtain rfl:i=l.length:=ah;have:fX t l:=⟨h0,kK,λ j h=>hk j h h⟩;simp[adI,f16,f17,ah7];exact .bool (by simp[this])
 have:¬fX t l:=λ h=>kK h.2.1;simp[A85,hF,bf.av,bf.aT,h0,show (16:Int)<(l.length:Int) by omega];exact .bool (by simp[this])
end Go.Abs
namespace Go.Abs
open List
open Go.Proofs
open Classical
set_option maxRecDepth 100000
section
variable {F:Fr}{H:Hp}{n:Nat}
@[simp] theorem auO (q:LK)(m k v:G):lq q m k v F H n=oE (m.f F) λ m=>oE (k.f F) λ k=>oE (v.f F) λ v=>rE q m k v H:=by
 unfold lq oE
 cases m.f F with
 |none=>rfl
 |some a=>dsimp only;cases k.f F with
  |none=>rfl
  |some b=>dsimp only;cases v.f F<;>rfl
@[simp] theorem anW (q:LK)(z:AV)(ok:Bool)(m k:G):jA q z ok m k F H n=oE (m.f F) λ m=>oE (k.f F) λ k=>fg q z ok m k H:=by
 unfold jA oE
 cases m.f F with
 |none=>rfl
 |some a=>dsimp only;cases k.f F<;>rfl
end
def PD:Nat->List Int->List (AV×AV×Nat)
 |_,[]=>[]
 |i,x::r=>(.int .u32 x,zI 1,i)::PD (i+1) r
theorem DC (x:Int):∀(l:List Int)(i:Nat),PD i (l++[x])=PD i l++[(.int .u32 x,zI 1,i+l.length)]
 |[],i=>by simp[PD]
 |y::r,i=>by simp[PD,DC x r (i+1)];omega
theorem pX (a b:Int):dZ .i (.int .u32 a) (.int .u32 b)=some (decide (a=b)):=by
 simp only[dZ,if_true]
 congr 1
theorem uN (k:Int):∀(l:List Int)(i:Nat),findKey .i (.int .u32 k) (PD i l)=some (if k∈l then some (zI 1)else none)
 |[],i=>rfl
 |y::r,i=>by
  simp only[PD,findKey,pX]
  by_cases h:k=y
  ·simp[h]
  simp[h,uN k r (i+1)]
theorem agT (k:Int)(v:AV):∀(l:List Int)(i:Nat),k∉l->iH .i (.int .u32 k) v (PD i l)=some none
 |[],i,_=>rfl
 |y::r,i,h=>by
  simp only[mem_cons,not_or]at h;simp only[PD,iH,pX];simp[h.1,agT k v r (i+1) h.2]
theorem agS (k:Int)(v:AV):∀(l:List Int)(i:Nat),k∈l->∃es,iH .i (.int .u32 k) v (PD i l)=some (some es)/\findKey .i (.int .u32 k) es=some (some v)
 |[],i,h=>by simp at h
 |y :: r,i,h=>by
  simp only[PD,iH,pX]
  by_cases e:k=y
  ·subst e;simp[findKey,pX]
  have h2:k∈r:=by simpa[e]using h
  obtain⟨es,h3,h4⟩:=agS k v r (i+1) h2;simp[e,h3,findKey,pX,h4]
theorem YR (k:Int)(l:List Int)(i:Nat)(_h:k∉l):findKey .i (.int .u32 k) (PD i l++[(.int .u32 k,zI 1,i+l.length)])=some (some (zI 1)):=by
 rw[<-DC,uN];simp
structure S85 (s:cG)(Fo:Fr)(l:List Int)(K:Hp)(n:Nat):Prop where
 k0:K.get 0=aN 2 (lj.cells s)
 k1:K.get 1=aN 1 [.bool false]
 k2:K.get 2=some (.map (PD 0 l) l.length)
 k3:K.get 3=aN 1 [.map 2]
 k4:K.get 4=aN 2 (lj.cells s)
 k5:K.get 5=some (.loop .ready .normal 120 Fo [25] CL.1 CL.2)
 k6:K.get 6=some .jN
 n7:7<=n
 top:dm K n
structure X85 (Fo:Fr)(K:Hp):Prop where
 k1:K.get 1=aN 1 [.bool false]
 k5:∃nt G ps a b,K.get 5=some (.loop .done .ret nt G ps a b)
 k6:K.get 6=some .jN
theorem He (s:cG) (Fo:Fr) (l:List Int) (x:Int){K:Hp}{n:Nat}{pd:Pd}{r:List (Option GO)}{F:Fr}{Q:QA}(f2:Fo.get 2=some (.ptr 1 0)) (f3:Fo.get 3=some (.ptr 3 0)) (S:S85 s Fo l K n)
  (h1:x≠0->x∉l->∀K' n',S85 s Fo (l++[x]) K' n'->fE pG r (pd.f (.bool true) F) K' n' [] Q)
  (h2:(x=0∨x∈l)->∀K' n',X85 Fo K'->fE pG r (pd.f (.bool false) F) K' n' [] Q):IQ 5 [.int .u32 x] pd r pG F K n [] Q:=by
 obtain⟨k0,k1,k2,k3,k4,k5,k6,n7,top⟩:=S;refine IQ.of k5 (by simp[mS];rfl) ?_;rw[ajx];simp[aiJ,k5];refine⟨_,_,_,_,_,_,⟨rfl,rfl,rfl,rfl,rfl,rfl⟩,?_⟩;rw[ajw]
 by_cases hx:x∈l
 ·obtain⟨es,hs1,hs2⟩:=agS x (zI 2) l 0 hx
  by_cases h0:x=0
  ·subst h0;simp[IY,f2,f3,k1,k2,k3,fg,rE,isKey,uN,hx,hs1,IX,IW];unfold u4;refine⟨_,_,_,_,_,_,_,(by simp;exact⟨rfl,rfl,rfl,rfl,rfl,rfl,rfl⟩),?_⟩;refine h2 ai _ _ ⟨ai,⟨_,_,_,_,_,by simp;exact⟨rfl,rfl,rfl,rfl,rfl⟩⟩,by simp[k6]⟩
  simp[IY,f2,f3,k1,k2,k3,fg,rE,isKey,uN,hx,hs1,hs2,IX,h0,IW];unfold u4;refine⟨_,_,_,_,_,_,_,(by simp;exact⟨rfl,rfl,rfl,rfl,rfl,rfl,rfl⟩),?_⟩;refine h2 (by simp[hx]) _ _ ⟨ai,⟨_,_,_,_,_,by simp;exact⟨rfl,rfl,rfl,rfl,rfl⟩⟩,by simp[k6]⟩
 have hs1:=agT x (zI 1) l 0 hx;have hs2:=YR x l 0 hx;simp only[tA]at hs2
 by_cases h0:x=0
 ·subst h0;simp[IY,f2,f3,k1,k2,k3,fg,rE,isKey,uN,hx,hs1,IX,IW];unfold u4;refine⟨_,_,_,_,_,_,_,(by simp;exact⟨rfl,rfl,rfl,rfl,rfl,rfl,rfl⟩),?_⟩;refine h2 ai _ _ ⟨ai,⟨_,_,_,_,_,by simp;exact⟨rfl,rfl,rfl,rfl,rfl⟩⟩,by simp[k6]⟩
 simp[IY,f3,k2,k3,fg,rE,isKey,uN,hx,hs1,hs2,IX,h0,IW];unfold u4;refine⟨_,_,_,_,_,_,_,(by simp;exact⟨rfl,rfl,rfl,rfl,rfl,rfl,rfl⟩),?_⟩;refine h1 h0 hx _ _ ⟨?_,?_,?_,?_,?_,?_,?_,n7,?_⟩
 ·simp[k0]
 ·simp[k1]
 ·simp[DC]
 ·simp[k3]
 ·simp[k4]
 ·simp
 ·simp[k6]
 intro b hb;have e2:¬b=2:=ah;have e5:¬b=5:=ah;simp[e2,e5,top b hb]
end Go.Abs
namespace Go.Abs
open List
open Go.Proofs
open Classical
set_option maxRecDepth 100000
def vh (l:List Int):Prop:=l.Nodup/\0∉l
def cG.pages (s:cG):List Int:=s.tables.map (·.head)++s.indexes.map (·.root)
theorem vh.add {l:List Int}{x:Int}(h:vh l)(h0:x≠0)(hx:x∉l):vh (l++[x]):=by
 refine⟨nodup_append.2 ⟨h.1,ai,λ a ha b hb=>?_⟩,?_⟩
 ·simp at hb;subst hb;intro e;subst e;exact hx ha
 simp only[mem_append,mc,not_or];exact⟨h.2,Ne.symm h0⟩
theorem vh.bad {l r:List Int}{x:Int}(h:x=0∨x∈l):¬vh (l++(x::r)):=by
 rintro⟨h1,h2⟩
 rcases h with rfl|h
 ·exact h2 ai
 exact(nodup_append.1 h1).2.2 x h x ai rfl
theorem S85.alloc {s:cG}{Fo:Fr}{l:List Int}{K:Hp}{n:Nat}(S:S85 s Fo l K n)(y z:bJ):S85 s Fo l ((K.put n (some y)).put n (some z)) (n+1):=by
 obtain⟨k0,k1,k2,k3,k4,k5,k6,n7,top⟩:=S;refine⟨?_,?_,?_,?_,?_,?_,?_,ah,?_⟩
 ·simp[show ¬ 0=n by omega,k0]
 ·simp[show ¬ 1=n by omega,k1]
 ·simp[show ¬ 2=n by omega,k2]
 ·simp[show ¬ 3=n by omega,k3]
 ·simp[show ¬ 4=n by omega,k4]
 ·simp[show ¬ 5=n by omega,k5]
 ·simp[show ¬ 6=n by omega,k6]
 intro b hb;simp[show ¬b=n by omega,top b ah]
def cG.pg (s:cG)(i j:Nat):List Int:=(s.tables.take i).map (·.head)++(s.indexes.take j).map (·.root)
theorem apk (s:cG):s.pg 0 0=[]:=by simp[cG.pg]
theorem aph {s:cG}{i:Nat}(h:i<s.tables.length):s.pg (i+1) 0=s.pg i 0++[s.tables[i].head]:=by
 unfold cG.pg;rw[take_add_one,cY h];simp only[map_append,Option.toList,map_cons,map_nil,take_zero,append_nil]
theorem apj {s:cG}{i j:Nat}(h:j<s.indexes.length):s.pg i (j+1)=s.pg i j++[s.indexes[j].root]:=by
 unfold cG.pg;rw[take_add_one (l:=s.indexes),cY h];simp only[map_append,Option.toList,map_cons,map_nil,append_assoc]
theorem akd (s:cG):s.pg s.tables.length s.indexes.length=s.pages:=by simp[cG.pg,cG.pages]
theorem apg {s:cG}{i:Nat}(h:i<s.tables.length):∃r,s.pages=s.pg i 0++(s.tables[i].head::r):=by
 refine⟨(s.tables.drop (i+1)).map (·.head)++s.indexes.map (·.root),?_⟩;unfold cG.pages cG.pg
 conv=>lhs;rw[<-take_append_drop i s.tables,gu h]
 simp only[map_append,map_cons,map_nil,take_zero,append_nil,append_assoc,cons_append]
theorem api {s:cG}{j:Nat}(h:j<s.indexes.length):∃r,s.pages=s.pg s.tables.length j++(s.indexes[j].root::r):=by
 refine⟨(s.indexes.drop (j+1)).map (·.root),?_⟩;unfold cG.pages cG.pg
 conv=>lhs;rw[<-take_append_drop j s.indexes,gu h]
 simp only[map_append,map_cons,append_assoc,take_length]
theorem ae2 (s:cG) (hs:s.gA) (Fo:Fr) (K:Hp) (n:Nat) (f2:Fo.get 2=some (.ptr 1 0)) (f3:Fo.get 3=some (.ptr 3 0)) (S:S85 s Fo [] K n):
  ao pG 160 [.iZ 5,.ptr 4 0] K n (λ _ K' n'=>(vh s.pages/\S85 s Fo s.pages K' n')∨(¬vh s.pages/\X85 Fo K')):=by
 have ht:=hs.t;have hi:=hs.i;unfold aU at ht hi;refine ao.of c160 (by simp[A160]) λ F hF=>?_;have k4:=S.k4;rw[fe]at k4;simp[A160,hF,k4,bf.aT];refine aF.of (λ t F K n ms=>∃i,t=s.tables.length - i/\i<=s.tables.length/\F.get 0=some (.iZ 5)/\F.get 1=some (.ptr 4 0)/\F.get 8=some (aM.ds s.tables)/\F.get 9=some (zI (s.tables.length:Int))/\F.get 10=some (zI (i:Int))/\S85 s Fo (s.pg i 0) K n/\vh (s.pg i 0)/\ms=[]) s.tables.length ⟨0,ai,ai,by simp[hF],by simp[hF],ai,ai,ai,by rw[apk];exact S,by simp[apk,vh],rfl⟩ ?_;clear S k4 hF F K n;rintro t F K n ms ⟨i,rfl,hil,f0,f1,f8,f9,f10,S,hP,rfl⟩
 by_cases hlt:i<s.tables.length
 ·have hx:=aM.ix (ik:=.i64) hlt;have hld:=λ H=>aM.pT s.tables[i] (aM.l (s.tables.drop (i+1))) H;have S1:=S.alloc (.cells 4 [] [.int .u32 0,.str [],.aV (.slice none 0 0),.int .u32 0] .nil) (.cells 4 [] (aM.cells s.tables[i]) .nil);obtain⟨rr,hrr⟩:=apg hlt;simp[Oz,f8,f9,f10,hlt,hx,hld,bf.av];generalize hK1:Tr.put (Tr.put K n _) n _=K1 at S1 ⊢;have kn:K1.get n=aN 4 (aM.cells s.tables[i]):=by rw[<-hK1];simp
  rw[fc]at kn;clear hK1;simp[ac8,f0,kn];refine He s Fo (s.pg i 0) s.tables[i].head f2 f3 S1 (λ h0 hx K' n' S'=>?_) (λ hb K' n' X=>?_)
  ·simp[ac7,f0,f1,f8,f9,f10,aE i ah];refine⟨_,ah,i+1,rfl,hlt,rfl,?_,?_⟩
   ·rw[aph hlt];exact S'
   rw[aph hlt];exact hP.add h0 hx
  simp;exact .inr ⟨by rw[hrr];exact vh.bad hb,X⟩
 obtain rfl:i=s.tables.length:=ah;have k4:=S.k4;rw[fe]at k4;simp[Oz,f9,f10,ac6,f1,k4,bf.aT];refine aF.of (λ t F K n ms=>∃i,t=s.indexes.length - i/\i<=s.indexes.length/\F.get 0=some (.iZ 5)/\F.get 1=some (.ptr 4 0)/\F.get 21=some (bw.ds s.indexes)/\F.get 22=some (zI (s.indexes.length:Int))/\F.get 23=some (zI (i:Int))/\S85 s Fo (s.pg s.tables.length i) K n/\vh (s.pg s.tables.length i)/\ms=[]) s.indexes.length ⟨0,ai,ai,by simp[f0],by simp[f1],ai,ai,ai,S,hP,rfl⟩ ?_;clear S hP hil k4 f0 f1 f8 f9 f10 F K n;rintro t F K n ms ⟨i,rfl,hil,f0,f1,f8,f9,f10,S,hP,rfl⟩
 by_cases hlt:i<s.indexes.length
 ·have hx:=bw.ix (ik:=.i64) hlt;have hld:=λ H=>bw.pT s.indexes[i] (bw.l (s.indexes.drop (i+1))) H;have S1:=S.alloc (.cells 6 [] [.int .u32 0,.int .u32 0,.str [],.aV (.slice none 0 0),.bool false,.int .u32 0] .nil) (.cells 6 [] (bw.cells s.indexes[i]) .nil);obtain⟨rr,hrr⟩:=api hlt;simp[Oy,f8,f9,f10,hlt,hx,hld,bf.av];generalize hK1:Tr.put (Tr.put K n _) n _=K1 at S1 ⊢;have kn:K1.get n=aN 6 (bw.cells s.indexes[i]):=by rw[<-hK1];simp
  rw[iQ]at kn;clear hK1;simp[ac5,f0,kn];refine He s Fo (s.pg s.tables.length i) s.indexes[i].root f2 f3 S1 (λ h0 hx K' n' S'=>?_) (λ hb K' n' X=>?_)
  ·simp[ac4,f0,f1,f8,f9,f10,aE i ah];refine⟨_,ah,i+1,rfl,hlt,rfl,?_,?_⟩
   ·rw[apj hlt];exact S'
   rw[apj hlt];exact hP.add h0 hx
  simp;exact .inr ⟨by rw[hrr];exact vh.bad hb,X⟩
 obtain rfl:i=s.indexes.length:=ah;rw[akd]at S hP;simp[Oy,f9,f10];exact .inl ⟨hP,S⟩
theorem ae3 (s:cG)(H:Hp)(n:Nat):ao pG 80 [lj.av s] H n (λ v K k=>v=.fn (.func 160) [] [.ptr n 0]/\K=H.put n (aN 2 (lj.cells s))/\k=n+1):=by
 refine ao.of c80 (by simp[A80]) λ F hF=>?_;simp[A80,hF,bf.av]
structure Lm (s:cG)(K:Hp)(n:Nat):Prop where
 k0:K.get 0=aN 2 (lj.cells s)
 k1:K.get 1=aN 1 [.bool false]
 k6:K.get 6=some .jN
 n7:7<=n
 top:dm K n
theorem Lm.alloc {s:cG}{K:Hp}{n:Nat}(S:Lm s K n)(y z:bJ):Lm s ((K.put n (some y)).put n (some z)) (n+1):=by
 obtain⟨k0,k1,k6,n7,top⟩:=S;refine⟨?_,?_,?_,ah,?_⟩
 ·simp[show ¬ 0=n by omega,k0]
 ·simp[show ¬ 1=n by omega,k1]
 ·simp[show ¬ 6=n by omega,k6]
 intro b hb;simp[show ¬b=n by omega,top b ah]
theorem Lm.re {s:cG}{K:Hp}{n:Nat}(S:Lm s K n):Lm s (K.put 1 (aN 1 [.bool false])) n:=by
 obtain⟨k0,k1,k6,n7,top⟩:=S;refine⟨by simp[k0],ai,by simp[k6],n7,λ b hb=>?_⟩;simp[show ¬b=1 by omega,top b hb]
def yD (l:List bR)(i:Nat):Int:=match (l.take i).getLast? with
 |some t=>t.id
 |none=>0
theorem DJ (l:List bR):yD l 0=0:=by simp[yD]
theorem DI {l:List bR}{i:Nat}(h:i<l.length):yD l (i+1)=l[i].id:=by
 unfold yD;rw[take_add_one,cY h];simp only[Option.toList,getLast?_concat]
structure ZM (l:List bR)(i:Nat)(h:i<l.length):Prop where
 id:yD l i<l[i].id
 name:fH l[i].name
 cols:jX l[i].cols
 new:∀t∈l.take i,t.name≠l[i].name
def zD (l:List bR):Prop:=∀i h,ZM l i h
theorem akN (s:cG)(hs:s.gA)(F:Fr)(K:Hp)(n:Nat)(Q:QA)(S:Lm s K n)(f1:F.get 1=some (.ptr 0 0))(f2:F.get 2=some (.ptr 1 0))(f5:F.get 5=some (.int .u32 0))(f39:F.get 39=some (aM.ds s.tables))(f40:F.get 40=some (zI (s.tables.length:Int)))(f41:F.get 41=some (zI 0))
  (hok:zD s.tables->∀F' K' n',Lm s K' n'->F'.get 1=some (.ptr 0 0)->F'.get 2=some (.ptr 1 0)->Q .normal F' K' n' [.cD 6])
  (hbad:¬zD s.tables->∀F' K' n',Lm s K' n'->F'.get 2=some (.ptr 1 0)->Q .ret F' K' n' [.cD 6]):aF TB pG F K n [.cD 6] (ig 2 Q):=by
 have ht:=hs.t;unfold aU at ht;refine aF.of (λ t F K n ms=>∃i,t=s.tables.length - i/\i<=s.tables.length/\F.get 1=some (.ptr 0 0)/\F.get 2=some (.ptr 1 0)/\F.get 5=some (.int .u32 (yD s.tables i))/\F.get 39=some (aM.ds s.tables)/\F.get 40=some (zI (s.tables.length:Int))/\F.get 41=some (zI (i:Int))/\Lm s K n/\(∀k,(h:k<s.tables.length)->k<i->ZM s.tables k h)/\ms=[.cD 6]) s.tables.length ⟨0,ai,ai,f1,f2,by simp[DJ,f5],f39,f40,by simp[f41],S,λ k _ h=>ah,rfl⟩ ?_;clear S f1 f2 f5 f39 f40 f41 F K n;rintro t F K n ms ⟨i,rfl,hil,f1,f2,f5,f39,f40,f41,S,hP,rfl⟩
 by_cases hlt:i<s.tables.length
 ·have hx := aM.ix (ik:=.i64) hlt;have hld:=λ H=>aM.pT s.tables[i] (aM.l (s.tables.drop (i+1))) H;have S1:=S.alloc (.cells 4 [] [.int .u32 0,.str [],.aV (.slice none 0 0),.int .u32 0] .nil) (.cells 4 [] (aM.cells s.tables[i]) .nil);have hsl:=aM.TV (l:=s.tables) (i:=i) hil;simp[TB,f39,f40,f41,hlt,hx,hld,bf.av];generalize hK1:Tr.put (Tr.put K n _) n _=K1 at S1 ⊢;have kn:K1.get n=aN 4 (aM.cells s.tables[i]):=by rw[<-hK1];simp
  clear hK1;have BB:=kn;rw[fc]at BB;have k0:=S1.k0;rw[fe]at k0;have no:¬ZM s.tables i hlt->¬zD s.tables:=λ h h2=>h (h2 i hlt);have k1:=S1.k1;have hne:∀b,b<n->¬b=n:=λ b h=>ah
  by_cases h1:s.tables[i].id<=yD s.tables i
  ·simp[LW,BB,f5,h1,zH,f2,k1];refine hbad (no λ h=>aw h.id ah) _ _ _ S1.re ?_;simp[f2]
  simp[LW,BB,f5,h1];refine aB.pure (name44 s.tables[i].name) ?_
  by_cases h2:fH s.tables[i].name
  ·simp[h2,BB];refine aB.pure (ag6 s.tables[i].cols) ?_
   by_cases h3:jX s.tables[i].cols
   ·simp[h3,f1,k0,wq,vB,hsl];refine aB.same (al2 (p:=λ d=>decide (d.name=s.tables[i].name)) (first:=[]) (cap:=[.ptr n 0]) (s.tables.take i) (by simp;unfold aU;omega) λ d _=>aoM d s.tables[i] n K1 (n+1) kn S1.top) ?_
    by_cases h4:∃t∈s.tables.take i,t.name=s.tables[i].name
    ·have h4':((s.tables.take i).any λ d=>decide (d.name=s.tables[i].name))=true:=by simpa using h4
     simp[h4',zH,f2,k1];refine hbad (no λ h=>?_) _ _ _ S1.re ?_
     ·obtain⟨t,ht1,ht2⟩:=h4;exact h.new t ht1 ht2
     simp[f2]
    have h4':((s.tables.take i).any λ d=>decide (d.name=s.tables[i].name))=false:=by
     rw[Bool.eq_false_iff];intro h;exact h4 (by simpa using h)
    simp[h4',abh,abg,BB,f1,f2,f39,f40,f41,aE i ah];refine⟨_,ah,i+1,rfl,hlt,by simp[DI hlt],rfl,S1,λ k h hk=>?_⟩
    by_cases e:k=i
    ·subst e;exact⟨ah,h2,h3,λ t ht1 ht2=>h4 ⟨t,ht1,ht2⟩⟩
    exact hP k h ah
   simp[h3,zH,f2,k1];refine hbad (no λ h=>h3 h.cols) _ _ _ S1.re ?_;simp[f2]
  simp[h2,zH,f2,k1];refine hbad (no λ h=>h2 h.name) _ _ _ S1.re ?_;simp[f2]
 obtain rfl:i=s.tables.length:=ah;simp[TB,f40,f41];refine hok (λ k h=>hP k h h) _ _ _ S ?_ ?_
 ·simp[f1]
 simp[f2]
end Go.Abs
