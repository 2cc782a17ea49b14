/- A part. -/
import Derived.Test.YtlhafglnokpioaaGreatBt10
noncomputable section
namespace Go.Abs
open List
open Go.Proofs
open Classical
set_option maxRecDepth 100000
theorem GX {S:Type}{C C':Cons S}(h1:C.E=C'.E)(h2:C.Y=C'.Y)(h3:C.go=C'.go)(on:List Ex)(row:List Val):∀(L:List (List Val))(s:S),cQ C on row L s=cQ C' on row L s
 |[],s=>rfl
 |r::rs,s=>by
  unfold cQ;rw[h1,h2,h3];simp only[GX h1 h2 h3 on row rs]
theorem Df {S:Type}(on:List (List Ex))(tabs:List (List (List Val))):∀(j:Nat){C C':Cons S},C.E=C'.E->C.Y=C'.Y->C.go=C'.go->∀s:S,oW on tabs j C s=oW on tabs j C' s
 |0,C,C',_,h2,_,s=>by unfold oW;rw[h2]
 |j+1,C,C',h1,h2,h3,s=>by
  unfold oW;exact Df (C:={C with Y:=λ s row=>cQ C (on.getD j []) row (tabs.getD j []) s}) (C':={C' with Y:=λ s row=>cQ C' (on.getD j []) row (tabs.getD j []) s}) on tabs j h1 (by funext s row;exact GX h1 h2 h3 _ _ _ _) h3 s
theorem Clo.next {X:oJ}{own own':Nat->Prop}{K K3:Hp}{m m3:Nat}:∀ {j:Nat}{g:FuncId}{caps:List AV},Clo X own K m j g caps->(∀x,x<m->K3.get x=K.get x)->(∀x,x<m->own' x->own x)->m<=m3->Clo X own' K3 m3 j g caps
 |0,_,_,h,_,_,_=>h
 |j+1,g,caps,⟨a,b,c,d,h1,h2,ka,kb,kc,kd,hlt,na,nb,nc,nd⟩,hk,ho,hm=>by
  obtain⟨la,lb,lc,ld⟩:=hlt;exact⟨a,b,c,d,h1,h2,(hk a la).trans ka,(hk b lb).trans kb,(hk c lc).trans kc,λ t ht=>(hk d ld).trans (kd t ht),ah,λ h=>na (ho a la h),λ h=>nb (ho b lb h),λ h=>nc (ho c lc h),λ h=>nd (ho d ld h)⟩
def agE (X:oJ)(j:Nat):Prop:=∀(S:Type)(C:Cons S)(y bd:Nat),qj X C y (bd+1000*j)->bd+1000*j<=100000->∀(s:S)(own:Nat->Prop)(H:Hp)(n:Nat),C.J s own H n->C.go s=true->dm H n->H.get X.p=aN 32 X.D->∀(g:FuncId)(caps:List AV),Clo X own H n j g caps ->
 ao pG g (.iZ y::caps) H n (λ _ K m=>Post C (oW X.on X.tabs j C s) own H n K m)
theorem ap4 (X:oJ):agE X 0:=by
 intro S C y bd qC hbd s own H n hJ hg ht hp g caps hc;obtain⟨rfl,rfl⟩:=hc;exact ap9 qC hJ hg ht
theorem ap7 {X:oJ}(ok:X.ok){j:Nat}(hj:j<X.iM.length) (ih:agE X j):agE X (j+1):=by
 intro S C y bd qC hbd s own H n hJ hg ht hp g caps hc;obtain⟨a,b,c,d,rfl,rfl,ka,kb,kc,kd,⟨la,lb,lc,ld⟩,na,nb,nc,nd⟩:=hc;have hfl:=ok.fl;obtain⟨k,hkl,hka,hkR⟩:=ok.ix j hj;have kd:=kd _ (cY hj);rw[hka]at kd;have pn:=ht.lt hp;refine ao.of c215 (by simp[A215]) λ F hF=>?_;have f1:F.get 1=some (.ptr a 0):=by simp[hF]
 have f2:F.get 2=some (.ptr b 0):=by simp[hF]
 have f3:F.get 3=some (.ptr c 0):=by simp[hF]
 have f4:F.get 4=some (.ptr d 0):=by simp[hF]
 simp[A215,hF];generalize hK:Tr.put H n _=K;have kf:∀e,e<n->K.get e=H.get e:=λ e he=>by rw[<-hK];simp[show ¬e=n by omega]
 have kn:K.get n=aN 1 [.iZ y]:=by rw[<-hK];simp[AV.len,AV.cells]
 have kt:dm K (n+1):=λ e he=>by rw[<-hK];simp[show ¬e=n by omega,ht e ah]
 clear hK;have w1:IntKind.i64.wrap (j:Int)=(j:Int):=by simp[IntKind.wrap,IntKind.signed,IntKind.bits];omega
 simp[acB,hF,(kf a la).trans ka,(kf b lb).trans kb,(kf c lc).trans kc,w1];have hown:∀x,own x->x<n:=λ x hx=>qC.lt hJ x hx;refine aB.of (agc ok j ah (λ x=>own x∨x=n∨x=a∨x=b∨x=c∨x=d) K (n+1) (λ x hx=>by rcases hx with h|h;have:=hown x h;omega;omega) ((kf X.p pn).trans hp) kt) λ u K2 m ⟨g,caps,hu,hcl,k2,hm,t2⟩=>?_;subst hu;simp;refine Lo.of ?_;generalize hF1:(Fp 16 _ _:Fr)=F1;have B:InB X y j m n a b c d (k:Int) F1:=⟨ah,by rw[<-hF1];simp[f1],by rw[<-hF1];simp[f2],by rw[<-hF1];simp[f3],by rw[<-hF1];simp[f4],by rw[<-hF1];simp⟩;clear hF1 hF F f1 f2 f3 f4;generalize hK3:Tr.put (Tr.put K2 _ _) _ _=K3;have k3:∀e,e<m->K3.get e=K2.get e:=λ e he=>by rw[<-hK3];simp[show ¬e=m by omega,show ¬e=m+1 by omega]
 have z3:K3.get m=some (.loop .ready .normal 60 F1 [17] ep.1 ep.2):=by rw[<-hK3];simp
 have w3:K3.get (m+1)=some .jN:=by rw[<-hK3];simp
 have t3:dm K3 (m+2):=λ e he=>by rw[<-hK3];simp[show ¬e=m by omega,show ¬e=m+1 by omega,t2 e ah]
 clear hK3;have kk:∀e,e<n->K3.get e=H.get e:=λ e he=>(k3 e ah).trans ((k2 e ah).trans (kf e he))
 have six:∀x,qh m n a b c d x->¬own x:=λ x hx h=>by
  have:=hown x h;simp only[qh]at hx
  rcases hx with e|e|e|rfl|rfl|rfl|rfl
  ·omega
  ·omega
  ·omega
  ·exact na h
  ·exact nb h
  ·exact nc h
  exact nd h
 have hRk:X.RC[k]=dR (X.tabs.getD j []):=by
  have hjt:j<X.tabs.length:=by have:=ok.tl;omega
  rw[hkR];simp[getD,hjt]
 have okI:=aqd ok (bd:=bd+1000*j) (by rw[show bd+1000*j+1000=bd+1000*(j+1) by omega];exact qC) ah hj B hkl hRk
 have J3:CmJ X C y j m n a b c d (k:Int) F1 s (λ x=>own x∨qh m n a b c d x) K3 (m+2):=
  ⟨own,qC.fr hJ (λ x hx=>kk x (hown x hx)) ah,λ x=>Iff.rfl,six,ah,⟨(kk a la).trans ka,(kk b lb).trans kb,(kk c lc).trans kc,(kk d ld).trans kd,(k3 n ah).trans ((k2 n ah).trans kn),w3⟩,by rw[z3,ay hg,ay hg]⟩
 refine ao.mono (ih S (inC X C y j m n a b c d (k:Int) F1) m bd okI ah s (λ x=>own x∨qh m n a b c d x) K3 (m+2) J3 hg t3 ((kk X.p pn).trans hp) g caps (hcl.next k3 (λ x hx ho=>?_) ah)) λ u K' m' ⟨own',⟨apo,J',hown',YB,hM',hK',hl'⟩,t',hm',hf',ho'⟩=>?_
 ·rcases ho with h|h
  ·exact .inl h
  simp only[qh]at h
  rcases h with h|h|h|h
  ·omega
  ·omega
  ·exact .inr (.inl h)
  exact .inr (.inr h)
 have hrun:oW X.on X.tabs j (inC X C y j m n a b c d (k:Int) F1) s=oW X.on X.tabs (j+1) C s:=by
  rw[oW];exact Df (C:=inC X C y j m n a b c d (k:Int) F1) (C':={C with Y:=λ s row=>cQ C (X.on.getD j []) row (X.tabs.getD j []) s}) X.on X.tabs j rfl rfl rfl s
 rw[hrun]at J' hl';generalize oW X.on X.tabs (j+1) C s=sF at J' hl' ⊢
 have fin:Post C sF own H n ((K'.put m none).put (m+1) none) m':=by
  have g:∀x,x≠m->x≠m+1->((K'.put m none).put (m+1) none).get x=K'.get x:=λ x h1 h2=>by rw[Tr.get_put,ak h2,Tr.get_put,ak h1]
  refine⟨apo,qC.fr J' (λ x hx=>g x (λ e=>YB m (by simp[qh]) (e▸hx)) (λ e=>YB (m+1) (by simp[qh]) (e▸hx))) (aL _),λ x hx=>?_,ah,λ x hx hnx=>?_,λ x hx=>?_⟩
  ·by_cases e1:x=m
   ·omega
   by_cases e2:x=m+1
   ·omega
   rw[g x e1 e2];exact t' x hx
  ·rw[g x ah ah]
   by_cases e1:x=a
   ·subst e1;exact hK'.ka.trans ka.symm
   by_cases e2:x=b
   ·subst e2;exact hK'.kb.trans kb.symm
   by_cases e3:x=c
   ·subst e3;exact hK'.kc.trans kc.symm
   by_cases e4:x=d
   ·subst e4;exact hK'.kd.trans kd.symm
   refine(hf' x ah λ h=>?_).trans (kk x hx)
   rcases h with h|h
   ·exact hnx h
   simp only[qh]at h;omega
  rcases ho' x ((hown' x).2 (.inl hx))with h|h
  ·rcases h with h|h
   ·exact .inl h
   exact aw hx (YB x h)
  exact .inr ⟨ah,h.2⟩
 have hkm:(K'.put m none).get (m+1)=some .jN:=by rw[Tr.get_put,ak ah];exact hK'.km
 have afR:dK [.cD (m+1)] (K'.put m none)=some ((K'.put m none).put (m+1) none):=by rw[kP hkm];simp[dK]
 unfold Vk
 cases hgo:C.go sF with
 |true =>
  have hgo':(inC X C y j m n a b c d (k:Int) F1).go sF=true:=hgo;rw[ay hgo,ay hgo]at hl';refine⟨_,_,_,_,_,_,_,hl',ai,ai,?_⟩;simp[afR];exact fin
 |false =>
  rw[ak (by simp[hgo]),ak (by simp[hgo])]at hl';refine⟨_,_,_,_,_,_,_,hl',ai,ai,?_⟩;simp[afR];exact fin
theorem PO {X:oJ}(ok:X.ok):∀j,j<=X.iM.length->agE X j
 |0,_=>ap4 X
 |j+1,h=>ap7 ok ah (PO ok j ah)
def VH (row:List Val)(l:List Ex)(q:Nat)(a:Int):Hp->Nat->hU:=λ H n=>if H.get q=aN 1 [zI a]/\q<n then .mk (aC (fo row l)) (H.put q (aN 1 [zI (oo row l a)])) n else .fail
theorem Jm {rv:AV}{row:List Val}(hr:jy rv row)(l:List Ex)(hl:l.length<=aU)(hs:∀e∈l,e.sz<=aU)(q:Nat)(a:Int):∀H n v H' n',VH row l q a H n=.mk v H' n'->bC pG 144 [jc.ds l,rv,.fn (.func 165) [] [.ptr q 0]] H n v H' n':=by
 intro H n v H' n' h;unfold VH at h
 by_cases hc:H.get q=aN 1 [zI a]/\q<n
 ·rw[ay hc]at h;injection h with e1 e2 e3;subst e1 e2 e3;obtain⟨hq,qn⟩:=hc;refine ao.okB [q] ai (by simp[iF,qn];exact⟨(show Pure (jc.ds l) by simp).jQ,hr.pure.jQ⟩) (by simpa using qn) (λ b hb k hk=>?_) (bV ai) λ H0 ht hL=>?_
  ·have:b=q:=by simpa using hb
   subst this;rw[hq]at hk;injection hk with hk;subst hk;exact bV ai
  refine(TK hr l hl hs H0 n q a ((hL q ai).trans hq) qn ht).mono λ u K k ⟨q1,q2,q3,_⟩=>?_;subst q1;exact⟨.pure _ ai,q3,_,q2,.inl rfl⟩
 rw[ak hc]at h;cases h
structure sW where
 rows:List (List Val)
 acc:Int
 go:Bool
def tz (w:List Ex)(it:List Ex)(s:sW)(row:List Val):sW:=
 if (bL row w).1=true then (if s.rows.length=4096 then {s with acc:=je s.acc (bL row w).2,go:=false} else {s with rows:=s.rows++[fo row it],acc:=oo row it (je s.acc (bL row w).2)})else {s with acc:=je s.acc (bL row w).2}
structure QPl (X:oJ)(n f M:Nat):Prop where
 o:X.p<n/\X.r<n/\X.q=n+2/\n+2<f/\f<M
 pr:X.p≠X.r
def ao' (X:oJ) (n f M:Nat) (F1:Fr):sW->(Nat->Prop)->Hp->Nat->Prop:=λ s own K m =>
 ∃v k,(∀x,own x↔x=X.p∨x=X.r∨x=n∨x=n+1∨x=n+2∨x=f∨x=M∨x=M+1∨blk v=some x)/\(∀x,blk v=some x->M+1<x/\x<m)/\M+1<m /\
  K.get X.p=some k/\OwnB k (X.D.set 30 v)/\aD K m v (aQ s.rows) s.rows.length 1/\K.get X.r=some (.cells X.RC.length [] X.RC .nil) /\
  K.get n=aN 1 [.ptr X.p 0]/\K.get (n+1)=aN 1 [zI (if s.go=true then 0 else 4)]/\K.get (n+2)=aN 1 [zI s.acc]/\K.get f=aN 1 [.fn (.func 165) [] [.ptr X.q 0]] /\
  K.get M=some (.loop (if s.go=true then .ready else .done) (if s.go=true then .normal else .ret) 148 F1 [38] kg.1 kg.2)/\K.get (M+1)=some .jN/\s.rows.length<=4096
def xY (X:oJ)(n f M:Nat)(F1:Fr)(w it:List Ex):Cons sW:=⟨ao' X n f M F1,sW.acc,λ s e=>{s with acc:=je s.acc e},tz w it,sW.go⟩
structure QD (X:oJ)(w it:List Ex):Prop where
 dl:X.D.length=32
 d2:0<X.iM.length->X.D[2]?=some (.sl X.r 0 X.RC.length 1)
 d19:X.D[19]?=some (pe.ds X.on)
 d20:X.D[20]?=some (jc.ds w)
 d21:X.D[21]?=some (jc.ds it)
 wl:w.length<=aU
 ws:∀e∈w,e.sz<=aU
 il:it.length<=aU
 is:∀e∈it,e.sz<=aU
theorem AU {X:oJ}(v:AV){i:Nat}(hi:i≠30):(X.D.set 30 v)[i]?=X.D[i]?:=getElem?_set_ne ah
set_option maxHeartbeats 1000000 in
theorem aj2 {X:oJ}{w it:List Ex}(d:QD X w it){n f M:Nat}(P:QPl X n f M){F1:Fr}(f1:F1.get 1=some (.ptr n 0)) (f2:F1.get 2=some (.ptr (n+1) 0)) (f3:F1.get 3=some (.ptr f 0)){s:sW}{own:Nat->Prop}{K:Hp}{m:Nat}{rv:AV}{row:List Val}(hJ:ao' X n f M F1 s own K m) (hg:s.go=true) (ht:dm K m) (PT:jy rv row):
  Yields M rv K m (λ b0 K' m'=>b0=(tz w it s row).go/\Post (xY X n f M F1 w it) (tz w it s row) own K m K' m'):=by
 obtain⟨v,k,hown,hv,hM,kp,ho,hos,kr,kn,wN,kq,kf,kM,kM1,ahk⟩:=hJ;obtain⟨pn,rn,hq,hf,hfM⟩:=P.o;have hpr:=P.pr;rw[ay hg,ay hg]at kM;rw[ay hg]at wN;refine Yields.of kM (by simp[mS];rfl) ?_
 have fin:∀(K':Hp) (m':Nat) (s':sW) (v':AV) (k':bJ) (o:lG),((s'.go=true/\o=.normal)∨(s'.go=false/\o=.ret))->m<=m'->dm K' m'->(∀x,x<m->¬own x->K'.get x=K.get x)->(∀x,blk v'=some x->blk v=some x∨(m<=x/\x<m'))->K'.get X.p=some k'->OwnB k' (X.D.set 30 v')->aD K' m' v' (aQ s'.rows) s'.rows.length 1->K'.get X.r=K.get X.r->K'.get n=K.get n->K'.get (n+1)=aN 1 [zI (if s'.go=true then 0 else 4)]->K'.get (n+2)=aN 1 [zI s'.acc]->K'.get f=K.get f ->
   K'.get M=some (.loop .busy .normal 148 F1 [38] kg.1 kg.2)->K'.get (M+1)=some .jN->s'.rows.length<=4096 ->
   u4 M (λ u H' n'=>∃b0,u=.bool b0/\(b0=s'.go/\Post (xY X n f M F1 w it) s' own K m H' n')) o K' m':=by
  intro K' m' s' v' k' o hgo hm ht' hfr hv' kp' ho' awG kr' BB awj kq' kf' kM' awm hl'
  have key:∀st jj,(st=if s'.go=true then LoopState.ready else .done)->(jj=if s'.go=true then lG.normal else .ret)->Post (xY X n f M F1 w it) s' own K m (K'.put M (some (.loop st jj 148 F1 [38] kg.1 kg.2))) m':=by
   intro st jj e1 e2;have g:∀x,x≠M->(K'.put M (some (.loop st jj 148 F1 [38] kg.1 kg.2))).get x=K'.get x:=λ x hx=>by rw[Tr.get_put,ak hx]
   refine⟨λ x=>x=X.p∨x=X.r∨x=n∨x=n+1∨x=n+2∨x=f∨x=M∨x=M+1∨blk v'=some x,⟨v',k',λ x=>Iff.rfl,λ x hx=>?_,ah,(g _ ah).trans kp',ho',awG.frame (aL _) λ x hx=>g x ?_,(g _ ah).trans (kr'.trans kr),(g _ ah).trans (BB.trans kn),(g _ ah).trans awj,(g _ ah).trans kq',(g _ ah).trans (kf'.trans kf),by rw[Tr.get_put,ay rfl,e1,e2],(g _ ah).trans awm,hl'⟩,λ x hx=>?_,hm,λ x hx hnx=>?_,λ x hx=>?_⟩
   ·rcases hv' x hx with h|h
    ·have:=hv x h;omega
    omega
   ·rcases hv' x hx with h|h
    ·have:=hv x h;omega
    omega
   ·rw[g x ah];exact ht' x hx
   ·have hxM:x≠M:=λ e=>hnx ((hown x).2 (by simp[e]));exact(g x hxM).trans (hfr x hx hnx)
   rcases hx with h|h|h|h|h|h|h|h|h
   ·exact .inl ((hown x).2 (.inl h))
   ·exact .inl ((hown x).2 (.inr (.inl h)))
   ·exact .inl ((hown x).2 (.inr (.inr (.inl h))))
   ·exact .inl ((hown x).2 (.inr (.inr (.inr (.inl h)))))
   ·exact .inl ((hown x).2 (.inr (.inr (.inr (.inr (.inl h))))))
   ·exact .inl ((hown x).2 (.inr (.inr (.inr (.inr (.inr (.inl h)))))))
   ·exact .inl ((hown x).2 (.inr (.inr (.inr (.inr (.inr (.inr (.inl h))))))))
   ·exact .inl ((hown x).2 (.inr (.inr (.inr (.inr (.inr (.inr (.inr (.inl h)))))))))
   rcases hv' x h with h|h
   ·exact .inl ((hown x).2 (.inr (.inr (.inr (.inr (.inr (.inr (.inr (.inr h)))))))))
   exact .inr h
  unfold u4;refine⟨_,_,_,_,_,_,_,kM',?_⟩
  rcases hgo with⟨h1,rfl⟩|⟨h1,rfl⟩
  ·exact⟨true,rfl,h1.symm,key _ _ (by simp[h1]) (by simp[h1])⟩
  exact⟨false,rfl,h1.symm,key _ _ (by simp[h1]) (by simp[h1])⟩
 generalize hRU:(λ(u:AV) (H':Hp) (n':Nat)=>∃b0,u=.bool b0/\(b0=(tz w it s row).go/\Post (xY X n f M F1 w it) (tz w it s row) own K m H' n'))=RU;rw[ajv];simp[aif,kM];refine⟨_,_,_,_,_,_,⟨rfl,rfl,rfl,rfl,rfl,rfl⟩,?_⟩;rw[aju];generalize hF2:(Fp 4 _ _:Fr)=F2;have g1:F2.get 1=some (.ptr n 0):=by rw[<-hF2];simp[f1]
 have g2:F2.get 2=some (.ptr (n+1) 0):=by rw[<-hF2];simp[f2]
 have g3:F2.get 3=some (.ptr f 0):=by rw[<-hF2];simp[f3]
 have g4:F2.get 4=some rv:=by rw[<-hF2];simp
 clear hF2;generalize hK4:Tr.put K M _=K4;have h4:∀x,x≠M->K4.get x=K.get x:=λ x hx=>by rw[<-hK4,Tr.get_put,ak hx]
 have hb4:K4.get M=some (.loop .busy .normal 148 F1 [38] kg.1 kg.2):=by rw[<-hK4];simp
 clear hK4;have t4:dm K4 m:=λ x hx=>by rw[h4 x ah];exact ht x hx
 have an:=(h4 n ah).trans kn;have an1:=(h4 (n+1) ah).trans wN;have aq:=(h4 (n+2) ah).trans kq;have af:=(h4 f ah).trans kf;have ap:=(h4 X.p ah).trans kp
 have ld:∀(i:Nat) (u:AV),i≠30->X.D[i]?=some u->∀H:Hp,H.get X.p=some k->cN (.ptr X.p i) H=.val u:=λ i u hi hu H hH=>by
  rw[<-AU v hi]at hu;obtain⟨hl,he⟩:=nL.1 hu;rw[nP hH ho hl,he]
 have Kp:=Ja PT w d.wl d.ws;generalize hre:bL row w=re at Kp;have hYe:tz w it s row=if re.1=true then (if s.rows.length=4096 then {s with acc:=je s.acc re.2,go:=false} else {s with rows:=s.rows++[fo row it],acc:=oo row it (je s.acc re.2)})else {s with acc:=je s.acc re.2}:=by unfold tz;rw[hre]
 rw[hYe]at hRU;unfold afS at Kp;simp[aie,g1,an,ld 20 _ ah d.d20 K4 ap,g4];refine aB.pure Kp ?_;simp[aid,g3,af,hq];refine aB.of (lh s.acc re.2 aq) λ u K5 m5 ⟨hu,a5,hm5,f5⟩=>?_;subst hu;have e5:=hm5.symm;subst e5;have k5:∀x,x≠n+2->x≠M->K5.get x=K.get x:=λ x h1 h2=>(f5 x h1).trans (h4 x h2);have vb:∀x,blk v=some x->x≠n+2/\x≠M:=λ x hx=>by have:=hv x hx;omega
 have ap5:=(f5 X.p ah).trans ap;have an5:=(f5 n ah).trans an;have amz:=(f5 (n+1) ah).trans an1;have af5:=(f5 f ah).trans af;have am5:=(f5 M ah).trans hb4;have amA:=(f5 (M+1) ah).trans ((h4 (M+1) ah).trans kM1);have t5:dm K5 m:=λ x hx=>by rw[f5 x ah];exact t4 x hx
 have os5:aD K5 m v (aQ s.rows) s.rows.length 1:=hos.frame (aL _) λ x hx=>k5 x (vb x hx).1 (vb x hx).2;have fr5:∀x,x<m->¬own x->K5.get x=K.get x:=λ x _ hnx=>k5 x (λ e=>hnx ((hown x).2 (by simp[e]))) (λ e=>hnx ((hown x).2 (by simp[e])))
 cases hb:re.1 with
 |false =>
  simp[aag];have:=fin K5 m {s with acc:=je s.acc re.2} v k .normal (.inl ⟨hg,rfl⟩) (aL _) t5 fr5 (λ x hx=>.inl hx) ap5 ho os5 (k5 X.r ah ah) (k5 n ah ah) (by simpa[hg]using amz) a5 (k5 f ah ah) am5 amA ahk;rw[<-hRU];simpa[hb]using this
 |true =>
  rw[ay hb]at hRU;simp[aag];have alp:30<(X.D.set 30 v).length:=by rw[length_set,d.dl];omega
  have afx:cN (.ptr X.p 30) K5=.val v:=by rw[nP ap5 ho alp,getElem_set_self]
  have hlen:=os5.awb;simp[aic,g1,an5,afx,hlen]
  by_cases h40:s.rows.length=4096
  ·have alu:((s.rows.length:Nat):Int)=4096:=ah;simp[alu,aib,g2,amz];rw[ay h40]at hRU;rw[<-hRU];refine fin (K5.put (n+1) _) m {s with acc:=je s.acc re.2,go:=false} v k .ret (.inr ⟨rfl,rfl⟩) (aL _) (λ x hx=>?_) (λ x hx hnx=>?_) (λ x hx=>.inl hx) ?_ ho (os5.frame (aL _) λ x hx=>?_) ?_ ?_ ?_ ?_ ?_ ?_ ?_ ahk
   ·rw[Tr.get_put,ak ah];exact t5 x hx
   ·rw[Tr.get_put,ak (λ e=>hnx ((hown x).2 (by simp[e])))];exact fr5 x hx hnx
   ·rw[Tr.get_put,ak ah];exact ap5
   ·rw[Tr.get_put,ak (by have:=hv x hx;omega)]
   ·rw[Tr.get_put,ak ah];exact k5 X.r ah ah
   ·rw[Tr.get_put,ak ah];exact k5 n ah ah
   ·rw[Tr.get_put,ay rfl];simp
   ·rw[Tr.get_put,ak ah];exact a5
   ·rw[Tr.get_put,ak ah];exact k5 f ah ah
   ·rw[Tr.get_put,ak ah];exact am5
   rw[Tr.get_put,ak ah];exact amA
  have alu:¬((s.rows.length:Nat):Int)=4096:=ah;rw[ak h40]at hRU;have hvF:=Jm PT it d.il d.is (n+2) (je s.acc re.2)
  have hvE:VH row it (n+2) (je s.acc re.2) K5 m=.mk (aC (fo row it)) (K5.put (n+2) (aN 1 [zI (oo row it (je s.acc re.2))])) m:=by
   unfold VH;rw[ay ⟨a5,ah⟩]
  generalize hr1:aC (fo row it)=r1 at hvE;have r1f:r1.len=1/\r1.cells=[r1]/\r1.one=true:=by rw[<-hr1];exact⟨rfl,rfl,rfl⟩
  generalize hK6:K5.put (n+2) _=K6 at hvE;have k6:∀x,x≠n+2->K6.get x=K5.get x:=λ x hx=>by rw[<-hK6,Tr.get_put,ak hx]
  have a6:K6.get (n+2)=aN 1 [zI (oo row it (je s.acc re.2))]:=by rw[<-hK6];simp
  clear hK6;have ap6:=(k6 X.p ah).trans ap5;have an6:=(k6 n ah).trans an5;have apR:cN (.ptr X.p 30) K6=.val v:=by rw[nP ap6 ho alp,getElem_set_self]
  have hnp:¬n=X.p:=ah;generalize hF3:(Fp 60 _ _:Fr)=F3;have i1:F3.get 1=some (.ptr n 0):=by rw[<-hF3];simp[g1]
  have i3:F3.get 3=some (.ptr f 0):=by rw[<-hF3];simp[g3]
  have i4:F3.get 4=some rv:=by rw[<-hF3];simp[g4]
  clear hF3;simp[alu,aal];refine bF.of (dX (l:=[(144,[jc.ds it,rv,.fn (.func 165) [] [.ptr (n+2) 0]],VH row it (n+2) (je s.acc re.2))]) ?_) ?_
  ·intro z hz;simp only[mc]at hz;subst hz;exact hvF
  simp[ae,i1,i3,i4,an5,an6,af5,hq,ld 21 _ ah d.d21 K5 ap5,afx,apR,bY,hvE,r1f];refine⟨by simp[bX,cS,t5 m (aL _),k6 m ah],?_⟩;generalize hK7:Tr.put K6 m _=K7;have k7:∀x,x≠m->K7.get x=K6.get x:=λ x hx=>by rw[<-hK7,Tr.get_put,ak hx]
  have x7:K7.get m=aN 1 [r1]:=by rw[<-hK7];simp
  clear hK7;have t7:dm K7 (m+1):=λ x hx=>by rw[k7 x ah,k6 x ah];exact t5 x ah
  have nb:∀x,x<=M+1->∀len sz,v≠.sl x 0 len sz:=λ x hx len sz e=>by
   have:=hv x (by rw[e];rfl);omega
  have os7:aD K7 (m+1) v (aQ s.rows) s.rows.length 1:=os5.frame ah λ x hx=>by
   have:=hv x hx;rw[k7 x ah,k6 x ah]
  refine aD.zx (k:=1) (new:=[r1]) os7 (bu x7) ai ai ah ah (by unfold big;omega) ah (by simp[r1f]) λ K8 o8 g8=>?_;have q8:∀x,x<=M+1->K8.get x=K6.get x:=λ x hx=>(g8 x ah (nb x hx _ _)).trans (k7 x ah)
  have t8:dm K8 (m+2):=λ x hx=>by
   rw[g8 x ah λ e=>by have:=hv x (by rw[e];rfl);omega];exact t7 x ah
  have ap8:=(q8 X.p ah).trans ap6;have an8:=(q8 n ah).trans an6;obtain⟨y,hst,hoy⟩:=tB ap8 ho alp (v:=.sl (m+1) 0 (s.rows.length+1) 1) ⟨rfl,rfl,rfl⟩;rw[set_set]at hoy;simp[ae,i1,an8,an6,an5,hst];generalize hK9:Tr.put K8 X.p _=K9;have k9:∀x,x≠X.p->K9.get x=K8.get x:=λ x hx=>by rw[<-hK9,Tr.get_put,ak hx]
  have p9:K9.get X.p=some y:=by rw[<-hK9];simp
  clear hK9;have q9:∀x,x<=M+1->x≠X.p->K9.get x=K6.get x:=λ x hx hxp=>(k9 x hxp).trans (q8 x hx)
  have o9:aD K9 (m+2) (.sl (m+1) 0 (s.rows.length+1) 1) (aQ (s.rows++[fo row it])) (s.rows++[fo row it]).length 1:=by
   have:aQ (s.rows++[fo row it])=aQ s.rows++[r1]:=by rw[<-hr1];simp[aQ]
   rw[this,length_append];exact o8.frame ah λ x hx=>k9 x (by simp at hx;omega)
  rw[<-hRU];have hvb:∀x,blk v=some x->x≠X.p:=λ x hx e=>by have:=hv x hx;omega
  refine fin K9 (m+2) {s with rows:=s.rows++[fo row it],acc:=oo row it (je s.acc re.2)} (.sl (m+1) 0 (s.rows.length+1) 1) y .normal (.inl ⟨hg,rfl⟩) ah (λ x hx=>by rw[k9 x ah];exact t8 x hx) (λ x hx hnx=>?_) (λ x hx=>.inr (by simp at hx;omega)) p9 hoy o9 ?_ ?_ ?_ ?_ ?_ ?_ ?_ ?_
  ·have hxp:x≠X.p:=λ e=>hnx ((hown x).2 (by simp[e]));have hxq:x≠n+2:=λ e=>hnx ((hown x).2 (by simp[e]));have hxv:∀len sz,v≠.sl x 0 len sz:=λ len sz e=>hnx ((hown x).2 (by simp[e]));rw[k9 x hxp,g8 x ah (hxv _ _),k7 x ah,k6 x hxq];exact fr5 x hx hnx
  ·rw[q9 X.r ah (Ne.symm hpr),k6 X.r ah];exact k5 X.r ah ah
  ·rw[q9 n ah ah,k6 n ah];exact k5 n ah ah
  ·rw[q9 (n+1) ah ah,k6 (n+1) ah,amz];simp[hg]
  ·rw[q9 (n+2) ah ah];exact a6
  ·rw[q9 f ah ah,k6 f ah];exact k5 f ah ah
  ·rw[q9 M ah ah,k6 M ah];exact am5
  ·rw[q9 (M+1) ah ah,k6 (M+1) ah];exact amA
  rw[length_append];simp;omega
theorem aj3 {X:oJ}{w it:List Ex}(d:QD X w it){n f M:Nat}(P:QPl X n f M){F1:Fr}(f1:F1.get 1=some (.ptr n 0))(f2:F1.get 2=some (.ptr (n+1) 0))(f3:F1.get 3=some (.ptr f 0))(bd:Nat):qj X (xY X n f M F1 w it) M bd where
 lt:=by
  rintro s own K m ⟨v,k,hown,hv,hM,_⟩ x hx;obtain⟨pn,rn,hq,hf,hfM⟩:=P.o
  rcases(hown x).1 hx with h|h|h|h|h|h|h|h|h
  ·omega
  ·omega
  ·omega
  ·omega
  ·omega
  ·omega
  ·omega
  ·omega
  exact(hv x h).2
 qo:=by
  rintro s own K m ⟨v,k,hown,hv,hM,kp,ho,hos,kr,kn,wN,kq,kf,kM,kM1,hl⟩;have hq:=P.o.2.2.1;rw[hq];exact⟨(hown _).2 ai,kq⟩
 pd:=by
  rintro s own K m ⟨v,k,hown,hv,hM,kp,ho,_⟩;exact⟨(hown _).2 ai,k,_,kp,ho,λ h=>(AU v ah).trans (d.d2 h),(AU v ah).trans d.d19⟩
 rd:=by
  rintro s own K m ⟨v,k,hown,hv,hM,kp,ho,hos,kr,_⟩;exact⟨(hown _).2 ai,kr⟩
 fr:=by
  rintro s own K m K' m' ⟨v,k,hown,hv,hM,kp,ho,hos,kr,kn,wN,kq,kf,kM,kM1,hl⟩ h hm;have g:∀x,(x=X.p∨x=X.r∨x=n∨x=n+1∨x=n+2∨x=f∨x=M∨x=M+1∨blk v=some x)->K'.get x=K.get x:=λ x hx=>h x ((hown x).2 hx);exact⟨v,k,hown,λ x hx=>⟨(hv x hx).1,by have:=(hv x hx).2;omega⟩,ah,(g _ ai).trans kp,ho,hos.frame hm λ x hx=>g x (by simp[hx]),(g _ ai).trans kr,(g _ ai).trans kn,(g _ ai).trans wN,(g _ ai).trans kq,(g _ ai).trans kf,(g _ ai).trans kM,(g _ ai).trans kM1,hl⟩
 ey:=by
  rintro s own K m K' m' e ⟨v,k,hown,hv,hM,kp,ho,hos,kr,kn,wN,kq,kf,kM,kM1,hl⟩ hq h hm;obtain⟨pn,rn,hq2,hf,hfM⟩:=P.o;rw[hq2]at hq h;have g:∀x,(x=X.p∨x=X.r∨x=n∨x=n+1∨x=n+2∨x=f∨x=M∨x=M+1∨blk v=some x)->x≠n+2->K'.get x=K.get x:=λ x hx hxq=>h x ((hown x).2 hx) hxq;exact⟨v,k,hown,λ x hx=>⟨(hv x hx).1,by have:=(hv x hx).2;omega⟩,ah,(g _ ai ah).trans kp,ho,hos.frame hm λ x hx=>g x (by simp[hx]) (by have:=hv x hx;omega),(g _ ai ah).trans kr,(g _ ai ah).trans kn,(g _ ai ah).trans wN,hq,(g _ ai ah).trans kf,(g _ ai ah).trans kM,(g _ ai ah).trans kM1,hl⟩
 eg:=λ s e=>rfl
 yl:=λ hJ hg ht PT _=>aj2 d P f1 f2 f3 hJ hg ht PT
theorem VW {p:Nat}{D:List AV}{v24:AV}(d24:D[24]?=some v24)(HN:bg v24=.val (zI 0)){x y:List Val}(hx:x.length<=1048576)(hy:y.length<=1048576){H:Hp}{n:Nat}(hp:H.get p=aN 32 D):ao pG 154 [.ptr p 0,aC x,aC y] H n (λ u K k=>u=zI (dP x y)/\K=H/\k=n):=by
 refine ao.of c154 (by simp[A154]) λ F hF=>?_;have ho:=Dv x y hx hy;generalize aC x=X at *;generalize aC y=Y at *;simp[A154,hF,hp,d24,HN];refine aF.XO 1 (eT.step ?_);simp[ad1,SR,hF];refine aB.pure ho ?_;simp
def cpR (p b lo:Nat)(D:List AV):Cp (List Val):={g:=154,first:=[.ptr p 0],cap:=[],av:=aC,c:=dP,El:=λ x=>iI x/\x.length<=1048576,J:=λ H=>H.get p=aN 32 D,bk:=b,lo:=lo}
theorem alU {p b lo:Nat}{D:List AV}(hpb:p≠b)(hp:p<=lo)(hb:b<=lo)(hD:dO (lo+1) D){v24:AV}(d24:D[24]?=some v24)(HN:bg v24=.val (zI 0)):(cpR p b lo D).Ok pG where
 call:=by
  intro x y hx hy H n hJ hn;have hn:lo<n:=hn;have hJ:H.get p=aN 32 D:=hJ;refine ao.Aj [p] (by simp[cpR,iF];exact⟨ah,(show Pure (aC x) by simp).jQ,(show Pure (aC y) by simp).jQ⟩) (by simp;omega) (λ c hc k hk=>?_) λ H0 ht hL=>?_
  ·have:c=p:=by simpa using hc
   subst this;rw[hJ]at hk;injection hk with hk;subst hk;exact bV (fC ah hD)
  refine(VW (p:=p) (D:=D) d24 HN hx.2 hy.2 (H:=H0) (n:=n) ((hL p ai).trans hJ)).mono λ u K k ⟨q1,q2,q3⟩=>?_;subst q1 q2;exact⟨.pure _ ai,λ _ _=>rfl⟩
 stay:=λ H K hJ h=>(h p hp hpb).trans hJ
 one:=λ x=>rfl
 bl:=hb
 IK:=λ x y hx hy=>by
  have:=jD hx.1 hy.1;show dP x y<0↔0<dP y x;omega
 trans:=λ x y z hx hy hz h1 h2=>kT hx.1 hy.1 hz.1 h1 h2
theorem Bd (L:List (List Val)):(range L.length).map (λ k=>L.getD k [])=L:=by
 refine ext_getElem ai λ k h1 h2=>?_;simp[getD,cY h2]
def xH (p b:Nat)(D:List AV)(L:List (List Val)):Hp->Nat->hU:=λ H n=>if H.get p=aN 32 D/\H.get b=some (.cells L.length [] (aQ L) .nil)/\p<n/\b<n/\dO n D then .mk (.br []) (H.put b (some (.cells L.length [] (aQ (oV L)) .nil))) n else .fail
theorem V0 {p b:Nat}(hpb:p≠b){D:List AV}{v24:AV}(d24:D[24]?=some v24) (HN:bg v24=.val (zI 0)){L:List (List Val)}(hm:∀r∈L,iI r/\r.length<=1048576) (hl:L.length<60000):
  ∀H n v H' n',xH p b D L H n=.mk v H' n'->bC pG 153 [.sl b 0 L.length 1,.fn (.func 154) [.ptr p 0] []] H n v H' n':=by
 intro H n v H' n' h;unfold xH at h
 by_cases hc:H.get p=aN 32 D/\H.get b=some (.cells L.length [] (aQ L) .nil)/\p<n/\b<n/\dO n D
 ·rw[ay hc]at h;injection h with e1 e2 e3;subst e1 e2 e3;obtain⟨hp,hb,pn,bn,rd⟩:=hc
  have aqj:∀M:List (List Val),aS (aQ M):=λ M=>aS.rT λ v hv=>by
   unfold aQ at hv;obtain⟨r,_,rfl⟩:=mem_map.1 hv;simp
  have hrl:∀M:List (List Val),dO n (aQ M):=λ M=>dO.of λ v hv=>((aqj M).mem v hv).jQ;refine ao.okB (p:=b) [p,b] ai (by simp[iF,pn,bn]) (by simp[pn,bn]) (λ c hc k hk=>?_) (bV (hrl _)) λ H0 ht hL=>?_
  ·have:c=p∨c=b:=by simpa using hc
   rcases this with rfl|rfl
   ·rw[hp]at hk;injection hk with hk;subst hk;exact bV rd
   rw[hb]at hk;injection hk with hk;subst hk;exact bV (hrl _)
  obtain⟨lo,hlo⟩:∃lo,n=lo+1:=⟨n - 1,ah⟩;have ok:=alU (p:=p) (b:=b) (lo:=lo) (D:=D) hpb ah ah (by rw[<-hlo];exact rd) d24 HN;have hJ:(cpR p b lo D).J H0:=(hL p ai).trans hp
  have hA:eW (cpR p b lo D) H0 n L.length (λ k=>L.getD k []) H0:=by
   refine .refl ⟨_,(hL b ai).trans hb,?_⟩
   have e:(range L.length).map (λ k=>(cpR p b lo D).av (L.getD k []))=aQ L:=by
    unfold aQ
    conv=>rhs;rw[<-Bd L]
    rw[map_map];rfl
   rw[e];exact OwnB.list (by unfold aQ;simp)
  have hE:∀k,k<L.length->(cpR p b lo D).El (L.getD k []):=λ k hk=>by
   have:L.getD k []=L[k]:=by simp[getD,cY hk]
   rw[this];exact hm _ (dy hk)
  refine ao.of c153 (by simp[A153]) λ F hF=>?_;simp[A153,hF,Jp L.length ah];refine aB.pure (PM ah) ?_;simp[hF];have hq:=O7 ok hJ (show (cpR p b lo D).lo<n by show lo<n;omega) hl (L.length+1) 0 L.length _ H0 n (Jf L.length:Int) ah ah ah hA (aL _) hE (λ h=>ah);rw[show ((0:Nat):Int)=0 from rfl]at hq;refine aB.of hq λ u K k ⟨e1,⟨d',ps,so,⟨y,hy,ho⟩,hfr⟩,_⟩=>?_;subst e1;simp;have hpm:=ps.perm (N:=L.length) (aL _);rw[Bd]at hpm
  have hs:dQ ((range L.length).map d'):=by
   refine pairwise_iff_getElem.2 λ i j hi hj hij=>?_;simp only[getElem_map,getElem_range];exact so i j ah hij (by simpa using hj)
  have e:=C6 (λ r hr=>(hm r hr).1) hpm hs
  have e2:(range L.length).map (λ k=>(cpR p b lo D).av (d' k))=aQ (oV L):=by
   rw[<-e];unfold aQ;rw[map_map];rfl
  rw[e2]at ho;have hsl:(oV L).length=L.length:=by rw[<-e];simp
  obtain⟨u,z,bs,t',rfl,q1,q3,_⟩:=ho;refine⟨.pure _ ai,λ c hc hcb=>hfr c hcb hc,_,hy,.inr ⟨u,z,bs,t',aQ (oV L),rfl,?_,q1.symm,λ i x hx=>⟨x,by rw[q3];exact hx,.inl rfl⟩⟩⟩;rw[q1];congr 1;unfold aQ;simp[hsl]
 rw[ak hc]at h;cases h
theorem eG.apE (F:Fr){K:Hp}{p b:Nat}{y z:bJ}{L M:List AV}(hpb:p≠b) (hy:K.get p=some y) (ho:OwnB y L) (hz:K.get b=some z) (hoz:OwnB z M):eG (λ _=>none) F K F ((K.put p (some (.cells L.length [] L .nil))).put b (some (.cells M.length [] M .nil))):=
 ⟨λ b x h=>by simp at h,λ b h=>aw rfl h,λ t v h=>⟨v,h,.inl rfl⟩,λ c x h=>by
  rw[Tr.get_put]at h
  by_cases e:c=b
  ·subst e;rw[ay rfl]at h;injection h with h;subst h;obtain⟨u,z,bs,t',rfl,q1,q3,_⟩:=hoz;exact⟨_,hz,.inr ⟨u,z,bs,t',M,rfl,by rw[q1],q1.symm,λ i x hx=>⟨x,by rw[q3];exact hx,.inl rfl⟩⟩⟩
  rw[ak e,Tr.get_put]at h
  by_cases e2:c=p
  ·subst e2;rw[ay rfl]at h;injection h with h;subst h;obtain⟨u,z,bs,t',rfl,q1,q3,_⟩:=ho;exact⟨_,hy,.inr ⟨u,z,bs,t',L,rfl,by rw[q1],q1.symm,λ i x hx=>⟨x,by rw[q3];exact hx,.inl rfl⟩⟩⟩
  rw[ak e2]at h;exact⟨x,h,.inl rfl⟩⟩
theorem mM (L:List (List Val)):(oV L).Perm L:=by
 unfold oV
 split
 ·rename_i h;exact(Classical.choose_spec h).1
 exact .refl _
theorem nI (L:List (List Val)):(oV L).length=L.length:=(mM L).length_eq
def gJ (on:List (List Ex))(tabs:List (List (List Val)))(w it:List Ex)(j:Nat):sW:=oW on tabs j (xY ⟨⟨[],[]⟩,[],[],[],[],0,0,0,[]⟩ 0 0 0 .nil w it) ⟨[],0,true⟩
theorem aeT {X:oJ}{n f M:Nat}{F1:Fr}{w it:List Ex}(j:Nat):oW X.on X.tabs j (xY X n f M F1 w it) ⟨[],0,true⟩=gJ X.on X.tabs w it j:=Df (C:=xY X n f M F1 w it) (C':=xY ⟨⟨[],[]⟩,[],[],[],[],0,0,0,[]⟩ 0 0 0 .nil w it) _ _ j rfl rfl rfl _
def nN (s:sW):Int:=if s.go=true then s.acc else 4
def oJ.at (X:oJ)(q:Nat):oJ:={X with q:=q}
theorem Zb {X:oJ}(ok:X.ok){J:Nat}(hJ:X.iM.length=J){H:Hp}{m:Nat}(hp:H.get X.p=aN 32 X.D)(hD:dO m X.D)(pm:X.p<m)(qm:X.q<m)(ht:dm H m):
  ∃(cf:Hp->Nat->hU) (g:FuncId) (caps:List AV) (H5:Hp) (M:Nat),(∀H n v H' n',cf H n=.mk v H' n'->bC pG 149 [.ptr X.p 0,zI (J:Int),.fn (.func 165) [] [.ptr X.q 0]] H n v H' n')/\cf H m=.mk (.fn (.func g) [] caps) H5 M/\(∀e,e<m->H5.get e=H.get e)/\dm H5 M/\m<=M /\
   ∀own H6 M6,(∀e,e<M->H6.get e=H5.get e)->(∀x,m<=x->x<M->¬own x)->M<=M6->Clo X own H6 M6 J g caps:=by
 have hone:(AV.fn (.func 165) [] [.ptr X.q 0]).len=1/\(AV.fn (.func 165) [] [.ptr X.q 0]).cells=[.fn (.func 165) [] [.ptr X.q 0]]/\(AV.fn (.func 165) [] [.ptr X.q 0]).one=true:=⟨rfl,rfl,rfl⟩;have hfl:=ok.fl
 cases J with
 |zero =>
  refine⟨λ H n=>if X.p<n/\X.q<n then .mk (.fn (.func 213) [] []) H n else .fail,213,[],H,m,λ H n v H' n' h=>?_,by simp[pm,qm],λ _ _=>rfl,ht,aL _,λ _ _ _ _ _ _=>⟨rfl,rfl⟩⟩
  by_cases hc:X.p<n/\X.q<n
  ·simp only[hc,and_self,if_true]at h;injection h with e1 e2 e3;subst e1 e2 e3;exact ao.Aj [] (by simp[iF,hc]) ai ai λ H0 _ _=>(ahA _ X.p H0 n hone).mono λ u K k ⟨q1,q2,_⟩=>⟨by subst q1;exact fp,q2⟩
  simp[hc]at h
 |succ j =>
  have h49:=Zc (iM:=X.iM) ok.st _ hone j ah ah X.p X.D ok.d0 ok.d18;rw[show ((j+1:Nat):Int)=(j:Int)+1 by omega];refine⟨_,215,[.ptr m 0,.ptr (m+1) 0,.ptr (m+2) 0,.ptr (m+4) 0],(((((H.put m (aN 1 [.ptr X.p 0])).put (m+1) (aN 1 [zI ((j:Int)+1)])).put (m+2) (aN 1 [.fn (.func 165) [] [.ptr X.q 0]])).put (m+3) none).put (m+4) (aN 1 [zI (atI X.aY (X.iM[j]'ah).id)])),m+5,h49,?_,λ e he=>?_,λ e he=>?_,ah,λ own H6 M6 k6 no hM=>?_⟩
  ·unfold Za;rw[ay ⟨hp,pm,hD,by simp[iF];omega⟩]
  ·simp[show ¬e=m by omega,show ¬e=m+1 by omega,show ¬e=m+2 by omega,show ¬e=m+3 by omega,show ¬e=m+4 by omega]
  ·simp[show ¬e=m by omega,show ¬e=m+1 by omega,show ¬e=m+2 by omega,show ¬e=m+3 by omega,show ¬e=m+4 by omega,ht e ah]
  refine⟨m,m+1,m+2,m+4,rfl,rfl,(k6 _ ah).trans ai,(k6 _ ah).trans ai,(k6 _ ah).trans ai,λ t ht=>?_,ah,no _ ah ah,no _ ah ah,no _ ah ah,no _ ah ah⟩;rw[cY ah]at ht;injection ht with ht;subst ht;exact(k6 _ ah).trans ai
theorem WZ {X0:oJ}{w it:List Ex}{J:Nat}{D:List AV}{H:Hp}{n:Nat}{names:List (List Nat)}{kinds:List Int}(ok0:∀q,(X0.at q).ok) (qd0:∀q,QD (X0.at q) w it) (hJ:X0.iM.length=J) (hXD:X0.D=(D.set 28 (dz.ds names)).set 29 (dA.ds kinds)) (hnl:names.length<=aU) (hkn:kinds.length<=aU)
  (dl:D.length=32)(d22:D[22]?=some (dz.ds names))(d23:D[23]?=some (dA.ds kinds)){v24:AV}(d24:D[24]?=some v24)(HN:bg v24=.val (zI 0))(d25:D[25]?=some (.bool false))(d26:D[26]?=some (.bool false))(d30:D[30]?=some nS)
  (hp:H.get X0.p=aN 32 D)(hr:H.get X0.r=some (.cells X0.RC.length [] X0.RC .nil))(hpr:X0.p≠X0.r)(hRD:dO n D)(ht:dm H n)
  (hm:(gJ X0.on X0.tabs w it J).go=true->(gJ X0.on X0.tabs w it J).acc=0->∀r∈(gJ X0.on X0.tabs w it J).rows,iI r/\r.length<=1048576):
  ao pG 67 [.ptr X0.p 0] H n (λ u K k=>u=zI (nN (gJ X0.on X0.tabs w it J))/\(nN (gJ X0.on X0.tabs w it J)=0->∃y v,K.get X0.p=some y/\OwnB y (X0.D.set 30 v)/\aD K k v (aQ (oV (gJ X0.on X0.tabs w it J).rows)) (gJ X0.on X0.tabs w it J).rows.length 1/\∀x,blk v=some x->n<=x)/\(∀c,c<n->c≠X0.p->K.get c=H.get c)/\n<=k):=by
 refine ao.of c67 (by simp[A67]) λ F hF=>?_;have ok:=ok0 (n+2);have qd:=qd0 (n+2);have pn:=ht.lt hp;have rn:=ht.lt hr;have eX:(X0.at (n+2)).p=X0.p/\(X0.at (n+2)).r=X0.r/\(X0.at (n+2)).q=n+2/\(X0.at (n+2)).D=X0.D/\(X0.at (n+2)).RC=X0.RC/\(X0.at (n+2)).iM=X0.iM/\(X0.at (n+2)).on=X0.on/\(X0.at (n+2)).tabs=X0.tabs/\(X0.at (n+2)).aY=X0.aY:=⟨rfl,rfl,rfl,rfl,rfl,rfl,rfl,rfl,rfl⟩;generalize X0.at (n+2)=X at ok qd eX;obtain⟨x1,x2,x3,x4,x5,x6,x7,x8,x9⟩:=eX;rw[<-x1]at hp pn hpr hF ⊢;rw[<-x2]at hr rn hpr;rw[<-x5]at hr;rw[<-x4]at hXD ⊢;rw[<-x7,<-x8]at hm ⊢;rw[<-x6]at hJ;clear ok0 qd0 x1 x2 x4 x5 x6 x7 x8 x9 X0;simp[A67,hF];generalize hK:Tr.put (Tr.put H n _) (n+1) _=K;have kn:K.get n=aN 1 [.ptr X.p 0]:=by rw[<-hK];simp
 have wN:K.get (n+1)=aN 1 [zI 0]:=by rw[<-hK];simp
 have kf:∀e,e<n->K.get e=H.get e:=λ e he=>by rw[<-hK];simp[show ¬e=n by omega,show ¬e=n+1 by omega]
 have kt:dm K (n+2):=λ e he=>by rw[<-hK];simp[show ¬e=n by omega,show ¬e=n+1 by omega,ht e ah]
 clear hK hF;refine aB.of (PZ K (n+2)) λ u K1 m ⟨hu,hK1,hm'⟩=>?_;subst hu;simp;generalize hK2:Tr.put (Tr.put K1 m _) m _=K2;have k2:∀e,e<n+2->K2.get e=K.get e:=λ e he=>by rw[<-hK2,hK1];simp[show ¬e=n+2 by omega,show ¬e=m by omega]
 have k22:K2.get (n+2)=aN 1 [zI 0]:=by rw[<-hK2,hK1];simp[show ¬n+2=m by omega]
 have k23:K2.get m=aN 1 [.fn (.func 165) [] [.ptr (n+2) 0]]:=by rw[<-hK2];simp
 have t2:dm K2 (m+1):=λ e he=>by rw[<-hK2,hK1];simp[show ¬e=n+2 by omega,show ¬e=m by omega,kt e ah]
 clear hK2;have c0:=(k2 n ah).trans kn;have c1:=(k2 (n+1) ah).trans wN;have cp:=(k2 X.p ah).trans ((kf X.p pn).trans hp);have cr:=(k2 X.r ah).trans ((kf X.r rn).trans hr);have cf:∀e,e<n->K2.get e=H.get e:=λ e he=>(k2 e ah).trans (kf e he);obtain⟨y1,hs1,ho1⟩:=tB cp (OwnB.list dl.symm) (i:=28) (by rw[dl];omega) (v:=dz.ds names) ⟨rfl,rfl,rfl⟩;obtain⟨y2,hs2,ho2⟩:=tB (H:=K2.put X.p (some y1)) (by rw[Tr.get_put,ay rfl]) ho1 (i:=29) (by rw[length_set,dl];omega) (v:=dA.ds kinds) ⟨rfl,rfl,rfl⟩;have np:¬n=X.p:=ah;have v1:(dz.ds names).len=1/\(dz.ds names).cells=[dz.ds names]:=⟨rfl,rfl⟩;have v2:(dA.ds kinds).len=1/\(dA.ds kinds).cells=[dA.ds kinds]:=⟨rfl,rfl⟩;simp[aii];refine bF.of (dX (l:=[(148,[dz.ds names],λ H n=>.mk (dz.ds names) H n),(59,[dA.ds kinds],λ H n=>.mk (dA.ds kinds) H n)]) ?_) ?_
 ·intro x hx;simp only[mem_cons,not_mem_nil,or_false]at hx
  rcases hx with rfl|rfl
  ·exact cy (al9 names hnl)
  exact cy (P9 kinds hkn)
 simp[ae,c0,cp,d22,d23,bY,sP,hs1,hs2,np];rw[<-hXD]at ho2;have e24:X.D[24]?=some v24:=by rw[hXD];simp[d24]
 have e25:X.D[25]?=some (.bool false):=by rw[hXD];simp[d25]
 have e26:X.D[26]?=some (.bool false):=by rw[hXD];simp[d26]
 have e30:X.D[30]?=some nS:=by rw[hXD];simp[d30]
 have rD':dO n X.D:=by
  rw[hXD];refine dO.of λ x hx=>?_
  rcases mem_or_eq_of_mem_set hx with h|h
  ·rcases mem_or_eq_of_mem_set h with h|h
   ·exact hRD.mem x h
   subst h;exact(show Pure (dz.ds names) by simp).jQ
  subst h;exact(show Pure (dA.ds kinds) by simp).jQ
 clear hXD hs1 hs2 ho1;generalize hK3:Tr.put (Tr.put K2 X.p _) X.p _=K3;have p3:K3.get X.p=some y2:=by rw[<-hK3];simp
 have k3:∀e,e≠X.p->K3.get e=K2.get e:=λ e he=>by rw[<-hK3];simp[he]
 clear hK3;have dl':=qd.dl;have e18:=ok.d18;have hlen:bg (aM.ds X.iM)=.val (zI (J:Int)):=by rw[bf.aT,hJ]
 have hone:(AV.fn (.func 165) [] [.ptr (n+2) 0]).len=1/\(AV.fn (.func 165) [] [.ptr (n+2) 0]).cells=[.fn (.func 165) [] [.ptr (n+2) 0]]/\(AV.fn (.func 165) [] [.ptr (n+2) 0]).one=true:=⟨rfl,rfl,rfl⟩;have hfl:=ok.fl;have sh:=λ F:Fr=>eG.norm F p3 ho2;rw[dl']at sh;generalize hH4:Tr.put K3 X.p (aN 32 X.D)=H4 at sh;have p4:H4.get X.p=aN 32 X.D:=by rw[<-hH4];simp
 have k4:∀e,e≠X.p->H4.get e=K2.get e:=λ e he=>by rw[<-hH4,Tr.get_put,ak he];exact k3 e he
 have t4:dm H4 (m+1):=λ e he=>by rw[k4 e ah];exact t2 e he
 have q0:=(k4 n ah).trans c0;have q1:=(k4 (n+1) ah).trans c1;have q2:=(k4 (n+2) ah).trans k22;have qm:=(k4 m ah).trans k23;have qr:=(k4 X.r (Ne.symm hpr)).trans cr;clear hH4 p3 k3;obtain⟨cw,g,caps,H5,M,hcf,hcF,k5,t5,hM,awO⟩:=Zb ok hJ p4 (fC ah rD') (show X.p<m+1 by omega) (show X.q<m+1 by omega) t4;rw[x3]at hcf;simp[aih];refine bF.ofZ (dX (l:=[(149,[.ptr X.p 0,zI (J:Int),.fn (.func 165) [] [.ptr (n+2) 0]],cw)]) ?_) (sh _) ?_
 ·intro x hx;simp only[mc]at hx;subst hx;exact hcf
 simp[ae,q0,p4,e18,hlen,qm,bY,hcF];clear sh hcf hcF;generalize Jg:(Fp 37 _ _:Fr)=F5;have g1:F5.get 1=some (.ptr n 0):=by rw[<-Jg];simp[ae]
 have g2:F5.get 2=some (.ptr (n+1) 0):=by rw[<-Jg];simp[ae]
 have g3:F5.get 3=some (.ptr m 0):=by rw[<-Jg];simp[ae]
 clear Jg;refine Lo.of ?_;generalize hH6:Tr.put (Tr.put H5 _ _) _ _=H6;have k6:∀e,e<M->H6.get e=H5.get e:=λ e he=>by rw[<-hH6];simp[show ¬e=M by omega,show ¬e=M+1 by omega]
 have z6:H6.get M=some (.loop .ready .normal 148 F5 [38] kg.1 kg.2):=by rw[<-hH6];simp
 have w6:H6.get (M+1)=some .jN:=by rw[<-hH6];simp
 have t6:dm H6 (M+2):=λ e he=>by rw[<-hH6];simp[show ¬e=M by omega,show ¬e=M+1 by omega,t5 e ah]
 clear hH6;have h6:∀e,e<m+1->H6.get e=H4.get e:=λ e he=>(k6 e ah).trans (k5 e he);have P:QPl X n m M:=⟨⟨pn,rn,x3,ah,ah⟩,hpr⟩;have cok:=aj3 qd P g1 g2 g3 (0+1000*J)
 have hset:X.D.set 30 nS=X.D:=by
  refine ext_getElem? λ i=>?_
  by_cases e:i=30
  ·subst e;rw[getElem?_set_self (by rw[dl'];omega),e30]
  rw[getElem?_set_ne ah]
 have J6:(xY X n m M F5 w it).J ⟨[],0,true⟩ (λ x=>x=X.p∨x=X.r∨x=n∨x=n+1∨x=n+2∨x=m∨x=M∨x=M+1∨blk nS=some x) H6 (M+2):=by
  refine⟨nS,_,λ x=>Iff.rfl,λ x hx=>by simp[blk]at hx,ah,(h6 X.p ah).trans p4,by rw[hset];exact OwnB.list dl'.symm,⟨rfl,.inl ⟨rfl,rfl⟩⟩,(h6 X.r ah).trans qr,(h6 n ah).trans q0,(h6 (n+1) ah).trans q1,(h6 (n+2) ah).trans q2,by rw[x3];exact(h6 m ah).trans qm,z6,w6,ai⟩
 have hcl:Clo X (λ x=>x=X.p∨x=X.r∨x=n∨x=n+1∨x=n+2∨x=m∨x=M∨x=M+1∨blk nS=some x) H6 (M+2) J g caps:=awO _ _ _ k6 (λ x h1 h2 h=>by
  rcases h with h|h|h|h|h|h|h|h|h
  ·omega
  ·omega
  ·omega
  ·omega
  ·omega
  ·omega
  ·omega
  ·omega
  simp[blk]at h) ah
 refine ao.mono (PO ok J ah sW (xY X n m M F5 w it) M 0 cok ah ⟨[],0,true⟩ _ H6 (M+2) J6 rfl t6 ((h6 X.p ah).trans p4) g caps hcl) λ u K7 k7 ⟨own',hJ7,t7,hm7,hf7,ho7⟩=>?_;rw[aeT]at hJ7;generalize gJ X.on X.tabs w it J=s at *;obtain⟨v,k,hown',hv',hM',kp,ho,hos,kr,kn,wN,kq,kf',kM,kM1,hl⟩:=hJ7;clear J6 hcl cok u z6 w6 t6 k5;have afR:dK [.cD (M+1)] (K7.put M none)=some ((K7.put M none).put (M+1) none):=by rw[kP (by rw[Tr.get_put,ak ah];exact kM1)];simp[dK]
 have h7:∀c,c<n->c≠X.p->K7.get c=H.get c:=λ c h1 h2=>by
  by_cases e:c=X.r
  ·rw[e,kr,hr]
  exact(hf7 c ah (λ h=>by
   rcases h with h|h|h|h|h|h|h|h|h
   ·omega
   ·omega
   ·omega
   ·omega
   ·omega
   ·omega
   ·omega
   ·omega
   simp[blk]at h)).trans ((h6 c ah).trans ((k4 c h2).trans (cf c h1)))
 unfold Vk
 cases hgo:s.go with
 |false =>
  rw[hgo]at kM wN;simp at kM wN;refine⟨_,_,_,_,_,_,_,kM,ai,ai,?_⟩;have hq:nN s=4:=by simp[nN,hgo]
  simp[afR,g2,show ¬n+1=M by omega,show ¬n=M by omega,wN,hq];exact⟨λ c h1 h2=>by rw[ak ah,ak ah];exact h7 c h1 h2,ah⟩
 |true =>
  rw[hgo]at kM wN;simp at kM wN;refine⟨_,_,_,_,_,_,_,kM,ai,ai,?_⟩;simp;generalize hH8:Tr.put K7 M none=H8;have k8:∀e,e≠M->H8.get e=K7.get e:=λ e he=>by rw[<-hH8,Tr.get_put,ak he]
  have t8:dm H8 k7:=λ e he=>by rw[k8 e ah];exact t7 e he
  clear hH8;have qm8:=(k8 m ah).trans kf';have q28:=(k8 (n+2) ah).trans kq;rw[x3]at qm8;simp[aak,g3,qm8];refine aB.of (lh s.acc 0 q28) λ u K9 k9 ⟨hu,a9,hk9,f9⟩=>?_;subst hu hk9;have hla:je s.acc 0=s.acc:=apL _;rw[hla]at a9 ⊢;have h9:∀e,e≠n+2->e≠M->K9.get e=K7.get e:=λ e h1 h2=>(f9 e h1).trans (k8 e h2);have t9:dm K9 k9:=λ e he=>by rw[h9 e ah ah];exact t7 e he
  have p9:=(h9 X.p ah ah).trans kp;have n9:=(h9 n ah ah).trans kn;have n19:=(h9 (n+1) ah ah).trans wN;have w9:=(h9 (M+1) ah ah).trans kM1;have f7:∀c,c<n->c≠X.p->K9.get c=H.get c:=λ c h1 h2=>(h9 c ah ah).trans (h7 c h1 h2);have vb:∀x,blk v=some x->M+1<x/\x<k9:=hv';have os9:aD K9 k9 v (aQ s.rows) s.rows.length 1:=hos.frame (aL _) λ x hx=>by have:=vb x hx;exact h9 x ah ah
  have hq:nN s=s.acc:=by simp[nN,hgo]
  simp only[hq]
  by_cases ha:s.acc=0
  ·have hm:=hm hgo ha
   have ld:∀(i:Nat) (u:AV),i≠30->X.D[i]?=some u->∀H:Hp,H.get X.p=some k->cN (.ptr X.p i) H=.val u:=λ i u hi hu H hH=>by
    rw[<-AU v hi]at hu;obtain⟨hl,he⟩:=nL.1 hu;rw[nP hH ho hl,he]
   have afx:cN (.ptr X.p 30) K9=.val v:=by rw[nP p9 ho (by rw[length_set,dl'];omega),getElem_set_self]
   have awe:=ld 25 _ ah e25 K9 p9;have awd:=ld 26 _ ah e26 K9 p9;have hnp:¬n+1=X.p:=ah;simp[LA,ha,aai,g1,n9,awe,aah];obtain⟨_,⟨rfl,hz⟩|⟨b,z,rfl,hb,hbz,hbo⟩⟩:=os9
   ·have hnil:s.rows=[]:=length_eq_zero_iff.1 hz;refine bF.of (dX (l:=[(153,[nS,.fn (.func 154) [.ptr X.p 0] []],GQ X.p)]) ?_) ?_
    ·intro x hx;simp only[mc]at hx;subst hx;exact V1 X.p
    have hsF:GQ X.p K9 k9=.mk (.br []) K9 k9:=by unfold GQ;rw[ay ah]
    simp[ae,g1,n9,afx,bY,hsF,Ly];refine bF.of (bq (P:=pG)) ?_;simp[ae,g1,n9,awd];simp[Lx,ae,g2,n19];rw[kP (by simp[show ¬M=n by omega,w9])];simp[dK];simp[show ¬n=M by omega,show ¬X.p=M+1 by omega,show ¬X.p=n+1 by omega,p9];refine⟨⟨nS,ho,?_,λ x hx=>by simp[blk]at hx⟩,λ c h1 h2=>?_,ah⟩
    ·have e:[]=oV ([]:List (List Val)):=C6 ai (.refl _) Pairwise.nil;rw[hnil,<-e];exact⟨rfl,.inl ⟨rfl,rfl⟩⟩
    rw[ak ah,ak ah];exact f7 c h1 h2
   have hbM:=vb b rfl;have hpb:X.p≠b:=ah;obtain⟨D2,hD2⟩:∃D2,D2=X.D.set 30 (.sl b 0 s.rows.length 1):=⟨_,rfl⟩;rw[<-hD2]at ho;have dl2:D2.length=32:=by rw[hD2,length_set,dl']
   have f24:D2[24]?=some v24:=by rw[hD2,AU _ ah,e24]
   have f26:D2[26]?=some (.bool false):=by rw[hD2,AU _ ah,e26]
   have f30:D2[30]?=some (.sl b 0 s.rows.length 1):=by rw[hD2,getElem?_set_self (by rw[dl'];omega)]
   have rD2:dO k9 D2:=by
    rw[hD2];refine dO.of λ x hx=>?_
    rcases mem_or_eq_of_mem_set hx with h|h
    ·exact(fC (show n<=k9 by omega) rD').mem x h
    subst h;simp[iF];omega
   have rl:(aQ s.rows).length=s.rows.length:=by simp[aQ]
   have sh:=λ F:Fr=>eG.apE F hpb p9 ho hbz hbo;rw[dl2,rl]at sh;generalize hHA:Tr.put (Tr.put K9 X.p _) b _=HA at sh;have pA:HA.get X.p=aN 32 D2:=by rw[<-hHA];simp[hpb]
   have bA:HA.get b=some (.cells s.rows.length [] (aQ s.rows) .nil):=by rw[<-hHA];simp
   have kA:∀e,e≠X.p->e≠b->HA.get e=K9.get e:=λ e h1 h2=>by rw[<-hHA,Tr.get_put,ak h2,Tr.get_put,ak h1]
   clear hHA;have nA:=(kA n ah ah).trans n9;have nA1:=(kA (n+1) ah ah).trans n19;have wA:=(kA (M+1) ah ah).trans w9;refine bF.ofZ (dX (l:=[(153,[.sl b 0 s.rows.length 1,.fn (.func 154) [.ptr X.p 0] []],xH X.p b D2 s.rows)]) ?_) (sh _) ?_
   ·intro x hx;simp only[mc]at hx;subst hx;exact V0 hpb f24 HN hm ah
   have hsF:xH X.p b D2 s.rows HA k9=.mk (.br []) (HA.put b (some (.cells s.rows.length [] (aQ (oV s.rows)) .nil))) k9:=by unfold xH;rw[ay ⟨pA,bA,ah,ah,rD2⟩]
   generalize hHB:HA.put b _=HB at hsF;have pB:HB.get X.p=aN 32 D2:=by rw[<-hHB,Tr.get_put,ak hpb];exact pA
   have bB:HB.get b=some (.cells s.rows.length [] (aQ (oV s.rows)) .nil):=by rw[<-hHB];simp
   have kB:∀e,e≠X.p->e≠b->HB.get e=K9.get e:=λ e h1 h2=>by rw[<-hHB,Tr.get_put,ak h2];exact kA e h1 h2
   clear hHB;have nB:=(kB n ah ah).trans n9;have nB1:=(kB (n+1) ah ah).trans n19;have wB:=(kB (M+1) ah ah).trans w9;simp[ae,g1,nA,pA,f30,bY,hsF,Ly];refine bF.of (bq (P:=pG)) ?_;simp[ae,g1,nB,pB,f26];simp[Lx,ae,g2,nB1];rw[kP (by simp[show ¬M=n by omega,wB])];simp[dK];simp[show ¬n=M by omega,show ¬X.p=M+1 by omega,show ¬X.p=n+1 by omega,pB];refine⟨⟨.sl b 0 s.rows.length 1,by rw[<-hD2];exact OwnB.list dl2.symm,?_,λ x hx=>?_⟩,λ c h1 h2=>?_,ah⟩
   ·have hsl:(oV s.rows).length=s.rows.length:=nI _;refine⟨by simp[aQ,hsl],.inr ⟨b,_,rfl,hb,?_,OwnB.list (show s.rows.length=(aQ (oV s.rows)).length by simp[aQ,hsl])⟩⟩;simp[show ¬b=M+1 by omega,show ¬b=n+1 by omega,bB]
   ·simp at hx;omega
   rw[ak ah,ak ah,kB c h2 ah];exact f7 c h1 h2
  simp[LA,ha,aaj,g2,n19];rw[kP (by simp[show ¬M=n by omega,w9])];simp[dK,show ¬n=M by omega];exact⟨λ c h1 h2=>by simp[show ¬c=M+1 by omega,show ¬c=n+1 by omega];exact f7 c h1 h2,ah⟩
theorem aD.one {H:Hp}{n:Nat}{v:AV}{l:List AV}{len sz:Nat}(h:aD H n v l len sz):v.one=true:=by
 obtain⟨_,⟨rfl,_⟩|⟨b,k,rfl,_⟩⟩:=h<;>rfl
theorem bC.aoE {P:Program}{g:FuncId}{args:List AV}{H:Hp}{n:Nat}{v:AV}(h:bC P g args H n v H n):bC P g args H n v (H.put n none) (n+1):=by
 have hs:Sub (H.put n none).get H.get:=λ b k hb=>by
  rw[Tr.get_put]at hb
  split at hb
  ·cases hb
  exact hb
 exact⟨h.1,Nat.le_succ n,λ φ D w xs hr hv hf R hR=>h.2.2 φ D w xs hr hv (λ b h1 h2=>ah) R λ φ' D' w' x e r hx=>hR φ' D' w' x ((e.wide (aL _) (Nat.le_succ n)).sub hs) (tu r hs) hx⟩
def OV (L:List (List (List Val))):Option bJ:=if L=[]then none else some (.cells (L.length*1) [] (L.map dR) .nil)
theorem akh (w:qf)(hs:w.aY.gA)(hl:w.rows.length=w.aY.tables.length)(hS:∀L∈w.rows,aj pG 58 [dB L] (dR L))(H:Hp)(n:Nat):bC pG 24 [mX.av w] H n (.agg [aM.ds w.aY.tables,bw.ds w.aY.indexes,tj n w.rows] 3) (H.put n (OV w.rows)) (n+1):=by
 unfold tj OV
 by_cases h0:w.rows=[]
 ·rw[ay h0,ay h0];refine bC.aoE ((aj.ofR ai ai ((Xz w hs hl hS).mono λ u K k ⟨vt,vi,vr,hu,ot,oi,_,_,hz⟩=>?_)).KV H n);subst hu;rw[hz h0];exact .agg _ _ _ (.cons _ _ _ _ (ot.nz (bp.pure ai) ah) (.cons _ _ _ _ (oi.nz (bp.pure ai) ah) (.cons _ _ _ _ fp .nil)))
 rw[ak h0,ak h0];exact apn w hs hl h0 hS H n
def amI (g:Nat)(D:List AV)(V:Nat->AV)(RC:List AV)(e:Int)(D2:Nat->AV->List AV)(cs:List AV)(len:Nat):Prop:=∀(H:Hp)(n p r:Nat),H.get p=aN 32 (D.set 2 (V r))->H.get r=some (.cells RC.length [] RC .nil)->p≠r->dm H n ->
 ao pG g [.ptr p 0] H n (λ u K k=>u=zI e/\(e=0->∃W y,K.get p=some y/\OwnB y (D2 r W)/\aD K k W cs len 1/\∀x,blk W=some x->n<=x)/\(∀c,c<n->c≠p->K.get c=H.get c)/\n<=k)
def ZL (w:qf)(b:oU)(V:Nat->AV)(RC:List AV):Prop:=(w.rows≠[]/\RC=w.rows.map dR/\V=λ r=>.sl r 0 w.rows.length 1)∨(w.rows=[]/\RC=b.cells/\V=λ _=>nS)
theorem ZC (w:qf)(hw:w.gA)(x:dE)(hb:aj pG 23 [lj.av w.aY,x.av] (.br [.agg (cu w.aY x).1.cells 25,zI (cu w.aY x).2]))(ok:iV w)(hb0:(cu w.aY x).2=0)(hS:∀L∈w.rows,aj pG 58 [dB L] (dR L))(g:Nat)(hg:OJ x.kind=.fn (.func g) [] [])(e:Int)(N C:AV)(hN:N.one=true/\C.one=true)(c:Int)(V:Nat->AV)(RC cs:List AV)(len:Nat)(hV:ZL w (cu w.aY x).1 V RC)
  (way:amI g (dC (aM.ds w.aY.tables) (bw.ds w.aY.indexes) nS (cu w.aY x).1 nS nS nS 0) V RC e (λ r W=>dC (aM.ds w.aY.tables) (bw.ds w.aY.indexes) (V r) (cu w.aY x).1 N C W c) cs len):
  ao pG 10 [mX.av w,x.av] .nil 0 (λ u K k=>if e=0 then ∃r W,u=resV (aM.ds w.aY.tables) (bw.ds w.aY.indexes) (V r) N C W c 0/\(w.rows≠[]->K.get r=some (.cells RC.length [] RC .nil)/\r<k/\blk W≠some r)/\aD K k W cs len 1 else u=JA e):=by
 refine ao.of c10 (by simp[A10]) λ F hF=>?_;have hm:=ag7 w hw;have hav:x.av=.agg x.cells 31:=Eq.trans rfl rfl;have hwv:mX.av w=.agg [aM.ds w.aY.tables,bw.ds w.aY.indexes,iO.ds w.rows] 3:=Eq.trans rfl rfl;have hsv:lj.av w.aY=.agg [aM.ds w.aY.tables,bw.ds w.aY.indexes] 2:=Eq.trans rfl rfl;have xl:=x.bm;have HN:=akh w hw.s ok.l hS;have x0:=x.g0;rw[hav,hsv]at hb;rw[hwv]at hm HN;rw[hav,hwv]at hF;clear hav hwv hsv;simp only[ok,decide_true]at hm;unfold ZL at hV;generalize cu w.aY x=R at *;have hR:(R.1.cells).length=25:=rfl;generalize hxs:x.cells=xs at *;simp[A10,hF];simp[Tj];refine aB.pure hm ?_;simp[adD];refine aB.pure hb ?_;simp[hR,oU.one,adC,hb0];generalize hF1:(Fp 24 _ _:Fr)=F1;have f2:F1.get 2=some (.ptr 0 0):=by rw[<-hF1];simp
 have f3:F1.get 3=some (.ptr 1 0):=by rw[<-hF1];simp
 have f4:F1.get 4=some (.ptr 2 0):=by rw[<-hF1];simp
 have f5:F1.get 5=some (.ptr 3 0):=by rw[<-hF1];simp
 have f7:F1.get 7=some (.ptr 4 0):=by rw[<-hF1];simp
 have f8:F1.get 8=some (zI 0):=by rw[<-hF1];simp
 clear hF1 hF F;generalize hK:Tr.put _ 4 _=K;have k0:K.get 0=aN 3 [aM.ds w.aY.tables,bw.ds w.aY.indexes,iO.ds w.rows]:=by rw[<-hK];simp
 have k1:K.get 1=aN 31 xs:=by rw[<-hK];simp
 have k2:K.get 2=aN 3 [nS,nS,nS]:=by rw[<-hK];simp
 have k3:K.get 3=aN 4 [nS,nS,nS,zI 0]:=by rw[<-hK];simp
 have k4:K.get 4=aN 25 R.1.cells:=by rw[<-hK];simp
 have kt:dm K 5:=λ b hb=>by rw[<-hK];simp[show ¬b=0 by omega,show ¬b=1 by omega,show ¬b=2 by omega,show ¬b=3 by omega,show ¬b=4 by omega]
 clear hK;have hpt:∀v:AV,patch [aM.ds w.aY.tables,bw.ds w.aY.indexes,v,zI 0,.str [],.int .u32 0,.str [],nS,.int .u32 0,.int .u32 0,.int .u32 0,.str [],nS,.bool false,.int .u32 0,nS,nS,nS,nS,nS,nS,nS,nS,nS,nS,.bool false,.bool false,zI 0,nS,nS,nS,zI 0] 3 R.1.cells=some (dC (aM.ds w.aY.tables) (bw.ds w.aY.indexes) v R.1 nS nS nS 0):=λ v=>rfl;simp[aje];refine bF.of (dX (l:=[(24,[.agg [aM.ds w.aY.tables,bw.ds w.aY.indexes,iO.ds w.rows] 3],λ H n=>.mk (.agg [aM.ds w.aY.tables,bw.ds w.aY.indexes,tj n w.rows] 3) (H.put n (OV w.rows)) (n+1))]) ?_) ?_
 ·intro y hy;simp only[mc]at hy;subst hy;intro H n v H' n' h;injection h with e1 e2 e3;subst e1 e2 e3;exact HN H n
 have o5:(tj 5 w.rows).one=true:=by unfold tj;split<;>rfl
 simp[ae,f2,f7,k0,k4,bY,hpt];refine⟨by simp[bX,cS,kt 6 ah],?_⟩;generalize hD:dC (aM.ds w.aY.tables) (bw.ds w.aY.indexes) (tj 5 w.rows) R.1 nS nS nS 0=D;generalize hF2:(Fp 9 _ _:Fr)=F2;have g3:F2.get 3=some (.ptr 1 0):=by rw[<-hF2];simp[ae,f3]
 have g4:F2.get 4=some (.ptr 2 0):=by rw[<-hF2];simp[ae,f4]
 have g5:F2.get 5=some (.ptr 3 0):=by rw[<-hF2];simp[ae,f5]
 have g8:F2.get 8=some (zI 0):=by rw[<-hF2];simp[ae,f8]
 have g9:F2.get 9=some (.ptr 6 0):=by rw[<-hF2];simp
 clear hF2 f2 f3 f4 f5 f7 f8 F1;generalize hK2:Tr.put (Tr.put K 5 _) 6 _=K2
 obtain⟨r0,hr0,PT,j5⟩:∃r0,(r0=5∨r0=4)/\tj 5 w.rows=V r0/\K2.get r0=some (.cells RC.length [] RC .nil):=by
  rcases hV with⟨h1,h2,h3⟩|⟨h1,h2,h3⟩
  ·exact⟨5,.inl rfl,by rw[h3];simp[tj,h1],by rw[<-hK2,h2];simp[OV,h1]⟩
  exact⟨4,.inr rfl,by rw[h3];simp[tj,h1],by rw[<-hK2,h2,hR];simp[k4]⟩
 rw[PT]at o5 hD;have j6:K2.get 6=aN 32 D:=by rw[<-hK2];simp
 have j1:K2.get 1=aN 31 xs:=by rw[<-hK2];simp[k1]
 have j2:K2.get 2=aN 3 [nS,nS,nS]:=by rw[<-hK2];simp[k2]
 have j3:K2.get 3=aN 4 [nS,nS,nS,zI 0]:=by rw[<-hK2];simp[k3]
 have t7:dm K2 7:=λ b hb=>by rw[<-hK2];simp[show ¬b=5 by omega,show ¬b=6 by omega,kt b ah]
 clear hK2 k0 k1 k2 k3 k4 kt K;have hw:=ajC x.kind (K2.put 7 (some (.map xm 8))) 7 (by rw[Tr.get_put,ay rfl]);rw[hg]at hw;have hn:fg .i (.aV .nilFunc) false (.map 7) (zI x.kind) .nil=.fail:=by unfold fg;simp
 have hw0:fg .i (.aV .nilFunc) false (.map 7) (zI x.kind) K2=.fail:=by unfold fg;simp[t7 7 ah]
 simp[ajd];refine bF.of (dX (l:=[(25,[],λ H n=>.mk (.map n) (H.put n (some (.map xm 8))) (n+1))]) ?_) ?_
 ·intro y hy;simp only[mc]at hy;subst hy;intro H n v H' n' h;injection h with e1 e2 e3;subst e1 e2 e3;exact ajA H n
 simp[ae,g3,j1,bY,hw,hn,x0];generalize hF3:(Fp 10 _ _:Fr)=F3;have h4:F3.get 4=some (.ptr 2 0):=by rw[<-hF3];simp[ae,g4]
 have h5:F3.get 5=some (.ptr 3 0):=by rw[<-hF3];simp[ae,g5]
 have h9:F3.get 9=some (.ptr 6 0):=by rw[<-hF3];simp[ae,g9]
 have h10:F3.get 10=some (.fn (.func g) [] []):=by rw[<-hF3];simp
 clear hF3 g3 g4 g5 g8 g9 F2;generalize hK3:Tr.put K2 7 _=K3;have l5:K3.get r0=some (.cells RC.length [] RC .nil):=by rw[<-hK3];simp[j5,show ¬r0=7 by omega]
 have l6:K3.get 6=aN 32 D:=by rw[<-hK3];simp[j6]
 have l2:K3.get 2=aN 3 [nS,nS,nS]:=by rw[<-hK3];simp[j2]
 have l3:K3.get 3=aN 4 [nS,nS,nS,zI 0]:=by rw[<-hK3];simp[j3]
 have t8:dm K3 8:=λ b hb=>by rw[<-hK3];simp[show ¬b=7 by omega,t7 b ah]
 clear hK3 j5 j6 j1 j2 j3 t7 hw hw0 K2;have hwy:=way K3 8 6 r0 (by rw[l6,<-hD];simp[dC]) l5 ah t8;have hne:kG true .func (.fn (.func g) [] []) (.aV .nilFunc)=.val (.bool true):=by simp[kG,ji]
 simp[ajc,h10,hne,ajb,h9];refine aB.of hwy λ u K m ⟨hu,hy,hf,hm⟩=>?_;subst hu;have m2:=(hf 2 ah ah).trans l2;have m3:=(hf 3 ah ah).trans l3;have m5:=(hf r0 ah ah).trans l5
 by_cases he:e=0
 ·obtain⟨W,y,hy6,hoy,hos,hbl⟩:=hy he;have hW:=hos.one;have sh:=λ F:Fr=>eG.norm F hy6 hoy;rw[alT]at sh;generalize hK4:Tr.put K 6 (aN 32 (dC (aM.ds w.aY.tables) (bw.ds w.aY.indexes) (V r0) R.1 N C W c))=K4 at sh;have n6:K4.get 6=aN 32 (dC (aM.ds w.aY.tables) (bw.ds w.aY.indexes) (V r0) R.1 N C W c):=by rw[<-hK4];simp
  have n5:K4.get r0=some (.cells RC.length [] RC .nil):=by rw[<-hK4];simp[m5,show ¬r0=6 by omega]
  have n2:K4.get 2=aN 3 [nS,nS,nS]:=by rw[<-hK4];simp[m2]
  have n3:K4.get 3=aN 4 [nS,nS,nS,zI 0]:=by rw[<-hK4];simp[m3]
  have awF:aD K4 m W cs len 1:=hos.frame (aL _) λ c hc=>by rw[<-hK4,Tr.get_put,ak (by have:=hbl c hc;omega)]
  clear hK4;have ld1:∀H:Hp,H.get 6=aN 32 (dC (aM.ds w.aY.tables) (bw.ds w.aY.indexes) (V r0) R.1 N C W c)->eE 3 (.ptr 6 0) H=.val (.agg [aM.ds w.aY.tables,bw.ds w.aY.indexes,V r0] 3):=λ H h=>by simp[eE,h];rfl
  have ld2:pT (K4.get 6) 28 4=.val (.agg [N,C,W,zI c] 4):=by rw[n6];rfl
  have o1:(aM.ds w.aY.tables).one=true/\(bw.ds w.aY.indexes).one=true:=⟨rfl,rfl⟩;simp[he,NS,adE];refine bF.ofZ (bq (P:=pG)) (sh _) ?_;simp[ae,h4,h5,h9,ld1 K4 n6,ld2,n2,n3,o1,hN,hW,o5];refine⟨r0,W,rfl,λ h0=>⟨by simp[n5,show ¬r0=2 by omega,show ¬r0=3 by omega],ah,λ h=>by have:=hbl r0 h;omega⟩,awF.frame (aL _) λ c hc=>?_⟩;have:=hbl c hc;simp[show ¬c=2 by omega,show ¬c=3 by omega]
 simp[NS,he,adF,h4,h5,m2,m3];rfl
theorem ZB (w:qf) (hw:w.gA) (x:dE) (hb:aj pG 23 [lj.av w.aY,x.av] (.br [.agg (cu w.aY x).1.cells 25,zI (cu w.aY x).2])) (ok:iV w) (hb0:(cu w.aY x).2=0) (hS:∀L∈w.rows,aj pG 58 [dB L] (dR L)) (g:Nat) (hg:OJ x.kind=.fn (.func g) [] []) (e:Int) (N C:AV) (hN:N.one=true/\C.one=true) (hP:Pure N/\Pure C) (c:Int) (cs:List AV) (hcs:aS cs) (len:Nat)
  (way:∀V RC,ZL w (cu w.aY x).1 V RC->amI g (dC (aM.ds w.aY.tables) (bw.ds w.aY.indexes) nS (cu w.aY x).1 nS nS nS 0) V RC e (λ r W=>dC (aM.ds w.aY.tables) (bw.ds w.aY.indexes) (V r) (cu w.aY x).1 N C W c) cs len):
  ∃R,R.one=true/\Pure R/\aj pG 10 [mX.av w,x.av] (if e=0 then resV (aM.ds w.aY.tables) (bw.ds w.aY.indexes) R N C (.ds cs len 1) c 0 else JA e):=by
 obtain⟨V,RC,R,hV,ho,hp,hR⟩:∃V RC R,ZL w (cu w.aY x).1 V RC/\R.one=true/\Pure R/\(w.rows=[]->∀r,V r=R)/\(w.rows≠[]->R=iO.ds w.rows/\RC=w.rows.map dR/\∀r,V r=.sl r 0 w.rows.length 1):=by
  by_cases h0:w.rows=[]
  ·exact⟨_,_,nS,.inr ⟨h0,rfl,rfl⟩,rfl,ai,λ _ _=>rfl,λ h=>aw h0 h⟩
  exact⟨_,_,iO.ds w.rows,.inl ⟨h0,rfl,rfl⟩,rfl,ai,λ h=>aw h h0,λ _=>⟨rfl,rfl,λ _=>rfl⟩⟩
 refine⟨R,ho,hp,?_⟩;have hpu:Pure (resV (aM.ds w.aY.tables) (bw.ds w.aY.indexes) R N C (.ds cs len 1) c 0):=by simp[resV,hP,hcs,hp]
 have base:=ZC w hw x hb ok hb0 hS g hg e N C hN c V RC cs len hV (way V RC hV)
 by_cases he:e=0
 ·rw[ay he];simp only[he,if_true]at base
  have fin:∀ {K:Hp} {v R' W:AV},v=resV (aM.ds w.aY.tables) (bw.ds w.aY.indexes) R' N C W c 0->fj K.get R' R->fj K.get W (.ds cs len 1)->fj K.get v (resV (aM.ds w.aY.tables) (bw.ds w.aY.indexes) R N C (.ds cs len 1) c 0):=λ hv fz fw=>by
   subst hv;exact .br _ _ (.cons _ _ _ _ (.agg _ _ _ (.cons _ _ _ _ fp (.cons _ _ _ _ fp (.cons _ _ _ _ fz .nil)))) (.cons _ _ _ _ (.agg _ _ _ (.cons _ _ _ _ (.pure _ hP.1) (.cons _ _ _ _ (.pure _ hP.2) (.cons _ _ _ _ fw (.cons _ _ _ _ fp .nil))))) (.cons _ _ _ _ fp .nil)))
  by_cases h0:w.rows=[]
  ·refine aj.ofR ai hpu (base.mono λ u K k ⟨r,W,hu,_,hos⟩=>fin hu ?_ (hos.nz (bp.pure hcs) ah));rw[hR.1 h0];exact .pure _ hp
  refine aj.ofR ai hpu (base.zs λ u K k ⟨r,W,hu,hr,hos⟩=>?_);obtain⟨rfl,rfl,hVr⟩:=hR.2 h0;obtain⟨hr,hk,hWr⟩:=hr h0;refine⟨λ _=>none,K.put r (some (.cells (w.rows.map dR).length [] (iO.l w.rows) .nil)),u,⟨λ b x h=>by simp at h,λ b h=>aw rfl h,λ b x h=>?_⟩,FJ.refl _ _,?_⟩
  ·rw[Tr.get_put]at h
   by_cases e:b=r
   ·subst e;rw[ay rfl]at h;injection h with h;subst h;obtain⟨u,z,bs,t',h1,q1,q3,_⟩:=OwnB.list (l:=w.rows.map dR) (rfl:(w.rows.map dR).length=_);exact⟨_,hr,.inr ⟨u,z,bs,t',iO.l w.rows,h1,by rw[q1],by rw[q1,(CY (λ _=>none) w.rows).length],λ i v hv=>by rw[q3];exact(CY _ w.rows).at i v hv⟩⟩
   rw[ak e]at h;exact⟨x,h,.inl rfl⟩
  refine fin hu ?_ ?_
  ·rw[hVr];exact(show aD (K.put r (some (.cells (w.rows.map dR).length [] (iO.l w.rows) .nil))) k (.sl r 0 w.rows.length 1) (iO.l w.rows) w.rows.length 1 from⟨ai,.inr ⟨r,_,rfl,hk,(Tr.get_put _ _ _ _).trans (ay rfl),OwnB.list ai⟩⟩).nz (bp.pure ai) ah
  exact(hos.frame (aL _) λ c hc=>by
   rw[Tr.get_put,ak];intro e;rw[e]at hc;exact hWr hc).nz (bp.pure hcs) ah
 rw[ak he];simp only[he,if_false]at base;exact aj.ofR ai (mQ e) (base.mono λ u K k hu=>by subst hu;exact .pure _ (mQ e))
theorem uC {S:Type}{C:Cons S}{I:S->Prop}{Rw:List Val->Prop}(hE:∀s e,I s->I (C.E s e))(hY:∀s row,I s->Rw row->I (C.Y s row))(on:List Ex)(row:List Val):∀(L:List (List Val))(s:S),(∀r∈L,Rw (row++r))->I s->I (cQ C on row L s)
 |[],s,_,h=>h
 |r :: rs,s,hr,h=>by
  unfold cQ;have h1:=hE s (bL (row++r) on).2 h;have h2:=hY _ _ h1 (hr r ai)
  split
  ·split
   ·exact uC hE hY on row rs _ (λ x hx=>hr x (by simp[hx])) h2
   exact h2
  exact uC hE hY on row rs _ (λ x hx=>hr x (by simp[hx])) h1
theorem xN {S:Type}{I:S->Prop}{Rw:Nat->List Val->Prop}(on:List (List Ex))(tabs:List (List (List Val))):∀(j:Nat)(C:Cons S),(∀s e,I s->I (C.E s e))->(∀s row,I s->Rw j row->I (C.Y s row))->(∀i,i<j->∀row,Rw i row->∀r∈tabs.getD i [],Rw (i+1) (row++r))->Rw 0 []->∀s,I s->I (oW on tabs j C s)
 |0,C,_,hY,_,h0,s,hs=>by unfold oW;exact hY _ _ hs h0
 |j+1,C,hE,hY,ht,h0,s,hs=>by
  unfold oW;refine xN (I:=I) (Rw:=Rw) on tabs j {C with Y:=λ s row=>cQ C (on.getD j []) row (tabs.getD j []) s} hE (λ s row hs hr=>?_) (λ i hi=>ht i ah) h0 s hs;exact uC (Rw:=Rw (j+1)) hE hY _ _ _ _ (λ r hr'=>ht j ah row hr r hr') hs
theorem JS {a b:Int}(h:je a b=0):a=0/\b=0:=by
 unfold je at h
 split at h
 ·exact⟨by assumption,h⟩
 split at h
 ·omega
 simp only[Int.min_def]at h;split at h<;>omega
theorem YW (row:List Val):∀(l:List Ex)(a:Int),oo row l a=0->a=0/\∀e∈l,(mW row e).2=0
 |[],a,h=>⟨h,ai⟩
 |e :: r,a,h=>by
  have h':oo row r (je a (mW row e).2)=0:=h;obtain⟨h1,h2⟩:=YW row r _ h';obtain⟨h3,h4⟩:=JS h1
  exact⟨h3,λ x hx=>by
   rcases mem_cons.1 hx with rfl|hx
   ·exact h4
   exact h2 x hx⟩
theorem eA:fq.may=true:=by decide
theorem pC (b:Bool):(dx b).may=true:=by cases b<;>decide
theorem xU (a b:Val)(r:Int×Bool):(jY a b r).1.may=true:=by
 unfold jY
 split
 ·exact eA
 split
 ·simp[Val.may]
 exact eA
theorem ae9 (op:Int) (a b:Val):(XE op a b).1.may=true:=by
 unfold XE
 split
 ·unfold Vu
  split
  ·exact xU _ _ _
  split
  ·unfold Dy;split;exact eA;exact pC _
  split<;>exact pC _
 have hd:∀r,(Il a b r).1.may=true:=λ r=>by unfold Il;split;exact eA;exact xU _ _ _
 have hc:∀r,(j9 a b r).1.may=true:=λ r=>by
  unfold j9
  split
  ·exact eA
  split
  ·exact eA
  split;exact eA;exact pC _
 have hb:∀c,(lV c a b).1.may=true:=λ c=>by
  unfold lV
  split
  ·exact eA
  split
  ·exact pC _
  split;exact eA;exact pC _
 have hj:(HE a b).1.may=true:=by
  unfold HE
  split
  ·exact eA
  split
  ·rename_i h;simp[Val.may,h]
  exact eA
 unfold biS;have key:∀ {p:Prop} [Decidable p] {x y:Val×Int},x.1.may=true->y.1.may=true->(if p then x else y).1.may=true:=λ {p} _ {x y} hx hy=>by split<;>assumption
 repeat' (first|exact xU _ _ _|exact hd _|exact hj|exact hc _|exact hb _|refine key ?_ ?_)
theorem alI {row:List Val}(hr:iI row)(e:Ex)(h:e.Aj (row.length:Int)=true):(e.ev row).1.may=true:=by
 obtain⟨op,v,t,m,cD,args⟩:=e;unfold Ex.Aj at h;unfold Ex.ev;simp only[dU,Bool.not_eq_true',Bool.or_eq_false_iff,Bool.and_eq_false_iff,decide_eq_false_iff_not,Bool.not_eq_false']at h
 by_cases h1:op=1
 ·rw[ay h1];have:=h.2.1.1;simpa[h1]using this
 rw[ak h1]
 by_cases h3:op=3
 ·rw[ay h3];show (row.getD cD.toNat fq).may=true
  by_cases hl:cD.toNat<row.length
  ·rw[getD,cY hl];exact hr _ (dy hl)
  rw[getD,getElem?_eq_none ah];exact eA
 rw[ak h3]
 cases Ex.BN row args with
 |inl e=>exact eA
 |inr l=>exact ae9 _ _ _
theorem UY (row:List Val)(e:Ex):(mW row e).1.may=true:=by
 unfold mW
 split
 ·rename_i h
  split
  ·rename_i h2;exact alI (λ v hv=>all_eq_true.1 h2 v hv) e h
  exact eA
 exact eA
theorem TL (row:List Val)(l:List Ex):iI (fo row l):=λ v hv=>by
 unfold fo at hv;obtain⟨e,_,rfl⟩:=mem_map.1 hv;exact UY _ _
theorem xZ (on:List (List Ex)) (tabs:List (List (List Val))) (w it:List Ex) (j:Nat):∀r∈(gJ on tabs w it j).rows,iI r/\r.length=it.length:=by
 unfold gJ;refine xN (I:=λ s:sW=>∀r∈s.rows,iI r/\r.length=it.length) (Rw:=λ _ _=>True) on tabs j _ (λ s e h=>h) (λ s row h _=>?_) (λ _ _ _ _ _ _=>trivial) trivial _ ai;show ∀r∈(tz w it s row).rows,_;unfold tz
 split
 ·split
  ·exact h
  intro r hr
  rcases mem_append.1 hr with hr|hr
  ·exact h r hr
  rw[mc]at hr;subst hr;exact⟨TL _ _,by simp[fo]⟩
 exact h
end Go.Abs
