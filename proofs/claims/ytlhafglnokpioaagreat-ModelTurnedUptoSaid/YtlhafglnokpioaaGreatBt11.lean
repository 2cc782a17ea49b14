/- A part. -/
import Derived.Test.YtlhafglnokpioaaGreatBt10
noncomputable section
namespace Go.Abs
open List
open Go.Proofs
open Classical
set_option maxRecDepth 100000
theorem GG {S:Type}{C C':Cons S}(h1:C.E=C'.E)(h2:C.Y=C'.Y)(h3:C.go=C'.go)(on:List Ex)(row:List Val):∀(L:List (List Val))(s:S),cH C on row L s=cH C' on row L s
 |[],s=>rfl
 |r::rs,s=>by
  unfold cH;rw[h1,h2,h3];simp only[GG h1 h2 h3 on row rs]
theorem CZ {S:Type}(on:List (List Ex))(tabs:List (List (List Val))):∀(j:Nat){C C':Cons S},C.E=C'.E->C.Y=C'.Y->C.go=C'.go->∀s:S,pJ on tabs j C s=pJ on tabs j C' s
 |0,C,C',_,h2,_,s=>by unfold pJ;rw[h2]
 |j+1,C,C',h1,h2,h3,s=>by
  unfold pJ;exact CZ (C:={C with Y:=λ s row=>cH C (on.getD j []) row (tabs.getD j []) s}) (C':={C' with Y:=λ s row=>cH C' (on.getD j []) row (tabs.getD j []) s}) on tabs j h1 (by funext s row;exact GG h1 h2 h3 _ _ _ _) h3 s
theorem Clo.next {X:oD}{own own':Nat->Prop}{K K3:Hp}{m m3:Nat}:∀ {j:Nat}{g:FuncId}{caps:List AV},Clo X own K m j g caps->(∀x,x<m->K3.get x=K.get x)->(∀x,x<m->own' x->own x)->m<=m3->Clo X own' K3 m3 j g caps
 |0,_,_,h,_,_,_=>h
 |j+1,g,caps,⟨a,b,c,d,h1,h2,ka,kb,kc,kd,hlt,na,nb,nc,nd⟩,hk,ho,hm=>by
  obtain⟨la,lb,lc,ld⟩:=hlt;exact⟨a,b,c,d,h1,h2,(hk a la).trans ka,(hk b lb).trans kb,(hk c lc).trans kc,λ t ht=>(hk d ld).trans (kd t ht),ae,λ h=>na (ho a la h),λ h=>nb (ho b lb h),λ h=>nc (ho c lc h),λ h=>nd (ho d ld h)⟩
def agz (X:oD)(j:Nat):Prop:=∀(S:Type)(C:Cons S)(y bd:Nat),qi X C y (bd+1000*j)->bd+1000*j<=100000->∀(s:S)(own:Nat->Prop)(H:Hp)(n:Nat),C.J s own H n->C.go s=true->dh H n->H.get X.p=aR 32 X.D->∀(g:FuncId)(caps:List AV),Clo X own H n j g caps ->
 ak pG g (.jd y::caps) H n (λ _ K m=>Post C (pJ X.on X.tabs j C s) own H n K m)
theorem apW (X:oD):agz X 0:=by
 intro S C y bd qD hbd s own H n hJ hg ht hp g caps hc;obtain⟨rfl,rfl⟩:=hc;exact apY qD hJ hg ht
theorem apX {X:oD}(ok:X.ok){j:Nat}(hj:j<X.iR.length) (ih:agz X j):agz X (j+1):=by
 intro S C y bd qD hbd s own H n hJ hg ht hp g caps hc;obtain⟨a,b,c,d,rfl,rfl,ka,kb,kc,kd,⟨la,lb,lc,ld⟩,na,nb,nc,nd⟩:=hc;have hfl:=ok.fl;obtain⟨k,hkl,hka,hkR⟩:=ok.ix j hj;have kd:=kd _ (cX hj);rw[hka]at kd;have pn:=ht.lt hp;refine ak.of c215 (by simp[A215]) λ F hF=>?_;have f1:F.get 1=some (.ptr a 0):=by simp[hF]
 have f2:F.get 2=some (.ptr b 0):=by simp[hF]
 have f3:F.get 3=some (.ptr c 0):=by simp[hF]
 have f4:F.get 4=some (.ptr d 0):=by simp[hF]
 simp[A215,hF];generalize hK:Tr.put H n _=K;have kf:∀e,e<n->K.get e=H.get e:=λ e he=>by rw[<-hK];simp[show ¬e=n by omega]
 have kn:K.get n=aR 1 [.jd y]:=by rw[<-hK];simp[AV.len,AV.cells]
 have kt:dh K (n+1):=λ e he=>by rw[<-hK];simp[show ¬e=n by omega,ht e ae]
 clear hK;have w1:IntKind.i64.wrap (j:Int)=(j:Int):=by simp[IntKind.wrap,IntKind.signed,IntKind.bits];omega
 simp[aci,hF,(kf a la).trans ka,(kf b lb).trans kb,(kf c lc).trans kc,w1];have hown:∀x,own x->x<n:=λ x hx=>qD.lt hJ x hx;refine aB.of (af6 ok j ae (λ x=>own x∨x=n∨x=a∨x=b∨x=c∨x=d) K (n+1) (λ x hx=>by rcases hx with h|h;have:=hown x h;omega;omega) ((kf X.p pn).trans hp) kt) λ u K2 m ⟨g,caps,hu,hcl,k2,hm,t2⟩=>?_;subst hu;simp;refine KJ.of ?_;generalize hF1:(Fp 16 _ _:Fr)=F1;have B:InB X y j m n a b c d (k:Int) F1:=⟨ae,by rw[<-hF1];simp[f1],by rw[<-hF1];simp[f2],by rw[<-hF1];simp[f3],by rw[<-hF1];simp[f4],by rw[<-hF1];simp⟩;clear hF1 hF F f1 f2 f3 f4;generalize hK3:Tr.put (Tr.put K2 _ _) _ _=K3;have k3:∀e,e<m->K3.get e=K2.get e:=λ e he=>by rw[<-hK3];simp[show ¬e=m by omega,show ¬e=m+1 by omega]
 have z3:K3.get m=some (.loop .ready .normal 60 F1 [17] ei.1 ei.2):=by rw[<-hK3];simp
 have w3:K3.get (m+1)=some .jS:=by rw[<-hK3];simp
 have t3:dh K3 (m+2):=λ e he=>by rw[<-hK3];simp[show ¬e=m by omega,show ¬e=m+1 by omega,t2 e ae]
 clear hK3;have kk:∀e,e<n->K3.get e=H.get e:=λ e he=>(k3 e ae).trans ((k2 e ae).trans (kf e he))
 have six:∀x,qe m n a b c d x->¬own x:=λ x hx h=>by
  have:=hown x h;simp only[qe]at hx
  rcases hx with e|e|e|rfl|rfl|rfl|rfl
  ·omega
  ·omega
  ·omega
  ·exact na h
  ·exact nb h
  ·exact nc h
  exact nd h
 have hRk:X.RC[k]=dN (X.tabs.getD j []):=by
  have hjt:j<X.tabs.length:=by have:=ok.tl;omega
  rw[hkR];simp[getD,hjt]
 have okI:=ap3 ok (bd:=bd+1000*j) (by rw[show bd+1000*j+1000=bd+1000*(j+1) by omega];exact qD) ae hj B hkl hRk
 have J3:CmJ X C y j m n a b c d (k:Int) F1 s (λ x=>own x∨qe m n a b c d x) K3 (m+2):=
  ⟨own,qD.fr hJ (λ x hx=>kk x (hown x hx)) ae,λ x=>Iff.rfl,six,ae,⟨(kk a la).trans ka,(kk b lb).trans kb,(kk c lc).trans kc,(kk d ld).trans kd,(k3 n ae).trans ((k2 n ae).trans kn),w3⟩,by rw[z3,aw hg,aw hg]⟩
 refine ak.mono (ih S (inC X C y j m n a b c d (k:Int) F1) m bd okI ae s (λ x=>own x∨qe m n a b c d x) K3 (m+2) J3 hg t3 ((kk X.p pn).trans hp) g caps (hcl.next k3 (λ x hx ho=>?_) ae)) λ u K' m' ⟨own',⟨apc,J',hown',Ym,hM',hK',hl'⟩,t',hm',hf',ho'⟩=>?_
 ·rcases ho with h|h
  ·exact .inl h
  simp only[qe]at h
  rcases h with h|h|h|h
  ·omega
  ·omega
  ·exact .inr (.inl h)
  exact .inr (.inr h)
 have hrun:pJ X.on X.tabs j (inC X C y j m n a b c d (k:Int) F1) s=pJ X.on X.tabs (j+1) C s:=by
  rw[pJ];exact CZ (C:=inC X C y j m n a b c d (k:Int) F1) (C':={C with Y:=λ s row=>cH C (X.on.getD j []) row (X.tabs.getD j []) s}) X.on X.tabs j rfl rfl rfl s
 rw[hrun]at J' hl';generalize pJ X.on X.tabs (j+1) C s=sF at J' hl' ⊢
 have fin:Post C sF own H n ((K'.put m none).put (m+1) none) m':=by
  have g:∀x,x≠m->x≠m+1->((K'.put m none).put (m+1) none).get x=K'.get x:=λ x h1 h2=>by rw[Tr.get_put,ai h2,Tr.get_put,ai h1]
  refine⟨apc,qD.fr J' (λ x hx=>g x (λ e=>Ym m (by simp[qe]) (e▸hx)) (λ e=>Ym (m+1) (by simp[qe]) (e▸hx))) (aK _),λ x hx=>?_,ae,λ x hx hnx=>?_,λ x hx=>?_⟩
  ·by_cases e1:x=m
   ·omega
   by_cases e2:x=m+1
   ·omega
   rw[g x e1 e2];exact t' x hx
  ·rw[g x ae ae]
   by_cases e1:x=a
   ·subst e1;exact hK'.ka.trans ka.symm
   by_cases e2:x=b
   ·subst e2;exact hK'.kb.trans kb.symm
   by_cases e3:x=c
   ·subst e3;exact hK'.kc.trans kc.symm
   by_cases e4:x=d
   ·subst e4;exact hK'.kd.trans kd.symm
   refine(hf' x ae λ h=>?_).trans (kk x hx)
   rcases h with h|h
   ·exact hnx h
   simp only[qe]at h;omega
  rcases ho' x ((hown' x).2 (.inl hx))with h|h
  ·rcases h with h|h
   ·exact .inl h
   exact ar hx (Ym x h)
  exact .inr ⟨ae,h.2⟩
 have hkm:(K'.put m none).get (m+1)=some .jS:=by rw[Tr.get_put,ai ae];exact hK'.km
 have afI:dF [.cG (m+1)] (K'.put m none)=some ((K'.put m none).put (m+1) none):=by rw[kZ hkm];simp[dF]
 unfold U8
 cases hgo:C.go sF with
 |true =>
  have hgo':(inC X C y j m n a b c d (k:Int) F1).go sF=true:=hgo;rw[aw hgo,aw hgo]at hl';refine⟨_,_,_,_,_,_,_,hl',ah,ah,?_⟩;simp[afI];exact fin
 |false =>
  rw[ai (by simp[hgo]),ai (by simp[hgo])]at hl';refine⟨_,_,_,_,_,_,_,hl',ah,ah,?_⟩;simp[afI];exact fin
theorem O5 {X:oD}(ok:X.ok):∀j,j<=X.iR.length->agz X j
 |0,_=>apW X
 |j+1,h=>apX ok ae (O5 ok j ae)
def Vv (row:List Val)(l:List Ex)(q:Nat)(a:Int):Hp->Nat->iC:=λ H n=>if H.get q=aR 1 [zI a]/\q<n then .mk (ay (eG row l)) (H.put q (aR 1 [zI (rj row l a)])) n else .fail
theorem I6 {rv:AV}{row:List Val}(hr:jD rv row)(l:List Ex)(hl:l.length<=aU)(hs:∀e∈l,e.sz<=aU)(q:Nat)(a:Int):∀H n v H' n',Vv row l q a H n=.mk v H' n'->bu pG 144 [jg.ds l,rv,.fn (.func 165) [] [.ptr q 0]] H n v H' n':=by
 intro H n v H' n' h;unfold Vv at h
 by_cases hc:H.get q=aR 1 [zI a]/\q<n
 ·rw[aw hc]at h;injection h with e1 e2 e3;subst e1 e2 e3;obtain⟨hq,qn⟩:=hc;refine ak.okB [q] ah (by simp[iK,qn];exact⟨(show Pure (jg.ds l) by simp).jU,hr.pure.jU⟩) (by simpa using qn) (λ b hb k hk=>?_) (bU ah) λ H0 ht hL=>?_
  ·have:b=q:=by simpa using hb
   subst this;rw[hq]at hk;injection hk with hk;subst hk;exact bU ah
  refine(Tv hr l hl hs H0 n q a ((hL q ah).trans hq) qn ht).mono λ u K k ⟨q1,q2,q3,_⟩=>?_;subst q1;exact⟨.pure _ ah,q3,_,q2,.inl rfl⟩
 rw[ai hc]at h;cases h
structure uo where
 rows:List (List Val)
 acc:Int
 go:Bool
def rQ (w:List Ex)(it:List Ex)(s:uo)(row:List Val):uo:=
 if (dX row w).1=true then (if s.rows.length=4096 then {s with acc:=gQ s.acc (dX row w).2,go:=false} else {s with rows:=s.rows++[eG row it],acc:=rj row it (gQ s.acc (dX row w).2)})else {s with acc:=gQ s.acc (dX row w).2}
structure QPl (X:oD)(n f M:Nat):Prop where
 o:X.p<n/\X.r<n/\X.q=n+2/\n+2<f/\f<M
 pr:X.p≠X.r
def aoW (X:oD) (n f M:Nat) (F1:Fr):uo->(Nat->Prop)->Hp->Nat->Prop:=λ s own K m =>
 ∃v k,(∀x,own x↔x=X.p∨x=X.r∨x=n∨x=n+1∨x=n+2∨x=f∨x=M∨x=M+1∨blk v=some x)/\(∀x,blk v=some x->M+1<x/\x<m)/\M+1<m /\
  K.get X.p=some k/\OwnB k (X.D.set 30 v)/\aC K m v (aJ s.rows) s.rows.length 1/\K.get X.r=some (.cells X.RC.length [] X.RC .nil) /\
  K.get n=aR 1 [.ptr X.p 0]/\K.get (n+1)=aR 1 [zI (if s.go=true then 0 else 4)]/\K.get (n+2)=aR 1 [zI s.acc]/\K.get f=aR 1 [.fn (.func 165) [] [.ptr X.q 0]] /\
  K.get M=some (.loop (if s.go=true then .ready else .done) (if s.go=true then .normal else .ret) 148 F1 [38] kE.1 kE.2)/\K.get (M+1)=some .jS/\s.rows.length<=4096
def yg (X:oD)(n f M:Nat)(F1:Fr)(w it:List Ex):Cons uo:=⟨aoW X n f M F1,uo.acc,λ s e=>{s with acc:=gQ s.acc e},rQ w it,uo.go⟩
structure QD (X:oD)(w it:List Ex):Prop where
 dl:X.D.length=32
 d2:0<X.iR.length->X.D[2]?=some (.sl X.r 0 X.RC.length 1)
 d19:X.D[19]?=some (oY.ds X.on)
 d20:X.D[20]?=some (jg.ds w)
 d21:X.D[21]?=some (jg.ds it)
 wl:w.length<=aU
 ws:∀e∈w,e.sz<=aU
 il:it.length<=aU
 is:∀e∈it,e.sz<=aU
theorem AL {X:oD}(v:AV){i:Nat}(hi:i≠30):(X.D.set 30 v)[i]?=X.D[i]?:=getElem?_set_ne ae
set_option maxHeartbeats 1000000 in
theorem ajV {X:oD}{w it:List Ex}(d:QD X w it){n f M:Nat}(P:QPl X n f M){F1:Fr}(f1:F1.get 1=some (.ptr n 0)) (f2:F1.get 2=some (.ptr (n+1) 0)) (f3:F1.get 3=some (.ptr f 0)){s:uo}{own:Nat->Prop}{K:Hp}{m:Nat}{rv:AV}{row:List Val}(hJ:aoW X n f M F1 s own K m) (hg:s.go=true) (ht:dh K m) (O9:jD rv row):
  Yields M rv K m (λ b0 K' m'=>b0=(rQ w it s row).go/\Post (yg X n f M F1 w it) (rQ w it s row) own K m K' m'):=by
 obtain⟨v,k,hown,hv,hM,kp,ho,hos,kr,kn,wV,kq,kf,kM,kM1,ahe⟩:=hJ;obtain⟨pn,rn,hq,hf,hfM⟩:=P.o;have hpr:=P.pr;rw[aw hg,aw hg]at kM;rw[aw hg]at wV;refine Yields.of kM (by simp[mU];rfl) ?_
 have fin:∀(K':Hp) (m':Nat) (s':uo) (v':AV) (k':bG) (o:lO),((s'.go=true/\o=.normal)∨(s'.go=false/\o=.ret))->m<=m'->dh K' m'->(∀x,x<m->¬own x->K'.get x=K.get x)->(∀x,blk v'=some x->blk v=some x∨(m<=x/\x<m'))->K'.get X.p=some k'->OwnB k' (X.D.set 30 v')->aC K' m' v' (aJ s'.rows) s'.rows.length 1->K'.get X.r=K.get X.r->K'.get n=K.get n->K'.get (n+1)=aR 1 [zI (if s'.go=true then 0 else 4)]->K'.get (n+2)=aR 1 [zI s'.acc]->K'.get f=K.get f ->
   K'.get M=some (.loop .busy .normal 148 F1 [38] kE.1 kE.2)->K'.get (M+1)=some .jS->s'.rows.length<=4096 ->
   vj M (λ u H' n'=>∃b0,u=.bool b0/\(b0=s'.go/\Post (yg X n f M F1 w it) s' own K m H' n')) o K' m':=by
  intro K' m' s' v' k' o hgo hm ht' hfr hv' kp' ho' awf kr' Bw avT kq' kf' kM' avW hl'
  have key:∀st jj,(st=if s'.go=true then LoopState.ready else .done)->(jj=if s'.go=true then lO.normal else .ret)->Post (yg X n f M F1 w it) s' own K m (K'.put M (some (.loop st jj 148 F1 [38] kE.1 kE.2))) m':=by
   intro st jj e1 e2;have g:∀x,x≠M->(K'.put M (some (.loop st jj 148 F1 [38] kE.1 kE.2))).get x=K'.get x:=λ x hx=>by rw[Tr.get_put,ai hx]
   refine⟨λ x=>x=X.p∨x=X.r∨x=n∨x=n+1∨x=n+2∨x=f∨x=M∨x=M+1∨blk v'=some x,⟨v',k',λ x=>Iff.rfl,λ x hx=>?_,ae,(g _ ae).trans kp',ho',awf.frame (aK _) λ x hx=>g x ?_,(g _ ae).trans (kr'.trans kr),(g _ ae).trans (Bw.trans kn),(g _ ae).trans avT,(g _ ae).trans kq',(g _ ae).trans (kf'.trans kf),by rw[Tr.get_put,aw rfl,e1,e2],(g _ ae).trans avW,hl'⟩,λ x hx=>?_,hm,λ x hx hnx=>?_,λ x hx=>?_⟩
   ·rcases hv' x hx with h|h
    ·have:=hv x h;omega
    omega
   ·rcases hv' x hx with h|h
    ·have:=hv x h;omega
    omega
   ·rw[g x ae];exact ht' x hx
   ·have hxM:x≠M:=λ e=>hnx ((hown x).2 (by simp[e]));exact(g x hxM).trans (hfr x hx hnx)
   rcases hx with h|h|h|h|h|h|h|h|h
   ·exact .inl ((hown x).2 (.inl h))
   ·exact .inl ((hown x).2 (.inr (.inl h)))
   ·exact .inl ((hown x).2 (.inr (.inr (.inl h))))
   ·exact .inl ((hown x).2 (.inr (.inr (.inr (.inl h)))))
   ·exact .inl ((hown x).2 (.inr (.inr (.inr (.inr (.inl h))))))
   ·exact .inl ((hown x).2 (.inr (.inr (.inr (.inr (.inr (.inl h)))))))
   ·exact .inl ((hown x).2 (.inr (.inr (.inr (.inr (.inr (.inr (.inl h))))))))
   ·exact .inl ((hown x).2 (.inr (.inr (.inr (.inr (.inr (.inr (.inr (.inl h)))))))))
   rcases hv' x h with h|h
   ·exact .inl ((hown x).2 (.inr (.inr (.inr (.inr (.inr (.inr (.inr (.inr h)))))))))
   exact .inr h
  unfold vj;refine⟨_,_,_,_,_,_,_,kM',?_⟩
  rcases hgo with⟨h1,rfl⟩|⟨h1,rfl⟩
  ·exact⟨true,rfl,h1.symm,key _ _ (by simp[h1]) (by simp[h1])⟩
  exact⟨false,rfl,h1.symm,key _ _ (by simp[h1]) (by simp[h1])⟩
 generalize hRU:(λ(u:AV) (H':Hp) (n':Nat)=>∃b0,u=.bool b0/\(b0=(rQ w it s row).go/\Post (yg X n f M F1 w it) (rQ w it s row) own K m H' n'))=RU;rw[ajo];simp[ah5,kM];refine⟨_,_,_,_,_,_,⟨rfl,rfl,rfl,rfl,rfl,rfl⟩,?_⟩;rw[ajn];generalize hF2:(Fp 4 _ _:Fr)=F2;have g1:F2.get 1=some (.ptr n 0):=by rw[<-hF2];simp[f1]
 have g2:F2.get 2=some (.ptr (n+1) 0):=by rw[<-hF2];simp[f2]
 have g3:F2.get 3=some (.ptr f 0):=by rw[<-hF2];simp[f3]
 have g4:F2.get 4=some rv:=by rw[<-hF2];simp
 clear hF2;generalize hK4:Tr.put K M _=K4;have h4:∀x,x≠M->K4.get x=K.get x:=λ x hx=>by rw[<-hK4,Tr.get_put,ai hx]
 have hb4:K4.get M=some (.loop .busy .normal 148 F1 [38] kE.1 kE.2):=by rw[<-hK4];simp
 clear hK4;have t4:dh K4 m:=λ x hx=>by rw[h4 x ae];exact ht x hx
 have an:=(h4 n ae).trans kn;have an1:=(h4 (n+1) ae).trans wV;have aq:=(h4 (n+2) ae).trans kq;have af:=(h4 f ae).trans kf;have ap:=(h4 X.p ae).trans kp
 have ld:∀(i:Nat) (u:AV),i≠30->X.D[i]?=some u->∀H:Hp,H.get X.p=some k->cE (.ptr X.p i) H=.val u:=λ i u hi hu H hH=>by
  rw[<-AL v hi]at hu;obtain⟨hl,he⟩:=nH.1 hu;rw[nJ hH ho hl,he]
 have JL:=IU O9 w d.wl d.ws;generalize hre:dX row w=re at JL;have hYe:rQ w it s row=if re.1=true then (if s.rows.length=4096 then {s with acc:=gQ s.acc re.2,go:=false} else {s with rows:=s.rows++[eG row it],acc:=rj row it (gQ s.acc re.2)})else {s with acc:=gQ s.acc re.2}:=by unfold rQ;rw[hre]
 rw[hYe]at hRU;unfold afJ at JL;simp[ah4,g1,an,ld 20 _ ae d.d20 K4 ap,g4];refine aB.pure JL ?_;simp[ah3,g3,af,hq];refine aB.of (lH s.acc re.2 aq) λ u K5 m5 ⟨hu,a5,hm5,f5⟩=>?_;subst hu;have e5:=hm5.symm;subst e5;have k5:∀x,x≠n+2->x≠M->K5.get x=K.get x:=λ x h1 h2=>(f5 x h1).trans (h4 x h2);have vb:∀x,blk v=some x->x≠n+2/\x≠M:=λ x hx=>by have:=hv x hx;omega
 have ap5:=(f5 X.p ae).trans ap;have an5:=(f5 n ae).trans an;have amk:=(f5 (n+1) ae).trans an1;have af5:=(f5 f ae).trans af;have am5:=(f5 M ae).trans hb4;have aml:=(f5 (M+1) ae).trans ((h4 (M+1) ae).trans kM1);have t5:dh K5 m:=λ x hx=>by rw[f5 x ae];exact t4 x hx
 have os5:aC K5 m v (aJ s.rows) s.rows.length 1:=hos.frame (aK _) λ x hx=>k5 x (vb x hx).1 (vb x hx).2;have fr5:∀x,x<m->¬own x->K5.get x=K.get x:=λ x _ hnx=>k5 x (λ e=>hnx ((hown x).2 (by simp[e]))) (λ e=>hnx ((hown x).2 (by simp[e])))
 cases hb:re.1 with
 |false =>
  simp[Z2];have:=fin K5 m {s with acc:=gQ s.acc re.2} v k .normal (.inl ⟨hg,rfl⟩) (aK _) t5 fr5 (λ x hx=>.inl hx) ap5 ho os5 (k5 X.r ae ae) (k5 n ae ae) (by simpa[hg]using amk) a5 (k5 f ae ae) am5 aml ahe;rw[<-hRU];simpa[hb]using this
 |true =>
  rw[aw hb]at hRU;simp[Z2];have alb:30<(X.D.set 30 v).length:=by rw[length_set,d.dl];omega
  have afn:cE (.ptr X.p 30) K5=.val v:=by rw[nJ ap5 ho alb,getElem_set_self]
  have hlen:=os5.avM;simp[ah2,g1,an5,afn,hlen]
  by_cases h40:s.rows.length=4096
  ·have alf:((s.rows.length:Nat):Int)=4096:=ae;simp[alf,ah1,g2,amk];rw[aw h40]at hRU;rw[<-hRU];refine fin (K5.put (n+1) _) m {s with acc:=gQ s.acc re.2,go:=false} v k .ret (.inr ⟨rfl,rfl⟩) (aK _) (λ x hx=>?_) (λ x hx hnx=>?_) (λ x hx=>.inl hx) ?_ ho (os5.frame (aK _) λ x hx=>?_) ?_ ?_ ?_ ?_ ?_ ?_ ?_ ahe
   ·rw[Tr.get_put,ai ae];exact t5 x hx
   ·rw[Tr.get_put,ai (λ e=>hnx ((hown x).2 (by simp[e])))];exact fr5 x hx hnx
   ·rw[Tr.get_put,ai ae];exact ap5
   ·rw[Tr.get_put,ai (by have:=hv x hx;omega)]
   ·rw[Tr.get_put,ai ae];exact k5 X.r ae ae
   ·rw[Tr.get_put,ai ae];exact k5 n ae ae
   ·rw[Tr.get_put,aw rfl];simp
   ·rw[Tr.get_put,ai ae];exact a5
   ·rw[Tr.get_put,ai ae];exact k5 f ae ae
   ·rw[Tr.get_put,ai ae];exact am5
   rw[Tr.get_put,ai ae];exact aml
  have alf:¬((s.rows.length:Nat):Int)=4096:=ae;rw[ai h40]at hRU;have hvF:=I6 O9 it d.il d.is (n+2) (gQ s.acc re.2)
  have hvE:Vv row it (n+2) (gQ s.acc re.2) K5 m=.mk (ay (eG row it)) (K5.put (n+2) (aR 1 [zI (rj row it (gQ s.acc re.2))])) m:=by
   unfold Vv;rw[aw ⟨a5,ae⟩]
  generalize hr1:ay (eG row it)=r1 at hvE;have r1f:r1.len=1/\r1.cells=[r1]/\r1.one=true:=by rw[<-hr1];exact⟨rfl,rfl,rfl⟩
  generalize hK6:K5.put (n+2) _=K6 at hvE;have k6:∀x,x≠n+2->K6.get x=K5.get x:=λ x hx=>by rw[<-hK6,Tr.get_put,ai hx]
  have a6:K6.get (n+2)=aR 1 [zI (rj row it (gQ s.acc re.2))]:=by rw[<-hK6];simp
  clear hK6;have ap6:=(k6 X.p ae).trans ap5;have an6:=(k6 n ae).trans an5;have apI:cE (.ptr X.p 30) K6=.val v:=by rw[nJ ap6 ho alb,getElem_set_self]
  have hnp:¬n=X.p:=ae;generalize hF3:(Fp 60 _ _:Fr)=F3;have i1:F3.get 1=some (.ptr n 0):=by rw[<-hF3];simp[g1]
  have i3:F3.get 3=some (.ptr f 0):=by rw[<-hF3];simp[g3]
  have i4:F3.get 4=some rv:=by rw[<-hF3];simp[g4]
  clear hF3;simp[alf,Z7];refine bC.of (eh (l:=[(144,[jg.ds it,rv,.fn (.func 165) [] [.ptr (n+2) 0]],Vv row it (n+2) (gQ s.acc re.2))]) ?_) ?_
  ·intro z hz;simp only[mi]at hz;subst hz;exact hvF
  simp[ab,i1,i3,i4,an5,an6,af5,hq,ld 21 _ ae d.d21 K5 ap5,afn,apI,bX,hvE,r1f];refine⟨by simp[cN,dm,t5 m (aK _),k6 m ae],?_⟩;generalize hK7:Tr.put K6 m _=K7;have k7:∀x,x≠m->K7.get x=K6.get x:=λ x hx=>by rw[<-hK7,Tr.get_put,ai hx]
  have x7:K7.get m=aR 1 [r1]:=by rw[<-hK7];simp
  clear hK7;have t7:dh K7 (m+1):=λ x hx=>by rw[k7 x ae,k6 x ae];exact t5 x ae
  have nb:∀x,x<=M+1->∀len sz,v≠.sl x 0 len sz:=λ x hx len sz e=>by
   have:=hv x (by rw[e];rfl);omega
  have os7:aC K7 (m+1) v (aJ s.rows) s.rows.length 1:=os5.frame ae λ x hx=>by
   have:=hv x hx;rw[k7 x ae,k6 x ae]
  refine aC.zr (k:=1) (new:=[r1]) os7 (bD x7) ah ah ae ae (by unfold big;omega) ae (by simp[r1f]) λ K8 o8 g8=>?_;have q8:∀x,x<=M+1->K8.get x=K6.get x:=λ x hx=>(g8 x ae (nb x hx _ _)).trans (k7 x ae)
  have t8:dh K8 (m+2):=λ x hx=>by
   rw[g8 x ae λ e=>by have:=hv x (by rw[e];rfl);omega];exact t7 x ae
  have ap8:=(q8 X.p ae).trans ap6;have an8:=(q8 n ae).trans an6;obtain⟨y,hst,hoy⟩:=tH ap8 ho alb (v:=.sl (m+1) 0 (s.rows.length+1) 1) ⟨rfl,rfl,rfl⟩;rw[set_set]at hoy;simp[ab,i1,an8,an6,an5,hst];generalize hK9:Tr.put K8 X.p _=K9;have k9:∀x,x≠X.p->K9.get x=K8.get x:=λ x hx=>by rw[<-hK9,Tr.get_put,ai hx]
  have p9:K9.get X.p=some y:=by rw[<-hK9];simp
  clear hK9;have q9:∀x,x<=M+1->x≠X.p->K9.get x=K6.get x:=λ x hx hxp=>(k9 x hxp).trans (q8 x hx)
  have o9:aC K9 (m+2) (.sl (m+1) 0 (s.rows.length+1) 1) (aJ (s.rows++[eG row it])) (s.rows++[eG row it]).length 1:=by
   have:aJ (s.rows++[eG row it])=aJ s.rows++[r1]:=by rw[<-hr1];simp[aJ]
   rw[this,length_append];exact o8.frame ae λ x hx=>k9 x (by simp at hx;omega)
  rw[<-hRU];have hvb:∀x,blk v=some x->x≠X.p:=λ x hx e=>by have:=hv x hx;omega
  refine fin K9 (m+2) {s with rows:=s.rows++[eG row it],acc:=rj row it (gQ s.acc re.2)} (.sl (m+1) 0 (s.rows.length+1) 1) y .normal (.inl ⟨hg,rfl⟩) ae (λ x hx=>by rw[k9 x ae];exact t8 x hx) (λ x hx hnx=>?_) (λ x hx=>.inr (by simp at hx;omega)) p9 hoy o9 ?_ ?_ ?_ ?_ ?_ ?_ ?_ ?_
  ·have hxp:x≠X.p:=λ e=>hnx ((hown x).2 (by simp[e]));have hxq:x≠n+2:=λ e=>hnx ((hown x).2 (by simp[e]));have hxv:∀len sz,v≠.sl x 0 len sz:=λ len sz e=>hnx ((hown x).2 (by simp[e]));rw[k9 x hxp,g8 x ae (hxv _ _),k7 x ae,k6 x hxq];exact fr5 x hx hnx
  ·rw[q9 X.r ae (Ne.symm hpr),k6 X.r ae];exact k5 X.r ae ae
  ·rw[q9 n ae ae,k6 n ae];exact k5 n ae ae
  ·rw[q9 (n+1) ae ae,k6 (n+1) ae,amk];simp[hg]
  ·rw[q9 (n+2) ae ae];exact a6
  ·rw[q9 f ae ae,k6 f ae];exact k5 f ae ae
  ·rw[q9 M ae ae,k6 M ae];exact am5
  ·rw[q9 (M+1) ae ae,k6 (M+1) ae];exact aml
  rw[length_append];simp;omega
theorem ajW {X:oD}{w it:List Ex}(d:QD X w it){n f M:Nat}(P:QPl X n f M){F1:Fr}(f1:F1.get 1=some (.ptr n 0))(f2:F1.get 2=some (.ptr (n+1) 0))(f3:F1.get 3=some (.ptr f 0))(bd:Nat):qi X (yg X n f M F1 w it) M bd where
 lt:=by
  rintro s own K m ⟨v,k,hown,hv,hM,_⟩ x hx;obtain⟨pn,rn,hq,hf,hfM⟩:=P.o
  rcases(hown x).1 hx with h|h|h|h|h|h|h|h|h
  ·omega
  ·omega
  ·omega
  ·omega
  ·omega
  ·omega
  ·omega
  ·omega
  exact(hv x h).2
 qo:=by
  rintro s own K m ⟨v,k,hown,hv,hM,kp,ho,hos,kr,kn,wV,kq,kf,kM,kM1,hl⟩;have hq:=P.o.2.2.1;rw[hq];exact⟨(hown _).2 ah,kq⟩
 pd:=by
  rintro s own K m ⟨v,k,hown,hv,hM,kp,ho,_⟩;exact⟨(hown _).2 ah,k,_,kp,ho,λ h=>(AL v ae).trans (d.d2 h),(AL v ae).trans d.d19⟩
 rd:=by
  rintro s own K m ⟨v,k,hown,hv,hM,kp,ho,hos,kr,_⟩;exact⟨(hown _).2 ah,kr⟩
 fr:=by
  rintro s own K m K' m' ⟨v,k,hown,hv,hM,kp,ho,hos,kr,kn,wV,kq,kf,kM,kM1,hl⟩ h hm;have g:∀x,(x=X.p∨x=X.r∨x=n∨x=n+1∨x=n+2∨x=f∨x=M∨x=M+1∨blk v=some x)->K'.get x=K.get x:=λ x hx=>h x ((hown x).2 hx);exact⟨v,k,hown,λ x hx=>⟨(hv x hx).1,by have:=(hv x hx).2;omega⟩,ae,(g _ ah).trans kp,ho,hos.frame hm λ x hx=>g x (by simp[hx]),(g _ ah).trans kr,(g _ ah).trans kn,(g _ ah).trans wV,(g _ ah).trans kq,(g _ ah).trans kf,(g _ ah).trans kM,(g _ ah).trans kM1,hl⟩
 ey:=by
  rintro s own K m K' m' e ⟨v,k,hown,hv,hM,kp,ho,hos,kr,kn,wV,kq,kf,kM,kM1,hl⟩ hq h hm;obtain⟨pn,rn,hq2,hf,hfM⟩:=P.o;rw[hq2]at hq h;have g:∀x,(x=X.p∨x=X.r∨x=n∨x=n+1∨x=n+2∨x=f∨x=M∨x=M+1∨blk v=some x)->x≠n+2->K'.get x=K.get x:=λ x hx hxq=>h x ((hown x).2 hx) hxq;exact⟨v,k,hown,λ x hx=>⟨(hv x hx).1,by have:=(hv x hx).2;omega⟩,ae,(g _ ah ae).trans kp,ho,hos.frame hm λ x hx=>g x (by simp[hx]) (by have:=hv x hx;omega),(g _ ah ae).trans kr,(g _ ah ae).trans kn,(g _ ah ae).trans wV,hq,(g _ ah ae).trans kf,(g _ ah ae).trans kM,(g _ ah ae).trans kM1,hl⟩
 eg:=λ s e=>rfl
 yl:=λ hJ hg ht O9 _=>ajV d P f1 f2 f3 hJ hg ht O9
theorem VN {p:Nat}{D:List AV}{v24:AV}(d24:D[24]?=some v24)(HD:bm v24=.val (zI 0)){x y:List Val}(hx:x.length<=1048576)(hy:y.length<=1048576){H:Hp}{n:Nat}(hp:H.get p=aR 32 D):ak pG 154 [.ptr p 0,ay x,ay y] H n (λ u K k=>u=zI (dK x y)/\K=H/\k=n):=by
 refine ak.of c154 (by simp[A154]) λ F hF=>?_;have ho:=C_ x y hx hy;generalize ay x=X at *;generalize ay y=Y at *;simp[A154,hF,hp,d24,HD];refine aE.XC 1 (fL.step ?_);simp[adK,Sr,hF];refine aB.pure ho ?_;simp
def cpR (p b lo:Nat)(D:List AV):Cp (List Val):={g:=154,first:=[.ptr p 0],cap:=[],av:=ay,c:=dK,El:=λ x=>eI x/\x.length<=1048576,J:=λ H=>H.get p=aR 32 D,bk:=b,lo:=lo}
theorem alI {p b lo:Nat}{D:List AV}(hpb:p≠b)(hp:p<=lo)(hb:b<=lo)(hD:dJ (lo+1) D){v24:AV}(d24:D[24]?=some v24)(HD:bm v24=.val (zI 0)):(cpR p b lo D).Ok pG where
 call:=by
  intro x y hx hy H n hJ hn;have hn:lo<n:=hn;have hJ:H.get p=aR 32 D:=hJ;refine ak.vL [p] (by simp[cpR,iK];exact⟨ae,(show Pure (ay x) by simp).jU,(show Pure (ay y) by simp).jU⟩) (by simp;omega) (λ c hc k hk=>?_) λ H0 ht hL=>?_
  ·have:c=p:=by simpa using hc
   subst this;rw[hJ]at hk;injection hk with hk;subst hk;exact bU (fA ae hD)
  refine(VN (p:=p) (D:=D) d24 HD hx.2 hy.2 (H:=H0) (n:=n) ((hL p ah).trans hJ)).mono λ u K k ⟨q1,q2,q3⟩=>?_;subst q1 q2;exact⟨.pure _ ah,λ _ _=>rfl⟩
 stay:=λ H K hJ h=>(h p hp hpb).trans hJ
 one:=λ x=>rfl
 bl:=hb
 Iw:=λ x y hx hy=>by
  have:=jI hx.1 hy.1;show dK x y<0↔0<dK y x;omega
 trans:=λ x y z hx hy hz h1 h2=>lg hx.1 hy.1 hz.1 h1 h2
theorem AQ (L:List (List Val)):(range L.length).map (λ k=>L.getD k [])=L:=by
 refine ext_getElem ah λ k h1 h2=>?_;simp[getD,cX h2]
def xO (p b:Nat)(D:List AV)(L:List (List Val)):Hp->Nat->iC:=λ H n=>if H.get p=aR 32 D/\H.get b=some (.cells L.length [] (aJ L) .nil)/\p<n/\b<n/\dJ n D then .mk (.bo []) (H.put b (some (.cells L.length [] (aJ (oK L)) .nil))) n else .fail
theorem VS {p b:Nat}(hpb:p≠b){D:List AV}{v24:AV}(d24:D[24]?=some v24) (HD:bm v24=.val (zI 0)){L:List (List Val)}(hm:∀r∈L,eI r/\r.length<=1048576) (hl:L.length<60000):
  ∀H n v H' n',xO p b D L H n=.mk v H' n'->bu pG 153 [.sl b 0 L.length 1,.fn (.func 154) [.ptr p 0] []] H n v H' n':=by
 intro H n v H' n' h;unfold xO at h
 by_cases hc:H.get p=aR 32 D/\H.get b=some (.cells L.length [] (aJ L) .nil)/\p<n/\b<n/\dJ n D
 ·rw[aw hc]at h;injection h with e1 e2 e3;subst e1 e2 e3;obtain⟨hp,hb,pn,bn,rd⟩:=hc
  have aqa:∀M:List (List Val),aP (aJ M):=λ M=>aP.rW λ v hv=>by
   unfold aJ at hv;obtain⟨r,_,rfl⟩:=mem_map.1 hv;simp
  have hrl:∀M:List (List Val),dJ n (aJ M):=λ M=>dJ.of λ v hv=>((aqa M).mem v hv).jU;refine ak.okB (p:=b) [p,b] ah (by simp[iK,pn,bn]) (by simp[pn,bn]) (λ c hc k hk=>?_) (bU (hrl _)) λ H0 ht hL=>?_
  ·have:c=p∨c=b:=by simpa using hc
   rcases this with rfl|rfl
   ·rw[hp]at hk;injection hk with hk;subst hk;exact bU rd
   rw[hb]at hk;injection hk with hk;subst hk;exact bU (hrl _)
  obtain⟨lo,hlo⟩:∃lo,n=lo+1:=⟨n - 1,ae⟩;have ok:=alI (p:=p) (b:=b) (lo:=lo) (D:=D) hpb ae ae (by rw[<-hlo];exact rd) d24 HD;have hJ:(cpR p b lo D).J H0:=(hL p ah).trans hp
  have hA:fc (cpR p b lo D) H0 n L.length (λ k=>L.getD k []) H0:=by
   refine .refl ⟨_,(hL b ah).trans hb,?_⟩
   have e:(range L.length).map (λ k=>(cpR p b lo D).av (L.getD k []))=aJ L:=by
    unfold aJ
    conv=>rhs;rw[<-AQ L]
    rw[map_map];rfl
   rw[e];exact OwnB.list (by unfold aJ;simp)
  have hE:∀k,k<L.length->(cpR p b lo D).El (L.getD k []):=λ k hk=>by
   have:L.getD k []=L[k]:=by simp[getD,cX hk]
   rw[this];exact hm _ (dw hk)
  refine ak.of c153 (by simp[A153]) λ F hF=>?_;simp[A153,hF,Jb L.length ae];refine aB.pure (O1 ae) ?_;simp[hF];have hq:=OI ok hJ (show (cpR p b lo D).lo<n by show lo<n;omega) hl (L.length+1) 0 L.length _ H0 n (IZ L.length:Int) ae ae ae hA (aK _) hE (λ h=>ae);rw[show ((0:Nat):Int)=0 from rfl]at hq;refine aB.of hq λ u K k ⟨e1,⟨d',ps,so,⟨y,hy,ho⟩,hfr⟩,_⟩=>?_;subst e1;simp;have hpm:=ps.perm (N:=L.length) (aK _);rw[AQ]at hpm
  have hs:dM ((range L.length).map d'):=by
   refine pairwise_iff_getElem.2 λ i j hi hj hij=>?_;simp only[getElem_map,getElem_range];exact so i j ae hij (by simpa using hj)
  have e:=CV (λ r hr=>(hm r hr).1) hpm hs
  have e2:(range L.length).map (λ k=>(cpR p b lo D).av (d' k))=aJ (oK L):=by
   rw[<-e];unfold aJ;rw[map_map];rfl
  rw[e2]at ho;have hsl:(oK L).length=L.length:=by rw[<-e];simp
  obtain⟨u,z,bs,t',rfl,q1,q3,_⟩:=ho;refine⟨.pure _ ah,λ c hc hcb=>hfr c hcb hc,_,hy,.inr ⟨u,z,bs,t',aJ (oK L),rfl,?_,q1.symm,λ i x hx=>⟨x,by rw[q3];exact hx,.inl rfl⟩⟩⟩;rw[q1];congr 1;unfold aJ;simp[hsl]
 rw[ai hc]at h;cases h
theorem dQ.apv (F:Fr){K:Hp}{p b:Nat}{y z:bG}{L M:List AV}(hpb:p≠b) (hy:K.get p=some y) (ho:OwnB y L) (hz:K.get b=some z) (hoz:OwnB z M):dQ (λ _=>none) F K F ((K.put p (some (.cells L.length [] L .nil))).put b (some (.cells M.length [] M .nil))):=
 ⟨λ b x h=>by simp at h,λ b h=>ar rfl h,λ t v h=>⟨v,h,.inl rfl⟩,λ c x h=>by
  rw[Tr.get_put]at h
  by_cases e:c=b
  ·subst e;rw[aw rfl]at h;injection h with h;subst h;obtain⟨u,z,bs,t',rfl,q1,q3,_⟩:=hoz;exact⟨_,hz,.inr ⟨u,z,bs,t',M,rfl,by rw[q1],q1.symm,λ i x hx=>⟨x,by rw[q3];exact hx,.inl rfl⟩⟩⟩
  rw[ai e,Tr.get_put]at h
  by_cases e2:c=p
  ·subst e2;rw[aw rfl]at h;injection h with h;subst h;obtain⟨u,z,bs,t',rfl,q1,q3,_⟩:=ho;exact⟨_,hy,.inr ⟨u,z,bs,t',L,rfl,by rw[q1],q1.symm,λ i x hx=>⟨x,by rw[q3];exact hx,.inl rfl⟩⟩⟩
  rw[ai e2]at h;exact⟨x,h,.inl rfl⟩⟩
theorem mO (L:List (List Val)):(oK L).Perm L:=by
 unfold oK
 split
 ·rename_i h;exact(Classical.choose_spec h).1
 exact .refl _
theorem nz (L:List (List Val)):(oK L).length=L.length:=(mO L).length_eq
def jJ (on:List (List Ex))(tabs:List (List (List Val)))(w it:List Ex)(j:Nat):uo:=pJ on tabs j (yg ⟨⟨[],[]⟩,[],[],[],[],0,0,0,[]⟩ 0 0 0 .nil w it) ⟨[],0,true⟩
theorem aeF {X:oD}{n f M:Nat}{F1:Fr}{w it:List Ex}(j:Nat):pJ X.on X.tabs j (yg X n f M F1 w it) ⟨[],0,true⟩=jJ X.on X.tabs w it j:=CZ (C:=yg X n f M F1 w it) (C':=yg ⟨⟨[],[]⟩,[],[],[],[],0,0,0,[]⟩ 0 0 0 .nil w it) _ _ j rfl rfl rfl _
def tG (s:uo):Int:=if s.go=true then s.acc else 4
def oD.at (X:oD)(q:Nat):oD:={X with q:=q}
theorem YY {X:oD}(ok:X.ok){J:Nat}(hJ:X.iR.length=J){H:Hp}{m:Nat}(hp:H.get X.p=aR 32 X.D)(hD:dJ m X.D)(pm:X.p<m)(qm:X.q<m)(ht:dh H m):
  ∃(cf:Hp->Nat->iC) (g:FuncId) (caps:List AV) (H5:Hp) (M:Nat),(∀H n v H' n',cf H n=.mk v H' n'->bu pG 149 [.ptr X.p 0,zI (J:Int),.fn (.func 165) [] [.ptr X.q 0]] H n v H' n')/\cf H m=.mk (.fn (.func g) [] caps) H5 M/\(∀e,e<m->H5.get e=H.get e)/\dh H5 M/\m<=M /\
   ∀own H6 M6,(∀e,e<M->H6.get e=H5.get e)->(∀x,m<=x->x<M->¬own x)->M<=M6->Clo X own H6 M6 J g caps:=by
 have hone:(AV.fn (.func 165) [] [.ptr X.q 0]).len=1/\(AV.fn (.func 165) [] [.ptr X.q 0]).cells=[.fn (.func 165) [] [.ptr X.q 0]]/\(AV.fn (.func 165) [] [.ptr X.q 0]).one=true:=⟨rfl,rfl,rfl⟩;have hfl:=ok.fl
 cases J with
 |zero =>
  refine⟨λ H n=>if X.p<n/\X.q<n then .mk (.fn (.func 213) [] []) H n else .fail,213,[],H,m,λ H n v H' n' h=>?_,by simp[pm,qm],λ _ _=>rfl,ht,aK _,λ _ _ _ _ _ _=>⟨rfl,rfl⟩⟩
  by_cases hc:X.p<n/\X.q<n
  ·simp only[hc,and_self,if_true]at h;injection h with e1 e2 e3;subst e1 e2 e3;exact ak.vL [] (by simp[iK,hc]) ah ah λ H0 _ _=>(ahq _ X.p H0 n hone).mono λ u K k ⟨q1,q2,_⟩=>⟨by subst q1;exact fp,q2⟩
  simp[hc]at h
 |succ j =>
  have h49:=YZ (iR:=X.iR) ok.st _ hone j ae ae X.p X.D ok.d0 ok.d18;rw[show ((j+1:Nat):Int)=(j:Int)+1 by omega];refine⟨_,215,[.ptr m 0,.ptr (m+1) 0,.ptr (m+2) 0,.ptr (m+4) 0],(((((H.put m (aR 1 [.ptr X.p 0])).put (m+1) (aR 1 [zI ((j:Int)+1)])).put (m+2) (aR 1 [.fn (.func 165) [] [.ptr X.q 0]])).put (m+3) none).put (m+4) (aR 1 [zI (D9 X.aL (X.iR[j]'ae).id)])),m+5,h49,?_,λ e he=>?_,λ e he=>?_,ae,λ own H6 M6 k6 no hM=>?_⟩
  ·unfold YX;rw[aw ⟨hp,pm,hD,by simp[iK];omega⟩]
  ·simp[show ¬e=m by omega,show ¬e=m+1 by omega,show ¬e=m+2 by omega,show ¬e=m+3 by omega,show ¬e=m+4 by omega]
  ·simp[show ¬e=m by omega,show ¬e=m+1 by omega,show ¬e=m+2 by omega,show ¬e=m+3 by omega,show ¬e=m+4 by omega,ht e ae]
  refine⟨m,m+1,m+2,m+4,rfl,rfl,(k6 _ ae).trans ah,(k6 _ ae).trans ah,(k6 _ ae).trans ah,λ t ht=>?_,ae,no _ ae ae,no _ ae ae,no _ ae ae,no _ ae ae⟩;rw[cX ae]at ht;injection ht with ht;subst ht;exact(k6 _ ae).trans ah
theorem WM {X0:oD}{w it:List Ex}{J:Nat}{D:List AV}{H:Hp}{n:Nat}{names:List (List Nat)}{kinds:List Int}(ok0:∀q,(X0.at q).ok) (qd0:∀q,QD (X0.at q) w it) (hJ:X0.iR.length=J) (hXD:X0.D=(D.set 28 (dy.ds names)).set 29 (dA.ds kinds)) (hnl:names.length<=aU) (hkn:kinds.length<=aU)
  (dl:D.length=32)(d22:D[22]?=some (dy.ds names))(d23:D[23]?=some (dA.ds kinds)){v24:AV}(d24:D[24]?=some v24)(HD:bm v24=.val (zI 0))(d25:D[25]?=some (.bool false))(d26:D[26]?=some (.bool false))(d30:D[30]?=some nS)
  (hp:H.get X0.p=aR 32 D)(hr:H.get X0.r=some (.cells X0.RC.length [] X0.RC .nil))(hpr:X0.p≠X0.r)(hRD:dJ n D)(ht:dh H n)
  (hm:(jJ X0.on X0.tabs w it J).go=true->(jJ X0.on X0.tabs w it J).acc=0->∀r∈(jJ X0.on X0.tabs w it J).rows,eI r/\r.length<=1048576):
  ak pG 67 [.ptr X0.p 0] H n (λ u K k=>u=zI (tG (jJ X0.on X0.tabs w it J))/\(tG (jJ X0.on X0.tabs w it J)=0->∃y v,K.get X0.p=some y/\OwnB y (X0.D.set 30 v)/\aC K k v (aJ (oK (jJ X0.on X0.tabs w it J).rows)) (jJ X0.on X0.tabs w it J).rows.length 1/\∀x,blk v=some x->n<=x)/\(∀c,c<n->c≠X0.p->K.get c=H.get c)/\n<=k):=by
 refine ak.of c67 (by simp[A67]) λ F hF=>?_;have ok:=ok0 (n+2);have qd:=qd0 (n+2);have pn:=ht.lt hp;have rn:=ht.lt hr;have eX:(X0.at (n+2)).p=X0.p/\(X0.at (n+2)).r=X0.r/\(X0.at (n+2)).q=n+2/\(X0.at (n+2)).D=X0.D/\(X0.at (n+2)).RC=X0.RC/\(X0.at (n+2)).iR=X0.iR/\(X0.at (n+2)).on=X0.on/\(X0.at (n+2)).tabs=X0.tabs/\(X0.at (n+2)).aL=X0.aL:=⟨rfl,rfl,rfl,rfl,rfl,rfl,rfl,rfl,rfl⟩;generalize X0.at (n+2)=X at ok qd eX;obtain⟨x1,x2,x3,x4,x5,x6,x7,x8,x9⟩:=eX;rw[<-x1]at hp pn hpr hF ⊢;rw[<-x2]at hr rn hpr;rw[<-x5]at hr;rw[<-x4]at hXD ⊢;rw[<-x7,<-x8]at hm ⊢;rw[<-x6]at hJ;clear ok0 qd0 x1 x2 x4 x5 x6 x7 x8 x9 X0;simp[A67,hF];generalize hK:Tr.put (Tr.put H n _) (n+1) _=K;have kn:K.get n=aR 1 [.ptr X.p 0]:=by rw[<-hK];simp
 have wV:K.get (n+1)=aR 1 [zI 0]:=by rw[<-hK];simp
 have kf:∀e,e<n->K.get e=H.get e:=λ e he=>by rw[<-hK];simp[show ¬e=n by omega,show ¬e=n+1 by omega]
 have kt:dh K (n+2):=λ e he=>by rw[<-hK];simp[show ¬e=n by omega,show ¬e=n+1 by omega,ht e ae]
 clear hK hF;refine aB.of (Px K (n+2)) λ u K1 m ⟨hu,hK1,hm'⟩=>?_;subst hu;simp;generalize hK2:Tr.put (Tr.put K1 m _) m _=K2;have k2:∀e,e<n+2->K2.get e=K.get e:=λ e he=>by rw[<-hK2,hK1];simp[show ¬e=n+2 by omega,show ¬e=m by omega]
 have k22:K2.get (n+2)=aR 1 [zI 0]:=by rw[<-hK2,hK1];simp[show ¬n+2=m by omega]
 have k23:K2.get m=aR 1 [.fn (.func 165) [] [.ptr (n+2) 0]]:=by rw[<-hK2];simp
 have t2:dh K2 (m+1):=λ e he=>by rw[<-hK2,hK1];simp[show ¬e=n+2 by omega,show ¬e=m by omega,kt e ae]
 clear hK2;have c0:=(k2 n ae).trans kn;have c1:=(k2 (n+1) ae).trans wV;have cp:=(k2 X.p ae).trans ((kf X.p pn).trans hp);have cr:=(k2 X.r ae).trans ((kf X.r rn).trans hr);have cf:∀e,e<n->K2.get e=H.get e:=λ e he=>(k2 e ae).trans (kf e he);obtain⟨y1,hs1,ho1⟩:=tH cp (OwnB.list dl.symm) (i:=28) (by rw[dl];omega) (v:=dy.ds names) ⟨rfl,rfl,rfl⟩;obtain⟨y2,hs2,ho2⟩:=tH (H:=K2.put X.p (some y1)) (by rw[Tr.get_put,aw rfl]) ho1 (i:=29) (by rw[length_set,dl];omega) (v:=dA.ds kinds) ⟨rfl,rfl,rfl⟩;have np:¬n=X.p:=ae;have v1:(dy.ds names).len=1/\(dy.ds names).cells=[dy.ds names]:=⟨rfl,rfl⟩;have v2:(dA.ds kinds).len=1/\(dA.ds kinds).cells=[dA.ds kinds]:=⟨rfl,rfl⟩;simp[ah7];refine bC.of (eh (l:=[(148,[dy.ds names],λ H n=>.mk (dy.ds names) H n),(59,[dA.ds kinds],λ H n=>.mk (dA.ds kinds) H n)]) ?_) ?_
 ·intro x hx;simp only[mem_cons,not_mem_nil,or_false]at hx
  rcases hx with rfl|rfl
  ·exact cR (alX names hnl)
  exact cR (PN kinds hkn)
 simp[ab,c0,cp,d22,d23,bX,u9,hs1,hs2,np];rw[<-hXD]at ho2;have e24:X.D[24]?=some v24:=by rw[hXD];simp[d24]
 have e25:X.D[25]?=some (.bool false):=by rw[hXD];simp[d25]
 have e26:X.D[26]?=some (.bool false):=by rw[hXD];simp[d26]
 have e30:X.D[30]?=some nS:=by rw[hXD];simp[d30]
 have rD':dJ n X.D:=by
  rw[hXD];refine dJ.of λ x hx=>?_
  rcases mem_or_eq_of_mem_set hx with h|h
  ·rcases mem_or_eq_of_mem_set h with h|h
   ·exact hRD.mem x h
   subst h;exact(show Pure (dy.ds names) by simp).jU
  subst h;exact(show Pure (dA.ds kinds) by simp).jU
 clear hXD hs1 hs2 ho1;generalize hK3:Tr.put (Tr.put K2 X.p _) X.p _=K3;have p3:K3.get X.p=some y2:=by rw[<-hK3];simp
 have k3:∀e,e≠X.p->K3.get e=K2.get e:=λ e he=>by rw[<-hK3];simp[he]
 clear hK3;have dl':=qd.dl;have e18:=ok.d18;have hlen:bm (aH.ds X.iR)=.val (zI (J:Int)):=by rw[aZ.aM,hJ]
 have hone:(AV.fn (.func 165) [] [.ptr (n+2) 0]).len=1/\(AV.fn (.func 165) [] [.ptr (n+2) 0]).cells=[.fn (.func 165) [] [.ptr (n+2) 0]]/\(AV.fn (.func 165) [] [.ptr (n+2) 0]).one=true:=⟨rfl,rfl,rfl⟩;have hfl:=ok.fl;have sh:=λ F:Fr=>dQ.norm F p3 ho2;rw[dl']at sh;generalize hH4:Tr.put K3 X.p (aR 32 X.D)=H4 at sh;have p4:H4.get X.p=aR 32 X.D:=by rw[<-hH4];simp
 have k4:∀e,e≠X.p->H4.get e=K2.get e:=λ e he=>by rw[<-hH4,Tr.get_put,ai he];exact k3 e he
 have t4:dh H4 (m+1):=λ e he=>by rw[k4 e ae];exact t2 e he
 have q0:=(k4 n ae).trans c0;have q1:=(k4 (n+1) ae).trans c1;have q2:=(k4 (n+2) ae).trans k22;have qm:=(k4 m ae).trans k23;have qr:=(k4 X.r (Ne.symm hpr)).trans cr;clear hH4 p3 k3;obtain⟨cw,g,caps,H5,M,hcf,hcF,k5,t5,hM,awn⟩:=YY ok hJ p4 (fA ae rD') (show X.p<m+1 by omega) (show X.q<m+1 by omega) t4;rw[x3]at hcf;simp[ah6];refine bC.ofZ (eh (l:=[(149,[.ptr X.p 0,zI (J:Int),.fn (.func 165) [] [.ptr (n+2) 0]],cw)]) ?_) (sh _) ?_
 ·intro x hx;simp only[mi]at hx;subst hx;exact hcf
 simp[ab,q0,p4,e18,hlen,qm,bX,hcF];clear sh hcf hcF;generalize I1:(Fp 37 _ _:Fr)=F5;have g1:F5.get 1=some (.ptr n 0):=by rw[<-I1];simp[ab]
 have g2:F5.get 2=some (.ptr (n+1) 0):=by rw[<-I1];simp[ab]
 have g3:F5.get 3=some (.ptr m 0):=by rw[<-I1];simp[ab]
 clear I1;refine KJ.of ?_;generalize hH6:Tr.put (Tr.put H5 _ _) _ _=H6;have k6:∀e,e<M->H6.get e=H5.get e:=λ e he=>by rw[<-hH6];simp[show ¬e=M by omega,show ¬e=M+1 by omega]
 have z6:H6.get M=some (.loop .ready .normal 148 F5 [38] kE.1 kE.2):=by rw[<-hH6];simp
 have w6:H6.get (M+1)=some .jS:=by rw[<-hH6];simp
 have t6:dh H6 (M+2):=λ e he=>by rw[<-hH6];simp[show ¬e=M by omega,show ¬e=M+1 by omega,t5 e ae]
 clear hH6;have h6:∀e,e<m+1->H6.get e=H4.get e:=λ e he=>(k6 e ae).trans (k5 e he);have P:QPl X n m M:=⟨⟨pn,rn,x3,ae,ae⟩,hpr⟩;have cok:=ajW qd P g1 g2 g3 (0+1000*J)
 have hset:X.D.set 30 nS=X.D:=by
  refine ext_getElem? λ i=>?_
  by_cases e:i=30
  ·subst e;rw[getElem?_set_self (by rw[dl'];omega),e30]
  rw[getElem?_set_ne ae]
 have J6:(yg X n m M F5 w it).J ⟨[],0,true⟩ (λ x=>x=X.p∨x=X.r∨x=n∨x=n+1∨x=n+2∨x=m∨x=M∨x=M+1∨blk nS=some x) H6 (M+2):=by
  refine⟨nS,_,λ x=>Iff.rfl,λ x hx=>by simp[blk]at hx,ae,(h6 X.p ae).trans p4,by rw[hset];exact OwnB.list dl'.symm,⟨rfl,.inl ⟨rfl,rfl⟩⟩,(h6 X.r ae).trans qr,(h6 n ae).trans q0,(h6 (n+1) ae).trans q1,(h6 (n+2) ae).trans q2,by rw[x3];exact(h6 m ae).trans qm,z6,w6,ah⟩
 have hcl:Clo X (λ x=>x=X.p∨x=X.r∨x=n∨x=n+1∨x=n+2∨x=m∨x=M∨x=M+1∨blk nS=some x) H6 (M+2) J g caps:=awn _ _ _ k6 (λ x h1 h2 h=>by
  rcases h with h|h|h|h|h|h|h|h|h
  ·omega
  ·omega
  ·omega
  ·omega
  ·omega
  ·omega
  ·omega
  ·omega
  simp[blk]at h) ae
 refine ak.mono (O5 ok J ae uo (yg X n m M F5 w it) M 0 cok ae ⟨[],0,true⟩ _ H6 (M+2) J6 rfl t6 ((h6 X.p ae).trans p4) g caps hcl) λ u K7 k7 ⟨own',hJ7,t7,hm7,hf7,ho7⟩=>?_;rw[aeF]at hJ7;generalize jJ X.on X.tabs w it J=s at *;obtain⟨v,k,hown',hv',hM',kp,ho,hos,kr,kn,wV,kq,kf',kM,kM1,hl⟩:=hJ7;clear J6 hcl cok u z6 w6 t6 k5;have afI:dF [.cG (M+1)] (K7.put M none)=some ((K7.put M none).put (M+1) none):=by rw[kZ (by rw[Tr.get_put,ai ae];exact kM1)];simp[dF]
 have h7:∀c,c<n->c≠X.p->K7.get c=H.get c:=λ c h1 h2=>by
  by_cases e:c=X.r
  ·rw[e,kr,hr]
  exact(hf7 c ae (λ h=>by
   rcases h with h|h|h|h|h|h|h|h|h
   ·omega
   ·omega
   ·omega
   ·omega
   ·omega
   ·omega
   ·omega
   ·omega
   simp[blk]at h)).trans ((h6 c ae).trans ((k4 c h2).trans (cf c h1)))
 unfold U8
 cases hgo:s.go with
 |false =>
  rw[hgo]at kM wV;simp at kM wV;refine⟨_,_,_,_,_,_,_,kM,ah,ah,?_⟩;have hq:tG s=4:=by simp[tG,hgo]
  simp[afI,g2,show ¬n+1=M by omega,show ¬n=M by omega,wV,hq];exact⟨λ c h1 h2=>by rw[ai ae,ai ae];exact h7 c h1 h2,ae⟩
 |true =>
  rw[hgo]at kM wV;simp at kM wV;refine⟨_,_,_,_,_,_,_,kM,ah,ah,?_⟩;simp;generalize hH8:Tr.put K7 M none=H8;have k8:∀e,e≠M->H8.get e=K7.get e:=λ e he=>by rw[<-hH8,Tr.get_put,ai he]
  have t8:dh H8 k7:=λ e he=>by rw[k8 e ae];exact t7 e he
  clear hH8;have qm8:=(k8 m ae).trans kf';have q28:=(k8 (n+2) ae).trans kq;rw[x3]at qm8;simp[Z6,g3,qm8];refine aB.of (lH s.acc 0 q28) λ u K9 k9 ⟨hu,a9,hk9,f9⟩=>?_;subst hu hk9;have hla:gQ s.acc 0=s.acc:=apC _;rw[hla]at a9 ⊢;have h9:∀e,e≠n+2->e≠M->K9.get e=K7.get e:=λ e h1 h2=>(f9 e h1).trans (k8 e h2);have t9:dh K9 k9:=λ e he=>by rw[h9 e ae ae];exact t7 e he
  have p9:=(h9 X.p ae ae).trans kp;have n9:=(h9 n ae ae).trans kn;have n19:=(h9 (n+1) ae ae).trans wV;have w9:=(h9 (M+1) ae ae).trans kM1;have f7:∀c,c<n->c≠X.p->K9.get c=H.get c:=λ c h1 h2=>(h9 c ae ae).trans (h7 c h1 h2);have vb:∀x,blk v=some x->M+1<x/\x<k9:=hv';have os9:aC K9 k9 v (aJ s.rows) s.rows.length 1:=hos.frame (aK _) λ x hx=>by have:=vb x hx;exact h9 x ae ae
  have hq:tG s=s.acc:=by simp[tG,hgo]
  simp only[hq]
  by_cases ha:s.acc=0
  ·have hm:=hm hgo ha
   have ld:∀(i:Nat) (u:AV),i≠30->X.D[i]?=some u->∀H:Hp,H.get X.p=some k->cE (.ptr X.p i) H=.val u:=λ i u hi hu H hH=>by
    rw[<-AL v hi]at hu;obtain⟨hl,he⟩:=nH.1 hu;rw[nJ hH ho hl,he]
   have afn:cE (.ptr X.p 30) K9=.val v:=by rw[nJ p9 ho (by rw[length_set,dl'];omega),getElem_set_self]
   have avP:=ld 25 _ ae e25 K9 p9;have avO:=ld 26 _ ae e26 K9 p9;have hnp:¬n+1=X.p:=ae;simp[KX,ha,Z4,g1,n9,avP,Z3];obtain⟨_,⟨rfl,hz⟩|⟨b,z,rfl,hb,hbz,hbo⟩⟩:=os9
   ·have hnil:s.rows=[]:=length_eq_zero_iff.1 hz;refine bC.of (eh (l:=[(153,[nS,.fn (.func 154) [.ptr X.p 0] []],Gy X.p)]) ?_) ?_
    ·intro x hx;simp only[mi]at hx;subst hx;exact VT X.p
    have hsF:Gy X.p K9 k9=.mk (.bo []) K9 k9:=by unfold Gy;rw[aw ae]
    simp[ab,g1,n9,afn,bX,hsF,KW];refine bC.of (bh (P:=pG)) ?_;simp[ab,g1,n9,avO];simp[KV,ab,g2,n19];rw[kZ (by simp[show ¬M=n by omega,w9])];simp[dF];simp[show ¬n=M by omega,show ¬X.p=M+1 by omega,show ¬X.p=n+1 by omega,p9];refine⟨⟨nS,ho,?_,λ x hx=>by simp[blk]at hx⟩,λ c h1 h2=>?_,ae⟩
    ·have e:[]=oK ([]:List (List Val)):=CV ah (.refl _) Pairwise.nil;rw[hnil,<-e];exact⟨rfl,.inl ⟨rfl,rfl⟩⟩
    rw[ai ae,ai ae];exact f7 c h1 h2
   have hbM:=vb b rfl;have hpb:X.p≠b:=ae;obtain⟨D2,hD2⟩:∃D2,D2=X.D.set 30 (.sl b 0 s.rows.length 1):=⟨_,rfl⟩;rw[<-hD2]at ho;have dl2:D2.length=32:=by rw[hD2,length_set,dl']
   have f24:D2[24]?=some v24:=by rw[hD2,AL _ ae,e24]
   have f26:D2[26]?=some (.bool false):=by rw[hD2,AL _ ae,e26]
   have f30:D2[30]?=some (.sl b 0 s.rows.length 1):=by rw[hD2,getElem?_set_self (by rw[dl'];omega)]
   have rD2:dJ k9 D2:=by
    rw[hD2];refine dJ.of λ x hx=>?_
    rcases mem_or_eq_of_mem_set hx with h|h
    ·exact(fA (show n<=k9 by omega) rD').mem x h
    subst h;simp[iK];omega
   have rl:(aJ s.rows).length=s.rows.length:=by simp[aJ]
   have sh:=λ F:Fr=>dQ.apv F hpb p9 ho hbz hbo;rw[dl2,rl]at sh;generalize hHA:Tr.put (Tr.put K9 X.p _) b _=HA at sh;have pA:HA.get X.p=aR 32 D2:=by rw[<-hHA];simp[hpb]
   have bA:HA.get b=some (.cells s.rows.length [] (aJ s.rows) .nil):=by rw[<-hHA];simp
   have kA:∀e,e≠X.p->e≠b->HA.get e=K9.get e:=λ e h1 h2=>by rw[<-hHA,Tr.get_put,ai h2,Tr.get_put,ai h1]
   clear hHA;have nA:=(kA n ae ae).trans n9;have nA1:=(kA (n+1) ae ae).trans n19;have wA:=(kA (M+1) ae ae).trans w9;refine bC.ofZ (eh (l:=[(153,[.sl b 0 s.rows.length 1,.fn (.func 154) [.ptr X.p 0] []],xO X.p b D2 s.rows)]) ?_) (sh _) ?_
   ·intro x hx;simp only[mi]at hx;subst hx;exact VS hpb f24 HD hm ae
   have hsF:xO X.p b D2 s.rows HA k9=.mk (.bo []) (HA.put b (some (.cells s.rows.length [] (aJ (oK s.rows)) .nil))) k9:=by unfold xO;rw[aw ⟨pA,bA,ae,ae,rD2⟩]
   generalize hHB:HA.put b _=HB at hsF;have pB:HB.get X.p=aR 32 D2:=by rw[<-hHB,Tr.get_put,ai hpb];exact pA
   have bB:HB.get b=some (.cells s.rows.length [] (aJ (oK s.rows)) .nil):=by rw[<-hHB];simp
   have kB:∀e,e≠X.p->e≠b->HB.get e=K9.get e:=λ e h1 h2=>by rw[<-hHB,Tr.get_put,ai h2];exact kA e h1 h2
   clear hHB;have nB:=(kB n ae ae).trans n9;have nB1:=(kB (n+1) ae ae).trans n19;have wB:=(kB (M+1) ae ae).trans w9;simp[ab,g1,nA,pA,f30,bX,hsF,KW];refine bC.of (bh (P:=pG)) ?_;simp[ab,g1,nB,pB,f26];simp[KV,ab,g2,nB1];rw[kZ (by simp[show ¬M=n by omega,wB])];simp[dF];simp[show ¬n=M by omega,show ¬X.p=M+1 by omega,show ¬X.p=n+1 by omega,pB];refine⟨⟨.sl b 0 s.rows.length 1,by rw[<-hD2];exact OwnB.list dl2.symm,?_,λ x hx=>?_⟩,λ c h1 h2=>?_,ae⟩
   ·have hsl:(oK s.rows).length=s.rows.length:=nz _;refine⟨by simp[aJ,hsl],.inr ⟨b,_,rfl,hb,?_,OwnB.list (show s.rows.length=(aJ (oK s.rows)).length by simp[aJ,hsl])⟩⟩;simp[show ¬b=M+1 by omega,show ¬b=n+1 by omega,bB]
   ·simp at hx;omega
   rw[ai ae,ai ae,kB c h2 ae];exact f7 c h1 h2
  simp[KX,ha,Z5,g2,n19];rw[kZ (by simp[show ¬M=n by omega,w9])];simp[dF,show ¬n=M by omega];exact⟨λ c h1 h2=>by simp[show ¬c=M+1 by omega,show ¬c=n+1 by omega];exact f7 c h1 h2,ae⟩
theorem aC.one {H:Hp}{n:Nat}{v:AV}{l:List AV}{len sz:Nat}(h:aC H n v l len sz):v.one=true:=by
 obtain⟨_,⟨rfl,_⟩|⟨b,k,rfl,_⟩⟩:=h<;>rfl
theorem bu.aok {P:Program}{g:FuncId}{args:List AV}{H:Hp}{n:Nat}{v:AV}(h:bu P g args H n v H n):bu P g args H n v (H.put n none) (n+1):=by
 have hs:Sub (H.put n none).get H.get:=λ b k hb=>by
  rw[Tr.get_put]at hb
  split at hb
  ·cases hb
  exact hb
 exact⟨h.1,Nat.le_succ n,λ φ D w xs hr hv hf R hR=>h.2.2 φ D w xs hr hv (λ b h1 h2=>ae) R λ φ' D' w' x e r hx=>hR φ' D' w' x ((e.wide (aK _) (Nat.le_succ n)).sub hs) (tB r hs) hx⟩
def Ou (L:List (List (List Val))):Option bG:=if L=[]then none else some (.cells (L.length*1) [] (L.map dN) .nil)
theorem aj_ (w:pe)(hs:w.aL.gG)(hl:w.rows.length=w.aL.tables.length)(hS:∀L∈w.rows,aj pG 58 [dx L] (dN L))(H:Hp)(n:Nat):bu pG 24 [oW.av w] H n (.agg [aH.ds w.aL.tables,bp.ds w.aL.indexes,tA n w.rows] 3) (H.put n (Ou w.rows)) (n+1):=by
 unfold tA Ou
 by_cases h0:w.rows=[]
 ·rw[aw h0,aw h0];refine bu.aok ((aj.ofR ah ah ((Xo w hs hl hS).mono λ u K k ⟨vt,vi,vr,hu,ot,oi,_,_,hz⟩=>?_)).Ky H n);subst hu;rw[hz h0];exact .agg _ _ _ (.cons _ _ _ _ (ot.nV (bc.pure ah) ae) (.cons _ _ _ _ (oi.nV (bc.pure ah) ae) (.cons _ _ _ _ fp .nil)))
 rw[ai h0,ai h0];exact apb w hs hl h0 hS H n
def amu (g:Nat)(D:List AV)(V:Nat->AV)(RC:List AV)(e:Int)(D2:Nat->AV->List AV)(cs:List AV)(len:Nat):Prop:=∀(H:Hp)(n p r:Nat),H.get p=aR 32 (D.set 2 (V r))->H.get r=some (.cells RC.length [] RC .nil)->p≠r->dh H n ->
 ak pG g [.ptr p 0] H n (λ u K k=>u=zI e/\(e=0->∃W y,K.get p=some y/\OwnB y (D2 r W)/\aC K k W cs len 1/\∀x,blk W=some x->n<=x)/\(∀c,c<n->c≠p->K.get c=H.get c)/\n<=k)
def Zu (w:pe)(b:oH)(V:Nat->AV)(RC:List AV):Prop:=(w.rows≠[]/\RC=w.rows.map dN/\V=λ r=>.sl r 0 w.rows.length 1)∨(w.rows=[]/\RC=b.cells/\V=λ _=>nS)
theorem Zj (w:pe)(hw:w.gG)(x:dE)(hb:aj pG 23 [kQ.av w.aL,x.av] (.bo [.agg (bN w.aL x).1.cells 25,zI (bN w.aL x).2]))(ok:fW w)(hb0:(bN w.aL x).2=0)(hS:∀L∈w.rows,aj pG 58 [dx L] (dN L))(g:Nat)(hg:N3 x.kind=.fn (.func g) [] [])(e:Int)(N C:AV)(hN:N.one=true/\C.one=true)(c:Int)(V:Nat->AV)(RC cs:List AV)(len:Nat)(hV:Zu w (bN w.aL x).1 V RC)
  (way:amu g (dC (aH.ds w.aL.tables) (bp.ds w.aL.indexes) nS (bN w.aL x).1 nS nS nS 0) V RC e (λ r W=>dC (aH.ds w.aL.tables) (bp.ds w.aL.indexes) (V r) (bN w.aL x).1 N C W c) cs len):
  ak pG 10 [oW.av w,x.av] .nil 0 (λ u K k=>if e=0 then ∃r W,u=resV (aH.ds w.aL.tables) (bp.ds w.aL.indexes) (V r) N C W c 0/\(w.rows≠[]->K.get r=some (.cells RC.length [] RC .nil)/\r<k/\blk W≠some r)/\aC K k W cs len 1 else u=TP e):=by
 refine ak.of c10 (by simp[A10]) λ F hF=>?_;have hm:=ag3 w hw;have hav:x.av=.agg x.cells 31:=Eq.trans rfl rfl;have hwv:oW.av w=.agg [aH.ds w.aL.tables,bp.ds w.aL.indexes,iH.ds w.rows] 3:=Eq.trans rfl rfl;have hsv:kQ.av w.aL=.agg [aH.ds w.aL.tables,bp.ds w.aL.indexes] 2:=Eq.trans rfl rfl;have xl:=x.bq;have HD:=aj_ w hw.s ok.l hS;have x0:=x.g0;rw[hav,hsv]at hb;rw[hwv]at hm HD;rw[hav,hwv]at hF;clear hav hwv hsv;simp only[ok,decide_true]at hm;unfold Zu at hV;generalize bN w.aL x=R at *;have hR:(R.1.cells).length=25:=rfl;generalize hxs:x.cells=xs at *;simp[A10,hF];simp[SL];refine aB.pure hm ?_;simp[adm];refine aB.pure hb ?_;simp[hR,oH.one,adl,hb0];generalize hF1:(Fp 24 _ _:Fr)=F1;have f2:F1.get 2=some (.ptr 0 0):=by rw[<-hF1];simp
 have f3:F1.get 3=some (.ptr 1 0):=by rw[<-hF1];simp
 have f4:F1.get 4=some (.ptr 2 0):=by rw[<-hF1];simp
 have f5:F1.get 5=some (.ptr 3 0):=by rw[<-hF1];simp
 have f7:F1.get 7=some (.ptr 4 0):=by rw[<-hF1];simp
 have f8:F1.get 8=some (zI 0):=by rw[<-hF1];simp
 clear hF1 hF F;generalize hK:Tr.put _ 4 _=K;have k0:K.get 0=aR 3 [aH.ds w.aL.tables,bp.ds w.aL.indexes,iH.ds w.rows]:=by rw[<-hK];simp
 have k1:K.get 1=aR 31 xs:=by rw[<-hK];simp
 have k2:K.get 2=aR 3 [nS,nS,nS]:=by rw[<-hK];simp
 have k3:K.get 3=aR 4 [nS,nS,nS,zI 0]:=by rw[<-hK];simp
 have k4:K.get 4=aR 25 R.1.cells:=by rw[<-hK];simp
 have kt:dh K 5:=λ b hb=>by rw[<-hK];simp[show ¬b=0 by omega,show ¬b=1 by omega,show ¬b=2 by omega,show ¬b=3 by omega,show ¬b=4 by omega]
 clear hK;have hpt:∀v:AV,patch [aH.ds w.aL.tables,bp.ds w.aL.indexes,v,zI 0,.str [],.int .u32 0,.str [],nS,.int .u32 0,.int .u32 0,.int .u32 0,.str [],nS,.bool false,.int .u32 0,nS,nS,nS,nS,nS,nS,nS,nS,nS,nS,.bool false,.bool false,zI 0,nS,nS,nS,zI 0] 3 R.1.cells=some (dC (aH.ds w.aL.tables) (bp.ds w.aL.indexes) v R.1 nS nS nS 0):=λ v=>rfl;simp[ai7];refine bC.of (eh (l:=[(24,[.agg [aH.ds w.aL.tables,bp.ds w.aL.indexes,iH.ds w.rows] 3],λ H n=>.mk (.agg [aH.ds w.aL.tables,bp.ds w.aL.indexes,tA n w.rows] 3) (H.put n (Ou w.rows)) (n+1))]) ?_) ?_
 ·intro y hy;simp only[mi]at hy;subst hy;intro H n v H' n' h;injection h with e1 e2 e3;subst e1 e2 e3;exact HD H n
 have o5:(tA 5 w.rows).one=true:=by unfold tA;split<;>rfl
 simp[ab,f2,f7,k0,k4,bX,hpt];refine⟨by simp[cN,dm,kt 6 ae],?_⟩;generalize hD:dC (aH.ds w.aL.tables) (bp.ds w.aL.indexes) (tA 5 w.rows) R.1 nS nS nS 0=D;generalize hF2:(Fp 9 _ _:Fr)=F2;have g3:F2.get 3=some (.ptr 1 0):=by rw[<-hF2];simp[ab,f3]
 have g4:F2.get 4=some (.ptr 2 0):=by rw[<-hF2];simp[ab,f4]
 have g5:F2.get 5=some (.ptr 3 0):=by rw[<-hF2];simp[ab,f5]
 have g8:F2.get 8=some (zI 0):=by rw[<-hF2];simp[ab,f8]
 have g9:F2.get 9=some (.ptr 6 0):=by rw[<-hF2];simp
 clear hF2 f2 f3 f4 f5 f7 f8 F1;generalize hK2:Tr.put (Tr.put K 5 _) 6 _=K2
 obtain⟨r0,hr0,O9,j5⟩:∃r0,(r0=5∨r0=4)/\tA 5 w.rows=V r0/\K2.get r0=some (.cells RC.length [] RC .nil):=by
  rcases hV with⟨h1,h2,h3⟩|⟨h1,h2,h3⟩
  ·exact⟨5,.inl rfl,by rw[h3];simp[tA,h1],by rw[<-hK2,h2];simp[Ou,h1]⟩
  exact⟨4,.inr rfl,by rw[h3];simp[tA,h1],by rw[<-hK2,h2,hR];simp[k4]⟩
 rw[O9]at o5 hD;have j6:K2.get 6=aR 32 D:=by rw[<-hK2];simp
 have j1:K2.get 1=aR 31 xs:=by rw[<-hK2];simp[k1]
 have j2:K2.get 2=aR 3 [nS,nS,nS]:=by rw[<-hK2];simp[k2]
 have j3:K2.get 3=aR 4 [nS,nS,nS,zI 0]:=by rw[<-hK2];simp[k3]
 have t7:dh K2 7:=λ b hb=>by rw[<-hK2];simp[show ¬b=5 by omega,show ¬b=6 by omega,kt b ae]
 clear hK2 k0 k1 k2 k3 k4 kt K;have hw:=ajv x.kind (K2.put 7 (some (.map xE 8))) 7 (by rw[Tr.get_put,aw rfl]);rw[hg]at hw;have hn:fo .i (.aV .nilFunc) false (.map 7) (zI x.kind) .nil=.fail:=by unfold fo;simp
 have hw0:fo .i (.aV .nilFunc) false (.map 7) (zI x.kind) K2=.fail:=by unfold fo;simp[t7 7 ae]
 simp[ai6];refine bC.of (eh (l:=[(25,[],λ H n=>.mk (.map n) (H.put n (some (.map xE 8))) (n+1))]) ?_) ?_
 ·intro y hy;simp only[mi]at hy;subst hy;intro H n v H' n' h;injection h with e1 e2 e3;subst e1 e2 e3;exact ajt H n
 simp[ab,g3,j1,bX,hw,hn,x0];generalize hF3:(Fp 10 _ _:Fr)=F3;have h4:F3.get 4=some (.ptr 2 0):=by rw[<-hF3];simp[ab,g4]
 have h5:F3.get 5=some (.ptr 3 0):=by rw[<-hF3];simp[ab,g5]
 have h9:F3.get 9=some (.ptr 6 0):=by rw[<-hF3];simp[ab,g9]
 have h10:F3.get 10=some (.fn (.func g) [] []):=by rw[<-hF3];simp
 clear hF3 g3 g4 g5 g8 g9 F2;generalize hK3:Tr.put K2 7 _=K3;have l5:K3.get r0=some (.cells RC.length [] RC .nil):=by rw[<-hK3];simp[j5,show ¬r0=7 by omega]
 have l6:K3.get 6=aR 32 D:=by rw[<-hK3];simp[j6]
 have l2:K3.get 2=aR 3 [nS,nS,nS]:=by rw[<-hK3];simp[j2]
 have l3:K3.get 3=aR 4 [nS,nS,nS,zI 0]:=by rw[<-hK3];simp[j3]
 have t8:dh K3 8:=λ b hb=>by rw[<-hK3];simp[show ¬b=7 by omega,t7 b ae]
 clear hK3 j5 j6 j1 j2 j3 t7 hw hw0 K2;have hwy:=way K3 8 6 r0 (by rw[l6,<-hD];simp[dC]) l5 ae t8;have hne:kT true .func (.fn (.func g) [] []) (.aV .nilFunc)=.val (.bool true):=by simp[kT,jq]
 simp[ai5,h10,hne,ai4,h9];refine aB.of hwy λ u K m ⟨hu,hy,hf,hm⟩=>?_;subst hu;have m2:=(hf 2 ae ae).trans l2;have m3:=(hf 3 ae ae).trans l3;have m5:=(hf r0 ae ae).trans l5
 by_cases he:e=0
 ·obtain⟨W,y,hy6,hoy,hos,hbl⟩:=hy he;have hW:=hos.one;have sh:=λ F:Fr=>dQ.norm F hy6 hoy;rw[alH]at sh;generalize hK4:Tr.put K 6 (aR 32 (dC (aH.ds w.aL.tables) (bp.ds w.aL.indexes) (V r0) R.1 N C W c))=K4 at sh;have n6:K4.get 6=aR 32 (dC (aH.ds w.aL.tables) (bp.ds w.aL.indexes) (V r0) R.1 N C W c):=by rw[<-hK4];simp
  have n5:K4.get r0=some (.cells RC.length [] RC .nil):=by rw[<-hK4];simp[m5,show ¬r0=6 by omega]
  have n2:K4.get 2=aR 3 [nS,nS,nS]:=by rw[<-hK4];simp[m2]
  have n3:K4.get 3=aR 4 [nS,nS,nS,zI 0]:=by rw[<-hK4];simp[m3]
  have awe:aC K4 m W cs len 1:=hos.frame (aK _) λ c hc=>by rw[<-hK4,Tr.get_put,ai (by have:=hbl c hc;omega)]
  clear hK4;have ld1:∀H:Hp,H.get 6=aR 32 (dC (aH.ds w.aL.tables) (bp.ds w.aL.indexes) (V r0) R.1 N C W c)->eD 3 (.ptr 6 0) H=.val (.agg [aH.ds w.aL.tables,bp.ds w.aL.indexes,V r0] 3):=λ H h=>by simp[eD,h];rfl
  have ld2:pQ (K4.get 6) 28 4=.val (.agg [N,C,W,zI c] 4):=by rw[n6];rfl
  have o1:(aH.ds w.aL.tables).one=true/\(bp.ds w.aL.indexes).one=true:=⟨rfl,rfl⟩;simp[he,MY,adn];refine bC.ofZ (bh (P:=pG)) (sh _) ?_;simp[ab,h4,h5,h9,ld1 K4 n6,ld2,n2,n3,o1,hN,hW,o5];refine⟨r0,W,rfl,λ h0=>⟨by simp[n5,show ¬r0=2 by omega,show ¬r0=3 by omega],ae,λ h=>by have:=hbl r0 h;omega⟩,awe.frame (aK _) λ c hc=>?_⟩;have:=hbl c hc;simp[show ¬c=2 by omega,show ¬c=3 by omega]
 simp[MY,he,ado,h4,h5,m2,m3];rfl
theorem Zi (w:pe) (hw:w.gG) (x:dE) (hb:aj pG 23 [kQ.av w.aL,x.av] (.bo [.agg (bN w.aL x).1.cells 25,zI (bN w.aL x).2])) (ok:fW w) (hb0:(bN w.aL x).2=0) (hS:∀L∈w.rows,aj pG 58 [dx L] (dN L)) (g:Nat) (hg:N3 x.kind=.fn (.func g) [] []) (e:Int) (N C:AV) (hN:N.one=true/\C.one=true) (hP:Pure N/\Pure C) (c:Int) (cs:List AV) (hcs:aP cs) (len:Nat)
  (way:∀V RC,Zu w (bN w.aL x).1 V RC->amu g (dC (aH.ds w.aL.tables) (bp.ds w.aL.indexes) nS (bN w.aL x).1 nS nS nS 0) V RC e (λ r W=>dC (aH.ds w.aL.tables) (bp.ds w.aL.indexes) (V r) (bN w.aL x).1 N C W c) cs len):
  ∃R,R.one=true/\Pure R/\aj pG 10 [oW.av w,x.av] (if e=0 then resV (aH.ds w.aL.tables) (bp.ds w.aL.indexes) R N C (.ds cs len 1) c 0 else TP e):=by
 obtain⟨V,RC,R,hV,ho,hp,hR⟩:∃V RC R,Zu w (bN w.aL x).1 V RC/\R.one=true/\Pure R/\(w.rows=[]->∀r,V r=R)/\(w.rows≠[]->R=iH.ds w.rows/\RC=w.rows.map dN/\∀r,V r=.sl r 0 w.rows.length 1):=by
  by_cases h0:w.rows=[]
  ·exact⟨_,_,nS,.inr ⟨h0,rfl,rfl⟩,rfl,ah,λ _ _=>rfl,λ h=>ar h0 h⟩
  exact⟨_,_,iH.ds w.rows,.inl ⟨h0,rfl,rfl⟩,rfl,ah,λ h=>ar h h0,λ _=>⟨rfl,rfl,λ _=>rfl⟩⟩
 refine⟨R,ho,hp,?_⟩;have hpu:Pure (resV (aH.ds w.aL.tables) (bp.ds w.aL.indexes) R N C (.ds cs len 1) c 0):=by simp[resV,hP,hcs,hp]
 have base:=Zj w hw x hb ok hb0 hS g hg e N C hN c V RC cs len hV (way V RC hV)
 by_cases he:e=0
 ·rw[aw he];simp only[he,if_true]at base
  have fin:∀ {K:Hp} {v R' W:AV},v=resV (aH.ds w.aL.tables) (bp.ds w.aL.indexes) R' N C W c 0->e_ K.get R' R->e_ K.get W (.ds cs len 1)->e_ K.get v (resV (aH.ds w.aL.tables) (bp.ds w.aL.indexes) R N C (.ds cs len 1) c 0):=λ hv fz fw=>by
   subst hv;exact .bo _ _ (.cons _ _ _ _ (.agg _ _ _ (.cons _ _ _ _ fp (.cons _ _ _ _ fp (.cons _ _ _ _ fz .nil)))) (.cons _ _ _ _ (.agg _ _ _ (.cons _ _ _ _ (.pure _ hP.1) (.cons _ _ _ _ (.pure _ hP.2) (.cons _ _ _ _ fw (.cons _ _ _ _ fp .nil))))) (.cons _ _ _ _ fp .nil)))
  by_cases h0:w.rows=[]
  ·refine aj.ofR ah hpu (base.mono λ u K k ⟨r,W,hu,_,hos⟩=>fin hu ?_ (hos.nV (bc.pure hcs) ae));rw[hR.1 h0];exact .pure _ hp
  refine aj.ofR ah hpu (base.zs λ u K k ⟨r,W,hu,hr,hos⟩=>?_);obtain⟨rfl,rfl,hVr⟩:=hR.2 h0;obtain⟨hr,hk,hWr⟩:=hr h0;refine⟨λ _=>none,K.put r (some (.cells (w.rows.map dN).length [] (iH.l w.rows) .nil)),u,⟨λ b x h=>by simp at h,λ b h=>ar rfl h,λ b x h=>?_⟩,FJ.refl _ _,?_⟩
  ·rw[Tr.get_put]at h
   by_cases e:b=r
   ·subst e;rw[aw rfl]at h;injection h with h;subst h;obtain⟨u,z,bs,t',h1,q1,q3,_⟩:=OwnB.list (l:=w.rows.map dN) (rfl:(w.rows.map dN).length=_);exact⟨_,hr,.inr ⟨u,z,bs,t',iH.l w.rows,h1,by rw[q1],by rw[q1,(CQ (λ _=>none) w.rows).length],λ i v hv=>by rw[q3];exact(CQ _ w.rows).at i v hv⟩⟩
   rw[ai e]at h;exact⟨x,h,.inl rfl⟩
  refine fin hu ?_ ?_
  ·rw[hVr];exact(show aC (K.put r (some (.cells (w.rows.map dN).length [] (iH.l w.rows) .nil))) k (.sl r 0 w.rows.length 1) (iH.l w.rows) w.rows.length 1 from⟨ah,.inr ⟨r,_,rfl,hk,(Tr.get_put _ _ _ _).trans (aw rfl),OwnB.list ah⟩⟩).nV (bc.pure ah) ae
  exact(hos.frame (aK _) λ c hc=>by
   rw[Tr.get_put,ai];intro e;rw[e]at hc;exact hWr hc).nV (bc.pure hcs) ae
 rw[ai he];simp only[he,if_false]at base;exact aj.ofR ah (mS e) (base.mono λ u K k hu=>by subst hu;exact .pure _ (mS e))
theorem uI {S:Type}{C:Cons S}{I:S->Prop}{Rw:List Val->Prop}(hE:∀s e,I s->I (C.E s e))(hY:∀s row,I s->Rw row->I (C.Y s row))(on:List Ex)(row:List Val):∀(L:List (List Val))(s:S),(∀r∈L,Rw (row++r))->I s->I (cH C on row L s)
 |[],s,_,h=>h
 |r :: rs,s,hr,h=>by
  unfold cH;have h1:=hE s (dX (row++r) on).2 h;have h2:=hY _ _ h1 (hr r ah)
  split
  ·split
   ·exact uI hE hY on row rs _ (λ x hx=>hr x (by simp[hx])) h2
   exact h2
  exact uI hE hY on row rs _ (λ x hx=>hr x (by simp[hx])) h1
theorem xU {S:Type}{I:S->Prop}{Rw:Nat->List Val->Prop}(on:List (List Ex))(tabs:List (List (List Val))):∀(j:Nat)(C:Cons S),(∀s e,I s->I (C.E s e))->(∀s row,I s->Rw j row->I (C.Y s row))->(∀i,i<j->∀row,Rw i row->∀r∈tabs.getD i [],Rw (i+1) (row++r))->Rw 0 []->∀s,I s->I (pJ on tabs j C s)
 |0,C,_,hY,_,h0,s,hs=>by unfold pJ;exact hY _ _ hs h0
 |j+1,C,hE,hY,ht,h0,s,hs=>by
  unfold pJ;refine xU (I:=I) (Rw:=Rw) on tabs j {C with Y:=λ s row=>cH C (on.getD j []) row (tabs.getD j []) s} hE (λ s row hs hr=>?_) (λ i hi=>ht i ae) h0 s hs;exact uI (Rw:=Rw (j+1)) hE hY _ _ _ _ (λ r hr'=>ht j ae row hr r hr') hs
theorem ew:f_.may=true:=by decide
theorem pj (b:Bool):(gR b).may=true:=by cases b<;>decide
theorem ye (a b:Val)(r:Int×Bool):(kh a b r).1.may=true:=by
 unfold kh
 split
 ·exact ew
 split
 ·simp[Val.may]
 exact ew
theorem aeW (op:Int) (a b:Val):(opW op a b).1.may=true:=by
 unfold opW
 split
 ·unfold unS
  split
  ·exact ye _ _ _
  split
  ·unfold afa;split;exact ew;exact pj _
  split<;>exact pj _
 have hd:∀r,(H7 a b r).1.may=true:=λ r=>by unfold H7;split;exact ew;exact ye _ _ _
 have hc:∀r,(kD a b r).1.may=true:=λ r=>by
  unfold kD
  split
  ·exact ew
  split
  ·exact ew
  split;exact ew;exact pj _
 have hb:∀c,(vY c a b).1.may=true:=λ c=>by
  unfold vY
  split
  ·exact ew
  split
  ·exact pj _
  split;exact ew;exact pj _
 have hj:(Hq a b).1.may=true:=by
  unfold Hq
  split
  ·exact ew
  split
  ·rename_i h;simp[Val.may,h]
  exact ew
 unfold biS;have key:∀ {p:Prop} [Decidable p] {x y:Val×Int},x.1.may=true->y.1.may=true->(if p then x else y).1.may=true:=λ {p} _ {x y} hx hy=>by split<;>assumption
 repeat' (first|exact ye _ _ _|exact hd _|exact hj|exact hc _|exact hb _|refine key ?_ ?_)
theorem alv {row:List Val}(hr:eI row)(e:Ex)(h:e.vL (row.length:Int)=true):(e.ev row).1.may=true:=by
 obtain⟨op,v,t,m,cG,args⟩:=e;unfold Ex.vL at h;unfold Ex.ev;simp only[dS,Bool.not_eq_true',Bool.or_eq_false_iff,Bool.and_eq_false_iff,decide_eq_false_iff_not,Bool.not_eq_false']at h
 by_cases h1:op=1
 ·rw[aw h1];have:=h.2.1.1;simpa[h1]using this
 rw[ai h1]
 by_cases h3:op=3
 ·rw[aw h3];show (row.getD cG.toNat f_).may=true
  by_cases hl:cG.toNat<row.length
  ·rw[getD,cX hl];exact hr _ (dw hl)
  rw[getD,getElem?_eq_none ae];exact ew
 rw[ai h3]
 cases Ex.YJ row args with
 |inl e=>exact ew
 |inr l=>exact aeW _ _ _
theorem UH (row:List Val)(e:Ex):(jo row e).1.may=true:=by
 unfold jo
 split
 ·rename_i h
  split
  ·rename_i h2;exact alv (λ v hv=>all_eq_true.1 h2 v hv) e h
  exact ew
 exact ew
theorem Tz (row:List Val)(l:List Ex):eI (eG row l):=λ v hv=>by
 unfold eG at hv;obtain⟨e,_,rfl⟩:=mem_map.1 hv;exact UH _ _
theorem tD (on:List (List Ex)) (tabs:List (List (List Val))) (w it:List Ex) (j:Nat):∀r∈(jJ on tabs w it j).rows,eI r/\r.length=it.length:=by
 unfold jJ;refine xU (I:=λ s:uo=>∀r∈s.rows,eI r/\r.length=it.length) (Rw:=λ _ _=>True) on tabs j _ (λ s e h=>h) (λ s row h _=>?_) (λ _ _ _ _ _ _=>trivial) trivial _ ah;show ∀r∈(rQ w it s row).rows,_;unfold rQ
 split
 ·split
  ·exact h
  intro r hr
  rcases mem_append.1 hr with hr|hr
  ·exact h r hr
  rw[mi]at hr;subst hr;exact⟨Tz _ _,by simp[eG]⟩
 exact h
end Go.Abs
