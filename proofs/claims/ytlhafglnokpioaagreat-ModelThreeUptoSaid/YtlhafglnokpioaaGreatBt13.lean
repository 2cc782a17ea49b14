/- A part. -/
import Derived.Test.YtlhafglnokpioaaGreatBt12
noncomputable section
namespace Go.Abs
open List
open Go.Proofs
set_option maxRecDepth 100000
structure amT (od:List Val->List Val->Int)(S:List Val->Prop):Prop where
 tot:∀a b,S a->S b->¬od a b<=0->od b a<=0
 trans:∀a b c,S a->S b->S c->od a b<=0->od b c<=0->od a c<=0
def yC (od:List Val->List Val->Int)(a b:List Val):Bool:=decide (od a b<=0)
theorem PG {f:List Val->List Val->Bool}{x:List Val}{A B:List (List Val)}(h:x∈A.merge B f):x∈A∨x∈B:=by
 have:=(merge_perm_append (xs:=A) (ys:=B) f).mem_iff.1 h;simpa using this
theorem JM {od:List Val->List Val->Int}{S:List Val->Prop}(ho:amT od S){A B:List (List Val)}(mA:∀r∈A,S r) (mB:∀r∈B,S r) (hA:A.Pairwise λ a b=>od a b<=0) (hB:B.Pairwise λ a b=>od a b<=0):(A.merge B (yC od)).Pairwise λ a b=>od a b<=0:=by
 induction A generalizing B with
 |nil=>simpa using hB
 |cons a A ihA =>
  induction B with
  |nil=>simpa using hA
  |cons b B ihB =>
   have ma:=mA a ai;have mb:=mB b ai;have mA':∀r∈A,S r:=λ r hr=>mA r (by simp[hr]);have mB':∀r∈B,S r:=λ r hr=>mB r (by simp[hr]);rw[pairwise_cons]at hA hB;rw[cons_merge_cons]
   cases hle:yC od a b with
   |true =>
    have hab:od a b<=0:=by simpa[yC]using hle
    rw[ay rfl];refine pairwise_cons.2 ⟨λ x hx=>?_,ihA mA' mB hA.2 (pairwise_cons.2 hB)⟩
    rcases PG hx with h|h
    ·exact hA.1 x h
    rcases mem_cons.1 h with rfl|h
    ·exact hab
    exact ho.trans _ _ _ ma mb (mB' x h) hab (hB.1 x h)
   |false =>
    have hba:=ho.tot _ _ ma mb (by simpa[yC]using hle);rw[ak ai];refine pairwise_cons.2 ⟨λ x hx=>?_,ihB mB' hB.2⟩
    rcases PG hx with h|h
    ·rcases mem_cons.1 h with rfl|h
     ·exact hba
     exact ho.trans _ _ _ mb ma (mA' x h) hba (hA.1 x h)
    exact hB.1 x h
theorem Yd {K:Hp}{b i:Nat}{y:bJ}{l:List AV}(h:K.get b=some y)(ho:OwnB y l)(hi:i<l.length):cN (.ptr b i) K=.val l[i]:=by
 obtain⟨u,z,bs,t,rfl,h3,h4,_⟩:=ho;have:=h4 i;rw[cY hi]at this;simp[h,this]
def SdR (od:List Val->List Val->Int)(H:Hp)(n:Nat)(L:List (List Val))(v:AV)(K:Hp)(n':Nat):Prop:=n<=n'/\(∀c,c<n->K.get c=H.get c)/\(∀c,v=.sl c 0 L.length 1->n<=c) /\
 ∃M:List (List Val),M.Perm L/\(M.Pairwise λ a b=>od a b<=0)/\aD K n' v (aQ M) L.length 1
theorem Af {od:List Val->List Val->Int}(kv:AV)(L:List (List Val))(hL:L.length<2)(H:Hp)(n:Nat):ao pG 17 [.ds (aQ L) L.length 1,kv] H n (SdR od H n L):=by
 refine ao.of c17 (by simp[A17]) λ F hF=>?_;simp[A17,hF,show (L.length:Int)<2 by omega]
 match L,hL with
 |[],_ =>
  simp[aQ,gZ,aX,sliceLen,oS];exact⟨ah,λ c hc=>by simp[show ¬c=n by omega],λ c h=>by injection h with h;omega,[],ai,ai,⟨by simp[aQ],.inr ⟨n,.cells 0 [] [] .nil,rfl,ah,ai,.list (u:=0) (l:=[]) rfl⟩⟩⟩
 |[r],_ =>
  refine aD.app (l:=[]) (len:=0) (new:=aQ [r]) (k:=1) ⟨ai,.inr ⟨n,_,rfl,ah,by simp;rfl,.list ai⟩⟩ ai rfl ai ah ah (by unfold big;omega) ah rfl λ H' ho hk=>?_;simp;simp only[nil_append,tA]at ho;refine⟨ah,λ c hc=>?_,λ c h=>by injection h with h;omega,[r],ai,ai,ho⟩;rw[hk c ah (λ e=>by injection e with e;omega)];simp[show ¬c=n by omega]
theorem agi {cs:List AV}{len k:Nat}(h:k<=len):jW 1 none (some (zI (k:Int))) none (.ds cs len 1)=.val (.ds (cs.take k) k 1):=by
 unfold jW
 have:zp len none (some (zI (k:Int))) none=some (0,k):=by
  simp[zp,show bnd len (some (zI (k:Int)))=some k from rfl,show bnd len none=some len from rfl,show bnd 0 none=some 0 from rfl,h]
 simp only[this];simp
theorem agh {cs:List AV}{len k:Nat}(h:k<=len)(hc:cs.length=len):jW 1 (some (zI (k:Int))) none none (.ds cs len 1)=.val (.ds (cs.drop k) (len - k) 1):=by
 unfold jW
 have:zp len (some (zI (k:Int))) none none=some (k,len):=by
  simp[zp,show bnd 0 (some (zI (k:Int)))=some k from rfl,show bnd len none=some len from rfl,h]
 simp only[this];simp;rw[fZ (by simp;omega)]
theorem aD.blk {H:Hp}{n len sz:Nat}{v:AV}{l:List AV}(h:aD H n v l len sz)(h0:0<len):∃b y,v=.sl b 0 len sz/\b<n/\H.get b=some y/\OwnB y l:=by
 obtain⟨_,⟨_,e⟩|h⟩:=h
 ·omega
 exact h
@[simp] theorem aut {ce:Ce}{F:Fr}{H:Hp}{Hs:List Hp}{n:Nat}{m:List Dm}{Q:QA}(l:List AV)(b:Bool)(F0:Fr)(pd:Pd)(f:FuncId)(al:List G)(r:List (Option RO)):GcI (some (.br l)) b F0 pd f al r ce F H Hs n m Q=Ev ((fY r).f ce (pd.f (.br []) F) H (H::Hs) n m) Q:=propext Iff.rfl
theorem agO {ba i k:Nat}{A:List (List Val)}{v5 v6:AV}{v:AV}{M:List (List Val)}{F:Fr}{K:Hp}{n' n2:Nat}{Q:QA}{kv:AV}(hA:i<A.length)(hi:i<2147483647)(hM:M.length<4194304)
  (f1:F.get 1=some kv)(f5:F.get 5=some v5)(f6:F.get 6=some v6)(f7:F.get 7=some v)(f8:F.get 8=some (zI (i:Int)))(f9:F.get 9=some (zI (k:Int)))
  (hv:v5=.sl ba 0 A.length 1)(xA:cN (.ptr ba i) K=.val (aC A[i]))(g1:n2<=n')(g3:aD K n' v (aQ M) M.length 1)(g4:∀c,v=.sl c 0 M.length 1->n2<=c)
  (hgo:∀(F2:Fr)(K':Hp)(v':AV),F2.get 1=some kv->F2.get 5=some v5->F2.get 6=some v6->F2.get 7=some v'->F2.get 8=some (zI ((i+1:Nat):Int))->F2.get 9=some (zI (k:Int)) ->
   (∀c,c<n2->K'.get c=K.get c)->aD K' (n'+2) v' (aQ (M++[A[i]])) (M++[A[i]]).length 1->(∀c,v'=.sl c 0 (M++[A[i]]).length 1->n2<=c)->Q .normal F2 K' (n'+2) []):
  VC pG NP F K n' [] (nj pG NN Q):=by
 subst hv;have yA:bW 1 (.sl ba 0 A.length 1) (zI (i:Int))=.val (.ptr ba i):=bK hA;simp[NP,f7,f5,f8,yA,xA,aC];have g3':aD (K.put n' (aN 1 [aC A[i]])) (n'+1) v (aQ M) M.length 1:=g3.mv ah λ c hc _=>by simp[show ¬c=n' by omega]
 refine aD.app (new:=[aC A[i]]) (k:=1) g3' ?_ ai ai ah ah (by unfold big;omega) ah rfl λ H' ho hk=>?_
 ·rw[bU (l:=[aC A[i]]) (k:=.cells 1 [] [aC A[i]] .nil) (by simp[aC]) (.list ai) ai];simp
 simp[NN,f8,aE i ah];refine hgo _ _ (.sl (n'+1) 0 (M.length+1) 1) (by simp[f1]) (by simp[f5]) (by simp[f6]) ai ai (by simp[f9]) (λ c hc=>?_) (by simpa[aQ]using ho) λ c h=>by injection h with h;omega
 rw[hk c ah (λ e=>by have:=g4 c e;omega)];simp[show ¬c=n' by omega]
theorem agN {ba i k:Nat}{A:List (List Val)}{v5 v6:AV}{v:AV}{M:List (List Val)}{F:Fr}{K:Hp}{n' n2:Nat}{Q:QA}{kv:AV}(hA:i<A.length)(hi:i<2147483647)(hM:M.length<4194304)
  (f1:F.get 1=some kv)(f6:F.get 6=some v5)(f5:F.get 5=some v6)(f7:F.get 7=some v)(f9:F.get 9=some (zI (i:Int)))(f8:F.get 8=some (zI (k:Int)))
  (hv:v5=.sl ba 0 A.length 1)(xA:cN (.ptr ba i) K=.val (aC A[i]))(g1:n2<=n')(g3:aD K n' v (aQ M) M.length 1)(g4:∀c,v=.sl c 0 M.length 1->n2<=c)
  (hgo:∀(F2:Fr)(K':Hp)(v':AV),F2.get 1=some kv->F2.get 6=some v5->F2.get 5=some v6->F2.get 7=some v'->F2.get 9=some (zI ((i+1:Nat):Int))->F2.get 8=some (zI (k:Int)) ->
   (∀c,c<n2->K'.get c=K.get c)->aD K' (n'+2) v' (aQ (M++[A[i]])) (M++[A[i]]).length 1->(∀c,v'=.sl c 0 (M++[A[i]]).length 1->n2<=c)->Q .normal F2 K' (n'+2) []):
  VC pG NM F K n' [] (nj pG NK Q):=by
 subst hv;have yA:bW 1 (.sl ba 0 A.length 1) (zI (i:Int))=.val (.ptr ba i):=bK hA;simp[NM,f7,f6,f9,yA,xA,aC];have g3':aD (K.put n' (aN 1 [aC A[i]])) (n'+1) v (aQ M) M.length 1:=g3.mv ah λ c hc _=>by simp[show ¬c=n' by omega]
 refine aD.app (new:=[aC A[i]]) (k:=1) g3' ?_ ai ai ah ah (by unfold big;omega) ah rfl λ H' ho hk=>?_
 ·rw[bU (l:=[aC A[i]]) (k:=.cells 1 [] [aC A[i]] .nil) (by simp[aC]) (.list ai) ai];simp
 simp[NK,f9,aE i ah];refine hgo _ _ (.sl (n'+1) 0 (M.length+1) 1) (by simp[f1]) (by simp[f6]) (by simp[f5]) ai ai (by simp[f8]) (λ c hc=>?_) (by simpa[aQ]using ho) λ c h=>by injection h with h;omega
 rw[hk c ah (λ e=>by have:=g4 c e;omega)];simp[show ¬c=n' by omega]
theorem aew {od:List Val->List Val->Int}{S:List Val->Prop}{kv:AV}(ho:amT od S) (h19:∀l m,S l->S m->aj pG 36 [aC l,aC m,kv] (zI (od l m))):∀(N:Nat) (L:List (List Val)),L.length=N->L.length<=1048576->(∀l∈L,S l)->∀(H:Hp) (n:Nat),ao pG 17 [.ds (aQ L) L.length 1,kv] H n (SdR od H n L):=by
 intro N
 induction N using Nat.strongRecOn with
 |ind N ih =>
 intro L hN hL hm H n
 by_cases h2:L.length<2
 ·exact Af kv L h2 H n
 refine ao.of c17 (by simp[A17]) λ F hF=>?_;obtain⟨A0,hA0⟩:∃A,A=L.take (L.length / 2):=⟨_,rfl⟩;obtain⟨B0,hB0⟩:∃B,B=L.drop (L.length / 2):=⟨_,rfl⟩;have lA:A0.length=L.length / 2:=by rw[hA0,length_take];omega
 have lB:B0.length=L.length - L.length / 2:=by rw[hB0,length_drop]
 have eAB:A0++B0=L:=by rw[hA0,hB0,take_append_drop]
 have sA:∀r∈A0,r∈L:=λ r hr=>by rw[<-eAB];simp[hr]
 have sB:∀r∈B0,r∈L:=λ r hr=>by rw[<-eAB];simp[hr]
 have cA:=ih A0.length ah A0 rfl ah (λ l h=>hm l (sA l h));have cB:=ih B0.length ah B0 rfl ah (λ l h=>hm l (sB l h));have e1:(L.length:Int).tdiv 2=((L.length / 2:Nat):Int):=by rw[Int.tdiv_eq_ediv_of_nonneg ah];omega
 have e2:=agi (cs:=aQ L) (len:=L.length) (k:=L.length / 2) ah;have e3:=agh (cs:=aQ L) (len:=L.length) (k:=L.length / 2) ah ai
 have e0:bS .quo .i64 (L.length:Int) 2=.val (zI (A0.length:Int)):=by
  simp only[bS];rw[ak ah,e1,dY _ ah ah,lA];simp
 rw[show (aQ L).take (L.length / 2)=aQ A0 by rw[hA0,aQ,aQ,map_take],<-lA]at e2;rw[show (aQ L).drop (L.length / 2)=aQ B0 by rw[hB0,aQ,aQ,map_drop],<-lB,<-lA]at e3;simp[A17,hF,show ¬(L.length:Int)<2 by omega,e0,wq,vB,e2];refine aB.of (cA H n) λ a K1 n1 ⟨p1,p2,p3,A,p4,p5,p6⟩=>?_;simp[ai7,hF,e0,wq,vB,e3];refine aB.of (cB K1 n1) λ b K2 n2 ⟨q1,q2,q3,B,q4,q5,q6⟩=>?_;obtain⟨ba,ya,rfl,hba,hya,oya⟩:=p6.blk ah;obtain⟨bb,yb,rfl,hbb,hyb,oyb⟩:=q6.blk ah;rw[<-q2 ba hba]at hya;have nA:A.length=A0.length:=p4.length_eq;have nB:B.length=B0.length:=q4.length_eq;have hbn:n1<=bb:=q3 bb rfl;have mA:∀r∈A,S r:=λ r hr=>hm r (sA r (p4.mem_iff.1 hr));have mB:∀r∈B,S r:=λ r hr=>hm r (sB r (q4.mem_iff.1 hr));have sM:(A.merge B (yC od)).Perm L:=(merge_perm_append (xs:=A) (ys:=B) (yC od)).trans (by rw[<-eAB];exact p4.append q4);have oM:=JM ho mA mB p5 q5;have lM:(A.merge B (yC od)).length=L.length:=sM.length_eq;rw[<-nA]at *;rw[<-nB]at *;have hK2:∀c,c<n->K2.get c=H.get c:=λ c hc=>by rw[q2 c ah,p2 c hc]
 clear ih cA cB e0 e1 e2 e3 hA0 hB0 sA sB lA lB p4 q4 p2 q2 p6 q6 q3 p3 hm;simp[ai6,ai5,ai4]
 refine aF.of (λ t F K n' ms=>∃(i k:Nat) (v:AV) (M:List (List Val)),t=A.length - i+(B.length - k)/\i<=A.length/\k<=B.length/\F.get 1=some kv/\F.get 5=some (.sl ba 0 A.length 1)/\F.get 6=some (.sl bb 0 B.length 1)/\F.get 7=some v/\F.get 8=some (zI (i:Int))/\F.get 9=some (zI (k:Int))/\ms=[] /\
  n2<=n'/\(∀c,c<n2->K.get c=K2.get c)/\aD K n' v (aQ M) M.length 1/\(∀c,v=.sl c 0 M.length 1->n2<=c)/\A.merge B (yC od)=M++(A.drop i).merge (B.drop k) (yC od)) (A.length+B.length) ⟨0,0,_,[],ah,ah,ah,by simp[hF],ai,ai,ai,ai,ai,rfl,aL _,λ _ _=>rfl,aD.nil _ _ _,λ c h=>by simp at h,ai⟩ ?_
 clear hF F;rintro t F K n' ms ⟨i,k,v,M,rfl,hi,hk,f1,f5,f6,f7,f8,f9,rfl,g1,g2,g3,g4,g5⟩
 have xA:∀h:i<A.length,cN (.ptr ba i) K=.val (aC A[i]):=λ h=>by
  have:=Yd (K:=K) (by rw[g2 ba ah];exact hya) oya (i:=i) (by simpa using h);simpa[aQ]using this
 have xB:∀h:k<B.length,cN (.ptr bb k) K=.val (aC B[k]):=λ h=>by
  have:=Yd (K:=K) (by rw[g2 bb ah];exact hyb) oyb (i:=k) (by simpa using h);simpa[aQ]using this
 have yA:∀h:i<A.length,bW 1 (.sl ba 0 A.length 1) (zI (i:Int))=.val (.ptr ba i):=λ h=>bK h;have yB:∀h:k<B.length,bW 1 (.sl bb 0 B.length 1) (zI (k:Int))=.val (.ptr bb k):=λ h=>bK h
 have lM2:M.length+((A.length - i)+(B.length - k))=A.length+B.length:=by
  have:=congrArg length g5;rw[length_append,(merge_perm_append (xs:=A.drop i) (ys:=B.drop k) (yC od)).length_eq,(merge_perm_append (xs:=A) (ys:=B) (yC od)).length_eq]at this;simp at this;omega
 have emn:∀X:List (List Val),X.merge [] (yC od)=X:=λ X=>ai
 have kAA:∀h:i<A.length,∀h':k<B.length,od A[i] B[k]<=0->A.merge B (yC od)=(M++[A[i]])++(A.drop (i+1)).merge (B.drop k) (yC od):=λ h h' hle=>by
  rw[g5,gu h,gu h',cons_merge_cons,ay (by simpa[yC]using hle),append_assoc];rfl
 have kAB:∀h:i<A.length,∀h':k<B.length,¬(od A[i] B[k]<=0)->A.merge B (yC od)=(M++[B[k]])++(A.drop i).merge (B.drop (k+1)) (yC od):=λ h h' hle=>by
  rw[g5,gu h,gu h',cons_merge_cons,ak (by simpa[yC]using hle),append_assoc];rfl
 have kA:∀h:i<A.length,¬k<B.length->A.merge B (yC od)=(M++[A[i]])++(A.drop (i+1)).merge (B.drop k) (yC od):=λ h h'=>by
  rw[g5,gu h,drop_eq_nil_of_le (by omega:B.length<=k),emn,emn,append_assoc];rfl
 have kB:¬i<A.length->∀h':k<B.length,A.merge B (yC od)=(M++[B[k]])++(A.drop i).merge (B.drop (k+1)) (yC od):=λ h h'=>by
  rw[g5,gu h',drop_eq_nil_of_le (by omega:A.length<=i),nil_merge,nil_merge,append_assoc];rfl
 have hbaA:ba<n':=ah;have lMx:M.length<4194304:=by have:=lM;rw[(merge_perm_append (xs:=A) (ys:=B) (yC od)).length_eq,length_append]at this;omega
 by_cases hB:k<B.length
 ·by_cases hA:i<A.length
  ·simp[I6,f8,f5,hA];refine bF.of (dX (l:=[(36,[aC A[i],aC B[k],kv],λ H n=>.mk (zI (od A[i] B[k])) H n)]) ?_) ?_
   ·intro x hx;simp only[mem_cons,not_mem_nil,or_false]at hx;subst hx;exact cy (h19 A[i] B[k] (mA _ (dy _)) (mB _ (dy _)))
   have hB':¬B.length<=k:=ah;simp[ae,f8,f5,f9,f6,f1,hA,hB',yA hA,yB hB,xA hA,xB hB];rw[bY]
   by_cases hle:od A[i] B[k]<=0
   ·simp[hle];refine agO (kv:=kv) (v5:=.sl ba 0 A.length 1) (v6:=.sl bb 0 B.length 1) (ba:=ba) (i:=i) (k:=k) (A:=A) (v:=v) (M:=M) (n2:=n2) hA ah lMx (by simp[ae,f1]) (by simp[ae,f5]) (by simp[ae,f6]) (by simp[ae,f7]) (by simp[ae,f8]) (by simp[ae,f9]) rfl (xA hA) g1 g3 g4 λ F2 K' v' e1 e5 e6 e7 e8 e9 ek eo eg=>?_;exact⟨A.length - (i+1)+(B.length - k),ah,i+1,k,rfl,ah,ah,e1,e5,e6,v',e7,e8,e9,rfl,ah,λ c hc=>(ek c hc).trans (g2 c hc),M++[A[i]],eo,eg,kAA hA hB hle⟩
   simp[hle];refine agN (kv:=kv) (v5:=.sl bb 0 B.length 1) (v6:=.sl ba 0 A.length 1) (ba:=bb) (i:=k) (k:=i) (A:=B) (v:=v) (M:=M) (n2:=n2) hB ah lMx (by simp[ae,f1]) (by simp[ae,f6]) (by simp[ae,f5]) (by simp[ae,f7]) (by simp[ae,f9]) (by simp[ae,f8]) rfl (xB hB) g1 g3 g4 λ F2 K' v' e1 e6 e5 e7 e9 e8 ek eo eg=>?_;exact⟨A.length - i+(B.length - (k+1)),ah,i,k+1,rfl,ah,ah,e1,e5,e6,v',e7,e8,e9,rfl,ah,λ c hc=>(ek c hc).trans (g2 c hc),M++[B[k]],eo,eg,kAB hA hB hle⟩
  have hB':¬B.length<=k:=ah;simp[I6,f8,f5,f9,f6,hA,hB];refine bF.of (bq (P:=pG)) ?_;simp[ae,f8,f5,f9,f6,hA,hB'];refine agN (kv:=kv) (v5:=.sl bb 0 B.length 1) (v6:=.sl ba 0 A.length 1) (ba:=bb) (i:=k) (k:=i) (A:=B) (v:=v) (M:=M) (n2:=n2) hB ah lMx (by simp[ae,f1]) (by simp[ae,f6]) (by simp[ae,f5]) (by simp[ae,f7]) (by simp[ae,f9]) (by simp[ae,f8]) rfl (xB hB) g1 g3 g4 λ F2 K' v' e1 e6 e5 e7 e9 e8 ek eo eg=>?_;exact⟨A.length - i+(B.length - (k+1)),ah,i,k+1,rfl,ah,ah,e1,e5,e6,v',e7,e8,e9,rfl,ah,λ c hc=>(ek c hc).trans (g2 c hc),M++[B[k]],eo,eg,kB hA hB⟩
 by_cases hA:i<A.length
 ·have hB':B.length<=k:=ah;simp[I6,f8,f5,hA];refine bF.of (bq (P:=pG)) ?_;simp[ae,f9,f6,hB'];refine agO (kv:=kv) (v5:=.sl ba 0 A.length 1) (v6:=.sl bb 0 B.length 1) (ba:=ba) (i:=i) (k:=k) (A:=A) (v:=v) (M:=M) (n2:=n2) hA ah lMx (by simp[ae,f1]) (by simp[ae,f5]) (by simp[ae,f6]) (by simp[ae,f7]) (by simp[ae,f8]) (by simp[ae,f9]) rfl (xA hA) g1 g3 g4 λ F2 K' v' e1 e5 e6 e7 e8 e9 ek eo eg=>?_;exact⟨A.length - (i+1)+(B.length - k),ah,i+1,k,rfl,ah,ah,e1,e5,e6,v',e7,e8,e9,rfl,ah,λ c hc=>(ek c hc).trans (g2 c hc),M++[A[i]],eo,eg,kA hA hB⟩
 simp[I6,f8,f5,f9,f6,hA,hB,acZ,f7];rw[drop_eq_nil_of_le (by omega:A.length<=i),drop_eq_nil_of_le (by omega:B.length<=k),nil_merge,append_nil]at g5;have hML:M.length=L.length:=by rw[<-g5];exact lM
 refine⟨ah,λ c hc=>(g2 c ah).trans (hK2 c hc),λ c e=>?_,M,g5▸sM,g5▸oM,by rw[<-hML];exact g3⟩;have:=g4 c (by rw[hML];exact e);omega
end Go.Abs
namespace Go.Abs
open List
open Go.Proofs
open Classical
set_option maxRecDepth 100000
def rS (r:List Val):Prop:=iI r/\r.length<=1048576
theorem WA:amT rN rS:=by
 refine⟨λ a b ha hb h=>?_,λ a b c ha hb hc h k=>?_⟩
 ·rw[nJ ha.1 hb.1]at h;rw[nJ hb.1 ha.1];have:=jD ha.1 hb.1;omega
 rw[nJ ha.1 hb.1]at h;rw[nJ hb.1 hc.1]at k;rw[nJ ha.1 hc.1];exact kT ha.1 hb.1 hc.1 h k
theorem VZ (L:List (List Val))(hL:L.length<=1048576)(hm:∀l∈L,rS l):aj pG 17 [.ds (aQ L) L.length 1,nS] (.ds (aQ (oV L)) L.length 1):=by
 refine aj.ofR ai ai ((aew WA (λ l m hl hm=>agA l m hl.2 hm.2 hl.1 hm.1) _ L rfl hL hm .nil 0).mono λ v K k ⟨_,_,_,A,hp,hs,os⟩=>?_);have e:A=oV L:=C6 (λ r hr=>(hm r hr).1) hp (hs.imp_of_mem λ ha hb h=>(nJ (hm _ (hp.mem_iff.1 ha)).1 (hm _ (hp.mem_iff.1 hb)).1).1 h);subst e;rw[<-nI L];rw[nI L];exact(by simpa using os:aD K k v (aQ (oV L)) L.length 1).nz (bp.pure ai) ah
theorem ZE {P:Program}{F:Fr}{H:Hp}{n:Nat}{m:List Dm}{Q:QA}{v:AV}{l new:List AV}{len k:Nat}{pd:Pd}{r:List (Option GO)}(h:aD H n v l len 1)(hn:new.length=k)(hbig:len+k<=big)(h1:bo new=true)
  (hgo:∀v' H' n',n<=n'->aD H' n' v' (l++new) (len+k) 1->(∀x,blk v'=some x->blk v=some x∨n<=x)->(∀c,c<n->blk v≠some c->H'.get c=H.get c)->fE P r (pd.f v' F) H' n' m Q):Gf (Go.Abs.gZ 1 24 n v (.ds new k 1) H) pd r P F H n m Q:=by
 rcases Nat.eq_zero_or_pos k with e|hk0
 ·subst e;obtain rfl:=length_eq_zero_iff.1 hn
  have e2:Go.Abs.gZ 1 24 n v (.ds [] 0 1) H=.val v:=by
   have hx:aX H 1 (.ds [] 0 1)=some []:=ai;have hk:sliceLen (.ds [] 0 1)=some 0:=ai;obtain⟨_,⟨rfl,_⟩|⟨b,k,rfl,_⟩⟩:=h<;>(unfold Go.Abs.gZ;rw[hx,hk];rfl)
  unfold Gf;rw[e2];exact hgo v H n (aL _) (by simpa using h) (λ x hx=>.inl hx) λ _ _ _=>rfl
 refine h.app (new:=new) (k:=k) ai ai ah ah hk0 hbig ah h1 λ H' ho hk=>hgo _ H' (n+1) ah ho (λ x hx=>.inr (by simp at hx;omega)) λ c hc hb=>hk c hc λ e=>hb (by rw[e];rfl)
end Go.Abs
namespace Go.Abs
open List
open Go.Proofs
open Classical
set_option maxRecDepth 100000
def qL (q:bG)(x0 x1 x2 x3 x4 x5 x6 x7:AV):List AV:=[.bool q.kE,.bool q.star,my.ds q.items,ju.ds q.ar,x0,x1,x2,x3,x4,x5,x6,x7,pf.ds q.order,.bool q.limited,zI q.limit]
def C_ (l:List AV):List AV:=[zI 8,.str [],.str [],nS,nS,.bool false,nS,nS,zI 0,zI 0,zI 0,.str [],.str [],.str [],zI 0,nS]++l
theorem WW {u R:AV}{q:bG}{op:Int}{v:Val}{t m:List Nat}{cD:Int}{args:List Ex}(h:aj pG 10 [u,(eY (q.wh (.mk op v t m cD args))).av] R)(hp:Pure u):aj pG 10 [u,.agg (C_ (qL q (zI op) (zI v.kind) (zI v.num) (.str v.s) (.str t) (.str m) (zI cD) (.ds (Ex.aK args) args.length 8))) 31] R:=
 aj.nl (l':=(eY (q.wh (.mk op v t m cD args))).cells) h (by simp[C_,qL,hp]) (by
  have:=akB;simp[C_,qL,eY,dE.z,dE.cells,vJ,bG.wh,bG.cells,Ex.cells,this])
theorem ajX {u R:AV}{q:bG}(h:aj pG 10 [u,(eY (q.wh vJ)).av] R)(hp:Pure u):aj pG 10 [u,.agg (C_ (qL q (zI 0) (zI 0) (zI 0) (.str []) (.str []) (.str []) (zI 0) nS)) 31] R:=
 aj.nl (l':=(eY (q.wh vJ)).cells) h (by simp[C_,qL,hp]) (by
  have:=akB;simp[C_,qL,eY,dE.z,dE.cells,vJ,bG.wh,bG.cells,Ex.cells,this])
structure T4 (w:qf)(q:bG)(e0:Int)(N D W:AV)(L5:List AV)(F:Fr)(K:Hp)(n:Nat)(v:AV)(acc:List (List Val))(i:Nat):Prop where
 f3:F.get 3=some (.ptr 0 0)
 f4:F.get 4=some (.ptr 1 0)
 f8:F.get 8=some (.ptr 4 0)
 f9:F.get 9=some (zI e0)
 f10:F.get 10=some v
 f11:F.get 11=some (.sl 5 0 3 8)
 f12:F.get 12=some (zI (i:Int))
 c0:K.get 0=aN 3 [aM.ds w.aY.tables,bw.ds w.aY.indexes,iO.ds w.rows]
 c1:∃x0 x1 x2 x3 x4 x5 x6 x7,K.get 1=aN 15 (qL q x0 x1 x2 x3 x4 x5 x6 x7)
 c4:K.get 4=aN 4 [N,D,W,zI 0]
 c5:K.get 5=aN 24 L5
 os:aD K n v (aQ acc) acc.length 1
 vb:∀x,blk v=some x->6<=x
 hn:6<=n
section
variable {w:qf}{q:bG}{e0:Int}{N D W:AV}{L5:List AV}{F:Fr}{K:Hp}{n:Nat}{v:AV}{acc:List (List Val)}{i:Nat}
theorem T4.mv (T:T4 w q e0 N D W L5 F K n v acc i){F':Fr}{K':Hp}{x0 x1 x2 x3 x4 x5 x6 x7:AV}(hf:∀t∈[3,4,8,9,10,11,12],F'.get t=F.get t)(hk:∀c,c≠1->K'.get c=K.get c)(h1:K'.get 1=aN 15 (qL q x0 x1 x2 x3 x4 x5 x6 x7)):T4 w q e0 N D W L5 F' K' n v acc i:=
 ⟨(hf 3 ai).trans T.f3,(hf 4 ai).trans T.f4,(hf 8 ai).trans T.f8,(hf 9 ai).trans T.f9,(hf 10 ai).trans T.f10,(hf 11 ai).trans T.f11,(hf 12 ai).trans T.f12,(hk 0 ah).trans T.c0,⟨_,_,_,_,_,_,_,_,h1⟩,(hk 4 ah).trans T.c4,(hk 5 ah).trans T.c5,
  T.os.frame (aL _) λ c hc=>hk c (by have:=T.vb c hc;omega),T.vb,T.hn⟩
theorem Jz (hA:aj pG 13 [] (.bool true)){x0 x1 x2 x3 x4 x5 x6 x7:AV}{e:Int}{rows:List (List Val)}{R N1 C:AV}(h1:R.one=true/\N1.one=true/\C.one=true)(h10:aj pG 10 [mX.av w,.agg (C_ (qL q x0 x1 x2 x3 x4 x5 x6 x7)) 31] (Lj w R N1 C e rows))(hl:rows.length<=4096)(ha:acc.length<=8192)(hi:i<3)
  (T:T4 w q e0 N D W L5 F K n v acc i)(k1:K.get 1=aN 15 (qL q x0 x1 x2 x3 x4 x5 x6 x7))(Q:QA)
  (hQ:e=0->∀F' K' n' v',T4 w q e0 N D W L5 F' K' n' v' (acc++rows) (i+1)->Q .normal F' K' n' [])(hR:∀F' K' n',F'.get 6=some (.bool true)->Q .ret F' K' n' []):
  VC pG aaz F K n [] (nj pG (.seq (.seq QS (.cond (aA 68) (.seq aay .ret) .skip)) aax) (ig 1 (nj pG aaw Q))):=by
 have hwv:mX.av w=.agg [aM.ds w.aY.tables,bw.ds w.aY.indexes,iO.ds w.rows] 3:=Eq.trans rfl rfl;obtain⟨f3,f4,f8,f9,f10,f11,f12,k0,_,c4,c5,os,vb,n6⟩:=T;rw[hwv]at h10;have k1':=k1;unfold qL at h10 k1;unfold C_ at h10;simp only[cons_append,nil_append]at h10;simp[aaz,f3,f4,k0,k1];refine aB.pure h10 ?_;unfold Lj
 by_cases he:e=0
 ·simp[he,resV,h1,QS,aax,f10];generalize hK:Tr.put (Tr.put (Tr.put (Tr.put K n _) (n+1) _) n _) (n+1) _=K2;have k2:∀c,c<n->K2.get c=K.get c:=λ c hc=>by rw[<-hK];simp[show ¬c=n by omega,show ¬c=n+1 by omega]
  clear hK;refine ZE (os.frame (n':=n+1+1) ah λ c hc=>k2 c ?_) ai (by unfold big;omega) (TX _) λ v' H' n' hn ho hb hk=>?_
  ·obtain⟨_,⟨rfl,_⟩|⟨b,k,rfl,h2,_⟩⟩:=os
   ·simp at hc
   simp at hc;omega
  have hk':∀c,c<6->H'.get c=K.get c:=λ c hc=>(hk c ah λ h=>by have:=vb c h;omega).trans (k2 c ah);simp[aaw,f12,aE i ah];exact hQ he _ _ _ v' ⟨by simp[f3],by simp[f4],by simp[f8],by simp[f9],ai,by simp[f11],ai,(hk' 0 ah).trans k0,⟨_,_,_,_,_,_,_,_,(hk' 1 ah).trans k1'⟩,(hk' 4 ah).trans c4,(hk' 5 ah).trans c5,by simpa[aQ]using ho,λ x hx=>(hb x hx).elim (vb x) λ h=>ah,ah⟩
 have hz:JA e=.br [.agg [nS,nS,nS] 3,.agg [nS,nS,nS,zI 0] 4,zI e]:=rfl;simp[he,hz,QS,aay];refine aB.pure hA ?_;simp;exact hR _ _ _ ai
end
end Go.Abs
namespace Go.Abs
open List
open Go.Proofs
open Classical
set_option maxRecDepth 100000
theorem ajM (hA:aj pG 13 [] (.bool true))(w:qf)(hw:w.gA)(q:bG)(p:Ex)(hx:∀c,c=vJ∨c=p∨c=lK 5 p∨c=lK 6 p->(eY (q.wh c)).sm)(hs:q.ar.length<=aU):aj pG 4 [mX.av w,.agg q.cells 15,.agg p.cells 8] (.bool true):=by
 refine gf c4 (by simp[bG.pure]) ai (by simp[A4]) λ F hF=>?_;have h8:=afP w hw q hs;have hwv:mX.av w=.agg [aM.ds w.aY.tables,bw.ds w.aY.indexes,iO.ds w.rows] 3:=Eq.trans rfl rfl;have hol:=(hx vJ (.inl rfl)).order;generalize hvQ w q.ar.length=hv at h8;have rq:=apD p;have h15:=akC p;rw[uy]at rq h15;obtain⟨cop,cv,ct,cm,axY,ahG,hc⟩:∃a b c d e f,q.cond=.mk a b c d e f:=by cases q.cond;exact⟨_,_,_,_,_,_,rfl⟩
 have hqc:q.cells=qL q (zI cop) (zI cv.kind) (zI cv.num) (.str cv.s) (.str ct) (.str cm) (zI axY) (.ds (Ex.aK ahG) ahG.length 8):=by simp[bG.cells,hc,Ex.cells,qL]
 rw[hqc]at h8 hF;rw[hwv]at h8 hF;have hlen:=pf.aT q.order;unfold aU at hol;have hol:q.order.length<=1048576:=hol;unfold qL at h8 hF
 by_cases hb:hv=true∨q.kE=true∨q.limited=true∨0<q.order.length
 ·have fin:∀ {F:Fr} {K:Hp} {n:Nat},VC pG (.seq amR .ret) F K n [] (kH [aH 6] λ v1 H' _=>fj H'.get v1 (.bool true)):=λ {F K n}=>by
   simp[amR];refine aB.pure hA ?_;simp;exact .bool rfl
  simp[A4,hF];refine aB.pure h8 ?_
  cases hv with
  |true=>simp;exact fin
  |false =>
   cases hd:q.kE with
   |true=>simp;exact fin
   |false =>
    cases hm:q.limited with
    |true=>simp;exact fin
    |false =>
     have ho:0<q.order.length:=by simpa[hd,hm]using hb
     simp[hlen,ho];exact fin
 simp only[not_or,Bool.not_eq_true]at hb;obtain⟨rfl,hd,hm,ho⟩:=hb;have ho:q.order=[]:=length_eq_zero_iff.1 ah;obtain⟨e0,r0,a0⟩:=Eo hw (hx vJ (.inl rfl)) (q:=q.wh vJ) ho hd hm;obtain⟨e1,r1,a1⟩:=Eo hw (hx p (.inr (.inl rfl))) (q:=q.wh p) ho hd hm;obtain⟨e2,r2,a2⟩:=Eo hw (hx _ (.inr (.inr (.inl rfl)))) (q:=q.wh (lK 5 p)) ho hd hm;obtain⟨e3,r3,a3⟩:=Eo hw (hx _ (.inr (.inr (.inr rfl)))) (q:=q.wh (lK 6 p)) ho hd hm;have law:=TN ho a0 a1 a2 a3;obtain⟨op,v,t,m,cD,args⟩:=p;obtain⟨R0,N0,C0,o0,f0⟩:=a0.run;obtain⟨R1,N1,C1,o1,f1⟩:=a1.run;obtain⟨R2,N2,C2,o2,f2⟩:=a2.run;obtain⟨R3,N3,C3,o3,f3⟩:=a3.run;have g0:=ajX f0 ai;have g1:=WW f1 ai;have g2:=WW f2 ai;have g3:=WW f3 ai;have e8:Ex.aK [Ex.mk op v t m cD args]=[zI op,zI v.kind,zI v.num,.str v.s,.str t,.str m,zI cD,.ds (Ex.aK args) args.length 8]:=by simp[Ex.aK,Ex.cells]
 simp only[e8,length_singleton]at g2 g3;clear f0 f1 f2 f3;have g0':=g0;rw[hwv]at g0';unfold qL at g0';unfold C_ at g0';simp only[cons_append,nil_append]at g0';have hl0:bg (pf.ds [])=.val (zI 0):=rfl;have pc:(Ex.mk op v t m cD args).cells=[zI op,zI v.kind,zI v.num,.str v.s,.str t,.str m,zI cD,.ds (Ex.aK args) args.length 8]:=rfl;rw[pc]at rq h15 hF;simp[A4,hF];refine aB.pure h8 ?_;simp[hd,hm,hl0,ho,asD,asC];rw[hd,hm,ho]at g0'
 obtain⟨A,B,C,N,D,W,hv,hone,hW⟩:∃A B C N D W,Lj w R0 N0 C0 e0 r0=.br [.agg [A,B,C] 3,.agg [N,D,W,zI 0] 4,zI e0]/\(A.one=true/\B.one=true/\C.one=true/\N.one=true/\D.one=true/\W.one=true)/\(e0=0->W=.ds (aQ r0) r0.length 1):=by
  unfold Lj
  by_cases he:e0=0
  ·rw[ay he];exact⟨_,_,_,_,_,_,by rw[he];rfl,⟨rfl,rfl,o0.1,o0.2.1,o0.2.2,rfl⟩,λ _=>rfl⟩
  rw[ak he];exact⟨_,_,_,_,_,_,rfl,⟨rfl,rfl,rfl,rfl,rfl,rfl⟩,λ h=>aw h he⟩
 rw[hv]at g0';refine aB.pure g0' ?_;simp[hone,asB];generalize hF2:(Fp 10 _ _:Fr)=F2;have f3:F2.get 3=some (.ptr 0 0):=by rw[<-hF2];simp
 have f4:F2.get 4=some (.ptr 1 0):=by rw[<-hF2];simp
 have f5:F2.get 5=some (.ptr 2 0):=by rw[<-hF2];simp
 have f8:F2.get 8=some (.ptr 4 0):=by rw[<-hF2];simp
 have f9:F2.get 9=some (zI e0):=by rw[<-hF2];simp
 have f10:F2.get 10=some nS:=by rw[<-hF2];simp
 clear hF2 hF F;generalize hK:Tr.put _ 4 _=K;have k0:K.get 0=aN 3 [aM.ds w.aY.tables,bw.ds w.aY.indexes,iO.ds w.rows]:=by rw[<-hK];simp
 have k1:K.get 1=aN 15 (qL q (zI 0) (zI 0) (zI 0) (.str []) (.str []) (.str []) (zI 0) nS):=by rw[<-hK];simp[qL,hd,hm,ho]
 have k2:K.get 2=aN 8 [zI op,zI v.kind,zI v.num,.str v.s,.str t,.str m,zI cD,.ds (Ex.aK args) args.length 8]:=by rw[<-hK];simp
 have k4:K.get 4=aN 4 [N,D,W,zI 0]:=by rw[<-hK];simp
 have kt:dm K 5:=λ c hc=>by rw[<-hK];simp[show ¬c=0 by omega,show ¬c=1 by omega,show ¬c=2 by omega,show ¬c=3 by omega,show ¬c=4 by omega]
 clear hK;simp[asA]
 refine bF.of (dX (l:=[(14,[.agg [zI op,zI v.kind,zI v.num,.str v.s,.str t,.str m,zI cD,.ds (Ex.aK args) args.length 8] 8],λ H n=>.mk (.agg [zI 5,zI 0,zI 0,.str [],.str [],.str [],zI 0,.ds [zI op,zI v.kind,zI v.num,.str v.s,.str t,.str m,zI cD,.ds (Ex.aK args) args.length 8] 1 8] 8) H n),
  (15,[.agg [zI op,zI v.kind,zI v.num,.str v.s,.str t,.str m,zI cD,.ds (Ex.aK args) args.length 8] 8],λ H n=>.mk (.agg [zI 6,zI 0,zI 0,.str [],.str [],.str [],zI 0,.ds [zI op,zI v.kind,zI v.num,.str v.s,.str t,.str m,zI cD,.ds (Ex.aK args) args.length 8] 1 8] 8) H n)]) ?_) ?_
 ·intro y hy;simp only[mem_cons,not_mem_nil,or_false]at hy
  rcases hy with rfl|rfl
  ·exact cy rq
  exact cy h15
 simp[ae,f5,k2,bY,sP,bX,cS,kt 5 ah,rep];generalize hX:[zI op,zI v.kind,zI v.num,.str v.s,.str t,.str m,zI cD,.ds (Ex.aK args) args.length 8]=X at *;generalize hF3:(Fp 11 _ _:Fr)=F3;have i3:F3.get 3=some (.ptr 0 0):=by rw[<-hF3];simp[ae,f3]
 have i4:F3.get 4=some (.ptr 1 0):=by rw[<-hF3];simp[ae,f4]
 have i8:F3.get 8=some (.ptr 4 0):=by rw[<-hF3];simp[ae,f8]
 have i9:F3.get 9=some (zI e0):=by rw[<-hF3];simp[ae,f9]
 have i10:F3.get 10=some nS:=by rw[<-hF3];simp[ae,f10]
 have i11:F3.get 11=some (.sl 5 0 3 8):=by rw[<-hF3];simp
 clear hF3 f3 f4 f5 f8 f9 f10 F2;generalize hK:Tr.put K 5 _=K1;have c0:K1.get 0=aN 3 [aM.ds w.aY.tables,bw.ds w.aY.indexes,iO.ds w.rows]:=by rw[<-hK];simp[k0]
 have c1:K1.get 1=aN 15 (qL q (zI 0) (zI 0) (zI 0) (.str []) (.str []) (.str []) (zI 0) nS):=by rw[<-hK];simp[k1]
 have c4:K1.get 4=aN 4 [N,D,W,zI 0]:=by rw[<-hK];simp[k4]
 have T0:T4 w q e0 N D W [zI op,zI v.kind,zI v.num,.str v.s,.str t,.str m,zI cD,.ds (Ex.aK args) args.length 8,zI 5,zI 0,zI 0,.str [],.str [],.str [],zI 0,.ds X 1 8,zI 6,zI 0,zI 0,.str [],.str [],.str [],zI 0,.ds X 1 8] (Fp 12 (zI 0) F3) K1 6 nS [] 0:=⟨by simp[i3],by simp[i4],by simp[i8],by simp[i9],by simp[i10],by simp[i11],ai,c0,⟨_,_,_,_,_,_,_,_,c1⟩,c4,by rw[<-hK];simp,by simpa[aQ]using aD.nil _ _ 1,λ x hx=>by simp[blk]at hx,ah⟩;clear hK k0 k1 k2 k4 kt K i3 i4 i8 i9 i10 i11 c0 c1 c4;simp[asz];have x0:bW 8 (.sl 5 0 3 8) (zI 0)=.val (.ptr 5 0):=rfl;have x1:bW 8 (.sl 5 0 3 8) (zI 1)=.val (.ptr 5 8):=rfl;have x2:bW 8 (.sl 5 0 3 8) (zI 2)=.val (.ptr 5 16):=rfl;refine aF.XO 3 (eT.step ?_);generalize (Fp 12 _ F3:Fr)=F at T0 ⊢
 have mv:∀ {F F':Fr},(F'.get 3=F.get 3/\F'.get 4=F.get 4/\F'.get 8=F.get 8/\F'.get 9=F.get 9/\F'.get 10=F.get 10/\F'.get 11=F.get 11/\F'.get 12=F.get 12)->∀t∈[3,4,8,9,10,11,12],F'.get t=F.get t:=λ h t ht=>by
  simp only[mem_cons,not_mem_nil,or_false]at ht
  rcases ht with rfl|rfl|rfl|rfl|rfl|rfl|rfl
  ·exact h.1
  ·exact h.2.1
  ·exact h.2.2.1
  ·exact h.2.2.2.1
  ·exact h.2.2.2.2.1
  ·exact h.2.2.2.2.2.1
  exact h.2.2.2.2.2.2
 have ll1:=a1.len;have ll2:=a2.len;have ll3:=a3.len;obtain⟨y0,y1,y2,y3,y4,y5,y6,y7,c1⟩:=T0.c1;unfold qL at c1;simp[asK,T0.f12,T0.f11,T0.c5,T0.f4,c1,x0];refine Jz hA o1 g1 ll1 ai ah (T0.mv (mv ai) (λ c hc=>by simp[hc]) (Tr.get_put _ _ _ _)) (Tr.get_put _ _ _ _) _ (λ z1=>?_) λ F' K' n' h=>by simp[h];exact .bool rfl
 clear T0 c1 y0 y1 y2 y3 y4 y5 y6 y7 F K1 g1;intro F K n u T0;simp;refine eT.step ?_;obtain⟨y0,y1,y2,y3,y4,y5,y6,y7,c1⟩:=T0.c1;unfold qL at c1;simp[T0.f12,T0.f11,T0.c5,T0.f4,c1,x1];refine Jz hA o2 g2 ll2 (by simp;omega) ah (T0.mv (mv ai) (λ c hc=>by simp[hc]) (x0:=zI 5) (x1:=zI 0) (x2:=zI 0) (x3:=.str []) (x4:=.str []) (x5:=.str []) (x6:=zI 0) (x7:=.ds X 1 8) (Tr.get_put _ _ _ _)) (Tr.get_put _ _ _ _) _ (λ z2=>?_) λ F' K' n' h=>by simp[h];exact .bool rfl
 clear T0 c1 y0 y1 y2 y3 y4 y5 y6 y7 F K n u g2;intro F K n u T0;simp;refine eT.step ?_;obtain⟨y0,y1,y2,y3,y4,y5,y6,y7,c1⟩:=T0.c1;unfold qL at c1;simp[T0.f12,T0.f11,T0.c5,T0.f4,c1,x2];refine Jz hA o3 g3 ll3 (by simp;omega) ah (T0.mv (mv ai) (λ c hc=>by simp[hc]) (x0:=zI 6) (x1:=zI 0) (x2:=zI 0) (x3:=.str []) (x4:=.str []) (x5:=.str []) (x6:=zI 0) (x7:=.ds X 1 8) (Tr.get_put _ _ _ _)) (Tr.get_put _ _ _ _) _ (λ z3=>?_) λ F' K' n' h=>by simp[h];exact .bool rfl
 clear T0 c1 y0 y1 y2 y3 y4 y5 y6 y7 F K n u g3;intro F K n u T0;simp;refine eT.step ?_;simp[T0.f12,aiq,T0.f9];have law:=law z1 z2 z3
 rcases law with rfl|⟨rfl,hr⟩
 ·simp[aip,T0.f9];refine aB.pure hA ?_;simp;exact .bool rfl
 have hm:∀r∈r1++r2++r3,rS r:=λ r hr=>by
  rcases mem_append.1 hr with hr|hr
  ·rcases mem_append.1 hr with hr|hr
   ·exact a1.may r hr
   exact a2.may r hr
  exact a3.may r hr
 have hla:(r1++r2++r3).length<=1048576:=by simp only[length_append];omega
 obtain⟨_,i4,i8,i9,i10,_,_,_,_,c4,_,os,vb,_⟩:=T0;rw[nil_append]at os;rw[hW rfl]at c4;generalize r1++r2++r3=acc at hm hla os hr;have h17:=VZ acc hla hm;have kK:=Vj (oV acc) r0 (by rw[nI];exact hla) λ l hl=>(hm l ((mM acc).mem_iff.1 hl)).2;rw[hr,nI]at kK c4;simp only[decide_true]at kK;simp[aio]
 obtain⟨A,h,F2,K2,awY,g8,g10,gc4,sh⟩:∃A h F2 K2,aj pG 17 [A,nS] (.ds (aQ (oV acc)) acc.length 1)/\F2.get 8=some (.ptr 4 0)/\F2.get 10=some A/\K2.get 4=aN 4 [N,D,.ds (aQ (oV acc)) acc.length 1,zI 0]/\eG h (Fp 75 (.bool false) (Fp 74 (zI 0) (Fp 51 (.bool false) (Fp 50 (zI 3) F)))) K F2 K2:=by
  obtain⟨hl1,⟨rfl,hz⟩|⟨b,k,rfl,hb,hk,ho⟩⟩:=os
  ·obtain rfl:acc=[]:=length_eq_zero_iff.1 hz;refine⟨nS,_,_,K,h17.conv ai λ D xs hv=>?_,by simp[i8],by simp[i10],c4,eG.refl _ _⟩
   cases hv with
   |cons _ y0 _ ys h0 hv =>
   refine .cons _ _ _ _ ?_ hv;cases h0;exact .tQ _
  have hb4:¬ 4=b:=λ e=>by have:=vb b rfl;omega
  refine⟨_,_,Fp 10 (.ds (aQ acc) acc.length 1) (Fp 75 (.bool false) (Fp 74 (zI 0) (Fp 51 (.bool false) (Fp 50 (zI 3) F)))),_,h17,by simp[i8],ai,by rw[Tr.get_put,ak hb4];exact c4,eG.row (len:=acc.length) (sz:=1) hk ho ai ai λ t v h=>?_⟩
  by_cases e:t=10
  ·subst e;simp at h;exact .inr ⟨by simp[i10],h.symm⟩
  exact .inl (by simpa[e]using h)
 refine bF.ofZ (dX (l:=[(17,[A,nS],λ H n=>.mk (.ds (aQ (oV acc)) acc.length 1) H n),(16,[.ds (aQ (oV acc)) acc.length 1,.ds (aQ (oV acc)) acc.length 1],λ H n=>.mk (.bool true) H n),(13,[],λ H n=>.mk (.bool true) H n)]) ?_) sh ?_
 ·intro y hy;simp only[mem_cons,not_mem_nil,or_false]at hy
  rcases hy with rfl|rfl|rfl
  ·exact cy awY
  ·exact cy kK
  exact cy hA
 simp[ae,g8,g10,gc4,bY,sP];exact .bool rfl
end Go.Abs
