/- A part. -/
import Derived.Test.YtlhafglnokpioaaGreatBt10
noncomputable section
namespace Go.Abs
open List
open Go.Proofs
open Classical
set_option maxRecDepth 100000
theorem S0 (a:Int):m8 a 0=a:=by
 unfold m8
 by_cases h:a=0
 ·subst h;rfl
 simp[h]
theorem au.arj {H:Hp}{n:Nat}{v:AV}{l:List AV}{len sz:Nat}(h:au H n v l len sz):aZ v=.val (zI (len:Int)):=by
 obtain⟨_,⟨rfl,rfl⟩|⟨b,k,rfl,_⟩⟩:=h
 ·rfl
 rfl
mutual
theorem Ea {n m:Nat}(h:n<=m):∀ {v:AV},jH n v->jH m v
 |.int _ _,_=>by simp
 |.bool _,_=>by simp
 |.str _,_=>by simp
 |.al _,_=>by simp
 |.agg _ _,k=>by simp only[KD]at k ⊢;exact eH h k
 |.aX _,k=>by simp only[KA]at k ⊢;exact eH h k
 |.kG _ _,k=>by simp only[KC]at k ⊢;exact Ea h k
 |.ptr _ _,k=>by simp only[KB]at k ⊢;omega
 |.sl _ _ _ _,k=>by simp only[af8]at k ⊢;omega
 |.map _,k=>by simp only[aaB]at k ⊢;omega
 |.jv _,k=>by simp only[jH]at k ⊢;omega
 |.fn _ _ _,k=>by simp only[jH]at k ⊢;exact⟨eH h k.1,eH h k.2⟩
 |.ds _ _ _,k=>by simp only[af9]at k ⊢;exact eH h k
 |.dp _,k=>by simp only[af_]at k ⊢;exact eH h k
theorem eH {n m:Nat}(h:n<=m):∀ {l:List AV},cT n l->cT m l
 |[],_=>by simp
 |_::_,k=>by simp only[gZ]at k ⊢;exact⟨Ea h k.1,eH h k.2⟩
end
theorem uF.set {s:bB}{t:bo}{r len:Nat}{D:List AV}(P:uF s t r len D)(i:Nat)(hi:9<=i)(v:AV):uF s t r len (D.set i v):=
 ⟨by rw[List.getElem?_set_ne (by omega)];exact P.d0,by rw[List.getElem?_set_ne (by omega)];exact P.d1,by rw[List.getElem?_set_ne (by omega)];exact P.d2,by rw[List.getElem?_set_ne (by omega)];exact P.d5,by rw[List.getElem?_set_ne (by omega)];exact P.d6,by rw[List.getElem?_set_ne (by omega)];exact P.d7,by rw[List.getElem?_set_ne (by omega)];exact P.d8,by rw[List.length_set];exact P.dl⟩
def qD (s:bB)(t:bo)(L0:List (List Val))(l:List (List Ex)):Int:=if fE l≠0 then fE l else sw s t (L0++ba l) (ba l)
theorem Tu {s:bB}{t:bo}{L0:List (List Val)}{l:List (List Ex)}(hl:l.length<=aM) (hs:∀r∈l,r.length<=aM/\∀e∈r,e.sz<=aM) (hl0:l≠[])
  (hL:fE l=0->iN s t (L0++ba l))(hf:fE l=0->iN s t (ba l))(gw:s.tables.length<=aM)(hL0:L0.length+l.length<=aM)(hm:fE l=0->dR s t (L0++ba l)=0->∀x∈L0++ba l,iR x){k:Nat}(hk:Qm s t.id=(k:Int))(RC:List AV)(hRC:aJ RC)(qb:k<RC.length)(hRk:RC[k]=bH L0)(H:Hp)(n p r:Nat)(D:List AV)
  (P:uF s t r RC.length D)(d16:D[16]?=some (dA.ds l))(hp:H.get p=aG 32 D)(hr:H.get r=some (.cells RC.length [] RC .nil))(hpn:p<n)(hrn:r<n)(hpr:p≠r)(hRL:cT n D)(ht:cA H n):
  aj pG 64 [.ptr p 0] H n (λ u K k'=>u=zI (qD s t L0 l)/\(qD s t L0 l=0->K.get p=aG 32 (D.set 31 (zI (l.length:Int)))/\K.get r=some (.cells RC.length [] (RC.set k (bH (jZ (L0++ba l)))) .nil))/\(∀c,c<n->c≠p->c≠r->K.get c=H.get c)/\n<=k'):=by
 refine aj.of c64 (by simp[A64]) λ F hF=>?_;have f0:F.get 0=some (.ptr p 0):=by simp[hF]
 clear hF;simp[A64];refine aw.of (uR H n) λ u K m ⟨hu,hK,hm'⟩=>?_;subst hu hm';have kf:∀c,c<n->K.get c=H.get c:=λ c hc=>by rw[hK];simp[ga hc]
 have kn:K.get n=aG 1 [zI 0]:=by rw[hK];simp
 have kt:cA K (n+1):=λ c hc=>by
  have e:¬c=n:=by omega
  rw[hK];simp[e,ht c (by omega)]
 clear hK;have kp:=(kf p hpn).trans hp;simp[aen,aem,f0,kp,d16,aL.aD];refine ag_ hl hs H n p _ K _ (by simp[f0]) (by simp) (by simp) (by simp) (by simp) (by simp) kn kf kt λ v F K m f0 f3 f4 hm' ho hb kn kf kt=>?_;simp[aek,f3];refine aw.of (jB (fE l) 0 kn) λ u K2 n2 ⟨hu,q2,hn2,k2⟩=>?_;subst hu hn2;rw[S0]
 by_cases he:fE l=0
 ·have hfp:=hf he;have hLp:=hL he;have hmm:=hm he;have hlen:=ho.arj;have kp2:K2.get p=aG 32 D:=(k2 p (by omega)).trans ((kf p hpn).trans hp);have kr2:K2.get r=some (.cells RC.length [] RC .nil):=(k2 r (by omega)).trans ((kf r hrn).trans hr);obtain⟨y,TE,hoy⟩:=Ss kp2 (OwnB.list P.dl.symm) (i:=31) (by rw[P.dl];omega) (l.length:Int);obtain⟨o1,o2⟩:=ho.Aw;simp[VP,he,VS,f0,f4,hlen,TE,VQ];generalize hD:D.set 31 (zI (l.length:Int))=D' at hoy ⊢;have P':uF s t r RC.length D':=by rw[<-hD];exact P.set 31 (by omega) _
  have amm:cT n D':=by
   rw[<-hD];refine cT.of λ x hx=>?_
   rcases mem_or_eq_of_mem_set hx with h|h
   ·exact hRL.mem x h
   subst h;simp
  have frl:(ba l).length=l.length:=by simp[ba]
  have hfz:eY (above n K2) v (aW (ba l)):=by
   have h1:au K2 n2 v (bG (ba l)) l.length 1:=ho.frame (by omega) λ c hc=>k2 c (by have:=hb c hc;omega);have:=h1.abU (n:=n) (λ c hc=>by have:=hb c hc;omega) (fC _) (by omega);unfold aW;rw[frl];exact this
  obtain⟨cg,asU⟩:=mK K2 n;generalize hH2:(pick K2 (List.range n)).put p (aG 32 D')=H2;have hp2:H2.get p=aG 32 D':=by rw[<-hH2];simp
  have hr2:H2.get r=some (.cells RC.length [] RC .nil):=by rw[<-hH2,Tr.get_put,ah (Ne.symm hpr),cg r hrn];exact kr2
  have ht2:cA H2 n:=λ c hc=>by rw[<-hH2,Tr.get_put,ah (by omega)];exact asU c hc
  have hk2:∀c,c<n->c≠p->H2.get c=H.get c:=λ c h1 h2=>by rw[<-hH2,Tr.get_put,ah h2,cg c h1,k2 c (by omega)];exact kf c h1
  have sh : ez (above n K2) (Fp 36 (.ptr p 31) (Fp 35 (.ptr p 28) (Fp 34 (.ptr p 0) (Fp 33 (zI (l.length:Int)) (Fp 32 v (Fp 31 (.ptr p 0) (Fp 29 (.bool false) (Fp 28 (zI 0) (Fp 7 (zI 0) (Fp 27 (zI 0) (Fp 26 (.fn (.func 165) [] [.ptr n 0]) F))))))))))) (K2.put p (some y)) (((Tr.nil:Fr).put 0 (some (.ptr p 0))).put 4 (some (aW (ba l)))) H2:=by
   refine⟨λ b x hx=>?_,λ b hb'=>?_,λ tt x hx=>?_,λ b x hx=>?_⟩
   ·have hb2:n<=b:=by
     unfold above at hx
     by_cases h:n<=b
     ·exact h
     rw[ah h]at hx;cases hx
    rw[Tr.get_put,ah (by omega)];exact te b x hx
   ·have hb2:n<=b:=by
     unfold above at hb'
     by_cases h:n<=b
     ·exact h
     rw[ah h]at hb';exact ai rfl hb'
    exact ht2 b hb2
   ·rw[Tr.get_put,Tr.get_put]at hx
    split at hx
    ·rename_i e;subst e;injection hx with hx;subst hx;exact⟨v,by simp[f4],.inr hfz⟩
    split at hx
    ·rename_i e;subst e;injection hx with hx;subst hx;exact⟨_,by simp[f0],.inl rfl⟩
    simp at hx
   rw[<-hH2,Tr.get_put]at hx
   by_cases e:b=p
   ·subst e;rw[ao rfl]at hx;injection hx with hx;subst hx;obtain⟨u,z,bs,t',rfl,q1,q3,_⟩:=hoy;exact⟨_,by simp,.inr ⟨u,z,bs,t',D',rfl,by rw[q1,P'.dl],q1.symm,λ i x hx=>⟨x,by rw[q3];exact hx,.inl rfl⟩⟩⟩
   rw[ah e,ew]at hx
   split at hx
   ·exact⟨x,by rw[Tr.get_put,ah e];exact hx,.inl rfl⟩
   cases hx
  have hat:=Iw (i:=(k:Int)) hp2 (show p<n2 by omega) (show cT n2 D' from eH (by omega) amm);have hix:=iF (bk:=r) (N:=RC.length) qb;have hld:=G7 hr2 (OwnB.list rfl) qb;rw[hRk]at hld;have HC:=Ix gw t.id p D' P'.d0 P'.d5;rw[hk]at HC;have hLl:(L0++ba l).length=L0.length+l.length:=by rw[length_append,frl]
  have h45:=aaK hLp hfp gw hmm hk RC hRC qb p r (n2+1) D' P' hpr (by omega) (by omega);rw[hLl]at h45;have h46:=Qg L0 (by omega);have td:=vB L0;refine cj.ZZ (dK (l:=[(139,[.ptr p 0],Z5 p D' (k:Int)),(146,[bH L0],λ H n=>.mk (.sl n 0 L0.length 1) (H.put n (some (.cells (L0.length*1) [] (bG L0) .nil))) (n+1)),(145,[.ptr p 0,.sl (n2+1) 0 (L0.length+l.length) 1,aW (ba l)],Sj s t (L0++ba l) (ba l) k RC p r (n2+1) D')]) ?_) sh ?_
  ·intro x hx;simp only[mem_cons,not_mem_nil,or_false]at hx
   rcases hx with rfl|rfl|rfl
   ·exact HC
   ·intro H n v H' n' h;injection h with e1 e2 e3;subst e1 e2 e3;exact h46 H n
   exact h45
  have tf:(aW (ba l)).len=1/\(aW (ba l)).cells=[aW (ba l)]:=⟨rfl,rfl⟩;simp[ab,bZ,sW,hat,hp2,P'.d2,hix,hld];have n2n:∀c,c<n->¬c=n2:=λ c hc=>by omega
  generalize hH3:Tr.put H2 n2 _=H3;have g3:∀c,c≠n2->H3.get c=H2.get c:=λ c hc=>by rw[<-hH3,Tr.get_put,ah hc]
  have x3:H3.get n2=some (.cells L0.length [] (bG L0) .nil):=by rw[<-hH3];simp
  clear hH3
  have hll:0<l.length:=by
   cases l with
   |nil=>exact ai rfl hl0
   |cons a b=>simp
  have o3:au H3 (n2+1) (.sl n2 0 L0.length 1) (bG L0) L0.length 1:=⟨by simp,.inr ⟨n2,_,rfl,by omega,x3,OwnB.list (by simp)⟩⟩;unfold aM at hL0;refine au.Bv (k:=l.length) (new:=bG (ba l)) o3 (by simp[aW]) (by simp[aW,sliceLen,frl]) (by simp[frl]) (by omega) hll (by unfold big;omega) (by omega) (yL _) λ K4 o4 g4=>?_;have g4':∀c,c<n->K4.get c=H2.get c:=λ c hc=>(g4 c (by omega) (by intro e;injection e with e;omega)).trans (g3 c (by omega))
  have t4:cA K4 (n2+1+1):=λ c hc=>by
   rw[g4 c (by omega) (by intro e;injection e with e;omega),g3 c (by omega)];exact ht2 c (by omega)
  have hput:Sj s t (L0++ba l) (ba l) k RC p r (n2+1) D' K4 (n2+1+1)=.mk (zI (sw s t (L0++ba l) (ba l))) ((K4.put (n2+1) none).put r (if sw s t (L0++ba l) (ba l)=0 then some (.cells RC.length [] (RC.set k (bH (jZ (L0++ba l)))) .nil)else none)) (n2+1+1):=by
   unfold Sj;rw[ao];obtain⟨_,⟨q,_⟩|⟨b,y4,q,_,q2,q3⟩⟩:=o4
   ·cases q
   injection q with q;subst q;exact⟨(g4' p hpn).trans hp2,(g4' r hrn).trans hr2,⟨y4,q2,by simpa[bG]using q3⟩,by omega,by omega,by omega,eH (by omega) amm⟩
  have nn:=t4.none;simp[ab,bZ,sW,hput];have hi:qD s t L0 l=sw s t (L0++ba l) (ba l):=by unfold qD;rw[ah (by simp[he])]
  refine⟨hi.symm,λ e0=>⟨?_,by rw[<-hi];exact e0⟩,λ c h1 h2 h3=>?_,by omega⟩
  ·rw[ah hpr,ah (by omega),g4' p hpn];exact hp2
  rw[ah h3,ah (by omega),g4' c h1];exact hk2 c h1 h2
 have hi:qD s t L0 l=fE l:=by unfold qD;rw[ao he]
 simp[VP,he,VT,hi];exact⟨λ c h1 _ _=>(k2 c (by omega)).trans (kf c h1),by omega⟩
def lQ (c:List Ex)(L:List (List Val)):List (List Val):=L.filter λ r=>(kB r c).1
def jw (c:List Ex)(L:List (List Val)):List (List Val):=L.filter λ r=>!(kB r c).1
def kP (c:List Ex)(L:List (List Val))(a:Int):Int:=L.foldl (λ a r=>m8 a (kB r c).2) a
theorem tX {α:Type}(p:α->Bool){l:List α}{i:Nat}(h:i<l.length):(l.take (i+1)).filter p=(l.take i).filter p++(if p l[i]then [l[i]]else []):=by
 rw[take_add_one,cE h,Option.toList,filter_append]
 cases hp:p l[i]<;>simp[List.filter,hp]
theorem G6 (c:List Ex){L:List (List Val)}{i:Nat}(h:i<L.length)(a:Int):kP c (L.take (i+1)) a=m8 (kP c (L.take i) a) (kB L[i] c).2:=by
 unfold kP;rw[take_add_one,cE h,Option.toList,List.foldl_append];rfl
theorem DR (L:List (List Val)):aZ (bH L)=.val (zI (L.length:Int)):=by
 unfold bH
 by_cases h:L=[]
 ·subst h;simp
 simp[h]
theorem aaj {L:List (List Val)}{i:Nat}(h:i<L.length):e9 1 (bH L) (zI (i:Int))=.val (.dp (aF L[i]::bG (L.drop (i+1)))):=by
 unfold bH;rw[ah (λ e=>by subst e;simp at h)];exact ji h
structure PtI (c:List Ex)(L:List (List Val))(H:Hp)(n p q:Nat)(acc:Int)(i:Nat)(v4 v5:AV)(F:Fr)(K:Hp)(m:Nat):Prop where
 hi:i<=L.length
 f0:F.get 0=some (.ptr p 0)
 f1:F.get 1=some (.fn (.func 165) [] [.ptr q 0])
 f4:F.get 4=some v4
 f5:F.get 5=some v5
 f18:F.get 18=some (bH L)
 f19:F.get 19=some (zI (L.length:Int))
 f20:F.get 20=some (zI (i:Int))
 hm:n<=m
 o4:au K m v4 (bG (lQ c (L.take i))) (lQ c (L.take i)).length 1
 o5:au K m v5 (bG (jw c (L.take i))) (jw c (L.take i)).length 1
 b4:∀x,blk v4=some x->n<=x
 b5:∀x,blk v5=some x->n<=x/\blk v4≠some x
 kq:K.get q=aG 1 [zI (kP c (L.take i) acc)]
 kf:∀x,x<n->x≠q->K.get x=H.get x
 tp:cA K m
theorem G5 {c:List Ex}{L:List (List Val)}(hc:c.length<=aM) (hcs:∀e∈c,e.sz<=aM) (hL:L.length<=100000) (hr:∀r∈L,r.length<=aM) (H:Hp) (n p q:Nat) (acc:Int) (D:List AV) (d20:D[20]?=some (eX.ds c)) (hp:H.get p=aG 32 D) (hpn:p<n) (hqn:q<n) (hpq:p≠q) (F:Fr) (K:Hp) (m:Nat) (Q:QA)
  (I:PtI c L H n p q acc 0 nS nS F K m)(hQ:∀v4 v5 F K m,PtI c L H n p q acc L.length v4 v5 F K m->Q .normal F K m []):aE Dn pG F K m [] (fy 0 Q):=by
 refine aE.of (λ t F K m ms=>∃(i:Nat) (v4 v5:AV),t=L.length - i/\PtI c L H n p q acc i v4 v5 F K m/\ms=[]) L.length ⟨0,nS,nS,by omega,I,rfl⟩ ?_;clear I F K m;rintro t F K m ms ⟨i,v4,v5,rfl,I,rfl⟩;obtain⟨hi,f0,f1,f4,f5,f18,f19,f20,hm,o4,o5,b4,b5,kq,kf,tp⟩:=I
 by_cases hlt:i<L.length
 ·have hx:=aaj hlt;have hrl:=hr _ (b6 hlt);have hv:=ZS (rv:=aF L[i]) (row:=L[i]) ⟨.inl rfl,hrl⟩ c hc hcs;have kp:K.get p=aG 32 D:=(kf p hpn hpq).trans hp;have r1:(aF L[i]).len=1/\(aF L[i]).cells=[aF L[i]]/\(aF L[i]).one=true:=⟨rfl,rfl,rfl⟩;simp[Dn,f20,f19,hlt,f18,hx,f0,kp,d20];refine aw.pure hv ?_;generalize hre:kB L[i] c=re;simp[aht,Y3,f1];refine aw.of (jB _ re.2 kq) λ u K2 n2 ⟨hu,q2,hn2,k2⟩=>?_;subst hu hn2;have tp2:cA K2 n2:=λ x hx=>by rw[k2 x (by omega)];exact tp x hx
  have h4:blk v4≠some q:=λ h=>by have:=b4 q h;omega
  have h5:blk v5≠some q:=λ h=>by have:=(b5 q h).1;omega
  have p4:au K2 n2 v4 (bG (lQ c (L.take i))) (lQ c (L.take i)).length 1:=o4.frame (aP _) λ x hx=>k2 x (λ e=>h4 (by rw[<-e];exact hx));have p5:au K2 n2 v5 (bG (jw c (L.take i))) (jw c (L.take i)).length 1:=o5.frame (aP _) λ x hx=>k2 x (λ e=>h5 (by rw[<-e];exact hx));have l4:(lQ c (L.take i)).length<=100000:=by have:=length_filter_le (λ r=>(kB r c).1) (L.take i);simp[lQ]at *;omega
  have l5:(jw c (L.take i)).length<=100000:=by have:=length_filter_le (λ r=>!(kB r c).1) (L.take i);simp[jw]at *;omega
  have e4:lQ c (L.take (i+1))=lQ c (L.take i)++(if re.1 then [L[i]]else []):=by
   unfold lQ;rw[tX _ hlt,hre]
  have e5:jw c (L.take (i+1))=jw c (L.take i)++(if !re.1 then [L[i]]else []):=by
   unfold jw;rw[tX _ hlt,hre]
  have ee:kP c (L.take (i+1)) acc=m8 (kP c (L.take i) acc) re.2:=by rw[G6 c hlt,hre]
  have o41:=o4.cO;have o51:=o5.cO;obtain⟨s1,s2⟩:=p4.Aw;obtain⟨s3,s4⟩:=p5.Aw
  cases hb:re.1 with
  |true =>
   rw[hb]at e4 e5;simp at e4 e5;simp[JH,Y2,f4,r1.1,r1.2.1];generalize hK3:Tr.put K2 n2 _=K3;have g3:∀x,x<n2->K3.get x=K2.get x:=λ x hx=>by rw[<-hK3];simp[ga hx]
   have x3:K3.get n2=aG 1 [aF L[i]]:=by rw[<-hK3];simp
   have t3:cA K3 (n2+1):=λ x hx=>by
    have e1:¬x=n2:=by omega
    rw[<-hK3];simp[e1,tp2 x (by omega)]
   clear hK3;have p3:=p4.frame (H':=K3) (n':=n2+1) (by omega) λ x hx=>g3 x (p4.bg hx);have w3:=p5.frame (H':=K3) (n':=n2+1) (by omega) λ x hx=>g3 x (p5.bg hx);refine au.rQ (k:=1) (new:=[aF L[i]]) p3 (aR x3) (by simp) (by simp) (by omega) (by omega) (by unfold big;omega) (by omega) (by simp[r1.2.2]) λ K4 o g4=>?_;simp[JG,f20,aC i (by omega)];refine⟨L.length - (i+1),by omega,i+1,rfl,.sl (n2+1) 0 ((lQ c (L.take i)).length+1) 1,v5,by omega,by simp[f0],by simp[f1],by simp,by simp[f5],by simp[f18],by simp[f19],by simp,by omega,?_,?_,λ x hx=>by simp at hx;omega,λ x hx=>⟨(b5 x hx).1,λ h=>by simp at h;have:=p5.bg hx;omega⟩,?_,λ x h1 h2=>?_,λ x hx=>?_⟩
   ·rw[e4];simpa[bG]using o
   ·rw[e5];refine w3.frame (by omega) λ x hx=>g4 x (by have:=w3.bg hx;omega) (b5 x hx).2
   ·rw[ee];exact(g4 q (by omega) h4).trans ((g3 q (by omega)).trans q2)
   ·exact(g4 x (by omega) (λ h=>by have:=b4 x h;omega)).trans ((g3 x (by omega)).trans ((k2 x h2).trans (kf x h1 h2)))
   exact(g4 x (by omega) (λ h=>by have:=p4.bg h;omega)).trans (t3 x (by omega))
  |false =>
   rw[hb]at e4 e5;simp at e4 e5;simp[JH,Y1,f5,r1.1,r1.2.1];generalize hK3:Tr.put K2 n2 _=K3;have g3:∀x,x<n2->K3.get x=K2.get x:=λ x hx=>by rw[<-hK3];simp[ga hx]
   have x3:K3.get n2=aG 1 [aF L[i]]:=by rw[<-hK3];simp
   have t3:cA K3 (n2+1):=λ x hx=>by
    have e1:¬x=n2:=by omega
    rw[<-hK3];simp[e1,tp2 x (by omega)]
   clear hK3;have p3:=p5.frame (H':=K3) (n':=n2+1) (by omega) λ x hx=>g3 x (p5.bg hx);have w3:=p4.frame (H':=K3) (n':=n2+1) (by omega) λ x hx=>g3 x (p4.bg hx);refine au.rQ (k:=1) (new:=[aF L[i]]) p3 (aR x3) (by simp) (by simp) (by omega) (by omega) (by unfold big;omega) (by omega) (by simp[r1.2.2]) λ K4 o g4=>?_;simp[JG,f20,aC i (by omega)];refine⟨L.length - (i+1),by omega,i+1,rfl,v4,.sl (n2+1) 0 ((jw c (L.take i)).length+1) 1,by omega,by simp[f0],by simp[f1],by simp[f4],by simp,by simp[f18],by simp[f19],by simp,by omega,?_,?_,b4,λ x hx=>⟨by simp at hx;omega,λ h=>by simp at hx;have:=p4.bg h;omega⟩,?_,λ x h1 h2=>?_,λ x hx=>?_⟩
   ·rw[e4];refine w3.frame (by omega) λ x hx=>g4 x (by have:=w3.bg hx;omega) λ h=>(b5 x h).2 hx
   ·rw[e5];simpa[bG]using o
   ·rw[ee];exact(g4 q (by omega) h5).trans ((g3 q (by omega)).trans q2)
   ·exact(g4 x (by omega) (λ h=>by have:=(b5 x h).1;omega)).trans ((g3 x (by omega)).trans ((k2 x h2).trans (kf x h1 h2)))
   exact(g4 x (by omega) (λ h=>by have:=p5.bg h;omega)).trans (t3 x (by omega))
 obtain rfl:i=L.length:=by omega
 simp[Dn,f20,f19];exact hQ v4 v5 _ K m ⟨hi,by simp[f0],by simp[f1],by simp[f4],by simp[f5],by simp[f18],by simp[f19],by simp[f20],hm,o4,o5,b4,b5,kq,kf,tp⟩
structure Dv (s:bB)(t:bo)(k:Nat)(RC:List AV)(D:List AV)(p r:Nat)(H:Hp)(n:Nat):Prop where
 P:uF s t r RC.length D
 gw:s.tables.length<=aM
 hk:Qm s t.id=(k:Int)
 qb:k<RC.length
 hRC:aJ RC
 hp:H.get p=aG 32 D
 hr:H.get r=some (.cells RC.length [] RC .nil)
 pn:p<n
 rn:r<n
 pr:p≠r
 rd:cT n D
theorem Dv.frame {s:bB}{t:bo}{k:Nat}{RC D:List AV}{p r:Nat}{H H':Hp}{n n':Nat}(h:Dv s t k RC D p r H n)(hn:n<=n')(h1:H'.get p=H.get p)(h2:H'.get r=H.get r):Dv s t k RC D p r H' n':=
 ⟨h.P,h.gw,h.hk,h.qb,h.hRC,h1.trans h.hp,h2.trans h.hr,by have:=h.pn;omega,by have:=h.rn;omega,h.pr,eH hn h.rd⟩
theorem Dv.at {s:bB}{t:bo}{k:Nat}{RC D:List AV}{p r:Nat}{H:Hp}{n:Nat}(h:Dv s t k RC D p r H n):(∀H n v H' n',Z5 p D (k:Int) H n=.mk v H' n'->bc pG 139 [.ptr p 0] H n v H' n')/\Z5 p D (k:Int) H n=.mk (zI (k:Int)) H n:=by
 have HC:=Ix h.gw t.id p D h.P.d0 h.P.d5;rw[h.hk]at HC;exact⟨HC,Iw h.hp h.pn h.rd⟩
theorem Pl {s:bB}{t:bo}{k:Nat}{RC D:List AV}{p r q:Nat}{H:Hp}{n:Nat}{acc:Int}{c:List Ex}{L:List (List Val)}(X:Dv s t k RC D p r H n)(hRk:RC[k]'X.qb=bH L)(hc:c.length<=aM)(hcs:∀e∈c,e.sz<=aM)(hL:L.length<=100000)(hrl:∀r∈L,r.length<=aM)(d20:D[20]?=some (eX.ds c))(hqn:q<n)(hpq:p≠q)(hq:H.get q=aG 1 [zI acc])(ht:cA H n):
  aj pG 147 [.ptr p 0,.fn (.func 165) [] [.ptr q 0]] H n (λ u K k'=>u=.aX [aW (lQ c L),aW (jw c L)]/\K.get q=aG 1 [zI (kP c L acc)]/\(∀x,x<n->x≠q->K.get x=H.get x)/\n<=k'/\cA K n):=by
 have base:aj pG 147 [.ptr p 0,.fn (.func 165) [] [.ptr q 0]] H n (λ u K k'=>∃v4 v5,u=.aX [v4,v5]/\au K k' v4 (bG (lQ c L)) (lQ c L).length 1/\au K k' v5 (bG (jw c L)) (jw c L).length 1/\(∀x,blk v4=some x->n<=x)/\(∀x,blk v5=some x->n<=x)/\K.get q=aG 1 [zI (kP c L acc)]/\(∀x,x<n->x≠q->K.get x=H.get x)/\n<=k'):=by
  refine aj.of c147 (by simp[A147]) λ F hF=>?_;have f0:F.get 0=some (.ptr p 0):=by simp[hF]
  have f1:F.get 1=some (.fn (.func 165) [] [.ptr q 0]):=by simp[hF]
  clear hF;obtain⟨HC,hat⟩:=X.at;have hix:=iF (bk:=r) (N:=RC.length) X.qb;have hld:=G7 X.hr (OwnB.list rfl) X.qb;rw[hRk]at hld;have td:=vB L;have tl:=DR L;have hp:=X.hp;have d2:=X.P.d2;simp[A147];refine cj.of (dK (l:=[(139,[.ptr p 0],Z5 p D (k:Int))]) ?_) ?_
  ·intro x hx;simp only[gp]at hx;subst hx;exact HC
  simp[ab,f0,bZ,hat,hp,d2,hix,hld,tl];refine G5 hc hcs hL hrl H n p q acc D d20 hp X.pn hqn hpq _ _ _ _ ⟨by omega,by simp[ab,f0],by simp[ab,f1],by simp[ab],by simp[ab],by simp,by simp,by simp,aP _,by simpa[lQ,bG]using au.nil _ _ 1,by simpa[jw,bG]using au.nil _ _ 1,by simp,by simp,by simpa[kP]using hq,λ _ _ _=>rfl,ht⟩ λ v4 v5 F K m I=>?_;obtain⟨hi,f0,f1,f4,f5,f18,f19,f20,hm,o4,o5,b4,b5,kq,kf,tp⟩:=I;rw[take_length]at o4 o5 kq;have i4:=o4.cO;have i5:=o5.cO;simp[NT,f4,f5];exact⟨_,_,⟨rfl,rfl⟩,o4,o5,b4,λ x hx=>(b5 x hx).1,kq,kf,hm⟩
 refine base.zs λ u K k' ⟨v4,v5,hu,o4,o5,b4,b5,kq,kf,hk⟩=>⟨above n K,pick K (List.range n),_,pV.cut K n,?_,rfl,?_,λ x hx hxq=>?_,hk,(mK K n).2⟩
 ·subst hu;refine .nf (.aX _ _ (.cons _ _ _ _ (o4.abU b4 (fC _) (by omega)) (.cons _ _ _ _ (o5.abU b5 (fC _) (by omega)) .nil)))
 ·rw[(mK K n).1 q hqn];exact kq
 rw[(mK K n).1 x hx];exact kf x hx hxq
theorem yH (L:List (List Val)):(aW L).len=1/\(aW L).cells=[aW L]/\(aW L).one=true:=⟨rfl,rfl,rfl⟩
theorem Ry {s:bB}{t:bo}{k:Nat}{RC D:List AV}{p r:Nat}{H:Hp}{n:Nat}{c:List Ex}{L:List (List Val)}(X:Dv s t k RC D p r H n)(hRk:RC[k]'X.qb=bH L)(hc:c.length<=aM)(hcs:∀e∈c,e.sz<=aM)(hL:L.length<=100000)(hrl:∀r∈L,r.length<=aM)(d20:D[20]?=some (eX.ds c))(ht:cA H n):
  aj pG 65 [.ptr p 0] H n (λ u K k'=>u=zI (kP c L 0)/\(∃y,K.get p=some y/\OwnB y (D.set 31 (zI ((lQ c L).length:Int))))/\(∃y,K.get r=some y/\OwnB y (RC.set k (aW (jw c L))))/\(∀x,x<n->x≠p->x≠r->K.get x=H.get x)/\n<=k'):=by
 refine aj.of c65 (by simp[A65]) λ F hF=>?_;have f0:F.get 0=some (.ptr p 0):=by simp[hF]
 clear hF;have hpn:=X.pn;have hrn:=X.rn;simp[A65];refine aw.of (uR H n) λ u K m ⟨hu,hK,hm'⟩=>?_;subst hu hm';have kf:∀c,c<n->K.get c=H.get c:=λ c hc=>by rw[hK];simp[ga hc]
 have kn:K.get n=aG 1 [zI 0]:=by rw[hK];simp
 have kt:cA K (n+1):=λ c hc=>by
  have e:¬c=n:=by omega
  rw[hK];simp[e,ht c (by omega)]
 clear hK;have X1:Dv s t k RC D p r K (n+1):=X.frame (by omega) (kf p hpn) (kf r hrn);simp[aej,f0];refine aw.of (Pl X1 hRk hc hcs hL hrl d20 (by omega) (by omega) kn kt) λ u K2 m2 ⟨hu,q2,k2,hm2,t2⟩=>?_;subst hu;have X2:Dv s t k RC D p r K2 m2:=X1.frame hm2 (k2 p (by omega) (by omega)) (k2 r (by omega) (by omega));have t4:=yH (lQ c L);have t5:=yH (jw c L);obtain⟨HC,hat⟩:=X2.at;have hix:=iF (bk:=r) (N:=RC.length) X.qb;obtain⟨y5,hst5,ho5⟩:=uM X2.hr (OwnB.list rfl) X.qb t5;have d2:=X.P.d2;have hp:=X2.hp;simp[aei];refine cj.of (dK (l:=[(139,[.ptr p 0],Z5 p D (k:Int))]) ?_) ?_
 ·intro x hx;simp only[gp]at hx;subst hx;exact HC
 simp[ab,f0,bZ,hat,hp,d2,hix,hst5];generalize hK3:Tr.put K2 r _=K3;have g3:∀x,x≠r->K3.get x=K2.get x:=λ x hx=>by rw[<-hK3,Tr.get_put,ah hx]
 have r3:K3.get r=some y5:=by rw[<-hK3];simp
 clear hK3;have hp3:K3.get p=aG 32 D:=(g3 p X.pr).trans hp;obtain⟨y,TE,hoy⟩:=Ss hp3 (OwnB.list X.P.dl.symm) (i:=31) (by rw[X.P.dl];omega) ((lQ c L).length:Int);have hlen:aZ (aW (lQ c L))=.val (zI ((lQ c L).length:Int)):=rfl;simp[ab,aeh,f0,hlen,TE];generalize hK4:Tr.put K3 p _=K4;have g4:∀x,x≠p->K4.get x=K3.get x:=λ x hx=>by rw[<-hK4,Tr.get_put,ah hx]
 have p4:K4.get p=some y:=by rw[<-hK4];simp
 clear hK4;have q4:K4.get n=aG 1 [zI (kP c L 0)]:=(g4 n (by omega)).trans ((g3 n (by omega)).trans q2);simp[ab,aeg];refine aw.of (jB (kP c L 0) 0 q4) λ u K5 m5 ⟨hu,q5,hm5,k5⟩=>?_;subst hu hm5;rw[S0];simp;refine⟨⟨y,(k5 p (by omega)).trans p4,hoy⟩,⟨y5,(k5 r (by omega)).trans ((g4 r (Ne.symm X.pr)).trans r3),ho5⟩,λ x h1 h2 h3=>?_,by omega⟩;exact(k5 x (by omega)).trans ((g4 x h2).trans ((g3 x h3).trans ((k2 x (by omega) (by omega)).trans (kf x h1))))
theorem arv (l:List Nat):xh (.str (0::l)) (.int .u8 0)=.val (.int .u8 0):=by unfold xh;rfl
theorem toI (k j:IntKind)(a:Int):cw k (.int j a)=.val (.int k (k.wrap a)):=by
 simp only[cw,kN]
theorem J7 (k:IntKind):k.wrap 0=0:=by cases k<;>decide
theorem agW:ae pG 283 [.int .u64 0] (zI 0):=by
 refine pv c283 λ F hF=>?_;simp[A283,hF,toI,J7,arv];exact fp
theorem agX:ae pG 221 [.int .u64 0] (zI 0):=by
 refine pv c221 λ F hF=>?_;simp[A221,hF];refine aw.pure agW ?_;simp;exact fp
theorem ag' (f:AV)(H:Hp)(n:Nat):aj pG 265 [nS,zI 0,zI 0,f] H n (λ _u K k=>K=H/\k=n):=by
 refine aj.of c265 (by simp[A265]) λ F hF=>?_;simp[A265,hF];refine aE.Py 0 (eE.step ?_);simp[Db,Dc,hF]
theorem agf (f:AV)(H:Hp)(n:Nat):aj pG 220 [nS,zI 0,zI 0,zI 0,f] H n (λ _u K k=>K=H/\k=n):=by
 refine aj.of c220 (by simp[A220]) λ F hF=>?_;simp[A220];refine aE.Py 0 (eE.step ?_);simp[ZK,hF,J7];refine aw.of (ag' f H n) λ u K k ⟨e1,e2⟩=>?_;subst e1 e2;simp
theorem aao (f:AV)(H:Hp)(n:Nat):aj pG 153 [nS,f] H n (λ u K k=>u=.aX []/\K=H/\k=n):=by
 refine aj.of c153 (by simp[A153]) λ F hF=>?_;simp[A153,hF,toI,J7];refine aw.pure agX ?_;simp[hF];refine aw.of (agf f H n) λ u K k ⟨e1,e2⟩=>?_;subst e1 e2;simp
theorem ahz {id:Int}(t x:bo)(H:Hp)(n q:Nat)(hq:H.get q=aG 4 (aA.cells x))(hid:x.id=id)(ht:cA H n):
  aj pG 214 [aA.av t,.ptr q 0] H n (λ u K k=>u=.bool (decide (t.id=id))/\K=H/\k=n):=by
 subst hid;refine aj.forget (by simp) (aj.of c214 (by simp[A214]) λ F hF=>?_);have e1:¬q=n:=by have:=ht.lt hq;omega
 rw[dB]at hq;simp[A214,hF,aL.av,dB,e1,hq];intro b hb;have:¬b=n:=λ e=>hb (by rw[e];exact ht n (aP _));simp[this]
theorem anu (f:AV)(p:Nat)(H:Hp)(n:Nat)(h1:f.len=1/\f.cells=[f]/\f.one=true):aj pG 149 [.ptr p 0,zI 0,f] H n (λ u K k=>u=.fn (.func 213) [] []/\(∀c,c<n->K.get c=H.get c)/\k=n+3/\(cA H n->cA K (n+3))):=by
 refine aj.of c149 (by simp[A149]) λ F hF=>?_;simp[A149,hF,h1.1,h1.2.1];refine⟨λ c hc=>?_,λ ht c hc=>?_⟩
 ·simp[show ¬c=n by omega,show ¬c=n+1 by omega,show ¬c=n+2 by omega]
 simp[show ¬c=n by omega,show ¬c=n+1 by omega,show ¬c=n+2 by omega,ht c (by omega)]
structure atj (p n:Nat)(j i:Int)(f:AV)(H K:Hp):Prop where
 k0:K.get n=aG 1 [.ptr p 0]
 k1:K.get (n+1)=aG 1 [zI j]
 k2:K.get (n+2)=aG 1 [f]
 k4:K.get (n+4)=aG 1 [zI i]
 kf:∀c,c<n->K.get c=H.get c
theorem ab6 {s:bB}{wM:List bo}(gw:s.tables.length<=aM)(f:AV)(h1:f.len=1/\f.cells=[f]/\f.one=true)(j:Nat)(hj:j<wM.length)(hj2:j<1000)(p:Nat)(D:List AV)(d0:D[0]?=some (aA.ds s.tables))(d18:D[18]?=some (aA.ds wM))(H:Hp)(n:Nat)(hp:H.get p=aG 32 D)(ht:cA H n):
  aj pG 149 [.ptr p 0,zI ((j:Int)+1),f] H n (λ u K k=>u=.fn (.func 215) [] [.ptr n 0,.ptr (n+1) 0,.ptr (n+2) 0,.ptr (n+4) 0]/\atj p n ((j:Int)+1) (Qm s wM[j].id) f H K/\k=n+5/\cA K (n+5)):=by
 refine aj.of c149 (by simp[A149]) λ F hF=>?_;have hpn:p<n:=ht.lt hp;simp[A149,hF,h1.1,h1.2.1,show ¬((j:Int)+1=0) by omega];generalize hK:Tr.put (Tr.put (Tr.put H n _) (n+1) _) (n+2) _=K;have k0:K.get n=aG 1 [.ptr p 0]:=by rw[<-hK];simp
 have k1:K.get (n+1)=aG 1 [zI ((j:Int)+1)]:=by rw[<-hK];simp
 have k2:K.get (n+2)=aG 1 [f]:=by rw[<-hK];simp
 have kf:∀c,c<n->K.get c=H.get c:=λ c hc=>by rw[<-hK];simp[show ¬c=n by omega,show ¬c=n+1 by omega,show ¬c=n+2 by omega]
 have kt:cA K (n+3):=λ c hc=>by rw[<-hK];simp[show ¬c=n by omega,show ¬c=n+1 by omega,show ¬c=n+2 by omega,ht c (by omega)]
 clear hK hF;have kp:=(kf p hpn).trans hp;have hx:=aA.ix (ik:=.i64) hj;have hl4:(aA.av wM[j]).len=4:=rfl;have hc4:(aA.av wM[j]).cells=[.int .u32 wM[j].id,.str wM[j].name,bL.ds wM[j].cols,.int .u32 wM[j].head]:=rfl;have nn:K.get (n+1+1+1)=none:=kt _ (by omega);have hco:(bL.ds wM[j].cols).one=true:=rfl;simp[Y0];refine cj.of (cN (P:=pG)) ?_;have w1:IntKind.i64.wrap (j:Int)=(j:Int):=by simp[IntKind.wrap,IntKind.signed,IntKind.bits];omega
 simp[ab,k0,k1,kp,d18,w1,hx,aA.mf,hl4,hc4,cG,dj,nn,hco];generalize hK2:Tr.put (Tr.put K _ _) _ _=K2;have e2:∀c,c≠n+3->K2.get c=K.get c:=λ c hc=>by rw[<-hK2];simp[show ¬c=n+1+1+1 from hc]
 have q3:K2.get (n+3)=aG 4 (aA.cells wM[j]):=by rw[<-hK2,dB];simp
 have t4:cA K2 (n+4):=λ c hc=>by rw[e2 c (by omega)];exact kt c (by omega)
 clear hK2;have p2:=(e2 p (by omega)).trans kp;simp[YZ,ab,k0,d0,e2 n (by omega),p2];refine aw.same (nU (xs:=s.tables) (el:=aA.av) (f:=214) (first:=[]) (cap:=[.ptr (n+3) 0]) (p:=λ t:bo=>decide (t.id=wM[j].id)) c161 gw (aA.aD _) (λ i h=>⟨_,aA.ix h,λ F H n pq=>by simp[pq,aA.mf]⟩) λ t _=>ahz t wM[j] K2 (n+4) (n+3) q3 rfl t4) ?_;simp[YY,ab];refine⟨⟨?_,?_,?_,?_,λ c hc=>?_⟩,λ c hc=>?_⟩
 ·simp[e2 n (by omega),k0]
 ·simp[e2 (n+1) (by omega),k1]
 ·simp[e2 (n+2) (by omega),k2]
 ·simp[Qm]
 ·simp[show ¬c=n+4 by omega,e2 c (by omega),kf c hc]
 simp[show ¬c=n+4 by omega,t4 c (by omega)]
theorem abC (y a b c d p r q:Nat)(D RC:List AV)(i:Nat)(hi:i<RC.length)(hRi:RC[i]=bH [])(H:Hp)(n:Nat)(ha:H.get a=aG 1 [.ptr p 0])(hb:H.get b=aG 1 [zI 1])(hc:H.get c=aG 1 [.fn (.func 165) [] [.ptr q 0]])(hd:H.get d=aG 1 [zI (i:Int)])
  (hp:H.get p=aG 32 D)(d2:D[2]?=some (.sl r 0 RC.length 1))(hr:H.get r=some (.cells RC.length [] RC .nil))(ht:cA H n):
  aj pG 215 [.jv y,.ptr a 0,.ptr b 0,.ptr c 0,.ptr d 0] H n (λ _ K k=>(∀e,e<n->K.get e=H.get e)/\n<=k):=by
 refine aj.of c215 (by simp[A215]) λ F hF=>?_;have an:=ht.lt ha;have bn:=ht.lt hb;have cn:=ht.lt hc;have dn:=ht.lt hd;have pn:=ht.lt hp;have rn:=ht.lt hr;have f1:F.get 1=some (.ptr a 0):=by simp[hF]
 have f2:F.get 2=some (.ptr b 0):=by simp[hF]
 have f3:F.get 3=some (.ptr c 0):=by simp[hF]
 have f4:F.get 4=some (.ptr d 0):=by simp[hF]
 simp[A215,hF];generalize hK:Tr.put H n _=K;have kf:∀e,e<n->K.get e=H.get e:=λ e he=>by rw[<-hK];simp[show ¬e=n by omega]
 have kt:cA K (n+1):=λ e he=>by rw[<-hK];simp[show ¬e=n by omega,ht e (by omega)]
 clear hK;have ka:=(kf a an).trans ha;have kb:=(kf b bn).trans hb;have kc:=(kf c cn).trans hc;simp[Yl,hF,ka,kb,kc,J7];refine aw.of (anu (.fn (.func 165) [] [.ptr q 0]) p K (n+1) ⟨rfl,rfl,rfl⟩) λ u K2 m ⟨hu,k2,hm,t2⟩=>?_;subst hu;have t2:cA K2 m:=hm▸t2 kt;simp;refine IA.of ?_;generalize hF1:(Fp 16 _ _:Fr)=F1;have g1:F1.get 1=some (.ptr a 0):=by rw[<-hF1];simp[f1]
 have g4:F1.get 4=some (.ptr d 0):=by rw[<-hF1];simp[f4]
 clear hF1 hF F f1 f2 f3 f4;refine aj.of c213 (by simp[A213]) λ F hF=>?_;simp[A213,hF];generalize hK3:Tr.put (Tr.put K2 _ _) _ _=K3;have k3:∀e,e<m->K3.get e=K2.get e:=λ e he=>by rw[<-hK3];simp[show ¬e=m by omega,show ¬e=m+1 by omega]
 have z3:K3.get m=some (.loop .ready .normal 60 F1 [17] oH.1 oH.2):=by rw[<-hK3];simp
 have w3:K3.get (m+1)=some .jX:=by rw[<-hK3];simp
 have t3:cA K3 (m+2):=λ e he=>by rw[<-hK3];simp[show ¬e=m by omega,show ¬e=m+1 by omega,t2 e (by omega)]
 clear hK3;have kk:∀e,e<n->K3.get e=H.get e:=λ e he=>(k3 e (by omega)).trans ((k2 e (by omega)).trans (kf e he));refine Gf.of z3 (by simp[nK];rfl) ?_;rw[Z'];simp[Yk,z3];refine⟨_,_,_,_,_,_,⟨rfl,rfl,rfl,rfl,rfl,rfl⟩,?_⟩;rw[Z_];generalize hF2:(Fp 6 _ _:Fr)=F2;have g1':F2.get 1=some (.ptr a 0):=by rw[<-hF2];simp[g1]
 have g4':F2.get 4=some (.ptr d 0):=by rw[<-hF2];simp[g4]
 clear hF2;generalize hK4:Tr.put K3 m _=K4;have k4:∀e,e<n->K4.get e=H.get e:=λ e he=>by rw[<-hK4,Tr.get_put,ah (by omega)];exact kk e he
 have z4:K4.get m=some (.loop .busy .normal 60 F1 [17] oH.1 oH.2):=by rw[<-hK4];simp
 have w4:K4.get (m+1)=some .jX:=by rw[<-hK4,Tr.get_put,ah (by omega)];exact w3
 clear hK4;have sa:=(k4 a an).trans ha;have sd:=(k4 d dn).trans hd;have sp:=(k4 p pn).trans hp;have sr:=(k4 r rn).trans hr;have hix:=iF (bk:=r) (N:=RC.length) hi;have hld:=G7 sr (OwnB.list rfl) hi;rw[hRi]at hld;have hl0:aZ (bH [])=.val (zI 0):=DR [];simp[Yj];refine cj.of (cN (P:=pG)) ?_;simp[ab,g1',g4',sa,sd,sp,d2,hix,hld,hl0];refine aE.Py 0 (eE.step ?_);simp[ZL];unfold IB;refine⟨_,_,_,_,_,_,_,z4,?_⟩;simp;unfold Qv;refine⟨_,_,_,_,_,_,_,(Tr.get_put _ _ _ _).trans (ao rfl),by simp,by simp,?_⟩;simp;rw[vo (by simp[w4])];simp[ei];refine⟨λ e he=>?_,by omega⟩;simp[show ¬e=m by omega,show ¬e=m+1 by omega,k4 e he]
theorem ah_ (l:List (List Nat))(hl:l.length<=aM):ae pG 148 [cK.ds l] (cK.ds l):=rL (z:=[.str []]) (sz:=1) (fP:=16) c148 (by omega) (by omega) (by omega) _ _ hl (by simp) (by simp) (by simp)
def FA (p:Nat) (D:List AV) (j i:Int) (f:AV):Hp->Nat->iT:=λ H n =>
 if H.get p=aG 32 D/\p<n/\cT n D/\jH n f then .mk (.fn (.func 215) [] [.ptr n 0,.ptr (n+1) 0,.ptr (n+2) 0,.ptr (n+4) 0])
  (((((H.put n (aG 1 [.ptr p 0])).put (n+1) (aG 1 [zI j])).put (n+2) (aG 1 [f])).put (n+3) none).put (n+4) (aG 1 [zI i])) (n+5)else .fail
theorem UD {s : bB}{wM:List bo}(gw:s.tables.length<=aM) (f:AV) (h1:f.len=1/\f.cells=[f]/\f.one=true) (j:Nat) (hj:j<wM.length) (hj2:j<1000) (p:Nat) (D:List AV) (d0:D[0]?=some (aA.ds s.tables)) (d18:D[18]?=some (aA.ds wM)):
  ∀H n v H' n',FA p D ((j:Int)+1) (Qm s wM[j].id) f H n=.mk v H' n'->bc pG 149 [.ptr p 0,zI ((j:Int)+1),f] H n v H' n':=by
 intro H n v H' n' h;unfold FA at h
 by_cases hc:H.get p=aG 32 D/\p<n/\cT n D/\jH n f
 ·rw[ao hc]at h;injection h with e1 e2 e3;subst e1 e2 e3;obtain⟨hp,pn,rd,rf⟩:=hc;have hp0:(pick H [p]).get p=aG 32 D:=by rw[eF (by simp)];exact hp
  have top:cA (pick H [p]) n:=ku λ b hb=>by simp at hb;omega
  have np:∀e,¬p=n+e:=λ e=>by omega
  refine aj.okS (S:=pick H [p]) (S':=(((((pick H [p]).put n (aG 1 [.ptr p 0])).put (n+1) (aG 1 [zI ((j:Int)+1)])).put (n+2) (aG 1 [f])).put (n+4) (aG 1 [zI (Qm s wM[j].id)]))) ((ab6 gw f h1 j hj hj2 p D d0 d18 (pick H [p]) n hp0 top).mono λ u K k ⟨q1,q2,q3,_⟩=>⟨q1,λ b y hb=>?_,by omega⟩) (by omega) (by simp[pn,rf]) (λ b k hk=>?_) (λ b k hk=>?_) (λ b hb=>?_) (λ b hb hb2=>?_)
  ·simp only[Tr.get_put]at hb
   split at hb
   ·rename_i e;subst e;injection hb with hb;subst hb;exact⟨_,q2.k4,QF.refl _⟩
   split at hb
   ·rename_i e;subst e;injection hb with hb;subst hb;exact⟨_,q2.k2,QF.refl _⟩
   split at hb
   ·rename_i e;subst e;injection hb with hb;subst hb;exact⟨_,q2.k1,QF.refl _⟩
   split at hb
   ·rename_i e;subst e;injection hb with hb;subst hb;exact⟨_,q2.k0,QF.refl _⟩
   have hbn:b<n:=Nat.lt_of_not_le λ h=>by rw[top b h]at hb;cases hb
   exact⟨y,(q2.kf b hbn).trans hb,QF.refl _⟩
  ·rw[ew]at hk
   split at hk
   ·rename_i hm;have:b=p:=by simpa using hm
    subst this;rw[hp]at hk;injection hk with hk;subst hk;exact⟨pn,bT rd⟩
   cases hk
  ·rw[ew]at hk
   split at hk
   ·exact hk
   cases hk
  ·have:b=p∨(n<=b/\b<n+5):=by
    rcases hb with hb|hb
    ·rw[ew]at hb
     split at hb
     ·rename_i hm;left;simpa using hm
     exact ai rfl hb
    exact .inr hb
   simp only[Tr.get_put]
   rcases this with rfl|hb
   ·simp[show ¬b=n+4 by omega,show ¬b=n+3 by omega,show ¬b=n+2 by omega,show ¬b=n+1 by omega,show ¬b=n by omega,hp0,hp]
   have hb:b=n∨b=n+1∨b=n+2∨b=n+3∨b=n+4:=by omega
   rcases hb with rfl|rfl|rfl|rfl|rfl<;>simp
   exact(top (n+3) (by omega)).symm
  simp only[Tr.get_put];simp[show ¬b=n+4 by omega,show ¬b=n+3 by omega,show ¬b=n+2 by omega,show ¬b=n+1 by omega,show ¬b=n by omega]
 rw[ah hc]at h;cases h
def DW (p:Nat):Hp->Nat->iT:=λ H n=>if p<n then .mk (.aX []) H n else .fail
theorem Rh (p:Nat):∀H n v H' n',DW p H n=.mk v H' n'->bc pG 153 [nS,.fn (.func 154) [.ptr p 0] []] H n v H' n':=by
 intro H n v H' n' h;unfold DW at h
 by_cases hc:p<n
 ·rw[ao hc]at h;injection h with e1 e2 e3;subst e1 e2 e3;refine aj.Dw [] (by simp[jH];exact hc) (by simp) (by simp) λ H0 ht hL=>?_;refine(aao (.fn (.func 154) [.ptr p 0] []) H0 n).mono λ u K k ⟨q1,q2,q3⟩=>?_;subst q1 q2 q3;exact⟨.pure _ (by simp),λ _ _=>rfl⟩
 rw[ah hc]at h;cases h
theorem ez.norm (F:Fr){K:Hp}{p:Nat}{y:br}{L:List AV}(hy:K.get p=some y)(ho:OwnB y L):ez (λ _=>none) F K F (K.put p (some (.cells L.length [] L .nil))):=
 ⟨λ b x h=>by simp at h,λ b h=>ai rfl h,λ t v h=>⟨v,h,.inl rfl⟩,λ b x h=>by
  rw[Tr.get_put]at h
  by_cases e:b=p
  ·subst e;rw[ao rfl]at h;injection h with h;subst h;obtain⟨u,z,bs,t',rfl,q1,q3,_⟩:=ho;exact⟨_,hy,.inr ⟨u,z,bs,t',L,rfl,by rw[q1],q1.symm,λ i x hx=>⟨x,by rw[q3];exact hx,.inl rfl⟩⟩⟩
  rw[ah e]at h;exact⟨x,h,.inl rfl⟩⟩
theorem aaC {s:bB}{t:bo}{k:Nat}{RC D:List AV}{p r:Nat}{H:Hp}{n:Nat}{names:List (List Nat)}{kinds:List Int}(gw:s.tables.length<=aM)(qb:k<RC.length)(hk:Qm s t.id=(k:Int))(hR:RC[k]=bH [])(hnl:names.length<=aM)(hkn:kinds.length<=aM)
  (dl:D.length=32)(d0:D[0]?=some (aA.ds s.tables))(d2:D[2]?=some (.sl r 0 RC.length 1))(d18:D[18]?=some (aA.ds [t]))(d22:D[22]?=some (cK.ds names))(d23:D[23]?=some (cQ.ds kinds))(d25:D[25]?=some (.bool false))(d26:D[26]?=some (.bool false))(d30:D[30]?=some nS)
  (hp:H.get p=aG 32 D)(hr:H.get r=some (.cells RC.length [] RC .nil))(hpr:p≠r)(hRD:cT n D)(ht:cA H n):
  aj pG 67 [.ptr p 0] H n (λ u K k=>u=zI 0/\(∃y,K.get p=some y/\OwnB y ((D.set 28 (cK.ds names)).set 29 (cQ.ds kinds)))/\(∀c,c<n->c≠p->K.get c=H.get c)/\n<=k):=by
 refine aj.of c67 (by simp[A67]) λ F hF=>?_;have pn:=ht.lt hp;have rn:=ht.lt hr;simp[A67,hF];generalize hK:Tr.put (Tr.put H n _) (n+1) _=K;have kn:K.get n=aG 1 [.ptr p 0]:=by rw[<-hK];simp
 have kn1:K.get (n+1)=aG 1 [zI 0]:=by rw[<-hK];simp
 have kf:∀e,e<n->K.get e=H.get e:=λ e he=>by rw[<-hK];simp[show ¬e=n by omega,show ¬e=n+1 by omega]
 have kt:cA K (n+2):=λ e he=>by rw[<-hK];simp[show ¬e=n by omega,show ¬e=n+1 by omega,ht e (by omega)]
 clear hK hF;refine aw.of (uR K (n+2)) λ u K1 m ⟨hu,hK1,hm'⟩=>?_;subst hu;simp;generalize hK2:Tr.put (Tr.put K1 m _) m _=K2;have k2:∀e,e<n+2->K2.get e=K.get e:=λ e he=>by rw[<-hK2,hK1];simp[show ¬e=n+2 by omega,show ¬e=m by omega]
 have k22:K2.get (n+2)=aG 1 [zI 0]:=by rw[<-hK2,hK1];simp[show ¬n+2=m by omega]
 have k23:K2.get m=aG 1 [.fn (.func 165) [] [.ptr (n+2) 0]]:=by rw[<-hK2];simp
 have t2:cA K2 (m+1):=λ e he=>by rw[<-hK2,hK1];simp[show ¬e=n+2 by omega,show ¬e=m by omega,kt e (by omega)]
 clear hK2;have c0:=(k2 n (by omega)).trans kn;have c1:=(k2 (n+1) (by omega)).trans kn1;have cp:=(k2 p (by omega)).trans ((kf p pn).trans hp);have cr:=(k2 r (by omega)).trans ((kf r rn).trans hr);have cf:∀e,e<n->K2.get e=H.get e:=λ e he=>(k2 e (by omega)).trans (kf e he);obtain⟨y1,hs1,ho1⟩:=uM cp (OwnB.list dl.symm) (i:=28) (by rw[dl];omega) (v:=cK.ds names) ⟨rfl,rfl,rfl⟩;obtain⟨y2,hs2,ho2⟩:=uM (H:=K2.put p (some y1)) (by rw[Tr.get_put,ao rfl]) ho1 (i:=29) (by rw[List.length_set,dl];omega) (v:=cQ.ds kinds) ⟨rfl,rfl,rfl⟩;have np:¬n=p:=by omega
 have v1:(cK.ds names).len=1/\(cK.ds names).cells=[cK.ds names]:=⟨rfl,rfl⟩;have v2:(cQ.ds kinds).len=1/\(cQ.ds kinds).cells=[cQ.ds kinds]:=⟨rfl,rfl⟩;simp[aef];refine cj.of (dK (l:=[(148,[cK.ds names],λ H n=>.mk (cK.ds names) H n),(59,[cQ.ds kinds],λ H n=>.mk (cQ.ds kinds) H n)]) ?_) ?_
 ·intro x hx;simp only[mem_cons,not_mem_nil,or_false]at hx
  rcases hx with rfl|rfl
  ·exact cL (ah_ names hnl)
  exact cL (LL kinds hkn)
 simp[ab,c0,cp,d22,d23,bZ,sW,hs1,hs2,np];generalize hD:(D.set 28 (cK.ds names)).set 29 (cQ.ds kinds)=D' at ho2 ⊢;generalize hK3:Tr.put (Tr.put K2 p _) p _=K3;have p3:K3.get p=some y2:=by rw[<-hK3];simp
 have k3:∀e,e≠p->K3.get e=K2.get e:=λ e he=>by rw[<-hK3];simp[he]
 clear hK3;have dl':D'.length=32:=by rw[<-hD];simp[dl]
 have e0:D'[0]?=some (aA.ds s.tables):=by rw[<-hD];simp[d0]
 have e2:D'[2]?=some (.sl r 0 RC.length 1):=by rw[<-hD];simp[d2]
 have e18:D'[18]?=some (aA.ds [t]):=by rw[<-hD];simp[d18]
 have e25:D'[25]?=some (.bool false):=by rw[<-hD];simp[d25]
 have e26:D'[26]?=some (.bool false):=by rw[<-hD];simp[d26]
 have e30:D'[30]?=some nS:=by rw[<-hD];simp[d30]
 have rD':cT n D':=by
  rw[<-hD];refine cT.of λ x hx=>?_
  rcases mem_or_eq_of_mem_set hx with h|h
  ·rcases mem_or_eq_of_mem_set h with h|h
   ·exact hRD.mem x h
   subst h;exact(show Pure (cK.ds names) by simp).jI
  subst h;exact(show Pure (cQ.ds kinds) by simp).jI
 have hlen:aZ (aA.ds [t])=.val (zI 1):=rfl;have hone:(AV.fn (.func 165) [] [.ptr (n+2) 0]).len=1/\(AV.fn (.func 165) [] [.ptr (n+2) 0]).cells=[.fn (.func 165) [] [.ptr (n+2) 0]]/\(AV.fn (.func 165) [] [.ptr (n+2) 0]).one=true:=⟨rfl,rfl,rfl⟩;have h49:=UD (wM:=[t]) gw (.fn (.func 165) [] [.ptr (n+2) 0]) hone 0 (by simp) (by omega) p D' e0 e18;rw[show [t][0].id=t.id from rfl,hk,show ((0:Nat):Int)+1=1 from rfl]at h49;have sh:=λ F:Fr=>ez.norm F p3 ho2;rw[dl']at sh;generalize hH4:Tr.put K3 p (aG 32 D')=H4 at sh;have p4:H4.get p=aG 32 D':=by rw[<-hH4];simp
 have k4:∀e,e≠p->H4.get e=K2.get e:=λ e he=>by rw[<-hH4,Tr.get_put,ah he];exact k3 e he
 have t4:cA H4 (m+1):=λ e he=>by rw[k4 e (by omega)];exact t2 e he
 have q0:=(k4 n (by omega)).trans c0;have q1:=(k4 (n+1) (by omega)).trans c1;have q2:=(k4 (n+2) (by omega)).trans k22;have qm:=(k4 m (by omega)).trans k23;have qr:=(k4 r (Ne.symm hpr)).trans cr
 have hcF:FA p D' 1 (k:Int) (.fn (.func 165) [] [.ptr (n+2) 0]) H4 (m+1)=.mk (.fn (.func 215) [] [.ptr (m+1) 0,.ptr (m+1+1) 0,.ptr (m+1+2) 0,.ptr (m+1+4) 0])
  (((((H4.put (m+1) (aG 1 [.ptr p 0])).put (m+1+1) (aG 1 [zI 1])).put (m+1+2) (aG 1 [.fn (.func 165) [] [.ptr (n+2) 0]])).put (m+1+3) none).put (m+1+4) (aG 1 [zI (k:Int)])) (m+1+5):=by
  unfold FA;rw[ao ⟨p4,by omega,eH (by omega) rD',by simp[jH];omega⟩]
 simp[aee];refine cj.ZZ (dK (l:=[(149,[.ptr p 0,zI 1,.fn (.func 165) [] [.ptr (n+2) 0]],FA p D' 1 (k:Int) (.fn (.func 165) [] [.ptr (n+2) 0]))]) ?_) (sh _) ?_
 ·intro x hx;simp only[gp]at hx;subst hx;exact h49
 simp[ab,q0,p4,e18,hlen,qm,bZ,hcF];generalize QK:(Fp 37 _ _:Fr)=F5;have g1:F5.get 1=some (.ptr n 0):=by rw[<-QK];simp[ab]
 have g2:F5.get 2=some (.ptr (n+1) 0):=by rw[<-QK];simp[ab]
 have g3:F5.get 3=some (.ptr m 0):=by rw[<-QK];simp[ab]
 clear QK;generalize hH5:Tr.put _ (m+1+4) _=H5;have k5:∀e,e<m+1->H5.get e=H4.get e:=λ e he=>by rw[<-hH5];simp[show ¬e=m+1 by omega,show ¬e=m+1+1 by omega,show ¬e=m+1+2 by omega,show ¬e=m+1+3 by omega,show ¬e=m+1+4 by omega]
 have b0:H5.get (m+1)=aG 1 [.ptr p 0]:=by rw[<-hH5];simp
 have b1:H5.get (m+1+1)=aG 1 [zI 1]:=by rw[<-hH5];simp
 have b2:H5.get (m+1+2)=aG 1 [.fn (.func 165) [] [.ptr (n+2) 0]]:=by rw[<-hH5];simp
 have b4:H5.get (m+1+4)=aG 1 [zI (k:Int)]:=by rw[<-hH5];simp
 have t5:cA H5 (m+1+5):=λ e he=>by rw[<-hH5];simp[show ¬e=m+1 by omega,show ¬e=m+1+1 by omega,show ¬e=m+1+2 by omega,show ¬e=m+1+3 by omega,show ¬e=m+1+4 by omega,t4 e (by omega)]
 clear hH5;generalize m+1+5=M at t5 ⊢;refine IA.of ?_;generalize hH6:Tr.put (Tr.put H5 _ _) _ _=H6;have lt:∀ {e:Nat} {y:br},H5.get e=some y->e<M:=λ h=>t5.lt h;have k6:∀e,e<M->H6.get e=H5.get e:=λ e he=>by rw[<-hH6];simp[show ¬e=M by omega,show ¬e=M+1 by omega]
 have z6:H6.get M=some (.loop .ready .normal 148 F5 [38] LZ.1 LZ.2):=by rw[<-hH6];simp
 have w6:H6.get (M+1)=some .jX:=by rw[<-hH6];simp
 have t6:cA H6 (M+2):=λ e he=>by rw[<-hH6];simp[show ¬e=M by omega,show ¬e=M+1 by omega,t5 e (by omega)]
 clear hH6;have kk:∀ {e:Nat} {y:br},H5.get e=some y->H6.get e=some y:=λ h=>(k6 _ (lt h)).trans h;have p5:=(k5 p (by omega)).trans p4;have r5:=(k5 r (by omega)).trans qr;refine aj.mono (abC M (m+1) (m+1+1) (m+1+2) (m+1+4) p r (n+2) D' RC k qb hR H6 (M+2) (kk b0) (kk b1) (kk b2) (kk b4) (kk p5) e2 (kk r5) t6) λ u K7 k7 ⟨h7,m7⟩=>?_;unfold Qv;refine⟨_,_,_,_,_,_,_,(h7 M (by omega)).trans z6,by simp,by simp,?_⟩;simp;generalize hH8:Tr.put K7 M none=H8;have k8:∀e,e<M->H8.get e=H5.get e:=λ e he=>by rw[<-hH8,Tr.get_put,ah (by omega),h7 e (by omega)];exact k6 e he
 have w8:H8.get (M+1)=some .jX:=by rw[<-hH8,Tr.get_put,ah (by omega),h7 (M+1) (by omega)];exact w6
 clear hH8;have mM:=lt b0;have h4:∀e,e<m+1->H8.get e=H4.get e:=λ e he=>(k8 e (by omega)).trans (k5 e he);have qm8:=(h4 m (by omega)).trans qm;have q28:=(h4 (n+2) (by omega)).trans q2;simp[VO,g3,qm8];refine aw.of (jB 0 0 q28) λ u K9 k9 ⟨hu,a9,hk9,f9⟩=>?_;subst hu hk9;simp;have h9:∀e,e<m+1->e≠n+2->K9.get e=H4.get e:=λ e he h=>(f9 e h).trans (h4 e he);have p9:=(h9 p (by omega) (by omega)).trans p4;have n9:=(h9 n (by omega) (by omega)).trans q0;have n19:=(h9 (n+1) (by omega) (by omega)).trans q1;have w9:=(f9 (M+1) (by omega)).trans w8;simp[VN,VM,g1,n9,p9,e25,VL];refine cj.of (dK (l:=[(153,[nS,.fn (.func 154) [.ptr p 0] []],DW p)]) ?_) ?_
 ·intro x hx;simp only[gp]at hx;subst hx;exact Rh p
 have hsF:DW p K9 k9=.mk (.aX []) K9 k9:=by unfold DW;rw[ao (by omega)]
 simp[ab,g1,n9,p9,e30,bZ,hsF,VK];refine cj.of (cN (P:=pG)) ?_;simp[ab,g1,n9,p9,e26];simp[VJ,ab,g2,n19];rw[vo (by simp[show ¬M=n by omega,w9])];simp[ei];simp[show ¬n=M by omega,show ¬p=M+1 by omega,show ¬p=n+1 by omega,p9];refine⟨OwnB.list dl'.symm,λ c h1 h2=>?_,by omega⟩;simp[show ¬c=M+1 by omega,show ¬c=n+1 by omega];exact(h9 c (by omega) (by omega)).trans ((k4 c h2).trans (cf c h1))
def resV (T I R N C W:AV)(c e:Int):AV:=.aX [.agg [T,I,R] 3,.agg [N,C,W,zI c] 4,zI e]
def D8 (e:Int):AV:=resV nS nS nS nS nS nS 0 e
theorem lK (e:Int):Pure (D8 e):=by simp[D8,resV]
theorem FZ (w:jP)(hw:w.dz)(x:bN)(hb:ae pG 23 [fe.av w.aO,x.av] (.aX [.agg (cy w.aO x).1.cells 25,zI (cy w.aO x).2]))(h:¬eK w∨(cy w.aO x).2≠0):ae pG 10 [fc.av w,x.av] (D8 (if eK w then (cy w.aO x).2 else 1)):=by
 refine hU c10 (by simp) (lK _) (by simp[A10]) λ F hF=>?_;have hm:=ac5 w hw;have hav:x.av=.agg x.cells 31:=Eq.trans rfl rfl;have hwv:fc.av w=.agg [aA.ds w.aO.tables,aQ.ds w.aO.indexes,dM.ds w.rows] 3:=Eq.trans rfl rfl;have hsv:fe.av w.aO=.agg [aA.ds w.aO.tables,aQ.ds w.aO.indexes] 2:=Eq.trans rfl rfl;have xl:=x.bf;rw[hav,hsv]at hb;rw[hwv]at hm;rw[hav,hwv]at hF;clear hav hwv hsv
 by_cases ok:eK w
 ·have he:(cy w.aO x).2≠0:=h.resolve_left (λ h=>h ok);rw[ao ok];simp only[ok,decide_true]at hm;generalize cy w.aO x=R at *;have hR:(R.1.cells).length=25:=rfl;generalize x.cells=xs at *;simp[A10,hF];simp[N3];refine aw.pure hm ?_;simp[Zn];refine aw.pure hb ?_;simp[hR,mZ.one,Zm,he,afm];exact .pure _ (lK _)
 rw[ah ok];simp only[ok,decide_false]at hm;generalize x.cells=xs at *;simp[A10,hF];simp[N3];refine aw.pure hm ?_;simp[afn];exact .pure _ (lK 1)
def Vb (g:Nat)(D RC:List AV)(e:Int)(D2 Vh:Nat->List AV):Prop:=∀(H:Hp)(n p r:Nat),H.get p=aG 32 (D.set 2 (.sl r 0 RC.length 1))->H.get r=some (.cells RC.length [] RC .nil)->p≠r->cA H n ->
 aj pG g [.ptr p 0] H n (λ u K k=>u=zI e/\(e=0->(∃y,K.get p=some y/\OwnB y (D2 r))/\(∃y,K.get r=some y/\OwnB y (Vh r)))/\(∀c,c<n->c≠p->c≠r->K.get c=H.get c)/\n<=k)
theorem U6 (w:jP)(hw:w.dz)(x:bN)(hb:ae pG 23 [fe.av w.aO,x.av] (.aX [.agg (cy w.aO x).1.cells 25,zI (cy w.aO x).2]))(ok:eK w)(hb0:(cy w.aO x).2=0)(h0:w.rows≠[])(hS:∀L∈w.rows,ae pG 58 [aW L] (bH L))(g:Nat)(hg:J' x.kind=.fn (.func g) [] [])(e:Int)(N C W:AV)(hN:N.one=true/\C.one=true/\W.one=true)(c:Int)(Vh:List AV)
  (way:Vb g (dC (aA.ds w.aO.tables) (aQ.ds w.aO.indexes) nS (cy w.aO x).1 nS nS nS 0) (w.rows.map bH) e (λ r=>dC (aA.ds w.aO.tables) (aQ.ds w.aO.indexes) (.sl r 0 w.rows.length 1) (cy w.aO x).1 N C W c) (λ _=>Vh)):
  aj pG 10 [fc.av w,x.av] .nil 0 (λ u K k=>if e=0 then ∃r y,u=resV (aA.ds w.aO.tables) (aQ.ds w.aO.indexes) (.sl r 0 w.rows.length 1) N C W c 0/\K.get r=some y/\OwnB y Vh/\r<k else u=D8 e):=by
 refine aj.of c10 (by simp[A10]) λ F hF=>?_;have hm:=ac5 w hw;have hav:x.av=.agg x.cells 31:=Eq.trans rfl rfl;have hwv:fc.av w=.agg [aA.ds w.aO.tables,aQ.ds w.aO.indexes,dM.ds w.rows] 3:=Eq.trans rfl rfl;have hsv:fe.av w.aO=.agg [aA.ds w.aO.tables,aQ.ds w.aO.indexes] 2:=Eq.trans rfl rfl;have xl:=x.bf;have h24:=alj w hw.s ok.l h0 hS;have x0:=x.g0;rw[hav,hsv]at hb;rw[hwv]at hm h24;rw[hav,hwv]at hF;clear hav hwv hsv;simp only[ok,decide_true]at hm;generalize cy w.aO x=R at *;have hR:(R.1.cells).length=25:=rfl;generalize hxs:x.cells=xs at *;simp[A10,hF];simp[N3];refine aw.pure hm ?_;simp[Zn];refine aw.pure hb ?_;simp[hR,mZ.one,Zm,hb0];generalize hF1:(Fp 24 _ _:Fr)=F1;have f2:F1.get 2=some (.ptr 0 0):=by rw[<-hF1];simp
 have f3:F1.get 3=some (.ptr 1 0):=by rw[<-hF1];simp
 have f4:F1.get 4=some (.ptr 2 0):=by rw[<-hF1];simp
 have f5:F1.get 5=some (.ptr 3 0):=by rw[<-hF1];simp
 have f7:F1.get 7=some (.ptr 4 0):=by rw[<-hF1];simp
 have f8:F1.get 8=some (zI 0):=by rw[<-hF1];simp
 clear hF1 hF F;generalize hK:Tr.put _ 4 _=K;have k0:K.get 0=aG 3 [aA.ds w.aO.tables,aQ.ds w.aO.indexes,dM.ds w.rows]:=by rw[<-hK];simp
 have k1:K.get 1=aG 31 xs:=by rw[<-hK];simp
 have k2:K.get 2=aG 3 [nS,nS,nS]:=by rw[<-hK];simp
 have k3:K.get 3=aG 4 [nS,nS,nS,zI 0]:=by rw[<-hK];simp
 have k4:K.get 4=aG 25 R.1.cells:=by rw[<-hK];simp
 have kt:cA K 5:=λ b hb=>by rw[<-hK];simp[show ¬b=0 by omega,show ¬b=1 by omega,show ¬b=2 by omega,show ¬b=3 by omega,show ¬b=4 by omega]
 clear hK;have hpt:∀v:AV,patch [aA.ds w.aO.tables,aQ.ds w.aO.indexes,v,zI 0,.str [],.int .u32 0,.str [],nS,.int .u32 0,.int .u32 0,.int .u32 0,.str [],nS,.bool false,.int .u32 0,nS,nS,nS,nS,nS,nS,nS,nS,nS,nS,.bool false,.bool false,zI 0,nS,nS,nS,zI 0] 3 R.1.cells=some (dC (aA.ds w.aO.tables) (aQ.ds w.aO.indexes) v R.1 nS nS nS 0):=λ v=>rfl;simp[afl];refine cj.of (dK (l:=[(24,[.agg [aA.ds w.aO.tables,aQ.ds w.aO.indexes,dM.ds w.rows] 3],λ H n=>.mk (.agg [aA.ds w.aO.tables,aQ.ds w.aO.indexes,.sl n 0 w.rows.length 1] 3) (H.put n (some (.cells (w.rows.length*1) [] (w.rows.map bH) .nil))) (n+1))]) ?_) ?_
 ·intro y hy;simp only[gp]at hy;subst hy;intro H n v H' n' h;injection h with e1 e2 e3;subst e1 e2 e3;exact h24 H n
 simp[ab,f2,f7,k0,k4,bZ,hpt];refine⟨by simp[cG,dj,kt 6 (by omega)],?_⟩;generalize hD:dC (aA.ds w.aO.tables) (aQ.ds w.aO.indexes) (AV.sl 5 0 w.rows.length 1) R.1 nS nS nS 0=D;generalize hF2:(Fp 9 _ _:Fr)=F2;have g3:F2.get 3=some (.ptr 1 0):=by rw[<-hF2];simp[ab,f3]
 have g4:F2.get 4=some (.ptr 2 0):=by rw[<-hF2];simp[ab,f4]
 have g5:F2.get 5=some (.ptr 3 0):=by rw[<-hF2];simp[ab,f5]
 have g8:F2.get 8=some (zI 0):=by rw[<-hF2];simp[ab,f8]
 have g9:F2.get 9=some (.ptr 6 0):=by rw[<-hF2];simp
 clear hF2 f2 f3 f4 f5 f7 f8 F1;generalize hK2:Tr.put (Tr.put K 5 _) 6 _=K2;have j5:K2.get 5=some (.cells w.rows.length [] (w.rows.map bH) .nil):=by rw[<-hK2];simp
 have j6:K2.get 6=aG 32 D:=by rw[<-hK2];simp
 have j1:K2.get 1=aG 31 xs:=by rw[<-hK2];simp[k1]
 have j2:K2.get 2=aG 3 [nS,nS,nS]:=by rw[<-hK2];simp[k2]
 have j3:K2.get 3=aG 4 [nS,nS,nS,zI 0]:=by rw[<-hK2];simp[k3]
 have t7:cA K2 7:=λ b hb=>by rw[<-hK2];simp[show ¬b=5 by omega,show ¬b=6 by omega,kt b (by omega)]
 clear hK2 k0 k1 k2 k3 k4 kt K;have hw:=afG x.kind (K2.put 7 (some (.map vh 8))) 7 (by rw[Tr.get_put,ao rfl]);rw[hg]at hw;have hn:eW .i (.al .nilFunc) false (.map 7) (zI x.kind) .nil=.fail:=by unfold eW;simp
 have hw0:eW .i (.al .nilFunc) false (.map 7) (zI x.kind) K2=.fail:=by unfold eW;simp[t7 7 (by omega)]
 simp[afk];refine cj.of (dK (l:=[(25,[],λ H n=>.mk (.map n) (H.put n (some (.map vh 8))) (n+1))]) ?_) ?_
 ·intro y hy;simp only[gp]at hy;subst hy;intro H n v H' n' h;injection h with e1 e2 e3;subst e1 e2 e3;exact afE H n
 simp[ab,g3,j1,bZ,hw,hn,x0];generalize hF3:(Fp 10 _ _:Fr)=F3;have h4:F3.get 4=some (.ptr 2 0):=by rw[<-hF3];simp[ab,g4]
 have h5:F3.get 5=some (.ptr 3 0):=by rw[<-hF3];simp[ab,g5]
 have h9:F3.get 9=some (.ptr 6 0):=by rw[<-hF3];simp[ab,g9]
 have h10:F3.get 10=some (.fn (.func g) [] []):=by rw[<-hF3];simp
 clear hF3 g3 g4 g5 g8 g9 F2;generalize hK3:Tr.put K2 7 _=K3;have l5:K3.get 5=some (.cells w.rows.length [] (w.rows.map bH) .nil):=by rw[<-hK3];simp[j5]
 have l6:K3.get 6=aG 32 D:=by rw[<-hK3];simp[j6]
 have l2:K3.get 2=aG 3 [nS,nS,nS]:=by rw[<-hK3];simp[j2]
 have l3:K3.get 3=aG 4 [nS,nS,nS,zI 0]:=by rw[<-hK3];simp[j3]
 have t8:cA K3 8:=λ b hb=>by rw[<-hK3];simp[show ¬b=7 by omega,t7 b (by omega)]
 clear hK3 j5 j6 j1 j2 j3 t7 hw hw0 K2;have hwy:=way K3 8 6 5 (by rw[l6,<-hD];simp[dC]) (by simpa using l5) (by omega) t8;have hne:js true .func (.fn (.func g) [] []) (.al .nilFunc)=.val (.bool true):=by simp[js,fS]
 simp[afj,h10,hne,afi,h9];refine aw.of hwy λ u K m ⟨hu,hy,hf,hm⟩=>?_;subst hu;have m2:=(hf 2 (by omega) (by omega) (by omega)).trans l2;have m3:=(hf 3 (by omega) (by omega) (by omega)).trans l3
 by_cases he:e=0
 ·obtain⟨⟨y,hy6,hoy⟩,z,hz5,hoz⟩:=hy he;have sh:=λ F:Fr=>ez.norm F hy6 hoy;rw[ahV]at sh;generalize hK4:Tr.put K 6 (aG 32 (dC (aA.ds w.aO.tables) (aQ.ds w.aO.indexes) (.sl 5 0 w.rows.length 1) R.1 N C W c))=K4 at sh;have n6:K4.get 6=aG 32 (dC (aA.ds w.aO.tables) (aQ.ds w.aO.indexes) (.sl 5 0 w.rows.length 1) R.1 N C W c):=by rw[<-hK4];simp
  have n5:K4.get 5=some z:=by rw[<-hK4];simp[hz5]
  have n2:K4.get 2=aG 3 [nS,nS,nS]:=by rw[<-hK4];simp[m2]
  have n3:K4.get 3=aG 4 [nS,nS,nS,zI 0]:=by rw[<-hK4];simp[m3]
  clear hK4;have ld1:∀H:Hp,H.get 6=aG 32 (dC (aA.ds w.aO.tables) (aQ.ds w.aO.indexes) (.sl 5 0 w.rows.length 1) R.1 N C W c)->cZ 3 (.ptr 6 0) H=.val (.agg [aA.ds w.aO.tables,aQ.ds w.aO.indexes,.sl 5 0 w.rows.length 1] 3):=λ H h=>by simp[cZ,h];rfl
  have ld2:mf (K4.get 6) 28 4=.val (.agg [N,C,W,zI c] 4):=by rw[n6];rfl
  have o1:(aA.ds w.aO.tables).one=true/\(aQ.ds w.aO.indexes).one=true:=⟨rfl,rfl⟩;simp[he,JM,Zo];refine cj.ZZ (cN (P:=pG)) (sh _) ?_;simp[ab,h4,h5,h9,ld1 K4 n6,ld2,n2,n3,o1,hN];exact⟨5,rfl,z,by simp[n5],hoz,by omega⟩
 simp[JM,he,Zp,h4,h5,m2,m3];rfl
theorem xz (w:jP) (hw:w.dz) (x:bN) (hb:ae pG 23 [fe.av w.aO,x.av] (.aX [.agg (cy w.aO x).1.cells 25,zI (cy w.aO x).2])) (ok:eK w) (hb0:(cy w.aO x).2=0) (h0:w.rows≠[]) (hS:∀L∈w.rows,ae pG 58 [aW L] (bH L)) (g:Nat) (hg:J' x.kind=.fn (.func g) [] []) (e:Int) (N C W:AV) (hN:N.one=true/\C.one=true/\W.one=true) (hP:Pure N/\Pure C/\Pure W) (c:Int) (Vh:List AV) (L2:List (List (List Val))) (hl2:L2.length=w.rows.length) (hj:∀h,J5 h Vh (dM.l L2))
  (way:Vb g (dC (aA.ds w.aO.tables) (aQ.ds w.aO.indexes) nS (cy w.aO x).1 nS nS nS 0) (w.rows.map bH) e (λ r=>dC (aA.ds w.aO.tables) (aQ.ds w.aO.indexes) (.sl r 0 w.rows.length 1) (cy w.aO x).1 N C W c) (λ _=>Vh)):
  ae pG 10 [fc.av w,x.av] (if e=0 then resV (aA.ds w.aO.tables) (aQ.ds w.aO.indexes) (dM.ds L2) N C W c 0 else D8 e):=by
 have hpu:Pure (resV (aA.ds w.aO.tables) (aQ.ds w.aO.indexes) (dM.ds L2) N C W c 0):=by simp[resV,hP]
 have base:=U6 w hw x hb ok hb0 h0 hS g hg e N C W hN c Vh way
 by_cases he:e=0
 ·rw[ao he];simp only[he,if_true]at base;refine ae.ofR (by simp) hpu (base.zs λ u K k ⟨r,y,hu,hr,ho,hk⟩=>?_);have hlen:Vh.length=L2.length:=by have:=(hj (λ _=>none)).length;rw[<-this];simp
  refine⟨λ _=>none,K.put r (some (.cells Vh.length [] (dM.l L2) .nil)),u,⟨λ b x h=>by simp at h,λ b h=>ai rfl h,λ b x h=>?_⟩,FJ.refl _ _,?_⟩
  ·rw[Tr.get_put]at h
   by_cases e:b=r
   ·subst e;rw[ao rfl]at h;injection h with h;subst h;obtain⟨u,z,bs,t',rfl,q1,q3,_⟩:=ho;exact⟨_,hr,.inr ⟨u,z,bs,t',dM.l L2,rfl,by rw[q1],by rw[q1,(hj (λ _=>none)).length],λ i v hv=>by rw[q3];exact(hj _).at i v hv⟩⟩
   rw[ah e]at h;exact⟨x,h,.inl rfl⟩
  subst hu
  have ow:au (K.put r (some (.cells Vh.length [] (dM.l L2) .nil))) k (.sl r 0 w.rows.length 1) (dM.l L2) w.rows.length 1:=
   ⟨by simp[hl2],.inr ⟨r,_,rfl,hk,(Tr.get_put _ _ _ _).trans (ao rfl),OwnB.list (by rw[hlen];simp)⟩⟩
  have fz:=ow.nf (bh.pure (by simp)) (by omega);rw[<-hl2]at fz ⊢;exact .aX _ _ (.cons _ _ _ _ (.agg _ _ _ (.cons _ _ _ _ fp (.cons _ _ _ _ fp (.cons _ _ _ _ fz .nil)))) (.cons _ _ _ _ (.pure _ (by simp[hP])) (.cons _ _ _ _ fp .nil)))
 rw[ah he];simp only[he,if_false]at base;exact ae.ofR (by simp) (lK e) (base.mono λ u K k hu=>by subst hu;exact .pure _ (lK e))
theorem PU (cols:List Int){M L:List (List Val)}(h:M.Sublist L):(eh cols M).Sublist (eh cols L):=by
 unfold eh
 induction h with
 |slnil=>simp
 |cons a _ ih=>simp only[flatMap_cons];exact ih.trans (List.sublist_append_right _ _)
 |cons_cons a _ ih=>simp only[flatMap_cons];exact(List.Sublist.refl _).append ih
theorem Ht (cols:List Int){M L:List (List Val)}(h:M.Perm L):(eh cols M).Perm (eh cols L):=h.flatMap_right _
theorem wP {s:bB}{t:bo}{M L:List (List Val)}(h:M.Sublist L)(h0:dR s t L=0):dR s t M=0:=by
 rw[fF,l7]at h0 ⊢;exact⟨λ r hr=>h0.1 r (h.subset hr),λ x hx hu=>(PU x.cols h).nodup (h0.2 x hx hu)⟩
theorem zw {s:bB}{t:bo}{M L:List (List Val)}(h:M.Perm L)(h0:dR s t L=0):dR s t M=0:=by
 rw[fF,l7]at h0 ⊢;exact⟨λ r hr=>h0.1 r (h.mem_iff.1 hr),λ x hx hu=>(Ht x.cols h).nodup_iff.2 (h0.2 x hx hu)⟩
theorem E2 {s:bB}{t:bo}{L:List (List Val)}(h0:dR s t L=0):∀r∈L,qM t.cols r=0:=λ r hr=>by
 rw[fF,l7]at h0;exact DI (h0.1 r hr)
theorem jA {s:bB}{t:bo}{L:List (List Val)}(h0:dR s t L=0):∀r∈L,iR r:=λ r hr=>(rF (E2 h0 r hr)).2.2.2.2
theorem aam {L M:List (List Val)}(hm:∀r∈L++M,iR r):jZ (jZ L++M)=jZ (L++M):=by
 have h1:=vF (L:=L) λ r hr=>hm r (by simp[hr]);have hp:(jZ L++M).Perm (L++M):=h1.1.append_right M;have h2:=vF (L:=jZ L++M) λ r hr=>hm r (hp.mem_iff.1 hr);exact GW hm (h2.1.trans hp) h2.2
theorem Q8 {L:List (List Val)}(hm:∀r∈L,iR r)(hs:cS L):jZ L=L:=(GW hm (.refl _) hs).symm
theorem vJ:∀ {L:List (List Val)},(∀r∈L,iR r)->mS L->cS L
 |[],_,_=>by simp[cS]
 |[_],_,_=>by simp[cS]
 |a :: b::L,hm,hs=>by
  have ih:cS (b::L):=vJ (λ r hr=>hm r (by simp[hr])) λ k h=>hs (k+1) (by simp at h ⊢;omega);have ha:=hm a (by simp);have hb:=hm b (by simp)
  have h0:dZ a b<=0:=by
   have:=hs 0 (by simp);have e:=kh hb ha;simp at this;have e2:=kh ha hb;omega
  simp only[cS,pairwise_cons]at ih ⊢;refine⟨λ y hy=>?_,ih⟩
  rcases mem_cons.1 hy with rfl|hy
  ·exact h0
  exact mq ha hb (hm y (by simp[hy])) h0 (ih.1 y hy)
theorem Iy {L:List (List Val)}(hm:∀r∈L,iR r)(hs:cS L):mS L:=λ k h=>by
 have:=pairwise_iff_getElem.1 hs k (k+1) (by omega) h (by omega);have e:=kh (hm _ (b6 (by omega:k<L.length))) (hm _ (b6 h));omega
theorem nj.fits {s:bB}{t:bo}{L:List (List Val)}(h:nj s t L):dR s t L=0:=(fF _ _ _).2 ⟨h.w,h.uq⟩
theorem nj.of {s:bB}{t:bo}{L:List (List Val)}(hl:L.length<=4096)(h0:dR s t L=0)(hs:cS L):nj s t L:=by
 have:=(fF _ _ _).1 h0;exact⟨hl,this.1,Iy (jA h0) hs,this.2⟩
theorem nj.self {s:bB}{t:bo}{L:List (List Val)}(h:nj s t L):Go.Abs.jZ L=L:=Q8 (jA h.fits) (vJ (jA h.fits) h.jZ)
theorem nj.nil (s:bB)(t:bo):nj s t []:=by
 refine nj.of (by simp) ((fF _ _ _).2 ⟨(l7 _ _ _).2 (by simp),λ x _ _=>by simp[eh]⟩) (by simp[cS])
theorem eK.put {w:jP}(h:eK w){k:Nat}(hk:k<w.aO.tables.length){L:List (List Val)}(hL:nj w.aO w.aO.tables[k] L):eK ⟨w.aO,w.rows.set k L⟩:=
 ⟨h.s,by simpa using h.l,λ i h1 h2=>by
  simp only[getElem_set]
  split
  ·rename_i e;subst e;exact hL
  exact h.t i (by simpa using h1) h2⟩
end Go.Abs
