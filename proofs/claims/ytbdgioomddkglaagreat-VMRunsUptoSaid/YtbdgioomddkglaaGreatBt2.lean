/- A part. -/
import Derived.Test.YtbdgioomddkglaaGreatBt1
noncomputable section
namespace Go.Abs
open List
open Go.Proofs
open Classical
set_option maxRecDepth 100000
def acS (l:List yy)(i:Nat):Prop:=∀h:i<l.length,dm l[i].name/\(1<=l[i].kind/\l[i].kind<=3)/\∀k (hk:k<l.length),i<k->l[k].name≠l[i].name
theorem HZ (l:List yy):eO l↔l≠[]/\l.length<=16/\∀i,acS l i:=by
 refine⟨λ⟨h1,h2,h3⟩=>⟨h1,h2,λ i h=>⟨(h3 i h).1,(h3 i h).2.1,λ k hk hik e=>(h3 k hk).2.2 i hik e.symm⟩⟩,λ⟨h1,h2,h3⟩=>⟨h1,h2,λ i h=>⟨(h3 i h).1,(h3 i h).2.1,λ j hj e=>?_⟩⟩⟩;exact(h3 j (by omega)).2.2 i h hj e.symm
theorem ab9 (l:List yy)(hl:l.length<=16)(i:Nat)(hi:i<l.length)(F:Fr)(K:Hp)(n:Nat)(Q:QA)(f0:F.get 0=some (cN.ds l))(f3:F.get 3=some (iI (i:Int)))(f5:F.get 5=some (iI ((i+1:Nat):Int)))
  (hbad:¬(∀k (hk:k<l.length),i<k->l[k].name≠l[i].name)->∀F,F.get 2=some (.bool false)->Q .ret F K n [])
  (hok:(∀k (hk:k<l.length),i<k->l[k].name≠l[i].name)->∀F,F.get 0=some (cN.ds l)->F.get 3=some (iI (i:Int))->Q .normal F K n []):aG NX pG F K n [] (jN 2 Q):=by
 refine aG.of (λ g F K' n' ms=>∃k:Nat,g=l.length - k/\i+1<=k/\k<=l.length/\F.get 0=some (cN.ds l)/\F.get 3=some (iI (i:Int))/\F.get 5=some (iI (k:Int))/\K'=K/\n'=n/\ms=[]/\∀j (hj:j<l.length),i<j->j<k->l[j].name≠l[i].name) (l.length - (i+1)) ⟨i+1,rfl,by omega,by omega,f0,f3,f5,rfl,rfl,rfl,λ j hj h1 h2=>by omega⟩ ?_;clear f0 f3 f5 F;rintro g F K' n' ms ⟨k,rfl,hk1,hk,f0,f3,f5,rfl,rfl,rfl,hj⟩
 by_cases hlt:k<l.length
 ·have hx:=cN.ix (ik:=.i64) hlt;have hy:=cN.ix (ik:=.i64) hi;rw[qV]at hx hy;simp only[NX];simp[f0,f5,aN.aF,hlt];refine bD.of (bh (P:=pG)) ?_
  by_cases he:l[k].name=l[i].name
  ·simp[ab,f0,f3,f5,hx,hy,he,WE];exact hbad (λ h=>h k hlt (by omega) he) _ (by simp)
  simp[ab,f0,f3,f5,hx,hy,he,WC,ax k (by omega)];refine⟨_,by omega,k+1,rfl,by omega,by omega,rfl,λ j hjl h1 h2=>?_⟩
  by_cases e:j=k
  ·subst e;exact he
  exact hj j hjl h1 (by omega)
 obtain rfl:k=l.length:=by omega
 simp[NX,f0,f5,aN.aF];exact hok (λ k hk h=>hj k hk h hk) _ (by simp[f0]) (by simp[f3])
theorem TE (l : List yy):ah pG 37 [cN.ds l] (.bool (decide (eO l))):=by
 refine pv c37 λ F hF=>?_
 by_cases h0:l=[]
 ·have:¬eO l:=λ h=>h.1 h0;simp only[this,decide_false];subst h0;simp[A37,hF,aN.aF];exact .bool rfl
 have hp : 0<l.length:=length_pos_iff.2 h0
 by_cases uS:l.length<=16
 ·have hC : eO l↔∀i,acS l i:=by rw[HZ];exact⟨λ h=>h.2.2,λ h=>⟨h0,uS,h⟩⟩
  simp[A37,hF,aN.aF,show ¬(l.length:Int)<1 by omega,show ¬(16:Int)<(l.length:Int) by omega,show ¬ 16<l.length by omega];refine aG.of (λ t F K n ms=>∃i,t=l.length - i/\i<=l.length/\F.get 0=some (cN.ds l)/\F.get 3=some (iI (i:Int))/\ms=[]/\∀j,j<i->acS l j) l.length ⟨0,by simp,by omega,by simp[hF],by simp,rfl,λ j h=>by omega⟩ ?_;clear hF F;rintro t F K n ms ⟨i,rfl,hi,f0,f3,rfl,hj⟩
  by_cases hlt:i<l.length
  ·have hx:=cN.ix (ik:=.i64) hlt;rw[qV]at hx;have no:¬acS l i->¬eO l:=λ h hc=>h (hC.1 hc i);simp[ZU,f0,f3,aN.aF,hlt,hx];refine au.pure (Hq l[i].name) ?_
   by_cases h1:dm l[i].name
   ·by_cases h2:1<=l[i].kind/\l[i].kind<=3
    ·have hk:l[i].kind=1∨l[i].kind=2∨l[i].kind=3:=by omega
     rcases hk with hk|hk|hk
     all_goals simp[h1,hk,afo,f3,ax i (by omega)]
     all_goals refine ab9 l uS i hlt _ K n _ (by simp[f0]) (by simp[f3]) (by simp) (λ hb F' f2=>?_) λ hg F' f0 f3=>?_
     all_goals first
      |(simp[f2];exact .bool (by simp[no λ h=>hb (h hlt).2.2]))
      |(simp[WB,f3,ax i (by omega)];refine⟨_,by omega,i+1,rfl,hlt,f0,rfl,λ j hji=>?_⟩;by_cases e:j=i;(subst e;exact λ h=>⟨h1,h2,hg⟩);(exact hj j (by omega)))
    simp[h1,show ¬l[i].kind=1 by omega,show ¬l[i].kind=2 by omega,show ¬l[i].kind=3 by omega,V'];exact .bool (by simp[no λ h=>h2 (h hlt).2.1])
   simp[h1,V'];exact .bool (by simp[no λ h=>h1 (h hlt).1])
  obtain rfl:i=l.length:=by omega
  have:eO l:=hC.2 λ j h=>hj j h h;simp[ZU,WA,f0,f3,aN.aF,this];exact .bool rfl
 have:¬eO l:=λ h=>uS h.2.1;simp only[this,decide_false];simp[A37,hF,aN.aF,show ¬(l.length:Int)<1 by omega,show (16:Int)<(l.length:Int) by omega,show 16<l.length by omega];exact .bool rfl
theorem Qr (t:iP)(r:List AV)(H:Hp):df 4 (.dp (.int .u32 t.id::.str t.name::cN.ds t.cols::.int .u32 t.head::r)) H=.val (bf.av t):=bf.sC t r H
theorem take_snoc {α:Type}{l:List α}{i:Nat}(h:i<l.length):l.take (i+1)=l.take i++[l[i]]:=by
 rw[take_add_one,dU h];rfl
theorem La {H:Hp}{b i:Nat}{k:bz}{L:List AV}{v:AV}(hb:H.get b=some k)(ho:OwnB k L)(hv:L[i]?=some v):eE (.ptr b i) H=.val v:=by
 obtain⟨h1,h2⟩:=nS.1 hv;rw[Ri hb ho h1,h2]
theorem aau (s:eF) (hs:s.aO) (i0:Int):ah pG 38 [fA.av s,.int .u32 i0] (.aW [bf.av (s.table i0).1,.bool (s.table i0).2]):=by
 have ht:=hs.t;unfold bm at ht;refine pv c38 λ F hF=>?_;simp[A38,hF,aN.av];refine aG.of (λ q F K n ms=>∃i,q=s.tables.length - i/\i<=s.tables.length/\F.get 1=some (.int .u32 i0)/\F.get 2=some (.ptr 0 0)/\F.get 4=some (.ptr 1 0)/\F.get 6=some (iI (i:Int))/\K.get 0=cl 2 (fA.cells s)/\K.get 1=cl 4 [(.int .u32 0),(.str []),(.aI (.slice none 0 0)),(.int .u32 0)]/\ms=[]/\∀j (_:j<i) (h:j<s.tables.length),s.tables[j].id≠i0) s.tables.length ⟨0,by simp[hF]⟩ ?_;clear hF F;rintro q F K n ms ⟨i,rfl,hi,f1,f2,f4,f6,k0,k1,rfl,hj⟩;rw[bJ]at k0
 by_cases hlt:i<s.tables.length
 ·have hx:=bf.ix (ik:=.i64) hlt
  by_cases he:s.tables[i].id=i0
  ·subst he
   have hf:s.table s.tables[i].id=(s.tables[i],true):=by
    unfold eF.table jI;rw[find?_eq_some_iff_getElem.2 ⟨by simp,i,hlt,rfl,λ j hj'=>by simpa using hj j hj' (by omega)⟩]
   rw[cT]at hx;simp[NW,f1,f2,f4,f6,k0,k1,aN.aF,hlt,hx,Qr,aN.av,cT,hf];exact fp
  rw[cT]at hx;simp[NW,f1,f2,f4,f6,k0,aN.aF,hlt,hx,he,ax i (by omega)];refine⟨_,by omega,i+1,rfl,hlt,rfl,?_⟩;refine⟨by rw[bJ],k1,λ j hj' h=>?_⟩
  by_cases e:j=i
  ·subst e;exact he
  exact hj j (by omega) h
 obtain rfl:i=s.tables.length:=by omega
 have hf:s.table i0=(iP.zero,false):=by
  unfold eF.table jI
  rw[find?_eq_none.2 λ x hx=>by
   obtain⟨j,h,rfl⟩:=getElem_of_mem hx;simpa using hj j h h]
 simp[NW,afn,f2,f4,f6,k0,k1,aN.aF,hf,aN.av];exact .aW _ _ (.cons _ _ _ _ (.agg _ _ _ (ak7 _)) (.cons _ _ _ _ fp .nil))
def PlP (n:Int)(l:List Int)(i:Nat):Prop:=∀h:i<l.length,0<=l[i]/\l[i]<n/\∀k (hk:k<i),(l[k]'(by omega))≠l[i]
theorem AQ (t:iP)(l:List Int):dL t l↔l≠[]/\l.length<=16/\∀i,PlP (t.cols.length:Int) l i:=by
 refine⟨λ⟨h1,h2,h3⟩=>⟨h1,h2,λ i h=>⟨(h3 i h).1,(h3 i h).2.1,λ k hk e=>(h3 i h).2.2 ?_⟩⟩,λ⟨h1,h2,h3⟩=>⟨h1,h2,λ i h=>⟨(h3 i h).1,(h3 i h).2.1,λ hm=>?_⟩⟩⟩
 ·rw[<-e];exact mem_take_iff_getElem.2 ⟨k,by omega,rfl⟩
 obtain⟨k,hk,e⟩:=mem_take_iff_getElem.1 hm;exact(h3 i h).2.2 k (by omega) e
theorem OP (l:List Int)(hl:l.length<=bm)(i:Nat)(hi:i<l.length)(n0:Int)(F:Fr)(K:Hp)(n:Nat)(Q:QA)(f0:F.get 0=some (iI n0))(f1:F.get 1=some (fo.ds l))(f5:F.get 5=some (iI (i:Int)))(f6:F.get 6=some (iI 0))
  (hbad:¬(∀k (hk:k<i),(l[k]'(by omega))≠l[i])->∀F,F.get 4=some (.bool false)->Q .ret F K n [])
  (hok:(∀k (hk:k<i),(l[k]'(by omega))≠l[i])->∀F,F.get 0=some (iI n0)->F.get 1=some (fo.ds l)->F.get 5=some (iI (i:Int))->Q .normal F K n []):aG NV pG F K n [] (jN 2 Q):=by
 unfold bm at hl;refine aG.of (λ g F K' n' ms=>∃k:Nat,g=i - k/\k<=i/\F.get 0=some (iI n0)/\F.get 1=some (fo.ds l)/\F.get 5=some (iI (i:Int))/\F.get 6=some (iI (k:Int))/\K'=K/\n'=n/\ms=[]/\∀j (hj:j<i),j<k->(l[j]'(by omega))≠l[i]) i ⟨0,by simp,by omega,f0,f1,f5,by simpa using f6,rfl,rfl,rfl,λ j hj h1=>by omega⟩ ?_;clear f0 f1 f5 f6 F;rintro g F K' n' ms ⟨k,rfl,hk,f0,f1,f5,f6,rfl,rfl,rfl,hj⟩
 by_cases hlt:k<i
 ·have hx:=fo.ix (l:=l) (i:=k) (ik:=.i64) (by omega);have hy:=fo.ix (ik:=.i64) hi;rw[sZ]at hx hy;simp only[NV];simp[f5,f6,hlt];refine bD.of (bh (P:=pG)) ?_
  by_cases he:(l[k]'(by omega))=l[i]
  ·simp[ab,f1,f5,f6,hx,hy,he,afm];exact hbad (λ h=>h k hlt he) _ (by simp)
  simp[ab,f1,f5,f6,hx,hy,he,afl,ax k (by omega)];refine⟨_,by omega,k+1,rfl,by omega,f0,rfl,λ j hjl h1=>?_⟩
  by_cases e:j=k
  ·subst e;exact he
  exact hj j hjl (by omega)
 obtain rfl:k=i:=by omega
 simp[NV,f5,f6];exact hok (λ k hk=>hj k hk hk) _ (by simp[f0]) (by simp[f1]) (by simp[f5])
theorem Q8 (t:iP) (l:List Int) (hl:l.length<=bm):ah pG 39 [iI (t.cols.length:Int),fo.ds l] (.bool (decide (dL t l))):=by
 have hl':=hl;unfold bm at hl;refine pv c39 λ F hF=>?_;have hC:=AQ t l;generalize (t.cols.length:Int)=n0 at *;simp[A39,hF];refine aG.of (λ t F K n ms=>∃i,t=l.length - i/\i<=l.length/\F.get 0=some (iI n0)/\F.get 1=some (fo.ds l)/\F.get 5=some (iI (i:Int))/\ms=[]/\∀j,j<i->PlP n0 l j) l.length ⟨0,by simp,by omega,by simp[hF],by simp[hF],by simp,rfl,λ j h=>by omega⟩ ?_;clear hF F;rintro g F K n ms ⟨i,rfl,hi,f0,f1,f5,rfl,hj⟩
 by_cases hlt:i<l.length
 ·have hx:=fo.ix (ik:=.i64) hlt;rw[sZ]at hx;have no:¬PlP n0 l i->¬dL t l:=λ h hc=>h ((hC.1 hc).2.2 i)
  by_cases h1:l[i]<0
  ·simp[Aq,f0,f1,f5,aN.aF,hlt,hx,h1];exact .bool (by simp[no λ h=>by have:=(h hlt).1;omega])
  by_cases h2:n0<=l[i]
  ·simp[Aq,f0,f1,f5,aN.aF,hlt,hx,h1,h2];exact .bool (by simp[no λ h=>by have:=(h hlt).2.1;omega])
  simp[Aq,f0,f1,f5,aN.aF,hlt,hx,h1,h2];refine OP l hl' i hlt n0 _ K n _ (by simp[f0]) (by simp[f1]) (by simp[f5]) (by simp) (λ hb F' f4=>?_) λ hg F' f0 f1 f5=>?_
  ·simp[f4];exact .bool (by simp[no λ h=>hb (h hlt).2.2])
  simp[V9,f5,ax i (by omega)];refine⟨_,by omega,i+1,rfl,hlt,f0,f1,rfl,λ j hji=>?_⟩
  by_cases e:j=i
  ·subst e;exact λ h=>⟨by omega,by omega,hg⟩
  exact hj j (by omega)
 obtain rfl:i=l.length:=by omega
 have hall:∀j,PlP n0 l j:=λ j h=>hj j h h
 by_cases h0:0<l.length
 ·have hn:l≠[]:=length_pos_iff.1 h0;simp[Aq,IY,f1,f5,aN.aF,h0];refine .bool ?_;rw[Bool.eq_iff_iff,decide_eq_true_eq,decide_eq_true_eq,hC];simp only[hn,hall,ne_eq,not_false_eq_true,true_and,implies_true,and_true];omega
 have hn:l=[]:=length_eq_zero_iff.1 (by omega);have hno:¬dL t l:=λ h=>h.1 hn;simp[Aq,IY,f1,f5,aN.aF,h0];exact .bool (by simp[hno])
def eU:aN Int 1:=⟨λ i=>[.int .u32 i],λ _=>rfl,λ _=>by simp,λ _=>by simp[aX,AV.one]⟩
theorem aiO (i:Int):eU.cells i=[.int .u32 i]:=rfl
structure PgF (s:eF)(l:List Int)(x:AV)(F:Fr)(K:Hp)(n:Nat):Prop where
 f1:F.get 1=some (.ptr 0 0)
 f3:F.get 3=some x
 k0:K.get 0=cl 2 (fA.cells s)
 ow:aC K n x (eU.l l) l.length 1
 dx:∀b,blk x=some b->1<=b
 n1:1<=n
theorem PgF.app {s:eF}{l:List Int}{x:AV}{F:Fr}{K:Hp}{n:Nat}(S:PgF s l x F K n)(hl:l.length<=4194304)(p:Int){pd:Pd}{r:List (Option GO)}{Q:QA}{F':Fr}
  (hgo:∀K' x',(∀F2:Fr,F2.get 1=some (.ptr 0 0)->F2.get 3=some x'->PgF s (l++[p]) x' F2 K' (n+1+1))->fy pG r (pd.f x' F') K' (n+1+1) [] Q):
  Dt (fP 1 4 (n+1) x (.sl n 0 1 1) (K.put n (cl 1 [.int .u32 p]))) pd r pG F' (K.put n (cl 1 [.int .u32 p])) (n+1) [] Q:=by
 obtain⟨f1,f3,k0,ow,dx,n1⟩:=S;have hvl:∀b,blk x=some b->b<n:=λ b h=>ow.ba h;refine aC.PR (k:=1) (new:=[.int .u32 p]) (ow.frame (n':=n+1) (by omega) λ b hb=>by have:=hvl b hb;simp[cg this]) (bM (by simp)) (by simp) (by simp) (by omega) (by omega) (by unfold big;omega) (by omega) (by simp) λ K2 o2 g2=>?_;refine hgo K2 _ λ F2 w1 w3=>⟨w1,w3,?_,?_,λ b hb=>by simp at hb;omega,by omega⟩
 ·have h0:¬ 0=n:=by omega
  rw[g2 0 (by omega) λ h=>by have:=dx 0 h;omega];simp[h0,k0]
 rw[aN.mK,aN.zB,aiO,length_append];exact o2
theorem aaV (s:eF)(hs:s.aO):ah pG 35 [fA.av s] (eU.ds s.pages):=by
 have ht:=hs.t;have hi:=hs.i;unfold bm at ht hi;refine pv c35 λ F hF=>?_;simp[A35,hF,aN.av];refine aG.of (λ q F K n ms=>∃(i:Nat) (x:AV),q=s.tables.length - i/\i<=s.tables.length/\PgF s ((s.tables.take i).map (·.head)) x F K n/\F.get 4=some (iI (i:Int))/\ms=[]) s.tables.length ⟨0,.aI (.slice none 0 0),by simp,by omega,⟨by simp,by simp,by simp,by simpa using aC.nil _ _ 1,by simp,by omega⟩,by simp,rfl⟩ ?_;clear hF F;rintro q F K n ms ⟨i,x,rfl,hil,S,f4,rfl⟩;obtain⟨f1,f3,k0,ow,dx,n1⟩:=id S;rw[bJ]at k0
 by_cases hlt:i<s.tables.length
 ·have hx:=bf.ix (ik:=.i64) hlt;rw[cT]at hx;simp[ZX,f1,f3,f4,k0,aN.aF,hlt,hx];refine S.app (by simp;omega) _ λ K' x' hS=>?_;simp[afu,f4,ax i (by omega)];exact⟨_,by omega,i+1,rfl,hlt,⟨x',by rw[<-map_take,take_snoc hlt,map_append];exact hS _ (by simp[f1]) (by simp)⟩,rfl⟩
 obtain rfl:i=s.tables.length:=by omega
 rw[take_length]at S;simp[ZX,f1,f4,k0,aN.aF,afs];refine aG.of (λ q F K n ms=>∃(i:Nat) (x:AV),q=s.indexes.length - i/\i<=s.indexes.length/\PgF s (s.tables.map (·.head)++(s.indexes.take i).map (·.root)) x F K n/\F.get 5=some (iI (i:Int))/\ms=[]) s.indexes.length ⟨0,x,by simp,by omega,by simpa using(⟨by simp[f1],by simp[f3],S.k0,S.ow,dx,n1⟩:PgF s _ x _ K n),by simp,rfl⟩ ?_;clear S f1 f3 f4 k0 ow dx n1 F K n x;rintro q F K n ms ⟨i,x,rfl,hil,S,f5,rfl⟩;obtain⟨f1,f3,k0,ow,dx,n1⟩:=id S;rw[bJ]at k0
 by_cases hlt:i<s.indexes.length
 ·have hx:=aR.ix (ik:=.i64) hlt;rw[cJ]at hx;simp[ZW,f1,f3,f5,k0,aN.aF,hlt,hx];refine S.app (by simp;omega) _ λ K' x' hS=>?_;simp[afr,f5,ax i (by omega)];exact⟨_,by omega,i+1,rfl,hlt,⟨x',by rw[<-map_take,take_snoc hlt,map_append,<-append_assoc];exact hS _ (by simp[f1]) (by simp)⟩,rfl⟩
 obtain rfl:i=s.indexes.length:=by omega
 rw[take_length]at ow;simp[ZW,f1,f5,k0,aN.aF,WH,f3];have:=ow.lD (cM.pure (by simp)) (by omega);simpa[aN.ds,eF.pages]using this
def PgP (l:List Int)(i:Nat):Prop:=∀h:i<l.length,(∀k (hk:k<i),(l[k]'(by omega))≠l[i])/\l[i]≠0
theorem Rf (l:List Int):o5 l↔∀i,PgP l i:=by
 constructor
 ·rintro⟨h1,h2⟩ i hi;exact⟨λ k hk=>pairwise_iff_getElem.1 h1 k i (by omega) hi hk,λ e=>h2 (by rw[<-e];exact bT hi)⟩
 intro h;refine⟨pairwise_iff_getElem.2 λ a b ha hb hab=>(h b hb).1 a hab,λ h0=>?_⟩;obtain⟨i,hi,e⟩:=getElem_of_mem h0;exact(h i hi).2 e
structure DT (s:eF)(F:Fr)(K:Hp)(n:Nat):Prop where
 f1:F.get 1=some (.ptr 0 0)
 k0:K.get 0=cl 2 (fA.cells s)
 n1:1<=n
theorem ahR (s:eF)(l:List Int)(hl:l.length<=4194304)(i:Nat)(hi:i<l.length)(F:Fr)(K:Hp)(n:Nat)(Q:QA)(S:DT s F K n)(f3:F.get 3=some (eU.ds l))(f4:F.get 4=some (iI (i:Int)))(f5:F.get 5=some (iI 0))
  (hbad:¬(∀k (hk:k<i),(l[k]'(by omega))≠l[i])->∀F,F.get 2=some (.bool false)->Q .ret F K n [])
  (hok:(∀k (hk:k<i),(l[k]'(by omega))≠l[i])->∀F,DT s F K n->F.get 3=some (eU.ds l)->F.get 4=some (iI (i:Int))->Q .normal F K n []):aG N9 pG F K n [] (jN 2 Q):=by
 refine aG.of (λ g F K' n' ms=>∃k:Nat,g=i - k/\k<=i/\DT s F K n/\F.get 3=some (eU.ds l)/\F.get 4=some (iI (i:Int))/\F.get 5=some (iI (k:Int))/\K'=K/\n'=n/\ms=[]/\∀j (hj:j<i),j<k->(l[j]'(by omega))≠l[i]) i ⟨0,by simp,by omega,S,f3,f4,by simpa using f5,rfl,rfl,rfl,λ j hj h1=>by omega⟩ ?_;clear S f3 f4 f5 F;rintro g F K' n' ms ⟨k,rfl,hk,⟨f1,k0,n1⟩,f3,f4,f5,rfl,rfl,rfl,hj⟩
 by_cases hlt:k<i
 ·have hx:=eU.ix (l:=l) (i:=k) (ik:=.i64) (by omega);have hy:=eU.ix (ik:=.i64) hi;rw[aiO]at hx hy;simp only[N9];simp[f4,f5,hlt];refine bD.of (bh (P:=pG)) ?_
  by_cases he:(l[k]'(by omega))=l[i]
  ·simp[ab,f3,f4,f5,hx,hy,he,afZ];exact hbad (λ h=>h k hlt he) _ (by simp)
  simp[ab,f3,f4,f5,hx,hy,he,XS,ax k (by omega)];refine⟨_,by omega,k+1,rfl,by omega,⟨by simp[ab,f1],k0,n1⟩,rfl,λ j hjl h1=>?_⟩
  by_cases e:j=k
  ·subst e;exact he
  exact hj j hjl (by omega)
 obtain rfl:k=i:=by omega
 simp[N9,f4,f5];exact hok (λ k hk=>hj k hk hk) _ ⟨by simp[f1],k0,n1⟩ (by simp[f3]) (by simp[f4])
theorem ahQ (s:eF) (l:List Int) (hl:l.length<=4194304) (F:Fr) (K:Hp) (n:Nat) (Q:QA) (S:DT s F K n) (f3:F.get 3=some (eU.ds l)) (f4:F.get 4=some (iI 0))
  (hbad:¬o5 l->∀F,F.get 2=some (.bool false)->Q .ret F K n [])
  (hok:o5 l->∀F,DT s F K n->Q .normal F K n []):aG N8 pG F K n [] (jN 0 Q):=by
 have hC:=Rf l;refine aG.of (λ g F K' n' ms=>∃i:Nat,g=l.length - i/\i<=l.length/\DT s F K n/\F.get 3=some (eU.ds l)/\F.get 4=some (iI (i:Int))/\K'=K/\n'=n/\ms=[]/\∀j,j<i->PgP l j) l.length ⟨0,by simp,by omega,S,f3,by simpa using f4,rfl,rfl,rfl,λ j h=>by omega⟩ ?_;clear S f3 f4 F;rintro g F K' n' ms ⟨i,rfl,hi,⟨f1,k0,n1⟩,f3,f4,rfl,rfl,rfl,hj⟩
 by_cases hlt:i<l.length
 ·have hx:=eU.ix (ik:=.i64) hlt;rw[aiO]at hx;have no:¬PgP l i->¬o5 l:=λ h hc=>h (hC.1 hc i);simp[N8,f3,f4,aN.aF,hlt];refine ahR s l hl i hlt _ _ _ _ ⟨by simp[f1],k0,n1⟩ (by simp[f3]) (by simp[f4]) (by simp) (λ hb F f2=>?_) λ hg F ⟨f1,k0,n1⟩ f3 f4=>?_
  ·simp;exact hbad (no λ h=>hb (h hlt).1) _ f2
  by_cases h0:l[i]=0
  ·simp[Jy,XR,f3,f4,hx,h0];exact hbad (no λ h=>(h hlt).2 h0) _ (by simp)
  simp[Jy,XQ,f3,f4,hx,h0,ax i (by omega)];refine⟨_,by omega,i+1,rfl,hlt,⟨by simp[f1],k0,n1⟩,rfl,λ j hji=>?_⟩
  by_cases e:j=i
  ·subst e;exact λ _=>⟨hg,h0⟩
  exact hj j (by omega)
 obtain rfl:i=l.length:=by omega
 simp[N8,f3,f4,aN.aF];exact hok (hC.2 λ j h=>hj j h h) _ ⟨by simp[f1],k0,n1⟩
def TbP (l:List iP)(i:Nat):Prop:=∀h:i<l.length,l[i].id≠0/\dm l[i].name/\eO l[i].cols/\∀k (hk:k<i),(l[k]'(by omega)).id<l[i].id/\(l[k]'(by omega)).name≠l[i].name
theorem vQ (l:List iP) (h0:∀t∈l,0<=t.id):oV l↔∀i,TbP l i:=by
 constructor
 ·intro h
  have asc:∀i (hi:i<l.length),0<l[i].id/\∀k (hk:k<i),(l[k]'(by omega)).id<l[i].id:=by
   intro i
   induction i with
   |zero=>intro hi;have:=(h 0 hi).id;rw[Bl]at this;exact⟨this,λ k hk=>by omega⟩
   |succ i ih =>
    intro hi;obtain⟨a1,a2⟩:=ih (by omega);have:=(h (i+1) hi).id;rw[Bj (by omega)]at this;refine⟨by omega,λ k hk=>?_⟩
    by_cases e:k=i
    ·subst e;exact this
    have:=a2 k (by omega);omega
  intro i hi;refine⟨by have:=(asc i hi).1;omega,(h i hi).name,(h i hi).cols,λ k hk=>⟨(asc i hi).2 k hk,(h i hi).new _ (mem_take_iff_getElem.2 ⟨k,by omega,rfl⟩)⟩⟩
 intro h i hi;refine⟨?_,(h i hi).2.1,(h i hi).2.2.1,λ t ht=>?_⟩
 ·cases i with
  |zero=>rw[Bl];have:=(h 0 hi).1;have:=h0 _ (bT hi);omega
  |succ i=>rw[Bj (by omega)];exact((h (i+1) hi).2.2.2 i (by omega)).1
 obtain⟨k,hk,rfl⟩:=mem_take_iff_getElem.1 ht;exact((h i hi).2.2.2 k (by omega)).2
theorem ahP (s:eF) (hs:s.aO) (i:Nat) (hi:i<s.tables.length) (F:Fr) (K:Hp) (n a:Nat) (Q:QA) (S:DT s F K n) (f7:F.get 7=some (.ptr a 0)) (ha:K.get a=cl 4 (bf.cells s.tables[i])) (f6:F.get 6=some (iI (i:Int))) (f8:F.get 8=some (iI 0))
  (hbad:¬(∀k (hk:k<i),(s.tables[k]'(by omega)).id<s.tables[i].id/\(s.tables[k]'(by omega)).name≠s.tables[i].name)->∀F,F.get 2=some (.bool false)->Q .ret F K n [])
  (hok:(∀k (hk:k<i),(s.tables[k]'(by omega)).id<s.tables[i].id/\(s.tables[k]'(by omega)).name≠s.tables[i].name)->∀F,DT s F K n->F.get 6=some (iI (i:Int))->Q .normal F K n []):aG N7 pG F K n [] (jN 6 Q):=by
 have ht:=hs.t;unfold bm at ht;refine aG.of (λ g F K' n' ms=>∃k:Nat,g=i - k/\k<=i/\DT s F K n/\F.get 7=some (.ptr a 0)/\F.get 6=some (iI (i:Int))/\F.get 8=some (iI (k:Int))/\K'=K/\n'=n/\ms=[]/\∀j (hj:j<i),j<k->(s.tables[j]'(by omega)).id<s.tables[i].id/\(s.tables[j]'(by omega)).name≠s.tables[i].name) i ⟨0,by simp,by omega,S,f7,f6,by simpa using f8,rfl,rfl,rfl,λ j hj h1=>by omega⟩ ?_;clear S f6 f7 f8 F;rintro g F K' n' ms ⟨k,rfl,hk,⟨f1,k0,n1⟩,f7,f6,f8,rfl,rfl,rfl,hj⟩;have k0':=k0;rw[bJ]at k0;have ha':=ha;rw[cT]at ha
 by_cases hlt:k<i
 ·have hx:=bf.ix (l:=s.tables) (i:=k) (ik:=.i64) (by omega);rw[cT]at hx;have hj':=hj;generalize hy:s.tables[k]'(by omega)=y at *;generalize hz:s.tables[i]=z at *;have no:¬(y.id<z.id/\y.name≠z.name)->¬(∀k (hk:k<i),(s.tables[k]'(by omega)).id<z.id/\(s.tables[k]'(by omega)).name≠z.name):=λ h h2=>h (by rw[<-hy];exact h2 k hlt);simp only[N7];simp[f6,f8,hlt];refine bD.of (bh (P:=pG)) ?_
  by_cases h1:z.id<=y.id
  ·simp[ab,f1,f7,f8,k0,ha,hx,h1,Jw];exact hbad (no λ h=>by omega) _ (by simp)
  by_cases h2:y.name=z.name
  ·simp[ab,f1,f7,f8,k0,ha,hx,h1,h2,Jw];exact hbad (no λ h=>h.2 h2) _ (by simp)
  simp[ab,f1,f7,f8,k0,ha,hx,h1,h2,XN,ax k (by omega)];refine⟨_,by omega,k+1,rfl,by omega,⟨by simp[ab,f1],k0',n1⟩,f6,rfl,λ j hjl h3=>?_⟩
  by_cases e:j=k
  ·subst e;rw[hy];exact⟨by omega,h2⟩
  exact hj j hjl (by omega)
 obtain rfl:k=i:=by omega
 simp[N7,f6,f8];exact hok (λ k hk=>hj k hk hk) _ ⟨by simp[f1],k0',n1⟩ (by simp[f6])
theorem ahO (s:eF)(hs:s.aO)(h0:∀t∈s.tables,0<=t.id)(F:Fr)(K:Hp)(n:Nat)(Q:QA)(S:DT s F K n)(f6:F.get 6=some (iI 0))
  (hbad:¬oV s.tables->∀F K n,F.get 2=some (.bool false)->Q .ret F K n [])
  (hok:oV s.tables->∀F K n,DT s F K n->Q .normal F K n []):aG N6 pG F K n [] (jN 4 Q):=by
 have ht:=hs.t;unfold bm at ht;have hC:=vQ s.tables h0;refine aG.of (λ g F K n ms=>∃i:Nat,g=s.tables.length - i/\i<=s.tables.length/\DT s F K n/\F.get 6=some (iI (i:Int))/\ms=[]/\∀j,j<i->TbP s.tables j) s.tables.length ⟨0,by simp,by omega,S,by simpa using f6,rfl,λ j h=>by omega⟩ ?_;clear S f6 F K n;rintro g F K n ms ⟨i,rfl,hi,⟨f1,k0,n1⟩,f6,rfl,hj⟩;have k0':=k0;rw[bJ]at k0
 by_cases hlt:i<s.tables.length
 ·have hx := bf.ix (ik:=.i64) hlt;have hld:=λ r H=>bf.sC s.tables[i] r H;simp only[aN.av]at hld;have no:¬TbP s.tables i->¬oV s.tables:=λ h hc=>h (hC.1 hc i);simp[N6,f1,f6,k0,aN.aF,hlt,hx,hld];generalize hK1:Tr.put (Tr.put K n _) n _=K1;have g1:∀b,b<n->K1.get b=K.get b:=λ b hb=>by rw[<-hK1];simp[cg hb]
  have x1:K1.get n=cl 4 (bf.cells s.tables[i]):=by rw[<-hK1];simp
  clear hK1;have k01:=(g1 0 (by omega)).trans k0';have x1':=x1;rw[cT]at x1
  by_cases h1:s.tables[i].id=0
  ·simp[Jx,CQ,x1,h1];exact hbad (no λ h=>(h hlt).1 h1) _ _ _ (by simp)
  simp[Jx,x1,h1];refine au.pure (Hq s.tables[i].name) ?_
  by_cases h2:dm s.tables[i].name
  ·simp[h2,x1];refine au.pure (TE s.tables[i].cols) ?_
   by_cases h3:eO s.tables[i].cols
   ·simp[h3,XO];refine ahP s hs i hlt _ K1 (n+1) n _ ⟨by simp[f1],k01,by omega⟩ (by simp) x1' (by simp[f6]) (by simp) (λ hb F f2=>?_) λ hg F ⟨f1,_,_⟩ f6=>?_
    ·simp;exact hbad (no λ h=>hb (h hlt).2.2.2) _ _ _ f2
    simp[XM,f6,ax i (by omega)];refine⟨_,by omega,i+1,rfl,hlt,⟨by simp[f1],k01,by omega⟩,rfl,λ j hji=>?_⟩
    by_cases e:j=i
    ·subst e;exact λ _=>⟨h1,h2,h3,hg⟩
    exact hj j (by omega)
   simp[h3,CQ];exact hbad (no λ h=>h3 (h hlt).2.2.1) _ _ _ (by simp)
  simp[h2,CQ];exact hbad (no λ h=>h2 (h hlt).2.1) _ _ _ (by simp)
 obtain rfl:i=s.tables.length:=by omega
 simp[N6,f1,f6,k0,aN.aF];exact hok (hC.2 λ j h=>hj j h h) _ _ _ ⟨by simp[f1],k0',n1⟩
def IxP (s:eF)(i:Nat):Prop:=∀h:i<s.indexes.length,s.indexes[i].id≠0/\dm s.indexes[i].name/\(s.table s.indexes[i].table).2=true/\dL (s.table s.indexes[i].table).1 s.indexes[i].cols/\∀k (hk:k<i),(s.indexes[k]'(by omega)).id<s.indexes[i].id/\(s.indexes[k]'(by omega)).name≠s.indexes[i].name
theorem Pg (s:eF) (h0:∀t∈s.indexes,0<=t.id):uE s↔∀i,IxP s i:=by
 constructor
 ·intro h
  have asc:∀i (hi:i<s.indexes.length),0<s.indexes[i].id/\∀k (hk:k<i),(s.indexes[k]'(by omega)).id<s.indexes[i].id:=by
   intro i
   induction i with
   |zero=>intro hi;have:=(h 0 hi).id;rw[Bm]at this;exact⟨this,λ k hk=>by omega⟩
   |succ i ih =>
    intro hi;obtain⟨a1,a2⟩:=ih (by omega);have:=(h (i+1) hi).id;rw[u7 (by omega)]at this;refine⟨by omega,λ k hk=>?_⟩
    by_cases e:k=i
    ·subst e;exact this
    have:=a2 k (by omega);omega
  intro i hi;refine⟨by have:=(asc i hi).1;omega,(h i hi).name,(h i hi).table,(h i hi).cols,λ k hk=>⟨(asc i hi).2 k hk,(h i hi).new _ (mem_take_iff_getElem.2 ⟨k,by omega,rfl⟩)⟩⟩
 intro h i hi;refine⟨?_,(h i hi).2.1,(h i hi).2.2.1,(h i hi).2.2.2.1,λ t ht=>?_⟩
 ·cases i with
  |zero=>rw[Bm];have:=(h 0 hi).1;have:=h0 _ (bT hi);omega
  |succ i=>rw[u7 (by omega)];exact((h (i+1) hi).2.2.2.2 i (by omega)).1
 obtain⟨k,hk,rfl⟩:=mem_take_iff_getElem.1 ht;exact((h i hi).2.2.2.2 k (by omega)).2
theorem ahN (s:eF) (hs:s.aO) (i:Nat) (hi:i<s.indexes.length) (F:Fr) (K:Hp) (n a:Nat) (Q:QA) (S:DT s F K n) (f7:F.get 10=some (.ptr a 0)) (ha:K.get a=cl 6 (aR.cells s.indexes[i])) (f6:F.get 9=some (iI (i:Int))) (f8:F.get 13=some (iI 0))
  (hbad:¬(∀k (hk:k<i),(s.indexes[k]'(by omega)).id<s.indexes[i].id/\(s.indexes[k]'(by omega)).name≠s.indexes[i].name)->∀F,F.get 2=some (.bool false)->Q .ret F K n [])
  (hok:(∀k (hk:k<i),(s.indexes[k]'(by omega)).id<s.indexes[i].id/\(s.indexes[k]'(by omega)).name≠s.indexes[i].name)->∀F,DT s F K n->F.get 9=some (iI (i:Int))->Q .normal F K n []):aG N5 pG F K n [] (jN 10 Q):=by
 have ht:=hs.i;unfold bm at ht;refine aG.of (λ g F K' n' ms=>∃k:Nat,g=i - k/\k<=i/\DT s F K n/\F.get 10=some (.ptr a 0)/\F.get 9=some (iI (i:Int))/\F.get 13=some (iI (k:Int))/\K'=K/\n'=n/\ms=[]/\∀j (hj:j<i),j<k->(s.indexes[j]'(by omega)).id<s.indexes[i].id/\(s.indexes[j]'(by omega)).name≠s.indexes[i].name) i ⟨0,by simp,by omega,S,f7,f6,by simpa using f8,rfl,rfl,rfl,λ j hj h1=>by omega⟩ ?_;clear S f6 f7 f8 F;rintro g F K' n' ms ⟨k,rfl,hk,⟨f1,k0,n1⟩,f7,f6,f8,rfl,rfl,rfl,hj⟩;have k0':=k0;rw[bJ]at k0;have ha':=ha;rw[cJ]at ha
 by_cases hlt:k<i
 ·have hx:=aR.ix (l:=s.indexes) (i:=k) (ik:=.i64) (by omega);rw[cJ]at hx;have hj':=hj;generalize hy:s.indexes[k]'(by omega)=y at *;generalize hz:s.indexes[i]=z at *;have no:¬(y.id<z.id/\y.name≠z.name)->¬(∀k (hk:k<i),(s.indexes[k]'(by omega)).id<z.id/\(s.indexes[k]'(by omega)).name≠z.name):=λ h h2=>h (by rw[<-hy];exact h2 k hlt);simp only[N5];simp[f6,f8,hlt];refine bD.of (bh (P:=pG)) ?_
  by_cases h1:z.id<=y.id
  ·simp[ab,f1,f7,f8,k0,ha,hx,h1,Ju];exact hbad (no λ h=>by omega) _ (by simp)
  by_cases h2:y.name=z.name
  ·simp[ab,f1,f7,f8,k0,ha,hx,h1,h2,Ju];exact hbad (no λ h=>h.2 h2) _ (by simp)
  simp[ab,f1,f7,f8,k0,ha,hx,h1,h2,XI,ax k (by omega)];refine⟨_,by omega,k+1,rfl,by omega,⟨by simp[ab,f1],k0',n1⟩,f6,rfl,λ j hjl h3=>?_⟩
  by_cases e:j=k
  ·subst e;rw[hy];exact⟨by omega,h2⟩
  exact hj j hjl (by omega)
 obtain rfl:k=i:=by omega
 simp[N5,f6,f8];exact hok (λ k hk=>hj k hk hk) _ ⟨by simp[f1],k0',n1⟩ (by simp[f6])
theorem ahM (s:eF)(hs:s.aO)(h0:∀t∈s.indexes,0<=t.id)(F:Fr)(K:Hp)(n:Nat)(Q:QA)(S:DT s F K n)(f9:F.get 9=some (iI 0))
  (hbad:¬uE s->∀F K n,F.get 2=some (.bool false)->Q .ret F K n [])
  (hok:uE s->∀F K n,DT s F K n->Q .normal F K n []):aG N4 pG F K n [] (jN 8 Q):=by
 have ht:=hs.i;unfold bm at ht;have hC:=Pg s h0;refine aG.of (λ g F K n ms=>∃i:Nat,g=s.indexes.length - i/\i<=s.indexes.length/\DT s F K n/\F.get 9=some (iI (i:Int))/\ms=[]/\∀j,j<i->IxP s j) s.indexes.length ⟨0,by simp,by omega,S,by simpa using f9,rfl,λ j h=>by omega⟩ ?_;clear S f9 F K n;rintro g F K n ms ⟨i,rfl,hi,⟨f1,k0,n1⟩,f9,rfl,hj⟩;have k0':=k0;rw[bJ]at k0
 by_cases hlt:i<s.indexes.length
 ·have hx := aR.ix (ik:=.i64) hlt;have hld:=λ r H=>aR.sC s.indexes[i] r H;simp only[aN.av]at hld;have no:¬IxP s i->¬uE s:=λ h hc=>h (hC.1 hc i);have h76:ah pG 38 [.agg (fA.cells s) 2,.int .u32 s.indexes[i].table] (.aW [.agg (bf.cells (s.table s.indexes[i].table).1) 4,.bool (s.table s.indexes[i].table).2]):=aau s hs s.indexes[i].table;have hsl:(fA.cells s).length=2:=fA.aE s;simp[N4,f1,f9,k0,aN.aF,hlt,hx,hld];generalize hK1:Tr.put (Tr.put K n _) n _=K1;have g1:∀b,b<n->K1.get b=K.get b:=λ b hb=>by rw[<-hK1];simp[cg hb]
  have x1:K1.get n=cl 6 (aR.cells s.indexes[i]):=by rw[<-hK1];simp
  clear hK1;have k01:=(g1 0 (by omega)).trans k0';have x1':=x1;rw[cJ]at x1;simp[XK,f1,k01,x1];refine au.pure h76 ?_;simp;generalize hK2:Tr.put (Tr.put K1 (n+1) _) (n+1) _=K2;have g2:∀b,b<n+1->K2.get b=K1.get b:=λ b hb=>by rw[<-hK2];simp[cg hb]
  have y2:K2.get (n+1)=cl 4 (bf.cells (s.table s.indexes[i].table).1):=by rw[<-hK2];simp
  clear hK2;have k02:=(g2 0 (by omega)).trans k01;have x2':=(g2 n (by omega)).trans x1';have x2:=(g2 n (by omega)).trans x1;rw[cT]at y2
  by_cases h1:s.indexes[i].id=0
  ·simp[Jv,ya,x2,h1];exact hbad (no λ h=>(h hlt).1 h1) _ _ _ (by simp)
  simp[Jv,x2,h1];refine au.pure (Hq s.indexes[i].name) ?_
  by_cases h2:dm s.indexes[i].name
  ·cases h3:(s.table s.indexes[i].table).2 with
   |false =>
    simp[h2,h3,ya];exact hbad (no λ h=>by rw[(h hlt).2.2.1]at h3;cases h3) _ _ _ (by simp)
   |true =>
    simp[h2,h3,x2,y2,aN.aF];refine au.pure (Q8 _ s.indexes[i].cols (hs.ic _ (bT hlt))) ?_
    by_cases h4:dL (s.table s.indexes[i].table).1 s.indexes[i].cols
    ·simp[h4,XJ];refine ahN s hs i hlt _ K2 (n+1+1) n _ ⟨by simp[f1],k02,by omega⟩ (by simp) x2' (by simp[f9]) (by simp) (λ hb F f2=>?_) λ hg F ⟨f1,_,_⟩ f9=>?_
     ·simp;exact hbad (no λ h=>hb (h hlt).2.2.2.2) _ _ _ f2
     simp[XH,f9,ax i (by omega)];refine⟨_,by omega,i+1,rfl,hlt,⟨by simp[f1],k02,by omega⟩,rfl,λ j hji=>?_⟩
     by_cases e:j=i
     ·subst e;exact λ _=>⟨h1,h2,h3,h4,hg⟩
     exact hj j (by omega)
    simp[h4,ya];exact hbad (no λ h=>h4 (h hlt).2.2.2.1) _ _ _ (by simp)
  simp[h2,ya];exact hbad (no λ h=>h2 (h hlt).2.1) _ _ _ (by simp)
 obtain rfl:i=s.indexes.length:=by omega
 simp[N4,f1,f9,k0,aN.aF];exact hok (hC.2 λ j h=>hj j h h) _ _ _ ⟨by simp[f1],k0',n1⟩
structure eF.jA (s:eF):Prop where
 t:∀t∈s.tables,0<=t.id
 i:∀t∈s.indexes,0<=t.id
theorem aml (s:eF)(hs:s.aO)(hr:s.jA):ah pG 18 [fA.av s] (.bool (decide (eK s))):=by
 have h73:ah pG 35 [.agg (fA.cells s) 2] (eU.ds s.pages):=aaV s hs;have hsl:(fA.cells s).length=2:=fA.aE s;have ht:=hs.t;have hi:=hs.i;unfold bm at ht hi;refine pv c18 λ F hF=>?_;have no:¬eK s->fW (Tr.nil:Hp).get (.bool false) (.bool (decide (eK s))):=λ h=>.bool (by simp[h]);have e0:∀h,(fA.cells s)[0]'h=bf.ds s.tables:=λ h=>by simp[bJ]
 have e1:∀h,(fA.cells s)[1]'h=aR.ds s.indexes:=λ h=>by simp[bJ]
 by_cases h1:(32:Int)<(s.tables.length:Int)
 ·have:¬eK s:=λ h=>aj h.t (by omega);simp[A18,hF,aN.av,hsl,e0,e1,aN.aF,h1];exact .bool (by simp[this])
 by_cases h2:(64:Int)<(s.indexes.length:Int)
 ·have:¬eK s:=λ h=>aj h.i (by omega);simp[A18,hF,aN.av,hsl,e0,e1,aN.aF,h1,h2];exact .bool (by simp[this])
 simp[A18,hF,aN.av,hsl,e0,e1,aN.aF,h1,h2];refine au.pure h73 ?_;simp[af0];refine ahQ s s.pages (by simp[eF.pages];omega) _ _ _ _ ⟨by simp,by simp,by omega⟩ (by simp) (by simp) (λ hb F f2=>?_) λ p1 F S=>?_
 ·simp[f2];exact .bool (by simp[show ¬eK s from λ h=>hb h.pages])
 simp[XP];refine ahO s hs hr.t _ _ _ _ ⟨by simp[S.f1],S.k0,S.n1⟩ (by simp) (λ hb F K n f2=>?_) λ p2 F K n S=>?_
 ·simp[f2];exact .bool (by simp[show ¬eK s from λ h=>hb h.tabs])
 simp[XL];refine ahM s hs hr.i _ _ _ _ ⟨by simp[S.f1],S.k0,S.n1⟩ (by simp) (λ hb F K n f2=>?_) λ p3 F K n S=>?_
 ·simp[f2];exact .bool (by simp[show ¬eK s from λ h=>hb h.ixs])
 simp[XG];have:eK s:=⟨by omega,by omega,p1,p2,p3⟩;exact .bool (by simp[this])
theorem aY (i:Int)(h1 : -2147483648<=i)(h2:i<2147483648):IntKind.i64.wrap i=i:=by
 simp[IntKind.wrap,IntKind.signed,IntKind.bits];omega
theorem rL (v:Val):ah pG 97 [v.av] (.bool v.may):=by
 obtain⟨k,i,s⟩:=v;refine pv c97 λ F hF=>?_;simp only[Val.may]
 by_cases h0:k=0
 ·subst h0
  by_cases hi:i=0
  ·simp[A97,hF,Val.av,hi];exact .bool (by simp)
  simp[A97,hF,Val.av,hi];exact .bool (by simp)
 by_cases h1:k=1
 ·subst h1;simp[A97,hF,Val.av];exact .bool (by simp)
 by_cases h2:k=2
 ·subst h2
  by_cases hi:i=0
  ·simp[A97,hF,Val.av,hi];exact .bool (by simp;omega)
  simp[A97,hF,Val.av,hi];exact .bool (by simp)
 by_cases h3:k=3
 ·subst h3
  by_cases hs:s=[]
  ·by_cases hi:0<=i
   ·simp[A97,hF,Val.av,hi,hs];exact .bool (by rw[Bool.eq_iff_iff];simp;omega)
   simp[A97,hF,Val.av,hi,hs];exact .bool (by simp;omega)
  simp[A97,hF,Val.av,hs];exact .bool (by simp)
 simp[A97,hF,Val.av,h0,h1,h2,h3];exact .bool (by simp)
@[simp] theorem akH (a b:List Nat):FD (.str a) (.str b)=.val (iI (cmpL a b)):=Eq.trans rfl rfl
def rk (k:Int):Int:=if k=2 then 3 else if k=1 then 2 else if k=3 then 1 else 0
def pl (k:Int):Int:=if k=0 then 0 else if k=3 then 1 else if k=1 then 2 else 3
theorem Q2 (k:Int):ah pG 145 [iI k] (iI (rk k)):=by
 refine pv c145 λ F hF=>?_;unfold rk
 by_cases h2:k=2
 ·subst h2;simp[A145,hF,aY];exact fp
 by_cases h1:k=1
 ·subst h1;simp[A145,hF,aY];exact fp
 by_cases h3:k=3
 ·subst h3;simp[A145,hF,aY];exact fp
 simp[A145,hF,h1,h2,h3];exact fp
theorem KY (k:Int):ah pG 73 [iI k] (iI (pl k)):=by
 refine pv c73 λ F hF=>?_;unfold pl
 by_cases h0:k=0
 ·subst h0;simp[A73,hF];exact fp
 by_cases h3:k=3
 ·subst h3;simp[A73,hF];exact fp
 by_cases h1:k=1
 ·subst h1;simp[A73,hF];exact fp
 simp[A73,hF,h0,h1,h3];exact fp
theorem ai4 (a b:List Nat):ah pG 184 [.str a,.str b] (iI (cmpL a b)):=by
 refine pv c184 λ F hF=>?_;simp[A184,hF];exact fp
theorem ai2 (a b:List Nat):ah pG 146 [.str a,.str b] (iI (cmpL a b)):=by
 refine pv c146 λ F hF=>?_;simp[A146,hF];refine au.pure (ai4 a b) ?_;simp;exact fp
theorem PL {a b:List Nat}{i:Nat}(ha:i<a.length) (hb:i<b.length):cmpL (a.drop i) (b.drop i)=if a[i]<b[i]then -1 else if b[i]<a[i]then 1 else cmpL (a.drop (i+1)) (b.drop (i+1)):=by
 rw[lG ha,lG hb];simp only[cmpL]
 by_cases e:a[i]=b[i]
 ·simp[e]
 rw[show Nat.beq a[i] b[i]=false by simpa using e];dsimp only
 by_cases h:a[i]<b[i]
 ·rw[show Nat.blt a[i] b[i]=true by rw[Nat.blt_eq];exact h];simp[h]
 rw[show Nat.blt a[i] b[i]=false by cases q:Nat.blt a[i] b[i]with
  |false=>rfl
  |true=>rw[Nat.blt_eq]at q;exact aj q h]
 rw[ae h,ak (by omega)]
theorem ack (a b:List Nat) (ha:a.length<2147483648) (_hb:b.length<2147483648):ah pG 74 [.str a,.str b] (iI (cmpL a b)):=by
 refine pv c74 λ F hF=>?_;simp[A74];refine aG.of (λ k F K m ms=>∃i,k=a.length - i/\i<=a.length/\i<=b.length/\F.get 0=some (.str a)/\F.get 1=some (.str b)/\F.get 5=some (iI (i:Int))/\K=.nil/\ms=[]/\cmpL a b=cmpL (a.drop i) (b.drop i)) a.length ⟨0,by simp[hF]⟩ ?_;rintro k F K m ms ⟨i,rfl,hi,hib,f0,f1,f5,rfl,rfl,he⟩
 by_cases hlt:i<a.length
 ·by_cases HE:i<b.length
  ·have hx:=nz (k:=.i64) hlt;have hy:=nz (k:=.i64) HE;rw[PL hlt HE]at he;simp[Gs,f0,f1,f5,hlt,HE];refine bD.of (bh (P:=pG)) ?_;simp[ab,f0,f1,f5,hx,hy]
   by_cases h1:a[i]<b[i]
   ·rw[ak h1]at he;simp[h1,aeq,he];exact fp
   rw[ae h1]at he;simp[h1,aep];refine bD.of (bh (P:=pG)) ?_;simp[ab,f0,f1,f5,hx,hy]
   by_cases h2:b[i]<a[i]
   ·rw[ak h2]at he;simp[h2,aeo,he];exact fp
   rw[ae h2]at he;simp[h2,aen,ab,f0,f1,f5,ax i (by omega)];exact⟨a.length - (i+1),by omega,i+1,rfl,hlt,HE,by omega,he⟩
  have:i=b.length:=by omega
  subst this
  have:cmpL a b=1:=by
   rw[he,drop_length,lG hlt];rfl
  simp[Gs,f0,f1,f5,hlt,MA,IA,UN,this,show ¬a.length<b.length by omega];exact fp
 have:i=a.length:=by omega
 subst this
 by_cases HE:a.length<b.length
 ·have:cmpL a b = -1:=by
   rw[he,drop_length,lG HE];rfl
  simp[Gs,f0,f1,f5,MA,aem,this,HE];exact fp
 have hl:b.length=a.length:=by omega
 have:cmpL a b=0:=by
  rw[he,drop_length,<-hl,drop_length];rfl
 simp[Gs,f0,f1,f5,MA,IA,UL,this,hl];exact fp
def Val.ord (v u:Val):Int:=if v.kind=u.kind then (if v.kind=2 then cmpL v.s u.s else if v.num<u.num then -1 else if u.num<v.num then 1 else 0)else (if rk v.kind<rk u.kind then -1 else 1)
theorem Ld (v u:Val):ah pG 116 [v.av,u.av] (iI (v.ord u)):=by
 refine pv c116 λ F hF=>?_;obtain⟨k,a,s⟩:=v;obtain⟨q,b,t⟩:=u;simp only[Val.ord]
 by_cases hk:k=q
 ·subst hk
  by_cases h2:k=2
  ·subst h2;simp[A116,hF,Val.av];refine au.pure (ai2 s t) ?_;simp;exact fp
  by_cases h3:a<b
  ·simp[A116,hF,Val.av,h2,h3];exact fp
  by_cases h4:b<a
  ·simp[A116,hF,Val.av,h2,h3,h4];exact fp
  simp[A116,hF,Val.av,h2,h3,h4];exact fp
 simp[A116,hF,Val.av,hk];refine bD.of (cL (l:=[(145,[iI k],λ H n=>.mk (iI (rk k)) H n),(145,[iI q],λ H n=>.mk (iI (rk q)) H n)]) ?_) ?_
 ·intro x hx;simp only[mem_cons,not_mem_nil,or_false]at hx
  rcases hx with rfl|rfl
  ·exact aQ (Q2 k)
  exact aQ (Q2 q)
 simp[ab];rw[bK];simp[ab];rw[tj (λ _ h=>by simp at h;exact aj h.symm hk),bK];simp
 by_cases hr:rk k<rk q
 ·simp[hr,Y0];exact fp
 simp[hr,YZ];exact fp
theorem ac_ {k:Int}(h:k=0∨k=1∨k=2∨k=3):rk k=pl k:=by
 rcases h with rfl|rfl|rfl|rfl<;>rfl
theorem Val.gX {v:Val}(h:v.may=true):v.kind=0∨v.kind=1∨v.kind=2∨v.kind=3:=by
 unfold Val.may at h
 by_cases h0:v.kind=0
 ·exact .inl h0
 by_cases h1:v.kind=1
 ·exact .inr (.inl h1)
 by_cases h2:v.kind=2
 ·exact .inr (.inr (.inl h2))
 by_cases h3:v.kind=3
 ·exact .inr (.inr (.inr h3))
 simp[h0,h1,h2,h3]at h
theorem Val.jO {v:Val}(h:v.may=true)(h2:v.kind=2):v.s.length<=64:=by
 unfold Val.may at h;simp[h2]at h;exact h.2
theorem Dq (v u:Val) (hv:v.may=true) (hu:u.may=true):ah pG 44 [v.av,u.av] (iI (v.ord u)):=by
 refine pv c44 λ F hF=>?_;have kv:=Val.gX hv;have ku:=Val.gX hu;have lv:=Val.jO hv;have lu:=Val.jO hu;clear hv hu;obtain⟨k,a,s⟩:=v;obtain⟨q,b,t⟩:=u;simp only at kv ku lv lu;simp only[Val.ord];have ev:=ac_ kv;have eu:=ac_ ku
 have inj:pl k=pl q↔k=q:=by
  rcases kv with rfl|rfl|rfl|rfl<;>rcases ku with rfl|rfl|rfl|rfl<;>decide
 rw[ev,eu]
 have fin:∀(F:Fr) (H:Hp) (m:Nat),F.get 2=some (.ptr 0 0)->F.get 3=some (.ptr 1 0)->F.get 5=some (iI (pl k))->F.get 6=some (iI (pl q)) ->
   H.get 0=cl 3 [iI k,iI a,.str s]->H.get 1=cl 3 [iI q,iI b,.str t] ->
   VC pG (.seq (.seq uC (.cond (ao 15) (.seq V0 .ret) .skip)) (.seq (.seq xP (.cond (ao 18) (.seq VZ .ret) .skip)) (.seq (.seq Ao (.cond (ao 21) (.seq VY .ret) .skip)) (.seq (.seq Gl (.cond (ao 31) (.seq VX .ret) .skip)) (.seq (.seq Cc (.cond (ao 36) (.seq IX .ret) .skip)) (.seq IW .ret)))))) F H m []
    (fQ [aB 4] λ v1 H' _=>fW H'.get v1 (iI (if k=q then (if k=2 then cmpL s t else if a<b then -1 else if b<a then 1 else 0)else (if pl k<pl q then -1 else 1)))):=by
  intro F H m f2 f3 f5 f6 h0 h1
  by_cases hk:k=q
  ·subst hk
   by_cases h2:k=2
   ·subst h2;simp[uC,xP,Ao,VY,f2,f3,f5,f6,h0,h1];have:=lv rfl;have:=lu rfl;refine au.pure (ack s t (by omega) (by omega)) ?_;simp;exact fp
   by_cases h3:a<b
   ·simp[uC,xP,Ao,Gl,VX,f2,f3,f5,f6,h0,h1,h2,h3];exact fp
   by_cases h4:b<a
   ·simp[uC,xP,Ao,Gl,Cc,IX,f2,f3,f5,f6,h0,h1,h2,h3,h4];exact fp
   simp[uC,xP,Ao,Gl,Cc,IW,f2,f3,f5,f6,h0,h1,h2,h3,h4];exact fp
  by_cases hr:pl k<pl q
  ·simp[uC,V0,f5,f6,hr,hk];exact fp
  have:pl q<pl k:=by
   have:pl k≠pl q:=λ e=>hk (inj.1 e);omega
  simp[uC,xP,VZ,f5,f6,hr,this,hk];exact fp
 simp[A44,hF,Val.av];refine bD.of (cL (l:=[(73,[iI k],λ H n=>.mk (iI (pl k)) H n),(73,[iI q],λ H n=>.mk (iI (pl q)) H n)]) ?_) ?_
 ·intro x hx;simp only[mem_cons,not_mem_nil,or_false]at hx
  rcases hx with rfl|rfl
  ·exact aQ (KY k)
  exact aQ (KY q)
 simp[ab];rw[bK];simp[ab];rw[tj (λ _ h H n=>by simp at h;subst h;rw[bK]),bK];simp;refine fin _ _ _ ?_ ?_ ?_ ?_ ?_ ?_<;>simp[ab]
def Val.cmp (v u:Val):Int×Int:=if v.may&&u.may then (v.ord u,0)else (0,5)
theorem s9 (v u:Val):ah pG 87 [v.av,u.av] (.aW [iI (v.cmp u).1,iI (v.cmp u).2]):=by
 refine pv c87 λ F hF=>?_;unfold Val.cmp;simp[A87,hF,Val.av];refine au.pure (nM v) ?_;generalize hv:v.may=p
 cases p with
 |false =>
  simp[UF];exact fp
 |true =>
  simp;refine au.pure (nM u) ?_;generalize hu:u.may=p
  cases p with
  |false =>
   simp[UF];exact fp
  |true =>
   simp[ad'];refine au.pure (Ld v u) ?_;simp;exact fp
def kY (l:List Int):List AV:=l.map (.int .i64)
@[simp] theorem ah1 (l:List Int):aT (kY l):=aT.Hj λ v hv=>by
 simp only[kY,mem_map]at hv;obtain⟨i,_,rfl⟩:=hv;simp
theorem HC (l:List Int)(i:Nat)(h:i<l.length):(kY l).drop i=iI l[i]::kY (l.drop (i+1)):=by
 rw[kY,<-map_drop,lG h];rfl
theorem rO {l:List Int}{i:Nat}{k:IntKind}(h:i<l.length):dG 1 (.ds (kY l) l.length 1) (.int k (i:Int))=.val (.dp (iI l[i]::kY (l.drop (i+1)))):=by
 rw[ig h,Nat.mul_one,HC l i h]
theorem RQ {l:List Int}{i len:Nat}{k:IntKind}(hl:len=l.length)(h:i<l.length):dG 1 (.ds (kY l) len 1) (.int k (i:Int))=.val (.dp (iI l[i]::kY (l.drop (i+1)))):=by
 subst hl;exact rO h
def eG:List Val->List AV
 |[]=>[]
 |v::r=>v.cells++eG r
@[simp] theorem Val.aE (v:Val):v.cells.length=3:=by simp[Val.cells]
@[simp] theorem ajZ (l:List Val):(eG l).length=l.length*3:=by
 induction l with
 |nil=>simp[eG]
 |cons e r ih=>simp[eG,ih];omega
theorem GW (l:List Val)(i:Nat)(h:i<l.length):(eG l).drop (i*3)=l[i].cells++eG (l.drop (i+1)):=by
 induction l generalizing i with
 |nil=>simp at h
 |cons e r ih =>
  cases i with
  |zero=>simp[eG]
  |succ i =>
   have:(i+1)*3=e.cells.length+i*3:=by simp;omega
   rw[eG,this,<-drop_drop,drop_left' rfl];simpa using ih i (by simpa using h)
@[simp] theorem agC (l:List Val):aT (eG l):=by
 induction l with
 |nil=>simp[eG]
 |cons e r ih=>simp[eG,Val.cells,ih]
theorem cr {l:List Val}{i:Nat}{k:IntKind}(h:i<l.length):dG 3 (.ds (eG l) l.length 3) (.int k (i:Int))=.val (.dp (l[i].cells++eG (l.drop (i+1)))):=by
 rw[ig h,GW l i h]
theorem cY (v:Val)(r:List AV)(H:Hp):df 3 (.dp (v.cells++r)) H=.val v.av:=ga r v.aE
theorem dP (v:Val)(r:List AV)(H:Hp):eE (.dp (v.cells++r)) H=.val (iI v.kind):=Eq.trans rfl rfl
theorem Val.ext_iff (v u:Val):v=u↔v.kind=u.kind/\v.num=u.num/\v.s=u.s:=by
 cases v;cases u;simp
theorem nq (b:Bool) (v u:Val):kA b [.i,.i,.s] v.av u.av=.val (.bool (b != decide (v=u))):=by
 obtain⟨k,a,s⟩:=v;obtain⟨q,c,t⟩:=u
 have he:bB [.i,.i,.s] [iI k,iI a,.str s] [iI q,iI c,.str t]=some (decide ((Val.mk k a s)=Val.mk q c t)):=by
  simp only[bB,dW,dZ,if_true]
  by_cases h1:k=q
  ·subst h1;rw[show (k == k)=true by simp]
   by_cases h2:a=c
   ·subst h2;rw[show (a == a)=true by simp]
    by_cases h3:s=t
    ·subst h3;simp
    rw[show (s == t)=false by simpa using h3];simp[Val.ext_iff,h3]
   rw[show (a == c)=false by simpa using h2];simp[Val.ext_iff,h2]
  rw[show (k == q)=false by simpa using h1];simp[Val.ext_iff,h1]
 unfold kA Val.av;simp only[he];rfl
structure j8 where
 id:Int
 table:Int
 name:List Nat
 cols:List Int
 uniq:Bool
 root:Int
def j8.cells (x:j8):List AV:=[.int .u32 x.id,.int .u32 x.table,.str x.name,.ds (kY x.cols) x.cols.length 1,.bool x.uniq,.int .u32 x.root]
def j8.av (x:j8):AV:=.agg x.cells 6
@[simp] theorem j8.pure (x:j8):Pure x.av:=by simp[j8.av,j8.cells]
structure dw where
 eq:List Val
 eJ:Bool
 lo:Val
 iL:Bool
 fc:Bool
 hi:Val
 lJ:Bool
def dw.cells (s:dw):List AV:=[.ds (eG s.eq) s.eq.length 3,.bool s.eJ,iI s.lo.kind,iI s.lo.num,.str s.lo.s,.bool s.iL,.bool s.fc,iI s.hi.kind,iI s.hi.num,.str s.hi.s,.bool s.lJ]
def dw.av (s:dw):AV:=.agg s.cells 11
@[simp] theorem dw.pure (s:dw):Pure s.av:=by simp[dw.av,dw.cells]
def ai (r:List Val):AV:=.ds (eG r) r.length 3
@[simp] theorem ag0 (r:List Val):Pure (ai r):=by simp[ai]
def Es (cols:List Int)(eq row:List Val)(i:Nat):Prop:=∃(c:Nat)(hc:c<row.length),cols[i]?=some (c:Int)/\row[c].kind≠0/\∀h:i<eq.length,row[c]=eq[i]
def mJ (v u:Val)(ah4:Bool):Bool:=!(decide ((v.cmp u).2≠0)||decide (u.kind=0)||decide ((v.cmp u).1<0)||(decide ((v.cmp u).1=0)&&!ah4))
def qH (v u:Val)(ah4:Bool):Bool:=!(decide ((v.cmp u).2≠0)||decide (u.kind=0)||decide (0<(v.cmp u).1)||(decide ((v.cmp u).1=0)&&!ah4))
def dw.n (s:dw):Nat:=if (s.eJ||s.fc)=true then s.eq.length+1 else s.eq.length
def inP (x:j8)(s:dw)(row:List Val):Prop:=s.n<=x.cols.length/\(∀i,i<s.n->Es x.cols s.eq row i) /\
 ((s.eJ||s.fc)=true->∃(c:Nat)(hc:c<row.length),x.cols[s.eq.length]?=some (c:Int)/\(s.eJ=true->mJ row[c] s.lo s.iL=true)/\(s.fc=true->qH row[c] s.hi s.lJ=true))
def rR (x:j8)(s:dw)(row:List Val):Bool:=decide (inP x s row)
theorem kZ {x:j8}{s:dw}{row:List Val}(h:inP x s row):rR x s row=true:=by simp[rR,h]
theorem bo {x:j8}{s:dw}{row:List Val}(h:¬inP x s row):rR x s row=false:=by simp[rR,h]
theorem TM {cs:List AV}{len n:Nat}{k:IntKind}(h:n<=len):mf 1 none (some (.int k (n:Int))) none (.ds cs len 1)=.val (.ds (cs.take n) n 1):=by
 unfold mf
 have:tu len none (some (.int k (n:Int))) none=some (0,n):=by
  simp[tu,show bnd len (some (.int k (n:Int)))=some n from rfl,show bnd len none=some len from rfl,show bnd 0 none=some 0 from rfl,h]
 simp only[this];simp
set_option maxHeartbeats 2000000 in
theorem in5 (x:j8)(s:dw)(row:List Val)(h1:x.cols.length<=1048576)(h2:s.eq.length<=1048576)(_h3:row.length<=1048576):ah pG 232 [x.av,s.av,ai row] (.bool (rR x s row)):=by
 refine pv c232 λ F hF=>?_
 by_cases hn:s.n<=x.cols.length
 ·have g1 : ¬ x.cols.length<s.eq.length:=by unfold dw.n at hn;split at hn<;>omega
  have qW : ∀ (F:Fr)(H:Hp)(m:Nat),F.get 2=some (ai row)->F.get 3=some (.ptr 0 0)->F.get 4=some (.ptr 1 0)->F.get 7=some (iI (s.n:Int)) ->
    H.get 0=cl 6 x.cells->H.get 1=cl 11 s.cells->(∀i,i<s.n->Es x.cols s.eq row i) ->
    (s.eJ=true->∃(c:Nat)(hc:c<row.length),x.cols[s.eq.length]?=some (c:Int)/\mJ row[c] s.lo s.iL=true) ->
    VC pG (.seq (.seq si (.cond (ao 130) (.seq vl (.seq kM (.cond (ao 166) (.seq nH .ret) .skip))) .skip)) (.seq pS .ret)) F H m []
     (fQ [aB 6] λ v1 H' _=>fW H'.get v1 (.bool (rR x s row))):=by
   intro F H m f2 f3 f4 f7 k0 k1 hall hlow;have k0':=k0;have k1':=k1;simp only[j8.cells]at k0';simp only[dw.cells]at k1'
   cases hh:s.fc with
   |false =>
    rw[kZ ⟨hn,hall,λ he=>by
     have hl:s.eJ=true:=by simpa[hh]using he
     obtain⟨c,hc,e1,e2⟩:=hlow hl;exact⟨c,hc,e1,λ _=>e2,λ h=>by rw[hh]at h;cases h⟩⟩]
    simp[si,pS,f4,k1',hh];exact .bool rfl
   |true =>
    have e:s.n=s.eq.length+1:=by simp[dw.n,hh]
    obtain⟨c,hc,hcc,hck,_⟩:=hall s.eq.length (by omega);have hic:s.eq.length<x.cols.length:=by omega
    have hcg:x.cols[s.eq.length]=(c:Int):=by rw[dU hic]at hcc;injection hcc
    have hx:=rO (l:=x.cols) (k:=.i64) hic;rw[hcg]at hx;have hr:=cr (k:=.i64) hc
    have hw:IntKind.i64.wrap ((s.n:Int) - 1)=(s.eq.length:Int):=by
     rw[e,aY _ (by omega) (by omega)];omega
    generalize pD:row[c]=v at hr;simp[si,vl,f4,k1',hh];refine bD.of (cL (l:=[(87,[v.av,s.hi.av],λ H n=>.mk (.aW [iI (v.cmp s.hi).1,iI (v.cmp s.hi).2]) H n)]) ?_) ?_
    ·simp only[fD];rintro y rfl;exact aQ (s9 v s.hi)
    simp [ab, f2,f3,f4,f7,k0',k1',ai,hw,hx,hr,cY];rw[show [v.av,AV.agg [AV.int IntKind.i64 s.hi.kind,AV.int IntKind.i64 s.hi.num,AV.str s.hi.s] 3]=[v.av,s.hi.av]from rfl,bK]
    have hbad:qH v s.hi s.lJ=false->¬inP x s row:=λ hb h=>by
     obtain⟨c',hc',e1,_,e2⟩:=h.2.2 (by simp[hh]);rw[hcc]at e1;injection e1 with e1;have:c=c':=by omega
     subst this;rw[pD,hb]at e2;exact aj (e2 hh) (by simp)
    have hgood:qH v s.hi s.lJ=true->inP x s row:=λ hb=>⟨hn,hall,λ _=>⟨c,hc,hcc,λ hl=>by
     obtain⟨c',hc',e1,e2⟩:=hlow hl;rw[hcc]at e1;injection e1 with e1;have:c=c':=by omega
     subst this;exact e2,λ _=>by rw[pD];exact hb⟩⟩
    generalize hq:v.cmp s.hi=q;obtain⟨q1,q2⟩:=q;simp only[qH,hq]at hbad hgood
    by_cases a1:q2=0
    ·by_cases a2:s.hi.kind=0
     ·rw[bo (hbad (by simp[a2]))];simp[ab,f4,k1',kM,nH,a1,a2];exact .bool rfl
     by_cases a3:0<q1
     ·rw[bo (hbad (by simp[a3]))];simp[ab,f4,k1',kM,nH,a1,a2,a3];exact .bool rfl
     by_cases a4:q1=0
     ·cases a5:s.lJ with
      |false =>
       rw[bo (hbad (by simp[a4,a5]))];simp[ab,f4,k1',kM,nH,a1,a2,a4,a5];exact .bool rfl
      |true =>
       rw[kZ (hgood (by simp[a1,a2,a4,a5]))];simp[ab,f4,k1',kM,pS,a1,a2,a4,a5];exact .bool rfl
     rw[kZ (hgood (by simp[a1,a2,a3,a4]))];simp[ab,f4,k1',kM,pS,a1,a2,a3,a4];exact .bool rfl
    rw[bo (hbad (by simp[a1]))];simp[kM,nH,a1];exact .bool rfl
  have cont : ∀ (F:Fr)(H:Hp)(m:Nat),F.get 2=some (ai row)->F.get 3=some (.ptr 0 0)->F.get 4=some (.ptr 1 0)->F.get 7=some (iI (s.n:Int)) ->
    H.get 0=cl 6 x.cells->H.get 1=cl 11 s.cells ->
    VC pG (.seq (.seq Jk (.block 0 (.loop Dx))) (.seq (.seq vm (.cond (ao 92) (.seq CN (.seq lW (.cond (ao 128) (.seq pT .ret) .skip))) .skip)) (.seq (.seq si (.cond (ao 130) (.seq vl (.seq kM (.cond (ao 166) (.seq nH .ret) .skip))) .skip)) (.seq pS .ret)))) F H m []
     (fQ [aB 6] λ v1 H' _=>fW H'.get v1 (.bool (rR x s row))):=by
   intro F H m f2 f3 f4 f7 k0 k1;have k0':=k0;have k1':=k1;simp only[j8.cells]at k0';simp only[dw.cells]at k1';have hsl:=TM (cs:=kY x.cols) (k:=.i64) hn;rw[show (kY x.cols).take s.n=kY (x.cols.take s.n) by simp[kY,map_take]]at hsl;have hcl:(x.cols.take s.n).length=s.n:=by simp;omega
   have hnle:s.n<=1048577:=by omega
   simp[Jk,f3,f7,k0',hsl]
   refine aG.of (λ k F K m ms=>∃i,k=s.n - i/\i<=s.n/\F.get 2=some (ai row)/\F.get 3=some (.ptr 0 0)/\F.get 4=some (.ptr 1 0)/\F.get 7=some (iI (s.n:Int)) /\
    F.get 48=some (.ds (kY (x.cols.take s.n)) s.n 1)/\F.get 49=some (iI (s.n:Int))/\F.get 50=some (iI (i:Int)) /\
    K.get 0=cl 6 x.cells/\K.get 1=cl 11 s.cells/\ms=[]/\∀j,j<i->Es x.cols s.eq row j) s.n ⟨0,by simp[f2,f3,f4,f7,k0,k1]⟩ ?_
   rintro k F K m ms ⟨i,rfl,hi,f2,f3,f4,f7,f48,f49,f50,k0,k1,rfl,hj⟩;have k0':=k0;have k1':=k1;simp only[j8.cells]at k0';simp only[dw.cells]at k1'
   by_cases hlt:i<s.n
   ·have hx := RQ (l:=x.cols.take s.n) (len:=s.n) (k:=.i64) (i:=i) hcl.symm (by omega);have hic:i<x.cols.length:=by omega
    have hget:(x.cols.take s.n)[i]'(by omega)=x.cols[i]:=by simp
    rw[hget]at hx;have hcc:x.cols[i]?=some x.cols[i]:=dU hic;simp[Dx,f48,f49,f50,hlt,hx];refine bD.of (bh (P:=pG)) ?_;generalize hcv:x.cols[i]=c at hcc
    by_cases c0:c<0
    ·rw[bo λ h=>by
      obtain⟨cn,_,h1,_⟩:=h.2.1 i hlt;rw[hcc]at h1;injection h1 with h1;omega]
     simp[ab,c0,sj,ai];exact .bool rfl
    obtain⟨cn,rfl⟩:=Int.eq_ofNat_of_zero_le (show 0<=c by omega);have hneg:¬((cn:Int)<0):=by omega
    by_cases c1:cn<row.length
    ·have c1':¬row.length<=cn:=by omega
     have hr:=cr (k:=.i64) c1;generalize pD:row[cn]=v at hr
     by_cases c2:v.kind=0
     ·rw[bo λ h=>by
       obtain⟨cm,_,h1,h2,_⟩:=h.2.1 i hlt;rw[hcc]at h1;injection h1 with h1;have:cn=cm:=by omega
       subst this;rw[pD]at h2;exact h2 c2]
      simp[ab,f2,sj,ai,c1',hneg,hr,dP,c2];exact .bool rfl
     by_cases hq:i<s.eq.length
     ·have he:=cr (k:=.i64) hq;generalize hev:s.eq[i]=u at he
      by_cases c9003:v=u
      ·subst c9003;simp[ab,f2,f3,f4,f7,f48,f49,f50,k1',ai,c1',hneg,hr,dP,c2,hq,he,cY,nq,CO,ax i (by omega)];refine⟨s.n - (i+1),by omega,i+1,rfl,hlt,by omega,k0,rfl,λ j hj'=>?_⟩
       by_cases e:j=i
       ·subst e;exact⟨cn,c1,hcc,by rw[pD];exact c2,λ h=>by rw[pD,hev]⟩
       exact hj j (by omega)
      rw[bo λ h=>by
       obtain⟨cm,_,h1,_,h2⟩:=h.2.1 i hlt;rw[hcc]at h1;injection h1 with h1;have:cn=cm:=by omega
       subst this;have h2:=h2 hq;rw[pD,hev]at h2;exact c9003 h2]
      simp[ab,f2,f4,k1',sj,ai,c1',hneg,hr,dP,c2,hq,he,cY,nq,c9003];exact .bool rfl
     simp[ab,f2,f3,f4,f7,f48,f49,f50,k1',ai,c1',hneg,hr,dP,c2,hq,CO,ax i (by omega)];refine⟨s.n - (i+1),by omega,i+1,rfl,hlt,by omega,k0,rfl,λ j hj'=>?_⟩
     by_cases e:j=i
     ·subst e;exact⟨cn,c1,hcc,by rw[pD];exact c2,λ h=>aj h hq⟩
     exact hj j (by omega)
    rw[bo λ h=>by
     obtain⟨cm,h0,h1,_⟩:=h.2.1 i hlt;rw[hcc]at h1;injection h1 with h1;omega]
    have:row.length<=cn:=by omega
    simp[ab,f2,sj,ai,hneg,this];exact .bool rfl
   have:i=s.n:=by omega
   subst this;have hall:∀i,i<s.n->Es x.cols s.eq row i:=hj;simp[Dx,f49,f50]
   cases hl:s.eJ with
   |false =>
    simp[vm,f4,k1',hl];refine qW _ _ _ ?_ ?_ ?_ ?_ ?_ ?_ hall (λ h=>by rw[hl]at h;cases h)<;>simp[f2,f3,f4,f7,k0,dw.cells,hl,k1]
   |true =>
    have e:s.n=s.eq.length+1:=by simp[dw.n,hl]
    obtain⟨c,hc,hcc,hck,_⟩:=hall s.eq.length (by omega);have hic:s.eq.length<x.cols.length:=by omega
    have hcg:x.cols[s.eq.length]=(c:Int):=by rw[dU hic]at hcc;injection hcc
    have hx:=rO (l:=x.cols) (k:=.i64) hic;rw[hcg]at hx;have hr:=cr (k:=.i64) hc
    have hw:IntKind.i64.wrap ((s.n:Int) - 1)=(s.eq.length:Int):=by
     rw[e,aY _ (by omega) (by omega)];omega
    generalize pD:row[c]=v at hr;simp[vm,CN,f4,k1',hl];refine bD.of (cL (l:=[(87,[v.av,s.lo.av],λ H n=>.mk (.aW [iI (v.cmp s.lo).1,iI (v.cmp s.lo).2]) H n)]) ?_) ?_
    ·simp only[fD];rintro y rfl;exact aQ (s9 v s.lo)
    simp [ab, f2,f3,f4,f7,k0',k1',ai,hw,hx,hr,cY];rw[show [v.av,AV.agg [AV.int IntKind.i64 s.lo.kind,AV.int IntKind.i64 s.lo.num,AV.str s.lo.s] 3]=[v.av,s.lo.av]from rfl,bK]
    have hbad:mJ v s.lo s.iL=false->¬inP x s row:=λ hb h=>by
     obtain⟨c',hc',e1,e2,_⟩:=h.2.2 (by simp[hl]);rw[hcc]at e1;injection e1 with e1;have:c=c':=by omega
     subst this;rw[pD,hb]at e2;exact aj (e2 hl) (by simp)
    generalize hq:v.cmp s.lo=q;obtain⟨q1,q2⟩:=q;have hgood:mJ v s.lo s.iL=true->s.eJ=true->∃(c:Nat) (hc:c<row.length),x.cols[s.eq.length]?=some (c:Int)/\mJ row[c] s.lo s.iL=true:=λ hb _=>⟨c,hc,hcc,by rw[pD];exact hb⟩;have hlo:mJ v s.lo s.iL=(!(decide (q2≠0)||decide (s.lo.kind=0)||decide (q1<0)||(decide (q1=0)&&!s.iL))):=by simp only[mJ,hq]
    rw[hlo]at hbad hgood
    by_cases a1:q2=0
    ·by_cases a2:s.lo.kind=0
     ·rw[bo (hbad (by simp[a2]))];simp[ab,f4,k1',lW,pT,a1,a2];exact .bool rfl
     by_cases a3:q1<0
     ·rw[bo (hbad (by simp[a3]))];simp[ab,f4,k1',lW,pT,a1,a2,a3];exact .bool rfl
     by_cases a4:q1=0
     ·cases a5:s.iL with
      |false =>
       rw[bo (hbad (by simp[a4,a5]))];simp[ab,f4,k1',lW,pT,a1,a2,a4,a5];exact .bool rfl
      |true =>
       simp[ab,f4,k1',lW,a1,a2,a4,a5];refine qW _ _ _ ?_ ?_ ?_ ?_ ?_ ?_ hall (hgood (by simp[a1,a2,a4,a5]))<;>simp[ab,f2,f3,f4,f7,k0,k1]
     simp[ab,f4,k1',lW,a1,a2,a3,a4];refine qW _ _ _ ?_ ?_ ?_ ?_ ?_ ?_ hall (hgood (by simp[a1,a2,a3,a4]))<;>simp[ab,f2,f3,f4,f7,k0,k1]
    rw[bo (hbad (by simp[a1]))];simp[lW,pT,a1];exact .bool rfl
  cases hl:s.eJ with
  |true =>
   have e:s.n=s.eq.length+1:=by simp[dw.n,hl]
   have g2:¬s.eq.length=x.cols.length:=by omega
   simp[A232,hF,j8.av,j8.cells,dw.av,dw.cells,g1,g2,hl,ax _ (show s.eq.length<2147483648 by omega)];refine cont _ _ _ ?_ ?_ ?_ ?_ ?_ ?_<;>simp[hF,j8.cells,dw.cells,hl,e]
  |false =>
   cases hh:s.fc with
   |true =>
    have e:s.n=s.eq.length+1:=by simp[dw.n,hh]
    have g2:¬s.eq.length=x.cols.length:=by omega
    simp[A232,hF,j8.av,j8.cells,dw.av,dw.cells,g1,g2,hl,hh,ax _ (show s.eq.length<2147483648 by omega)];refine cont _ _ _ ?_ ?_ ?_ ?_ ?_ ?_<;>simp[hF,j8.cells,dw.cells,hl,hh,e]
   |false =>
    have e:s.n=s.eq.length:=by simp[dw.n,hl,hh]
    simp[A232,hF,j8.av,j8.cells,dw.av,dw.cells,g1,hl,hh];refine cont _ _ _ ?_ ?_ ?_ ?_ ?_ ?_<;>simp[hF,j8.cells,dw.cells,hl,hh,e]
 rw[bo λ h=>hn h.1]
 by_cases g1:x.cols.length<s.eq.length
 ·simp[A232,hF,j8.av,j8.cells,dw.av,dw.cells,g1];exact .bool rfl
 simp only[Nat.not_lt]at g1;have g2:s.eq.length=x.cols.length:=by unfold dw.n at hn;split at hn<;>omega
 have g3:(s.eJ||s.fc)=true:=by
  unfold dw.n at hn;split at hn
  ·assumption
  omega
 cases hl:s.eJ with
 |true =>
  simp[A232,hF,j8.av,j8.cells,dw.av,dw.cells,g2,hl];exact .bool rfl
 |false =>
  have hh:s.fc=true:=by simpa[hl]using g3
  simp[A232,hF,j8.av,j8.cells,dw.av,dw.cells,g2,hl,hh];exact .bool rfl
end Go.Abs
