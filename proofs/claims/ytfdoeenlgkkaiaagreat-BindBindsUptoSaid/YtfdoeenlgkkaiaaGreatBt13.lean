/- A part. -/
import Derived.Test.YtfdoeenlgkkaiaaGreatBt12
noncomputable section
namespace Go.Abs
open List
open Go.Proofs
open Classical
set_option maxRecDepth 100000
def IxP (s:bD)(i:Nat):Prop:=∀h:i<s.indexes.length,s.indexes[i].id≠0/\cK s.indexes[i].name/\(s.table s.indexes[i].table).2=true/\ei (s.table s.indexes[i].table).1 s.indexes[i].ae/\∀k (hk:k<i),(s.indexes[k]'(by omega)).id<s.indexes[i].id/\(s.indexes[k]'(by omega)).name≠s.indexes[i].name
theorem N3 (s:bD) (h0:∀t∈s.indexes,0<=t.id):tX s↔∀i,IxP s i:=by
 constructor
 ·intro h
  have asc:∀i (hi:i<s.indexes.length),0<s.indexes[i].id/\∀k (hk:k<i),(s.indexes[k]'(by omega)).id<s.indexes[i].id:=by
   intro i
   induction i with
   | zero=>intro hi;have:=(h 0 hi).id;rw[Az]at this;exact⟨this,λ k hk=>by omega⟩
   | succ i ih =>
    intro hi;obtain⟨a1,a2⟩:=ih (by omega);have:=(h (i+1) hi).id;rw[Ay (by omega)]at this;refine⟨by omega,λ k hk=>?_⟩
    by_cases e:k=i
    ·subst e;exact this
    have:=a2 k (by omega);omega
  intro i hi;refine⟨by have:=(asc i hi).1;omega,(h i hi).name,(h i hi).table,(h i hi).ae,λ k hk=>⟨(asc i hi).2 k hk,(h i hi).new _ (mem_take_iff_getElem.2 ⟨k,by omega,rfl⟩)⟩⟩
 intro h i hi;refine⟨?_,(h i hi).2.1,(h i hi).2.2.1,(h i hi).2.2.2.1,λ t ht=>?_⟩
 ·cases i with
  | zero=>rw[Az];have:=(h 0 hi).1;have:=h0 _ (getElem_mem hi);omega
  | succ i=>rw[Ay (by omega)];exact((h (i+1) hi).2.2.2.2 i (by omega)).1
 obtain⟨k,hk,rfl⟩:=mem_take_iff_getElem.1 ht;exact((h i hi).2.2.2.2 k (by omega)).2
theorem ai4 (s:bD) (hs:s.dE) (i:Nat) (hi:i<s.indexes.length) (F:Fr) (K:Hp) (n a:Nat) (Q:QA) (S:CX s F K n) (f7:F.get 10=some (.ptr a 0)) (ha:K.get a=some (.cells 6 [] (bC.cells s.indexes[i]) .nil)) (f6:F.get 9=some (.int .i64 (i:Int))) (f8:F.get 13=some (.int .i64 0))
  (hbad:¬(∀k (hk:k<i),(s.indexes[k]'(by omega)).id<s.indexes[i].id/\(s.indexes[k]'(by omega)).name≠s.indexes[i].name)->∀F,F.get 2=some (.bool false)->Q .ret F K n [])
  (hok:(∀k (hk:k<i),(s.indexes[k]'(by omega)).id<s.indexes[i].id/\(s.indexes[k]'(by omega)).name≠s.indexes[i].name)->∀F,CX s F K n->F.get 9=some (.int .i64 (i:Int))->Q .normal F K n []):au ML pG F K n [] (bX 10 Q):=by
 have ht:=hs.i;unfold lim at ht;refine au.of (λ g F K' n' ms=>∃k:Nat,g=i - k/\k<=i/\CX s F K n/\F.get 10=some (.ptr a 0)/\F.get 9=some (.int .i64 (i:Int))/\F.get 13=some (.int .i64 (k:Int))/\K'=K/\n'=n/\ms=[]/\∀j (hj:j<i),j<k->(s.indexes[j]'(by omega)).id<s.indexes[i].id/\(s.indexes[j]'(by omega)).name≠s.indexes[i].name) i ⟨0,by simp,by omega,S,f7,f6,by simpa using f8,rfl,rfl,rfl,λ j hj h1=>by omega⟩ ?_;clear S f6 f7 f8 F;rintro g F K' n' ms ⟨k,rfl,hk,⟨f1,k0,n1⟩,f7,f6,f8,rfl,rfl,rfl,hj⟩;have N2:=k0;rw[cC]at k0;have ha':=ha;rw[eG]at ha
 by_cases hlt:k<i
 ·have hx:=bC.ix (l:=s.indexes) (i:=k) (ik:=.i64) (by omega);rw[eG]at hx;have hj':=hj;generalize hy:s.indexes[k]'(by omega)=y at *;generalize hz:s.indexes[i]=z at *;have no:¬(y.id<z.id/\y.name≠z.name)->¬(∀k (hk:k<i),(s.indexes[k]'(by omega)).id<z.id/\(s.indexes[k]'(by omega)).name≠z.name):=λ h h2=>h (by rw[<-hy];exact h2 k hlt);simp only[ML,HB,Wh];simp[f6,f8,hlt];refine bY.of (bH (P:=pG)) ?_
  by_cases h1:z.id<=y.id
  ·simp[aa,f1,f7,f8,k0,ha,hx,h1,HA];exact hbad (no λ h=>by omega) _ (by simp)
  by_cases h2:y.name=z.name
  ·simp[aa,f1,f7,f8,k0,ha,hx,h1,h2,HA];exact hbad (no λ h=>h.2 h2) _ (by simp)
  simp[aa,f1,f7,f8,k0,ha,hx,h1,h2,Wg,ah k (by omega)];refine⟨_,by omega,k+1,rfl,by omega,⟨by simp[aa,f1],N2,n1⟩,f6,rfl,λ j hjl h3=>?_⟩
  by_cases e:j=k
  ·subst e;rw[hy];exact⟨by omega,h2⟩
  exact hj j hjl (by omega)
 obtain rfl:k=i:=by omega
 simp[ML,HB,f6,f8];exact hok (λ k hk=>hj k hk hk) _ ⟨by simp[f1],N2,n1⟩ (by simp[f6])
theorem ai3 (s:bD)(hs:s.dE)(h0:∀t∈s.indexes,0<=t.id)(F:Fr)(K:Hp)(n:Nat)(Q:QA)(S:CX s F K n)(f9:F.get 9=some (.int .i64 0))
  (hbad:¬tX s->∀F K n,F.get 2=some (.bool false)->Q .ret F K n [])
  (hok:tX s->∀F K n,CX s F K n->Q .normal F K n []):au MK pG F K n [] (bX 8 Q):=by
 have ht:=hs.i;unfold lim at ht;have hC:=N3 s h0;refine au.of (λ g F K n ms=>∃i:Nat,g=s.indexes.length - i/\i<=s.indexes.length/\CX s F K n/\F.get 9=some (.int .i64 (i:Int))/\ms=[]/\∀j,j<i->IxP s j) s.indexes.length ⟨0,by simp,by omega,S,by simpa using f9,rfl,λ j h=>by omega⟩ ?_;clear S f9 F K n;rintro g F K n ms ⟨i,rfl,hi,⟨f1,k0,n1⟩,f9,rfl,hj⟩;have N2:=k0;rw[cC]at k0
 by_cases hlt:i<s.indexes.length
 ·have hx := bC.ix (ik:=.i64) hlt;have hld:=λ r H=>bC.gM s.indexes[i] r H;simp only[al.av]at hld;have no:¬IxP s i->¬tX s:=λ h hc=>h (hC.1 hc i);have h76:ai pG 76 [.agg (cw.cells s) 2,.int .u32 s.indexes[i].table] (.bg [.agg (aG.cells (s.table s.indexes[i].table).1) 4,.bool (s.table s.indexes[i].table).2]):=Js s hs s.indexes[i].table;have hsl:(cw.cells s).length=2:=cw.aA s;simp[MK,HD,Wk,f1,f9,k0,al.ag,hlt,hx,hld];generalize hK1:Tr.put (Tr.put K n _) n _=K1;have g1:∀b,b<n->K1.get b=K.get b:=λ b hb=>by rw[<-hK1];simp[dj hb]
  have x1:K1.get n=some (.cells 6 [] (bC.cells s.indexes[i]) .nil):=by rw[<-hK1];simp
  clear hK1;have N1:=(g1 0 (by omega)).trans N2;have x1':=x1;rw[eG]at x1;simp[Wj,f1,N1,x1];refine ao.pure h76 ?_;simp;generalize hK2:Tr.put (Tr.put K1 (n+1) _) (n+1) _=K2;have g2:∀b,b<n+1->K2.get b=K1.get b:=λ b hb=>by rw[<-hK2];simp[dj hb]
  have y2:K2.get (n+1)=some (.cells 4 [] (aG.cells (s.table s.indexes[i].table).1) .nil):=by rw[<-hK2];simp
  clear hK2;have k02:=(g2 0 (by omega)).trans N1;have x2':=(g2 n (by omega)).trans x1';have x2:=(g2 n (by omega)).trans x1;rw[aU]at y2
  by_cases h1:s.indexes[i].id=0
  ·simp[HC,wV,x2,h1];exact hbad (no λ h=>(h hlt).1 h1) _ _ _ (by simp)
  simp[HC,x2,h1];refine ao.pure (Al s.indexes[i].name) ?_
  by_cases h2:cK s.indexes[i].name
  ·cases h3:(s.table s.indexes[i].table).2 with
   | false =>
    simp[h2,wV];exact hbad (no λ h=>by rw[(h hlt).2.2.1]at h3;cases h3) _ _ _ (by simp)
   | true =>
    simp[h2,x2,y2,al.ag];refine ao.pure (Qc _ s.indexes[i].ae (hs.ic _ (getElem_mem hlt))) ?_
    by_cases h4:ei (s.table s.indexes[i].table).1 s.indexes[i].ae
    ·simp[h4,Wi];refine ai4 s hs i hlt _ K2 (n+1+1) n _ ⟨by simp[f1],k02,by omega⟩ (by simp) x2' (by simp[f9]) (by simp) (λ hb F f2=>?_) λ hg F ⟨f1,_,_⟩ f9=>?_
     ·simp;exact hbad (no λ h=>hb (h hlt).2.2.2.2) _ _ _ f2
     simp[We,f9,ah i (by omega)];refine⟨_,by omega,i+1,rfl,hlt,⟨by simp[f1],k02,by omega⟩,rfl,λ j hji=>?_⟩
     by_cases e:j=i
     ·subst e;exact λ _=>⟨h1,h2,h3,h4,hg⟩
     exact hj j (by omega)
    simp[h4,wV];exact hbad (no λ h=>h4 (h hlt).2.2.2.1) _ _ _ (by simp)
  simp[h2,wV];exact hbad (no λ h=>h2 (h hlt).2.1) _ _ _ (by simp)
 obtain rfl:i=s.indexes.length:=by omega
 simp[MK,HD,f1,f9,k0,al.ag];exact hok (hC.2 λ j h=>hj j h h) _ _ _ ⟨by simp[f1],N2,n1⟩
structure bD.ZM (s:bD):Prop where
 t:∀t∈s.tables,0<=t.id
 i:∀t∈s.indexes,0<=t.id
theorem anR (s:bD)(hs:s.dE)(hr:s.ZM):ai pG 23 [cw.av s] (.bool (decide (eY s))):=by
 have h73:ai pG 73 [.agg (cw.cells s) 2] (eU.ds s.pages):=aam s hs;have hsl:(cw.cells s).length=2:=cw.aA s;have ht:=hs.t;have hi:=hs.i;unfold lim at ht hi;refine bf c23 (by simp) (by simp) (by simp[A23]) λ F hF=>?_;have no:¬eY s->dU (Tr.nil:Hp).get (.bool false) (.bool (decide (eY s))):=λ h=>.bool (by simp[h]);have e0:∀h,(cw.cells s)[0]'h=aG.ds s.tables:=λ h=>by simp[cC]
 have e1:∀h,(cw.cells s)[1]'h=bC.ds s.indexes:=λ h=>by simp[cC]
 by_cases h1:(32:Int)<(s.tables.length:Int)
 ·have:¬eY s:=λ h=>absurd h.t (by omega);simp[A23,B23,Ld,Lc,Wq,hF,al.av,hsl,e0,al.ag,h1];exact .bool (by simp[this])
 by_cases h2:(64:Int)<(s.indexes.length:Int)
 ·have:¬eY s:=λ h=>absurd h.i (by omega);simp[A23,B23,Ld,Lc,Wq,hF,al.av,hsl,e0,e1,al.ag,h1,h2];exact .bool (by simp[this])
 simp[A23,B23,Ld,Lc,ahk,hF,al.av,hsl,e0,e1,al.ag,h1,h2];refine ao.pure h73 ?_;simp[ahj];refine ai7 s s.pages (by simp[bD.pages];omega) _ _ _ _ ⟨by simp,by simp,by omega⟩ (by simp) (by simp) (λ hb F f2=>?_) λ p1 F S=>?_
 ·simp[f2];exact .bool (by simp[show ¬eY s from λ h=>hb h.pages])
 simp[Wt];refine ai5 s hs hr.t _ _ _ _ ⟨by simp[S.f1],S.k0,S.n1⟩ (by simp) (λ hb F K n f2=>?_) λ p2 F K n S=>?_
 ·simp[f2];exact .bool (by simp[show ¬eY s from λ h=>hb h.tabs])
 simp[Wl];refine ai3 s hs hr.i _ _ _ _ ⟨by simp[S.f1],S.k0,S.n1⟩ (by simp) (λ hb F K n f2=>?_) λ p3 F K n S=>?_
 ·simp[f2];exact .bool (by simp[show ¬eY s from λ h=>hb h.ixs])
 simp[Wd];have:eY s:=⟨by omega,by omega,p1,p2,p3⟩;exact .bool (by simp[this])
structure QyF (q:aY)(F:Fr)(K:Hp)(n:Nat):Prop where
 f1:F.get 1=some (.ptr 0 0)
 k0:K.get 0=some (.cells 15 [] q.cells .nil)
 n0:0<n
theorem uP (l:List Src):eA l=true↔∀i (h:i<l.length),(l[i]).ok (decide (i=0))=true:=by
 cases l with
 | nil=>simp[eA]
 | cons x r =>
  rw[eA,Bool.and_eq_true,all_eq_true];constructor
  ·rintro⟨h1,h2⟩ i hi
   cases i with
   | zero=>simpa using h1
   | succ i=>simpa using h2 _ (getElem_mem (by simpa using hi))
  intro h;refine⟨h 0 (by simp),λ y hy=>?_⟩;obtain⟨i,hi,rfl⟩:=getElem_of_mem hy;have:=h (i+1) (by simpa using hi);simpa only [Nat.add_eq_zero_iff,Nat.succ_ne_self,and_false,decide_false,getElem_cons_succ]using this
theorem PY (q:aY) (hl:q.items.length<=lim) (hz:∀x∈q.items,x.e.sz<=lim) (F:Fr) (K:Hp) (n:Nat) (Q:QA) (S:QyF q F K n) (f3:F.get 3=some (.int .i64 0))
  (hbad:q.items.all fK.ok=false->∀F,F.get 2=some (.bool false)->Q .ret F K n [])
  (hok:q.items.all fK.ok=true->∀F,QyF q F K n->Q .normal F K n []):au EX pG F K n [] (bX 0 Q):=by
 unfold lim at hl;refine au.of (λ g F K' n' ms=>∃i:Nat,g=q.items.length - i/\i<=q.items.length/\QyF q F K n/\F.get 3=some (.int .i64 (i:Int))/\K'=K/\n'=n/\ms=[]/\∀j (_:j<i) (h:j<q.items.length),q.items[j].ok=true) q.items.length ⟨0,by simp,by omega,S,by simpa using f3,rfl,rfl,rfl,λ j h=>by omega⟩ ?_;clear S f3 F;rintro g F K' n' ms ⟨i,rfl,hi,⟨f1,k0,n0⟩,f3,rfl,rfl,rfl,hj⟩
 by_cases hlt:i<q.items.length
 ·have hx:=jq.ix (ik:=.i64) hlt;rw[vV,append_assoc]at hx;have hld:=λ r H=>dz.gM q.items[i].e r H;simp only[nj,al.av]at hld;have Od:=vm q.items[i].e (hz _ (getElem_mem hlt));have pP:ai pG 81 [.agg q.items[i].e.cells 8] (.bool q.items[i].e.may):=Od
  have hdr:List.drop 8 (q.items[i].e.cells++([.str q.items[i].name]++jq.l (q.items.drop (i+1))))=.str q.items[i].name::jq.l (q.items.drop (i+1)):=by
   rw[drop_left' (by simp)];rfl
  have no:q.items[i].ok=false->q.items.all fK.ok=false:=λ h=>all_eq_false.2 ⟨q.items[i],getElem_mem hlt,by simp[h]⟩;simp[EX,Ul,aer,f1,f3,k0,aY.c2,al.ag,hlt,hx,hld];refine ao.pure pP ?_
  cases hm:q.items[i].e.may with
  | false =>
   simp[Uk];exact hbad (no (by simp[fK.ok,hm])) _ (by simp)
  | true =>
   by_cases h0:q.items[i].name=[]
   ·have hok':q.items[i].ok=true:=by simp[fK.ok,hm,h0]
    simp[f1,f3,k0,aY.c2,hx,h0,Uj,ah i (by omega)];refine⟨_,by omega,i+1,rfl,hlt,⟨by simp[f1],k0,n0⟩,rfl,λ j hji h=>?_⟩
    by_cases e:j=i
    ·subst e;exact hok'
    exact hj j (by omega) h
   simp[f1,f3,k0,aY.c2,hx,h0];refine ao.pure (fw q.items[i].name) ?_
   by_cases hn:aD q.items[i].name
   ·have hok':q.items[i].ok=true:=by simp[fK.ok,hm,hn]
    simp[hn,f3,Uj,ah i (by omega)];refine⟨_,by omega,i+1,rfl,hlt,⟨by simp[f1],k0,n0⟩,rfl,λ j hji h=>?_⟩
    by_cases e:j=i
    ·subst e;exact hok'
    exact hj j (by omega) h
   simp[hn,Uk];exact hbad (no (by simp[fK.ok,hm,h0,hn])) _ (by simp)
 obtain rfl:i=q.items.length:=by omega
 have hall:q.items.all fK.ok=true:=by
  rw[all_eq_true];intro e he;obtain⟨j,h,rfl⟩:=getElem_of_mem he;exact hj j h h
 simp[EX,Ul,f1,f3,k0,aY.c2,al.ag];exact hok hall _ ⟨by simp[f1],k0,n0⟩
theorem PW (q:aY)(hl:q.order.length<=lim)(F:Fr)(K:Hp)(n:Nat)(Q:QA)(S:QyF q F K n)(f6:F.get 6=some (.int .i64 0))
  (hbad:q.order.all Ord.ok=false->∀F,F.get 2=some (.bool false)->Q .ret F K n [])
  (hok:q.order.all Ord.ok=true->∀F,QyF q F K n->Q .normal F K n []):au EV pG F K n [] (bX 4 Q):=by
 unfold lim at hl;refine au.of (λ g F K' n' ms=>∃i:Nat,g=q.order.length - i/\i<=q.order.length/\QyF q F K n/\F.get 6=some (.int .i64 (i:Int))/\K'=K/\n'=n/\ms=[]/\∀j (_:j<i) (h:j<q.order.length),q.order[j].ok=true) q.order.length ⟨0,by simp,by omega,S,by simpa using f6,rfl,rfl,rfl,λ j h=>by omega⟩ ?_;clear S f6 F;rintro g F K' n' ms ⟨i,rfl,hi,⟨f1,k0,n0⟩,f6,rfl,rfl,rfl,hj⟩
 by_cases hlt:i<q.order.length
 ·have hx:=jm.ix (ik:=.i64) hlt;rw[vU]at hx;have no:q.order[i].ok=false->q.order.all Ord.ok=false:=λ h=>all_eq_false.2 ⟨q.order[i],getElem_mem hlt,by simp[h]⟩;simp[EV,G1,Up,f1,f6,k0,aY.c12,al.ag,hlt,hx];refine ao.pure (fw q.order[i].name) ?_
  by_cases hn:aD q.order[i].name
  ·simp[hn,f6,Un,ah i (by omega)];refine⟨_,by omega,i+1,rfl,hlt,⟨by simp[f1],k0,n0⟩,rfl,λ j hji h=>?_⟩
   by_cases e:j=i
   ·subst e;simp[Ord.ok,hn]
   exact hj j (by omega) h
  simp[hn,Uo];exact hbad (no (by simp[Ord.ok,hn])) _ (by simp)
 obtain rfl:i=q.order.length:=by omega
 have hall:q.order.all Ord.ok=true:=by
  rw[all_eq_true];intro e he;obtain⟨j,h,rfl⟩:=getElem_of_mem he;exact hj j h h
 simp[EV,G1,f1,f6,k0,aY.c12,al.ag];exact hok hall _ ⟨by simp[f1],k0,n0⟩
theorem PX (q : aY) (hl:q.ab.length<=lim) (hz:∀x∈q.ab,x.cond.sz<=lim) (F:Fr) (K:Hp) (n:Nat) (Q:QA) (S:QyF q F K n) (f4:F.get 4=some (.int .i64 0))
  (hbad:eA q.ab=false->∀F K n,F.get 2=some (.bool false)->Q .ret F K n [])
  (hok:eA q.ab=true->∀F K n,QyF q F K n->Q .normal F K n []):au EW pG F K n [] (bX 2 Q):=by
 unfold lim at hl;refine au.of (λ g F K' n' ms=>∃i:Nat,g=q.ab.length - i/\i<=q.ab.length/\QyF q F K' n'/\F.get 4=some (.int .i64 (i:Int))/\ms=[]/\∀j (_:j<i) (h:j<q.ab.length),q.ab[j].ok (decide (j=0))=true) q.ab.length ⟨0,by simp,by omega,S,by simpa using f4,rfl,λ j h=>by omega⟩ ?_;clear S f4 F K n;rintro g F K n ms ⟨i,rfl,hi,⟨f1,k0,n0⟩,f4,rfl,hj⟩
 by_cases hlt:i<q.ab.length
 ·have hx := gq.ix (ik:=.i64) hlt;have hld:=λ r H=>gq.gM q.ab[i] r H;have Od:=vm q.ab[i].cond (hz _ (getElem_mem hlt));have h80:=Ai q.ab[i].cond (hz _ (getElem_mem hlt));have pP:ai pG 81 [.agg q.ab[i].cond.cells 8] (.bool q.ab[i].cond.may):=Od;have AK:ai pG 80 [.agg q.ab[i].cond.cells 8] (.bool (decide (q.ab[i].cond.bare 0))):=h80
  have no:q.ab[i].ok (decide (i=0))=false->eA q.ab=false:=λ h=>by
   rw[Bool.eq_false_iff];intro h2;have:=(uP _).1 h2 i hlt;rw[h]at this;cases this
  have next:q.ab[i].ok (decide (i=0))=true->∀j (_:j<i+1) (h:j<q.ab.length),q.ab[j].ok (decide (j=0))=true:=λ h0 j hji h=>by
   by_cases e:j=i
   ·subst e;exact h0
   exact hj j (by omega) h
  have hw:=ah i (by omega);have hn0:¬ 0=n:=by omega
  simp[EW,Uh,Ur,f1,f4,k0,aY.c3,al.ag,hlt,hx,hld,al.av];generalize hK1:Tr.put (Tr.put K n _) n _=K1;have g1:∀b,b<n->K1.get b=K.get b:=λ b hb=>by rw[<-hK1];simp[dj hb]
  have x1:K1.get n=some (.cells 10 [] (gq.cells q.ab[i]) .nil):=by rw[<-hK1];simp
  clear hK1;rw[qd]at x1;have N1:=(g1 0 n0).trans k0;have hcl:q.ab[i].cond.cells.length=8:=by simp
  have hzi:((i:Int)=0)=(i=0):=by simp
  generalize q.ab[i]=y at *;simp[Uq,x1];refine ao.pure (fw y.table) ?_
  by_cases h1:aD y.table
  ·by_cases h2:y.name=[]
   ·by_cases h0:i=0
    ·simp[h1,h2,x1,f4,h0,hcl];refine ao.pure AK ?_
     by_cases hb:y.cond.bare 0
     ·simp[hb,f4,h0,wC];exact⟨q.ab.length - 1,by omega,1,rfl,by omega,⟨by simp[f1],N1,by omega⟩,rfl,by simpa[h0]using next (by simp[Src.ok,h1,h2,h0,hb])⟩
     simp[hb,qk];exact hbad (no (by simp[Src.ok,h1,h2,h0,hb])) _ _ _ (by simp)
    simp[h1,h2,x1,f4,h0,hcl,show 0<i by omega];refine ao.pure pP ?_
    cases hm:y.cond.may with
    | true =>
     simp[f4,wC,hw];exact⟨_,by omega,i+1,rfl,hlt,⟨by simp[f1],N1,by omega⟩,rfl,next (by simp[Src.ok,h1,h2,h0,hm])⟩
    | false =>
     simp[qk];exact hbad (no (by simp[Src.ok,h1,h2,h0,hm])) _ _ _ (by simp)
   simp[h1,h2,x1];refine ao.pure (fw y.name) ?_
   by_cases h3:aD y.name
   ·by_cases h0:i=0
    ·simp[h3,x1,f4,h0,hcl];refine ao.pure AK ?_
     by_cases hb:y.cond.bare 0
     ·simp[hb,f4,h0,wC];exact⟨q.ab.length - 1,by omega,1,rfl,by omega,⟨by simp[f1],N1,by omega⟩,rfl,by simpa[h0]using next (by simp[Src.ok,h1,h3,h0,hb])⟩
     simp[hb,qk];exact hbad (no (by simp[Src.ok,h1,h3,h0,hb])) _ _ _ (by simp)
    simp[h3,x1,f4,h0,hcl,show 0<i by omega];refine ao.pure pP ?_
    cases hm:y.cond.may with
    | true =>
     simp[f4,wC,hw];exact⟨_,by omega,i+1,rfl,hlt,⟨by simp[f1],N1,by omega⟩,rfl,next (by simp[Src.ok,h1,h3,h0,hm])⟩
    | false =>
     simp[qk];exact hbad (no (by simp[Src.ok,h1,h3,h0,hm])) _ _ _ (by simp)
   simp[h3,qk];exact hbad (no (by simp[Src.ok,h1,h2,h3])) _ _ _ (by simp)
  simp[h1,qk];exact hbad (no (by simp[Src.ok,h1])) _ _ _ (by simp)
 obtain rfl:i=q.ab.length:=by omega
 have hall:eA q.ab=true:=(uP _).2 λ i h=>hj i h h;simp[EW,Uh,f1,f4,k0,aY.c3,al.ag];exact hok hall _ _ _ ⟨by simp[f1],k0,n0⟩
structure arJ (q:aY):Prop where
 c:q.cond.bare 0∨q.cond.may=true
 s4:q.ab.length<=4
 o16:q.order.length<=16
 l0:0<=q.limit
 l1:q.limited=true∨q.limit=0
 st:q.star=decide (q.items.length=0)
 il:q.items.length<=16
 it:q.items.all fK.ok=true
 sr:eA q.ab=true
 od:q.order.all Ord.ok=true
theorem Df (q:aY):q.may=true↔arJ q:=by
 unfold aY.may;simp only[Bool.and_eq_true,decide_eq_true_eq,Bool.or_eq_true,Ex.maybe];constructor
 ·rintro⟨⟨⟨⟨⟨⟨⟨⟨h1,h2⟩,h3⟩,h4⟩,h5⟩,h6⟩,h7⟩,h8⟩,h9⟩;refine⟨h1,h2,h3,h4,h5,?_,?_,h7,h8,h9⟩
  ·split at h6
   ·rename_i hs;rw[hs];simpa using h6
   rename_i hs;have:=of_decide_eq_true h6;simp at hs;rw[hs];symm;simp;intro h;simp[h]at this
  split at h6
  ·have:=of_decide_eq_true h6;omega
  have:=of_decide_eq_true h6;omega
 rintro⟨h1,h2,h3,h4,h5,h6,h7,h8,h9,h10⟩;refine⟨⟨⟨⟨⟨⟨⟨⟨h1,h2⟩,h3⟩,h4⟩,h5⟩,?_⟩,h8⟩,h9⟩,h10⟩
 by_cases h:q.items.length=0
 ·rw[h6,decide_eq_true h];simp
 rw[h6,decide_eq_false h];simp;omega
theorem aad (q:aY)(hi:q.items.length<=lim)(hs:q.ab.length<=lim)(ho:q.order.length<=lim)(hz1:∀x∈q.items,x.e.sz<=lim)(hz2:∀x∈q.ab,x.cond.sz<=lim)(hz3:q.cond.sz<=lim):ai pG 82 [q.av] (.bool q.may):=by
 have hM:=Df q;have no:¬arJ q->q.may=false:=λ h=>by rw[Bool.eq_false_iff];exact λ h2=>h (hM.1 h2)
 have Od:=vm q.cond hz3;have h80:=Ai q.cond hz3;have pP:ai pG 81 [.agg q.cond.cells 8] (.bool q.cond.may):=Od;have AK:ai pG 80 [.agg q.cond.cells 8] (.bool (decide (q.cond.bare 0))):=h80;have hcc:=q.cc;have hcl:q.cond.cells.length=8:=by simp
 have fo:=q.aA;have c1:=q.c1;have c2:=q.c2;have c3:=q.c3;have c12:=q.c12;have c13:=q.c13;have c14:=q.c14;have gN:q.av=.agg q.cells 15:=rfl;refine bf c82 (by simp[aY.av,aY.pure]) (by simp) (by simp[A82]) λ F hF=>?_;rw[gN]at hF
 have tail:(q.cond.bare 0∨q.cond.may=true)->q.ab.length<=4->q.order.length<=16->0<=q.limit->(q.limited=true∨q.limit=0)->q.star=decide (q.items.length=0)->q.items.length<=16->∀F:Fr,F.get 1=some (.ptr 0 0)->VC pG (.seq (.seq Um (.block 0 (.loop EX))) (.seq (.seq Ui (.block 2 (.loop EW))) (.seq (.seq G4 (.block 4 (.loop EV))) (.seq G0 .ret)))) F ((Tr.nil:Hp).put 0 (some (.cells 15 [] q.cells .nil))) 1 [] (iR [aP 2] λ v1 H' _=>dU H'.get v1 (.bool q.may)):=by
  intro a1 a2 a3 a4 a5 a6 a7 F f1;simp[Um];refine PY q hi hz1 _ _ _ _ ⟨by simp[f1],by simp,by omega⟩ (by simp) (λ hb F f2=>?_) λ b1 F S=>?_
  ·simp[f2];exact .bool (no λ h=>by rw[h.it]at hb;cases hb).symm
  simp[Ui];refine PX q hs hz2 _ _ _ _ ⟨by simp[S.f1],S.k0,S.n0⟩ (by simp) (λ hb F K n f2=>?_) λ b2 F K n S=>?_
  ·simp[f2];exact .bool (no λ h=>by rw[h.sr]at hb;cases hb).symm
  simp[G4];refine PW q ho _ _ _ _ ⟨by simp[S.f1],S.k0,S.n0⟩ (by simp) (λ hb F f2=>?_) λ b3 F S=>?_
  ·simp[f2];exact .bool (no λ h=>by rw[h.od]at hb;cases hb).symm
  simp[G0];exact .bool (hM.2 ⟨a1,a2,a3,a4,a5,a6,a7,b1,b2,b3⟩).symm
 have hms:q.may=q.may:=rfl;generalize q.cells=qc at *
 by_cases a6:q.star=decide (q.items.length=0)
 ·have e1 : (q.star != decide (q.items=[]))=false:=by rw[a6];simp
  by_cases a7:q.items.length<=16
  ·skip
   by_cases a2:q.ab.length<=4
   ·skip
    by_cases a3:q.order.length<=16
    ·skip
     by_cases a4:0<=q.limit
     ·skip
      by_cases a5:q.limited=true
      ·simp[A82,B82,rB,rA,hF,fo,c1,c2,c3,c12,c13,c14,al.ag,e1,hcc,show ¬(16:Int)<(q.items.length:Int) by omega,show ¬(4:Int)<(q.ab.length:Int) by omega,show ¬(16:Int)<(q.order.length:Int) by omega,show ¬q.limit<0 by omega,a5];refine ao.pure AK ?_
       by_cases hb:q.cond.bare 0
       ·simp[hb];rw[<-bA];exact tail (.inl hb) a2 a3 a4 (.inl a5) a6 a7 _ (by simp)
       simp[hb,fo,hcc];refine ao.pure pP ?_
       cases hm:q.cond.may with
       | true =>
        simp;rw[<-bA];exact tail (.inr hm) a2 a3 a4 (.inl a5) a6 a7 _ (by simp)
       | false =>
        simp[ry];exact .bool (no λ h=>by rcases h.c with h | h;exact hb h;rw[hm]at h;cases h).symm
      by_cases a5':q.limit=0
      ·simp[A82,B82,rB,rA,hF,fo,c1,c2,c3,c12,c13,c14,al.ag,e1,hcc,show ¬(16:Int)<(q.items.length:Int) by omega,show ¬(4:Int)<(q.ab.length:Int) by omega,show ¬(16:Int)<(q.order.length:Int) by omega,show ¬q.limit<0 by omega,a5,a5'];refine ao.pure AK ?_
       by_cases hb:q.cond.bare 0
       ·simp[hb];rw[<-bA];exact tail (.inl hb) a2 a3 a4 (.inr a5') a6 a7 _ (by simp)
       simp[hb,fo,hcc];refine ao.pure pP ?_
       cases hm:q.cond.may with
       | true =>
        simp;rw[<-bA];exact tail (.inr hm) a2 a3 a4 (.inr a5') a6 a7 _ (by simp)
       | false =>
        simp[ry];exact .bool (no λ h=>by rcases h.c with h | h;exact hb h;rw[hm]at h;cases h).symm
      simp[A82,B82,rB,rA,ry,hF,fo,c1,c2,c3,c12,c13,c14,al.ag,e1,show ¬(16:Int)<(q.items.length:Int) by omega,show ¬(4:Int)<(q.ab.length:Int) by omega,show ¬(16:Int)<(q.order.length:Int) by omega,show ¬q.limit<0 by omega,a5,a5'];exact .bool (no λ h=>h.l1.elim a5 a5').symm
     simp[A82,B82,rB,rA,ry,hF,fo,c1,c2,c3,c12,c14,al.ag,e1,show ¬(16:Int)<(q.items.length:Int) by omega,show ¬(4:Int)<(q.ab.length:Int) by omega,show ¬(16:Int)<(q.order.length:Int) by omega,show q.limit<0 by omega];exact .bool (no λ h=>a4 h.l0).symm
    simp[A82,B82,rB,rA,ry,hF,fo,c1,c2,c3,c12,al.ag,e1,show ¬(16:Int)<(q.items.length:Int) by omega,show ¬(4:Int)<(q.ab.length:Int) by omega,show (16:Int)<(q.order.length:Int) by omega];exact .bool (no λ h=>a3 h.o16).symm
   simp[A82,B82,rB,rA,ry,hF,fo,c1,c2,c3,al.ag,e1,show ¬(16:Int)<(q.items.length:Int) by omega,show (4:Int)<(q.ab.length:Int) by omega];exact .bool (no λ h=>a2 h.s4).symm
  simp[A82,B82,rB,rA,ry,hF,fo,c1,c2,al.ag,e1,show (16:Int)<(q.items.length:Int) by omega];exact .bool (no λ h=>a7 h.il).symm
 have e1:(q.star != decide (q.items=[]))=true:=by
  rw[bne_iff_ne];intro h;exact a6 (by rw[h];simp)
 simp[A82,B82,rB,rA,ry,hF,fo,c1,c2,al.ag,e1];exact .bool (no λ h=>a6 h.st).symm
structure ew.sm (b:ew):Prop where
 t:b.table.ae.length<=lim
 x:b.index.ae.length<=lim
 c:b.ae.length<=lim
 r:b.rows.length<=lim
 rz:∀r∈b.rows,r.length<=lim/\∀e∈r,e.sz<=lim
 nw:b.new.length<=lim/\∀e∈b.new,e.sz<=lim
 o:b.on.length<=lim
 oz:∀r∈b.on,r.length<=lim/\∀e∈r,e.sz<=lim
 cd:b.cond.length<=lim/\∀e∈b.cond,e.sz<=lim
 it:b.items.length<=lim/\∀e∈b.items,e.sz<=lim
 nm:b.names.length<=lim
 k:b.kinds.length<=lim
 od:b.order.length<=lim
 f:b.Fa.length<=lim
 fc:∀t∈b.Fa,t.ae.length<=lim
structure SbF (F:Fr)(K:Hp)(cs:List AV):Prop where
 f2:F.get 2=some (.ptr 0 0)
 f3:F.get 3=some (.ptr 1 0)
 k0:K.get 0=some (.cells 25 [] cs .nil)
 k1:K.get 1=some (.cells 25 [] cs .nil)
theorem Z4 (b:ew)(hb:b.sm)(F:Fr)(K:Hp)(n:Nat)(Q:QA)(S:SbF F K b.cells)(f5:F.get 5=some (.int .i64 0))(hQ:∀F,SbF F K b.cells->Q .normal F K n []):au ab9 pG F K n [] (bX 0 Q):=by
 have hl:=hb.k;unfold lim at hl;have h20:∀h,b.cells[20]'h=bR.ds b.kinds:=λ h=>by simp[ew.cells]
 have hbl:b.cells.length=25:=rfl;refine au.of (λ q F K' n' ms=>∃i:Nat,q=b.kinds.length - i/\i<=b.kinds.length/\SbF F K b.cells/\F.get 5=some (.int .i64 (i:Int))/\K'=K/\n'=n/\ms=[]) b.kinds.length ⟨0,by simp,by omega,S,by simpa using f5,rfl,rfl,rfl⟩ ?_;clear S f5 F;rintro q F K' n' ms ⟨i,rfl,hi,⟨f2,f3,k0,k1⟩,f5,rfl,rfl,rfl⟩;generalize b.cells=cs at *
 by_cases hlt:i<b.kinds.length
 ·have hx:=bR.ix (ik:=.i64) hlt;rw[eR]at hx;simp only[ab9,akH,aqv];simp[f2,f5,k0,h20,hbl,al.ag,hlt];refine bY.of (bH (P:=pG)) ?_;simp[aa,f2,f3,f5,k0,k1,h20,hbl,hx,aqu,ah i (by omega)];exact⟨_,by omega,i+1,rfl,hlt,⟨by simp[aa,f2],by simp[aa,f3],k0,k1⟩,rfl⟩
 obtain rfl:i=b.kinds.length:=by omega
 simp[ab9,akH,f2,f5,k0,h20,hbl,al.ag];exact hQ _ ⟨by simp[f2],by simp[f3],k0,k1⟩
theorem Z3 (b:ew)(hb:b.sm)(F:Fr)(K:Hp)(n:Nat)(Q:QA)(S:SbF F K b.cells)(f6:F.get 6=some (.int .i64 0))(hQ:∀F,SbF F K b.cells->Q .normal F K n []):au ab8 pG F K n [] (bX 2 Q):=by
 have hl:=hb.od;unfold lim at hl;have h20:∀h,b.cells[21]'h=sA.ds b.order:=λ h=>by simp[ew.cells]
 have hbl:b.cells.length=25:=rfl;refine au.of (λ q F K' n' ms=>∃i:Nat,q=b.order.length - i/\i<=b.order.length/\SbF F K b.cells/\F.get 6=some (.int .i64 (i:Int))/\K'=K/\n'=n/\ms=[]) b.order.length ⟨0,by simp,by omega,S,by simpa using f6,rfl,rfl,rfl⟩ ?_;clear S f6 F;rintro q F K' n' ms ⟨i,rfl,hi,⟨f2,f3,k0,k1⟩,f6,rfl,rfl,rfl⟩;generalize b.cells=cs at *
 by_cases hlt:i<b.order.length
 ·have hx:=sA.ix (ik:=.i64) hlt;have hld:=λ r H=>sA.gM b.order[i] r H;simp only[Gj,al.av,cons_append,nil_append]at hx hld;simp only[ab8,Uw,aeC];simp[f2,f6,k0,h20,hbl,al.ag,hlt];refine bY.of (bH (P:=pG)) ?_;simp[aa,f2,f3,f6,k0,k1,h20,hbl,hx,hld,aeB,ah i (by omega)];exact⟨_,by omega,i+1,rfl,hlt,⟨by simp[aa,f2],by simp[aa,f3],k0,k1⟩,rfl⟩
 obtain rfl:i=b.order.length:=by omega
 simp[ab8,Uw,f2,f6,k0,h20,hbl,al.ag];exact hQ _ ⟨by simp[f2],by simp[f3],k0,k1⟩
theorem Z2 (b:ew)(hb:b.sm)(F:Fr)(K:Hp)(n:Nat)(Q:QA)(S:SbF F K b.cells)(f7:F.get 7=some (.int .i64 0))(hQ:∀F,SbF F K b.cells->Q .normal F K n []):au ab7 pG F K n [] (bX 4 Q):=by
 have hl:=hb.f;unfold lim at hl;have h20:∀h,b.cells[15]'h=aG.ds b.Fa:=λ h=>by simp[ew.cells]
 have hbl:b.cells.length=25:=rfl;refine au.of (λ q F K' n' ms=>∃i:Nat,q=b.Fa.length - i/\i<=b.Fa.length/\SbF F K b.cells/\F.get 7=some (.int .i64 (i:Int))/\K'=K/\n'=n/\ms=[]) b.Fa.length ⟨0,by simp,by omega,S,by simpa using f7,rfl,rfl,rfl⟩ ?_;clear S f7 F;rintro q F K' n' ms ⟨i,rfl,hi,⟨f2,f3,k0,k1⟩,f7,rfl,rfl,rfl⟩;generalize b.cells=cs at *
 by_cases hlt:i<b.Fa.length
 ·have hx:=aG.ix (ik:=.i64) hlt;have hld:=λ r H=>aG.gM b.Fa[i] r H;have h37:=Fx b.Fa[i] (hb.fc _ (getElem_mem hlt));simp only[ab7,Uv,aez];simp[f2,f7,k0,h20,hbl,al.ag,hlt];refine bY.of (fP (l:=[⟨26,[aG.av b.Fa[i],aG.av b.Fa[i]],K',n',.bool true,K',n'⟩]) ?_) ?_
  ·simp only[mem_singleton];rintro c rfl;exact h37.gY K' n'
  simp[aa,f2,f3,f7,k0,k1,h20,hbl,hx,hld,fQ,aey,ah i (by omega)];exact⟨_,by omega,i+1,rfl,hlt,⟨by simp[aa,f2],by simp[aa,f3],k0,k1⟩,rfl⟩
 obtain rfl:i=b.Fa.length:=by omega
 simp[ab7,Uv,f2,f7,k0,h20,hbl,al.ag];exact hQ _ ⟨by simp[f2],by simp[f3],k0,k1⟩
theorem aiH (b:ew)(hb:b.sm):ai pG 7 [.agg b.cells 25,.agg b.cells 25] (.bool true):=by
 have h37:=Fx b.table hb.t;have h38:=Po b.index hb.x;have h39:=Fw b.ae hb.c;have avP:=Pn b.rows hb.r hb.rz;have avO:=Pn b.on hb.o hb.oz;have avM:=uT b.new hb.nw.1 hb.nw.2;have avL:=uT b.cond hb.cd.1 hb.cd.2;have avK:=uT b.items hb.it.1 hb.it.2;have h42:=Fv b.names hb.nm;refine bf c7 (by simp) (by simp) (by simp[A7]) λ F hF=>?_;have hbl:b.cells.length=25:=rfl;have g0:∀h,b.cells[0]'h=.int .i64 b.kind:=λ h=>by simp[ew.cells]
 have g1:∀h,b.cells[1]'h=.str b.name:=λ h=>by simp[ew.cells]
 have g12:∀h,b.cells[12]'h=aW.ds b.ae:=λ h=>by simp[ew.cells]
 have g13:∀h,b.cells[13]'h=dw.ds b.rows:=λ h=>by simp[ew.cells]
 have g14:∀h,b.cells[14]'h=dz.ds b.new:=λ h=>by simp[ew.cells]
 have g15:∀h,b.cells[15]'h=aG.ds b.Fa:=λ h=>by simp[ew.cells]
 have g16:∀h,b.cells[16]'h=dw.ds b.on:=λ h=>by simp[ew.cells]
 have g17:∀h,b.cells[17]'h=dz.ds b.cond:=λ h=>by simp[ew.cells]
 have g18:∀h,b.cells[18]'h=dz.ds b.items:=λ h=>by simp[ew.cells]
 have g19:∀h,b.cells[19]'h=bB.ds b.names:=λ h=>by simp[ew.cells]
 have g20:∀h,b.cells[20]'h=bR.ds b.kinds:=λ h=>by simp[ew.cells]
 have g21:∀h,b.cells[21]'h=sA.ds b.order:=λ h=>by simp[ew.cells]
 have g22:∀h,b.cells[22]'h=.bool b.jA:=λ h=>by simp[ew.cells]
 have g23:∀h,b.cells[23]'h=.bool b.limited:=λ h=>by simp[ew.cells]
 have g24:∀h,b.cells[24]'h=.int .i64 b.limit:=λ h=>by simp[ew.cells]
 have gt:(b.cells.drop 2).take 4=aG.cells b.table:=rfl;have gx:(b.cells.drop 6).take 6=bC.cells b.index:=rfl;generalize hcs:b.cells=cs at *;have e37:ai pG 26 [.agg (aG.cells b.table) 4,.agg (aG.cells b.table) 4] (.bool true):=h37;have e38:ai pG 27 [.agg (bC.cells b.index) 6,.agg (bC.cells b.index) 6] (.bool true):=h38;simp only[A7,B7,aqB,aqA,aqx];simp[hF,hbl,g0,g1,g22,g23,g24,gt];refine ao.pure e37 ?_;simp[hbl,gx];refine ao.pure e38 ?_;simp[hbl,g12];refine ao.pure h39 ?_;simp[hbl,g13];refine ao.pure avP ?_;simp[hbl,g14];refine ao.pure avM ?_;simp[hbl,g16];refine ao.pure avO ?_;simp[hbl,g17];refine ao.pure avL ?_;simp[hbl,g18];refine ao.pure avK ?_;simp[hbl,g19];refine ao.pure h42 ?_;simp[hbl,g15,g20,g21,al.ag,aqw];refine Z4 b hb _ _ _ _ ⟨by simp,by simp,by rw[hcs];simp,by rw[hcs];simp⟩ (by simp) λ F1 ⟨f2,f3,_,_⟩=>?_;simp[aeD];refine Z3 b hb _ _ _ _ ⟨by simp[f2],by simp[f3],by rw[hcs];simp,by rw[hcs];simp⟩ (by simp) λ F1 ⟨f2,f3,_,_⟩=>?_;simp[aeA];refine Z2 b hb _ _ _ _ ⟨by simp[f2],by simp[f3],by rw[hcs];simp,by rw[hcs];simp⟩ (by simp) λ F1 ⟨f2,f3,_,_⟩=>?_;simp[aex];exact .bool rfl
theorem Z1 (l l':List eW)(hl:l.length<=lim)(h:l'=l∨l'=[]):ai pG 28 [aW.ds l,aW.ds l'] (.bool (decide (l.length=l'.length))):=by
 rcases h with rfl | rfl
 ·simpa using Fw l' hl
 by_cases h0:l=[]
 ·subst h0;simpa using Fw [] (by simp)
 refine bf c28 (by simp) (by simp) (by simp[A28]) λ F hF=>?_;simp[A28,B28,VU,VT,agZ,hF,al.ag,h0];exact .bool rfl
theorem Z0 (l l':List (List Nat))(hl:l.length<=lim)(h:l'=l∨l'=[]):ai pG 31 [bB.ds l,bB.ds l'] (.bool (decide (l.length=l'.length))):=by
 rcases h with rfl | rfl
 ·simpa using Fv l' hl
 by_cases h0:l=[]
 ·subst h0;simpa using Fv [] (by simp)
 refine bf c31 (by simp) (by simp) (by simp[A31]) λ F hF=>?_;simp[A31,B31,VO,VN,agI,hF,al.ag,h0];exact .bool rfl
def gf (q p:aY):Bool:=decide (q.jA=p.jA/\q.star=p.star/\q.limited=p.limited/\q.limit=p.limit/\q.items.length=p.items.length/\q.ab.length=p.ab.length/\q.order.length=p.order.length/\q.cond=p.cond)
structure Bo (qc pc:List AV)(F:Fr)(K:Hp):Prop where
 f2:F.get 2=some (.ptr 0 0)
 f3:F.get 3=some (.ptr 1 0)
 k0:K.get 0=some (.cells 15 [] qc .nil)
 k1:K.get 1=some (.cells 15 [] pc .nil)
theorem NB (q p:aY)(he:p.items=q.items)(hl:q.items.length<=lim)(hz:∀x∈q.items,x.e.sz<=lim)(F:Fr)(K:Hp)(n:Nat)(Q:QA)(S:Bo q.cells p.cells F K)(f5:F.get 5=some (.int .i64 0))(hQ:∀F,Bo q.cells p.cells F K->Q .normal F K n []):au xA pG F K n [] (bX 0 Q):=by
 unfold lim at hl;have hc:=q.c2;have hd:=p.c2;rw[he]at hd;have fo:=q.aA;have hpl:=p.aA;refine au.of (λ g F K' n' ms=>∃i:Nat,g=q.items.length - i/\i<=q.items.length/\Bo q.cells p.cells F K/\F.get 5=some (.int .i64 (i:Int))/\K'=K/\n'=n/\ms=[]) q.items.length ⟨0,by simp,by omega,S,by simpa using f5,rfl,rfl,rfl⟩ ?_;clear S f5 F;rintro g F K' n' ms ⟨i,rfl,hi,⟨f2,f3,k0,k1⟩,f5,rfl,rfl,rfl⟩;generalize q.cells=qc at *;generalize p.cells=pc at *
 by_cases hlt:i<q.items.length
 ·have hx:=jq.ix (ik:=.i64) hlt;rw[vV,append_assoc]at hx;have FZ:=mN q.items[i].e q.items[i].e (hz _ (getElem_mem hlt)) (hz _ (getElem_mem hlt));rw[Ex.gA]at FZ;have FY:ai pG 92 [.agg q.items[i].e.cells 8,.agg q.items[i].e.cells 8] (.bool true):=FZ;have hld:=λ r H=>dz.gM q.items[i].e r H;simp only[nj,al.av]at hld;simp only[xA,IW,Yg];simp[f2,f5,k0,hc,fo,al.ag,hlt];refine bY.of (fP (l:=[⟨92,[.agg q.items[i].e.cells 8,.agg q.items[i].e.cells 8],K',n',.bool true,K',n'⟩]) ?_) ?_
  ·simp only[mem_singleton];rintro c rfl;exact FY.gY K' n'
  simp[aa,f2,f3,f5,k0,k1,hc,hd,fo,hpl,hx,hld,fQ,Yf,ah i (by omega)];exact⟨_,by omega,i+1,rfl,hlt,⟨by simp[aa,f2],by simp[aa,f3],k0,k1⟩,rfl⟩
 obtain rfl:i=q.items.length:=by omega
 simp[xA,IW,f2,f5,k0,hc,fo,al.ag];exact hQ _ ⟨by simp[f2],by simp[f3],k0,k1⟩
theorem NA (q p:aY)(he:p.ab=q.ab)(hl:q.ab.length<=lim)(hz:∀x∈q.ab,x.cond.sz<=lim)(F:Fr)(K:Hp)(n:Nat)(Q:QA)(S:Bo q.cells p.cells F K)(f5:F.get 6=some (.int .i64 0))(hQ:∀F,Bo q.cells p.cells F K->Q .normal F K n []):au xz pG F K n [] (bX 2 Q):=by
 unfold lim at hl;have hc:=q.c3;have hd:=p.c3;rw[he]at hd;have fo:=q.aA;have hpl:=p.aA;refine au.of (λ g F K' n' ms=>∃i:Nat,g=q.ab.length - i/\i<=q.ab.length/\Bo q.cells p.cells F K/\F.get 6=some (.int .i64 (i:Int))/\K'=K/\n'=n/\ms=[]) q.ab.length ⟨0,by simp,by omega,S,by simpa using f5,rfl,rfl,rfl⟩ ?_;clear S f5 F;rintro g F K' n' ms ⟨i,rfl,hi,⟨f2,f3,k0,k1⟩,f5,rfl,rfl,rfl⟩;generalize q.cells=qc at *;generalize p.cells=pc at *
 by_cases hlt:i<q.ab.length
 ·have hx:=gq.ix (ik:=.i64) hlt;rw[qd]at hx;have FZ:=mN q.ab[i].cond q.ab[i].cond (hz _ (getElem_mem hlt)) (hz _ (getElem_mem hlt));rw[Ex.gA]at FZ;have FY:ai pG 92 [.agg q.ab[i].cond.cells 8,.agg q.ab[i].cond.cells 8] (.bool true):=FZ;have hld:=λ r H=>dz.gM q.ab[i].cond r H;simp only[nj,al.av]at hld;simp only[xz,IU,LI];simp[f2,f5,k0,hc,fo,al.ag,hlt];refine bY.of (fP (l:=[⟨92,[.agg q.ab[i].cond.cells 8,.agg q.ab[i].cond.cells 8],K',n',.bool true,K',n'⟩]) ?_) ?_
  ·simp only[mem_singleton];rintro c rfl;exact FY.gY K' n'
  simp[aa,f2,f3,f5,k0,k1,hc,hd,fo,hpl,hx,hld,fQ,LH,ah i (by omega)];exact⟨_,by omega,i+1,rfl,hlt,⟨by simp[aa,f2],by simp[aa,f3],k0,k1⟩,rfl⟩
 obtain rfl:i=q.ab.length:=by omega
 simp[xz,IU,f2,f5,k0,hc,fo,al.ag];exact hQ _ ⟨by simp[f2],by simp[f3],k0,k1⟩
theorem Nz (q p:aY)(he:p.order=q.order)(hl:q.order.length<=lim)(F:Fr)(K:Hp)(n:Nat)(Q:QA)(S:Bo q.cells p.cells F K)(f5:F.get 7=some (.int .i64 0))(hQ:∀F,Bo q.cells p.cells F K->Q .normal F K n []):au xy pG F K n [] (bX 4 Q):=by
 unfold lim at hl;have hc:=q.c12;have hd:=p.c12;rw[he]at hd;have fo:=q.aA;have hpl:=p.aA;refine au.of (λ g F K' n' ms=>∃i:Nat,g=q.order.length - i/\i<=q.order.length/\Bo q.cells p.cells F K/\F.get 7=some (.int .i64 (i:Int))/\K'=K/\n'=n/\ms=[]) q.order.length ⟨0,by simp,by omega,S,by simpa using f5,rfl,rfl,rfl⟩ ?_;clear S f5 F;rintro g F K' n' ms ⟨i,rfl,hi,⟨f2,f3,k0,k1⟩,f5,rfl,rfl,rfl⟩;generalize q.cells=qc at *;generalize p.cells=pc at *
 by_cases hlt:i<q.order.length
 ·have hx:=jm.ix (ik:=.i64) hlt;have hld:=λ r H=>jm.gM q.order[i] r H;simp only[vU,al.av,cons_append,nil_append]at hx hld;simp only[xy,Cx,LG];simp[f2,f5,k0,hc,fo,al.ag,hlt];refine bY.of (bH (P:=pG)) ?_;simp[aa,f2,f3,f5,k0,k1,hc,hd,fo,hpl,hx,hld,LF,ah i (by omega)];exact⟨_,by omega,i+1,rfl,hlt,⟨by simp[aa,f2],by simp[aa,f3],k0,k1⟩,rfl⟩
 obtain rfl:i=q.order.length:=by omega
 simp[xy,Cx,f2,f5,k0,hc,fo,al.ag];exact hQ _ ⟨by simp[f2],by simp[f3],k0,k1⟩
theorem P9 (q p : aY) (hp:p=q∨p=gI) (hi:q.items.length<=lim) (hs:q.ab.length<=lim) (ho:q.order.length<=lim) (hz1:∀x∈q.items,x.e.sz<=lim) (hz2:∀x∈q.ab,x.cond.sz<=lim) (hz3:q.cond.sz<=lim):
  ai pG 114 [.agg q.cells 15,.agg p.cells 15] (.bool (gf q p)):=by
 have hz4:p.cond.sz<=lim:=by
  rcases hp with rfl | rfl
  ·exact hz3
  simp[gI,jy,Ex.sz,Ex.mB,lim]
 have hfi:q.items.length=p.items.length->p.items=q.items:=λ h=>by
  rcases hp with rfl | rfl
  ·rfl
  exact(length_eq_zero_iff.1 h).symm
 have hfs:q.ab.length=p.ab.length->p.ab=q.ab:=λ h=>by
  rcases hp with rfl | rfl
  ·rfl
  exact(length_eq_zero_iff.1 h).symm
 have hfo:q.order.length=p.order.length->p.order=q.order:=λ h=>by
  rcases hp with rfl | rfl
  ·rfl
  exact(length_eq_zero_iff.1 h).symm
 have FZ:ai pG 92 [.agg q.cond.cells 8,.agg p.cond.cells 8] (.bool (q.cond.same p.cond)):=mN q.cond p.cond hz3 hz4;refine bf c114 (by simp[aY.pure]) (by simp) (by simp[A114]) λ F hF=>?_;have fo:=q.aA;have hpl:=p.aA;have qcc:=q.cc;have pcc:=p.cc;have q0:=q.c0;have p0:=p.c0;have q1:=q.c1;have p1:=p.c1;have q2:=q.c2;have p2:=p.c2;have q3:=q.c3;have p3:=p.c3;have q12:=q.c12;have p12:=p.c12;have q13:=q.c13;have p13:=p.c13;have q14:=q.c14;have p14:=p.c14
 have tail:gf q p=true->p.items=q.items->p.ab=q.ab->p.order=q.order->∀F:Fr,F.get 2=some (.ptr 0 0)->F.get 3=some (.ptr 1 0)->VC pG (.seq (.seq IX (.block 0 (.loop xA))) (.seq (.seq IV (.block 2 (.loop xz))) (.seq (.seq Cy (.block 4 (.loop xy))) (.seq Cw .ret)))) F (((Tr.nil:Hp).put 0 (some (.cells 15 [] q.cells .nil))).put 1 (some (.cells 15 [] p.cells .nil))) 2 [] (iR [aP 4] λ v1 H' _=>dU H'.get v1 (.bool (gf q p))):=by
  intro hb e1 e2 e3 F f2 f3;rw[hb];simp[IX];refine NB q p e1 hi hz1 _ _ _ _ ⟨by simp[f2],by simp[f3],by simp,by simp⟩ (by simp) λ F S=>?_;simp[IV];refine NA q p e2 hs hz2 _ _ _ _ ⟨by simp[S.f2],by simp[S.f3],by simp,by simp⟩ (by simp) λ F S=>?_;simp[Cy];refine Nz q p e3 ho _ _ _ _ ⟨by simp[S.f2],by simp[S.f3],by simp,by simp⟩ (by simp) λ F S=>?_;simp[Cw];exact .bool rfl
 generalize q.cells=qc at *;generalize p.cells=pc at *
 by_cases h1:q.jA=p.jA
 ·skip
  by_cases h2:q.star=p.star
  ·skip
   by_cases h3:q.limited=p.limited
   ·skip
    by_cases h4:q.limit=p.limit
    ·skip
     by_cases h5:q.items.length=p.items.length
     ·skip
      by_cases h6:q.ab.length=p.ab.length
      ·skip
       by_cases h7:q.order.length=p.order.length
       ·skip
        simp[A114,B114,mb,ma,hF,fo,hpl,q0,p0,q1,p1,q2,p2,q3,p3,q12,p12,q13,p13,q14,p14,al.ag,qcc,pcc,h1,h2,h3,h4,h5,h6,h7];refine ao.pure FZ ?_
        by_cases h8:q.cond=p.cond
        ·have hb:q.cond.same p.cond=true:=by rw[h8];exact Ex.gA _
         simp[hb];rw[<-bA];exact tail (by simp[gf,h1,h2,h3,h4,h5,h6,h7,h8]) (hfi h5) (hfs h6) (hfo h7) _ (by simp) (by simp)
        have hb:=Ex.qH h8;simp[hb,l9];exact .bool (by simp[gf,h8])
       simp[A114,B114,mb,ma,hF,fo,hpl,q0,p0,q1,p1,q2,p2,q3,p3,q12,p12,q13,p13,q14,p14,al.ag,l9,h1,h2,h3,h4,h5,h6,h7];exact .bool (by simp[gf,h7])
      simp[A114,B114,mb,ma,hF,fo,hpl,q0,p0,q1,p1,q2,p2,q3,p3,q13,p13,q14,p14,al.ag,l9,h1,h2,h3,h4,h5,h6];exact .bool (by simp[gf,h6])
     simp[A114,B114,mb,ma,hF,fo,hpl,q0,p0,q1,p1,q2,p2,q13,p13,q14,p14,al.ag,l9,h1,h2,h3,h4,h5];exact .bool (by simp[gf,h5])
    simp[A114,B114,mb,ma,hF,fo,hpl,q0,p0,q1,p1,q13,p13,q14,p14,l9,h1,h2,h3,h4];exact .bool (by simp[gf,h4])
   simp[A114,B114,mb,ma,hF,fo,hpl,q0,p0,q1,p1,q13,p13,l9,h1,h2,bne_iff_ne.2 h3];exact .bool (by simp[gf,h3])
  simp[A114,B114,mb,ma,hF,fo,hpl,q0,p0,q1,p1,l9,h1,bne_iff_ne.2 h2];exact .bool (by simp[gf,h2])
 simp[A114,B114,mb,ma,hF,fo,hpl,q0,p0,l9,bne_iff_ne.2 h1];exact .bool (by simp[gf,h1])
theorem aE.c0' (x:aE)(h:0<x.cells.length):x.cells[0]=.int .i64 x.kind:=by simp[aE.cells]
structure aik (x t:aE):Prop where
 ae:t.ae=x.ae∨t.ae=[]
 on:t.on=x.on∨t.on=[]
 rows:t.rows=x.rows∨t.rows=[]
 sets:t.sets=x.sets∨t.sets=[]
 q:t.q=x.q∨t.q=gI
def fq (x t:aE):Bool:=decide (x.kind=t.kind/\x.table=t.table/\x.name=t.name/\x.uniq=t.uniq/\x.ae.length=t.ae.length/\x.on.length=t.on.length/\x.cond=t.cond/\gf x.q t.q=true/\x.rows.length=t.rows.length/\x.sets.length=t.sets.length)
structure S83 (xc tc:List AV)(F:Fr)(K:Hp):Prop where
 f2:F.get 2=some (.ptr 0 0)
 f3:F.get 3=some (.ptr 1 0)
 k0:K.get 0=some (.cells 31 [] xc .nil)
 k1:K.get 1=some (.cells 31 [] tc .nil)
theorem ZX (x t:aE)(he:t.rows=x.rows)(hl:x.rows.length<=lim)(hz:∀r∈x.rows,r.length<=lim/\∀y∈r,y.sz<=lim)(F:Fr)(K:Hp)(n:Nat)(Q:QA)(S:S83 x.cells t.cells F K)(f5:F.get 5=some (.int .i64 0))(hQ:∀F,S83 x.cells t.cells F K->Q .normal F K n []):au EU pG F K n [] (bX 0 Q):=by
 unfold lim at hl;have hc:=x.c6;have hd:=t.c6;rw[he]at hd;have fo:=x.aA;have hpl:=t.aA;refine au.of (λ g F K' n' ms=>∃i:Nat,g=x.rows.length - i/\i<=x.rows.length/\S83 x.cells t.cells F K/\F.get 5=some (.int .i64 (i:Int))/\K'=K/\n'=n/\ms=[]) x.rows.length ⟨0,by simp,by omega,S,by simpa using f5,rfl,rfl,rfl⟩ ?_;clear S f5 F;rintro g F K' n' ms ⟨i,rfl,hi,⟨f2,f3,k0,k1⟩,f5,rfl,rfl,rfl⟩;generalize x.cells=qc at *;generalize t.cells=pc at *
 by_cases hlt:i<x.rows.length
 ·have hx:=dw.ix (ik:=.i64) hlt;rw[jR]at hx;have h30:=uT x.rows[i] (hz _ (getElem_mem hlt)).1 (hz _ (getElem_mem hlt)).2;simp only[EU,Ud,aeq];simp[f2,f5,k0,hc,fo,al.ag,hlt];refine bY.of (fP (l:=[⟨30,[dz.ds x.rows[i],dz.ds x.rows[i]],K',n',.bool true,K',n'⟩]) ?_) ?_
  ·simp only[mem_singleton];rintro c rfl;exact h30.gY K' n'
  simp[aa,f2,f3,f5,k0,k1,hc,hd,fo,hpl,hx,fQ,aep,ah i (by omega)];exact⟨_,by omega,i+1,rfl,hlt,⟨by simp[aa,f2],by simp[aa,f3],k0,k1⟩,rfl⟩
 obtain rfl:i=x.rows.length:=by omega
 simp[EU,Ud,f2,f5,k0,hc,fo,al.ag];exact hQ _ ⟨by simp[f2],by simp[f3],k0,k1⟩
theorem ZW (x t:aE)(he:t.sets=x.sets)(hl:x.sets.length<=lim)(hz:∀y∈x.sets,y.e.sz<=lim)(F:Fr)(K:Hp)(n:Nat)(Q:QA)(S:S83 x.cells t.cells F K)(f5:F.get 6=some (.int .i64 0))(hQ:∀F,S83 x.cells t.cells F K->Q .normal F K n []):au ET pG F K n [] (bX 2 Q):=by
 unfold lim at hl;have hc:=x.c7;have hd:=t.c7;rw[he]at hd;have fo:=x.aA;have hpl:=t.aA;refine au.of (λ g F K' n' ms=>∃i:Nat,g=x.sets.length - i/\i<=x.sets.length/\S83 x.cells t.cells F K/\F.get 6=some (.int .i64 (i:Int))/\K'=K/\n'=n/\ms=[]) x.sets.length ⟨0,by simp,by omega,S,by simpa using f5,rfl,rfl,rfl⟩ ?_;clear S f5 F;rintro g F K' n' ms ⟨i,rfl,hi,⟨f2,f3,k0,k1⟩,f5,rfl,rfl,rfl⟩;generalize x.cells=qc at *;generalize t.cells=pc at *
 by_cases hlt:i<x.sets.length
 ·have hx:=eQ.ix (ik:=.i64) hlt;rw[qe]at hx;have FZ:=mN x.sets[i].e x.sets[i].e (hz _ (getElem_mem hlt)) (hz _ (getElem_mem hlt));rw[Ex.gA]at FZ;have FY:ai pG 92 [.agg x.sets[i].e.cells 8,.agg x.sets[i].e.cells 8] (.bool true):=FZ;have hld:=λ r H=>dz.gM x.sets[i].e r H;simp only[nj,al.av]at hld;simp only[ET,Ub,Ug];simp[f2,f5,k0,hc,fo,al.ag,hlt];refine bY.of (fP (l:=[⟨92,[.agg x.sets[i].e.cells 8,.agg x.sets[i].e.cells 8],K',n',.bool true,K',n'⟩]) ?_) ?_
  ·simp only[mem_singleton];rintro c rfl;exact FY.gY K' n'
  simp[aa,f2,f3,f5,k0,k1,hc,hd,fo,hpl,hx,hld,fQ,Uf,ah i (by omega)];exact⟨_,by omega,i+1,rfl,hlt,⟨by simp[aa,f2],by simp[aa,f3],k0,k1⟩,rfl⟩
 obtain rfl:i=x.sets.length:=by omega
 simp[ET,Ub,f2,f5,k0,hc,fo,al.ag];exact hQ _ ⟨by simp[f2],by simp[f3],k0,k1⟩
theorem aiE (x t:aE)(hC:aik x t)(hs:x.sm)(ht:t.cond.sz<=lim):ai pG 83 [.agg x.cells 31,.agg t.cells 31] (.bool (fq x t)):=by
 have hfr:x.rows.length=t.rows.length->t.rows=x.rows:=λ h=>by
  rcases hC.rows with h1 | h1
  ·exact h1
  rw[h1]at h ⊢;exact(length_eq_zero_iff.1 h).symm
 have hfs:x.sets.length=t.sets.length->t.sets=x.sets:=λ h=>by
  rcases hC.sets with h1 | h1
  ·exact h1
  rw[h1]at h ⊢;exact(length_eq_zero_iff.1 h).symm
 have h28:=Z1 x.ae t.ae hs.ae hC.ae;have h31:=Z0 x.on t.on hs.on hC.on;have FZ:ai pG 92 [.agg x.cond.cells 8,.agg t.cond.cells 8] (.bool (x.cond.same t.cond)):=mN x.cond t.cond hs.cond ht;have avV:=P9 x.q t.q hC.q hs.items hs.ab hs.order hs.item hs.src hs.qc;refine bf c83 (by simp) (by simp) (by simp[A83]) λ F hF=>?_;have fo:=x.aA;have hpl:=t.aA;have qcc:=x.cc;have pcc:=t.cc;have qcq:=x.cq;have pcq:=t.cq;have tkx:take 15 x.q.cells=x.q.cells:=take_of_length_le (by simp);have tkt:take 15 t.q.cells=t.q.cells:=take_of_length_le (by simp);have q0:=x.c0';have p0:=t.c0';have q1:=x.c1;have p1:=t.c1;have q2:=x.c2;have p2:=t.c2;have q3:=x.c3;have p3:=t.c3;have q4:=x.c4;have p4:=t.c4;have q5:=x.c5;have p5:=t.c5;have q6:=x.c6;have p6:=t.c6;have q7:=x.c7;have p7:=t.c7
 have tail:fq x t=true->t.rows=x.rows->t.sets=x.sets->∀F:Fr,F.get 2=some (.ptr 0 0)->F.get 3=some (.ptr 1 0)->VC pG (.seq (.seq Ue (.block 0 (.loop EU))) (.seq (.seq Uc (.block 2 (.loop ET))) (.seq GZ .ret))) F (((Tr.nil:Hp).put 0 (some (.cells 31 [] x.cells .nil))).put 1 (some (.cells 31 [] t.cells .nil))) 2 [] (iR [aP 4] λ v1 H' _=>dU H'.get v1 (.bool (fq x t))):=by
  intro hb e1 e2 F f2 f3;rw[hb];simp[Ue];refine ZX x t e1 hs.rows hs.row _ _ _ _ ⟨by simp[f2],by simp[f3],by simp,by simp⟩ (by simp) λ F S=>?_;simp[Uc];refine ZW x t e2 hs.sets hs.set _ _ _ _ ⟨by simp[S.f2],by simp[S.f3],by simp,by simp⟩ (by simp) λ F S=>?_;simp[GZ];exact .bool rfl
 generalize x.cells=qc at *;generalize t.cells=pc at *
 by_cases h1:x.kind=t.kind
 ·skip
  by_cases h2:x.table=t.table
  ·skip
   by_cases h3:x.name=t.name
   ·skip
    by_cases h4:x.uniq=t.uniq
    ·skip
     simp[A83,B83,zw,zu,hF,fo,hpl,q0,p0,q1,p1,q2,p2,q3,p3,q5,p5,h1,h2,h3,h4];refine ao.pure h28 ?_
     by_cases h5:x.ae.length=t.ae.length
     ·simp [fo, hpl,q4,p4,h5];refine ao.pure h31 ?_
      by_cases h6:x.on.length=t.on.length
      ·simp[fo,hpl,qcc,pcc,h6];refine ao.pure FZ ?_
       by_cases h7:x.cond=t.cond
       ·have hb:x.cond.same t.cond=true:=by rw[h7];exact Ex.gA _
        simp[fo,hpl,qcq,pcq,tkx,tkt,hb];refine ao.pure avV ?_
        cases h8:gf x.q t.q with
        | true =>
         by_cases h9:x.rows.length=t.rows.length
         ·by_cases h10:x.sets.length=t.sets.length
          ·simp[fo,hpl,q6,p6,q7,p7,al.ag,h9,h10];rw[<-bA];exact tail (by simp[fq,h1,h2,h3,h4,h5,h6,h7,h8,h9,h10]) (hfr h9) (hfs h10) _ (by simp) (by simp)
          simp[fo,hpl,q6,p6,q7,p7,al.ag,h9,h10,nC];exact .bool (by simp[fq,h10])
         simp[fo,hpl,q6,p6,al.ag,h9,nC];exact .bool (by simp[fq,h9])
        | false =>
         simp[nC];exact .bool (by simp[fq,h8])
       have hb:=Ex.qH h7;simp[hb,nC];exact .bool (by simp[fq,h7])
      simp[h6,nC];exact .bool (by simp[fq,h6])
     simp[h5,nC];exact .bool (by simp[fq,h5])
    simp[A83,B83,zw,zu,hF,fo,hpl,q0,p0,q1,p1,q2,p2,q5,p5,nC,h1,h2,h3,bne_iff_ne.2 h4];exact .bool (by simp[fq,h4])
   simp[A83,B83,zw,zu,hF,fo,hpl,q0,p0,q1,p1,q2,p2,nC,h1,h2,h3];exact .bool (by simp[fq,h3])
  simp[A83,B83,zw,zu,hF,fo,hpl,q0,p0,q1,p1,nC,h1,h2];exact .bool (by simp[fq,h2])
 simp[A83,B83,zw,zu,hF,fo,hpl,q0,p0,nC,h1];exact .bool (by simp[fq,h1])
structure sX (k:Int)(b:Bool)(F:Fr):Prop where
 f1:F.get 1=some (.ptr 0 0)
 f3:F.get 3=some (.int .i64 k)
 f4:F.get 4=some (.ptr 1 0)
 f5:F.get 5=some (.bool b)
theorem rv {α:Type}(p:α->Bool){l:List α}{i:Nat}(h:i<l.length)(b:Bool):(b&&(l.take (i+1)).all p)=((b&&(l.take i).all p)&&p l[i]):=by
 rw[cZ h,all_append];simp[Bool.and_assoc]
theorem ai2 (x:aE)(hl:x.ae.length<=lim)(k:Int)(b:Bool)(F:Fr)(K:Hp)(n:Nat)(Q:QA)(S:sX k b F)(k0:K.get 0=some (.cells 31 [] x.cells .nil))(fs:F.get 6=some (.int .i64 0))(hQ:∀F,sX k (b&&x.ae.all eW.ok) F->Q .normal F K n []):au xu pG F K n [] (bX 0 Q):=by
 unfold lim at hl;have hc:=x.c3;have fo:=x.aA;refine au.of (λ g F K' n' ms=>∃i:Nat,g=x.ae.length - i/\i<=x.ae.length/\sX k (b&&(x.ae.take i).all eW.ok) F/\F.get 6=some (.int .i64 (i:Int))/\K'=K/\n'=n/\ms=[]) x.ae.length ⟨0,by simp,by omega,by simpa using S,by simpa using fs,rfl,rfl,rfl⟩ ?_;clear S fs F;rintro g F K' n' ms ⟨i,rfl,hi,⟨f1,f3,f4,f5⟩,fs,rfl,rfl,rfl⟩;generalize x.cells=qc at *
 by_cases hlt:i<x.ae.length
 ·have hx := aW.ix (ik:=.i64) hlt;have ha:=rv eW.ok hlt b;have hw:=ah i (by omega);generalize hcc:(b&&(x.ae.take i).all eW.ok)=c at *;rw[dQ]at hx;simp[xu,Hz,Wa,f1,f5,fs,k0,hc,fo,al.ag,hlt]
  cases c with
  | false =>
   simp[sR,fs,hw];exact⟨_,by omega,i+1,rfl,hlt,⟨by simp[f1],by simp[f3],by simp[f4],by simp[ha]⟩,rfl⟩
  | true =>
   simp[f1,fs,k0,hc,fo,hx];refine ao.pure (fw x.ae[i].name) ?_
   by_cases h1:aD x.ae[i].name
   ·by_cases h2:0<x.ae[i].kind
    ·by_cases h3:x.ae[i].kind<4
     ·simp[f1,fs,k0,hc,fo,hx,h1,h2,h3,sR,hw];exact⟨_,by omega,i+1,rfl,hlt,⟨by simp[f1],by simp[f3],by simp[f4],by simp[ha,eW.ok,h1,show 1<=x.ae[i].kind by omega,show x.ae[i].kind<=3 by omega]⟩,rfl⟩
     simp[f1,fs,k0,hc,fo,hx,h1,h2,h3,sR,hw];exact⟨_,by omega,i+1,rfl,hlt,⟨by simp[f1],by simp[f3],by simp[f4],by simp[ha,eW.ok,h1,show ¬x.ae[i].kind<=3 by omega]⟩,rfl⟩
    simp[f1,fs,k0,hc,fo,hx,h1,h2,sR,hw];exact⟨_,by omega,i+1,rfl,hlt,⟨by simp[f1],by simp[f3],by simp[f4],by simp[ha,eW.ok,h1,show ¬ 1<=x.ae[i].kind by omega]⟩,rfl⟩
   simp[fs,h1,sR,hw];exact⟨_,by omega,i+1,rfl,hlt,⟨by simp[f1],by simp[f3],by simp[f4],by simp[ha,eW.ok,h1]⟩,rfl⟩
 obtain rfl:i=x.ae.length:=by omega
 rw[take_length]at f5;simp[xu,Hz,f1,fs,k0,hc,fo,al.ag];exact hQ _ ⟨by simp[f1],by simp[f3],by simp[f4],by simp[f5]⟩
theorem ai1 (x:aE)(hl:x.on.length<=lim)(k:Int)(b:Bool)(F:Fr)(K:Hp)(n:Nat)(Q:QA)(S:sX k b F)(k0:K.get 0=some (.cells 31 [] x.cells .nil))(fs:F.get 7=some (.int .i64 0))(hQ:∀F,sX k (b&&x.on.all (λ s=>decide (aD s))) F->Q .normal F K n []):au zJ pG F K n [] (bX 2 Q):=by
 unfold lim at hl;have hc:=x.c4;have fo:=x.aA;refine au.of (λ g F K' n' ms=>∃i:Nat,g=x.on.length - i/\i<=x.on.length/\sX k (b&&(x.on.take i).all (λ s=>decide (aD s))) F/\F.get 7=some (.int .i64 (i:Int))/\K'=K/\n'=n/\ms=[]) x.on.length ⟨0,by simp,by omega,by simpa using S,by simpa using fs,rfl,rfl,rfl⟩ ?_;clear S fs F;rintro g F K' n' ms ⟨i,rfl,hi,⟨f1,f3,f4,f5⟩,fs,rfl,rfl,rfl⟩;generalize x.cells=qc at *
 by_cases hlt:i<x.on.length
 ·have hx:=bB.ix (ik:=.i64) hlt;have ha:=rv (λ s=>decide (aD s)) hlt b;have hw:=ah i (by omega);generalize hcc:(b&&(x.on.take i).all (λ s=>decide (aD s)))=c at *;rw[jQ]at hx;simp[zJ,Hw,V',f1,f5,fs,k0,hc,fo,al.ag,hlt]
  cases c with
  | false =>
   simp[Hv,fs,hw];exact⟨_,by omega,i+1,rfl,hlt,⟨by simp[f1],by simp[f3],by simp[f4],by simp[ha]⟩,rfl⟩
  | true =>
   simp[f1,fs,k0,hc,fo,hx];refine ao.pure (fw x.on[i]) ?_;simp[fs,hw,Hv];exact⟨_,by omega,i+1,rfl,hlt,⟨by simp[f1],by simp[f3],by simp[f4],by simp[ha]⟩,rfl⟩
 obtain rfl:i=x.on.length:=by omega
 rw[take_length]at f5;simp[zJ,Hw,f1,fs,k0,hc,fo,al.ag];exact hQ _ ⟨by simp[f1],by simp[f3],by simp[f4],by simp[f5]⟩
theorem ai0 (x:aE)(hl:x.rows.length<=lim)(hz:∀r∈x.rows,r.length<=lim/\∀y∈r,y.sz<=lim)(k:Int)(b:Bool)(F:Fr)(K:Hp)(n:Nat)(Q:QA)(S:sX k b F)(k0:K.get 0=some (.cells 31 [] x.cells .nil))(fs:F.get 8=some (.int .i64 0))(hQ:∀F,sX k (b&&x.rows.all rowOk) F->Q .normal F K n []):au xn pG F K n [] (bX 4 Q):=by
 unfold lim at hl;have hc:=x.c6;have fo:=x.aA;refine au.of (λ g F K' n' ms=>∃i:Nat,g=x.rows.length - i/\i<=x.rows.length/\sX k (b&&(x.rows.take i).all rowOk) F/\F.get 8=some (.int .i64 (i:Int))/\K'=K/\n'=n/\ms=[]) x.rows.length ⟨0,by simp,by omega,by simpa using S,by simpa using fs,rfl,rfl,rfl⟩ ?_;clear S fs F;rintro g F K' n' ms ⟨i,rfl,hi,⟨f1,f3,f4,f5⟩,fs,rfl,rfl,rfl⟩;generalize x.cells=qc at *
 by_cases hlt:i<x.rows.length
 ·have hx:=dw.ix (ik:=.i64) hlt;have ha:=rv rowOk hlt b;have hw:=ah i (by omega);generalize hcc:(b&&(x.rows.take i).all rowOk)=c at *;rw[jR]at hx;have h79:=abh x.rows[i] (hz _ (getElem_mem hlt)).1 (hz _ (getElem_mem hlt)).2;simp[xn,Hu,V9,f1,f5,fs,k0,hc,fo,al.ag,hlt]
  cases c with
  | false =>
   simp[Ht,fs,hw];exact⟨_,by omega,i+1,rfl,hlt,⟨by simp[f1],by simp[f3],by simp[f4],by simp[ha]⟩,rfl⟩
  | true =>
   simp[f1,fs,k0,hc,fo,hx];refine ao.pure h79 ?_;simp[fs,hw,Ht];exact⟨_,by omega,i+1,rfl,hlt,⟨by simp[f1],by simp[f3],by simp[f4],by simp[ha]⟩,rfl⟩
 obtain rfl:i=x.rows.length:=by omega
 rw[take_length]at f5;simp[xn,Hu,f1,fs,k0,hc,fo,al.ag];exact hQ _ ⟨by simp[f1],by simp[f3],by simp[f4],by simp[f5]⟩
theorem aiZ (x:aE) (hl:x.sets.length<=lim) (hz:∀y∈x.sets,y.e.sz<=lim) (k:Int) (b:Bool) (F:Fr) (K:Hp) (n:Nat) (Q:QA) (S:sX k b F) (k0:K.get 0=some (.cells 31 [] x.cells .nil)) (fs:F.get 9=some (.int .i64 0)) (hQ:∀F,sX k (b&&x.sets.all ku.ok) F->Q .normal F K n []):au oZ pG F K n [] (bX 6 Q):=by
 unfold lim at hl;have hc:=x.c7;have fo:=x.aA;refine au.of (λ g F K' n' ms=>∃i:Nat,g=x.sets.length - i/\i<=x.sets.length/\sX k (b&&(x.sets.take i).all ku.ok) F/\F.get 9=some (.int .i64 (i:Int))/\K'=K/\n'=n/\ms=[]) x.sets.length ⟨0,by simp,by omega,by simpa using S,by simpa using fs,rfl,rfl,rfl⟩ ?_;clear S fs F;rintro g F K' n' ms ⟨i,rfl,hi,⟨f1,f3,f4,f5⟩,fs,rfl,rfl,rfl⟩;generalize x.cells=qc at *
 by_cases hlt:i<x.sets.length
 ·have hx:=eQ.ix (ik:=.i64) hlt;have ha:=rv ku.ok hlt b;have hw:=ah i (by omega);generalize hcc:(b&&(x.sets.take i).all ku.ok)=c at *;rw[qe]at hx;have Od:=vm x.sets[i].e (hz _ (getElem_mem hlt));have pP:ai pG 81 [.agg x.sets[i].e.cells 8] (.bool x.sets[i].e.may):=Od;have hld:=λ r H=>dz.gM x.sets[i].e r H;simp only[nj,al.av]at hld;simp[oZ,Hr,V7,f1,f5,fs,k0,hc,fo,al.ag,hlt]
  cases c with
  | false =>
   simp[BF,fs,hw];exact⟨_,by omega,i+1,rfl,hlt,⟨by simp[f1],by simp[f3],by simp[f4],by simp[ha]⟩,rfl⟩
  | true =>
   simp[f1,fs,k0,hc,fo,hx];refine ao.pure (fw x.sets[i].name) ?_
   by_cases h1:aD x.sets[i].name
   ·simp[f1,fs,k0,hc,fo,hx,h1,hld];refine ao.pure pP ?_;simp[fs,hw,BF];exact⟨_,by omega,i+1,rfl,hlt,⟨by simp[f1],by simp[f3],by simp[f4],by simp[ha,ku.ok,h1]⟩,rfl⟩
   simp[fs,h1,BF,hw];exact⟨_,by omega,i+1,rfl,hlt,⟨by simp[f1],by simp[f3],by simp[f4],by simp[ha,ku.ok,h1]⟩,rfl⟩
 obtain rfl:i=x.sets.length:=by omega
 rw[take_length]at f5;simp[oZ,Hr,f1,fs,k0,hc,fo,al.ag];exact hQ _ ⟨by simp[f1],by simp[f3],by simp[f4],by simp[f5]⟩
theorem mQ (c:List AV):∀(a b vs:List AV),vs.length=b.length->patch (a++(b++c)) a.length vs=some (a++(vs++c))
 | [],[],[],_=>by simp
 | [],[],_::_,h=>by simp at h
 | [],_::_,[],h=>by simp at h
 | [],y::b,v::vs,h=>by
  have:=mQ c [] b vs (by simpa using h);simp only[nil_append,length_nil]at this;simp[this]
 | x :: a,b,[],h=>by
  have:b=[]:=by cases b with
   | nil=>rfl
   | cons=>simp at h
  subst this;simp
 | x::a,b,v::vs,h=>by
  have:=mQ c a b (v::vs) h;simp[this]
def T24:CT:=.seq BD .ret
structure mA (x:aE)(F:Fr)(K:Hp):Prop where
 f1:F.get 1=some (.ptr 0 0)
 f3:F.get 3=some (.int .i64 x.kind)
 f4:F.get 4=some (.ptr 1 0)
 f5:F.get 5=some (.bool true)
 k0:K.get 0=some (.cells 31 [] x.cells .nil)
 k1:K.get 1=some (.cells 31 [] (rJ x.kind) .nil)
def fF (x:aE)(Q:QA):Prop:=∀F K tc b,sX x.kind b F->K.get 0=some (.cells 31 [] x.cells .nil)->K.get 1=some (.cells 31 [] tc .nil)->oN x tc->b=x.ok->VC pG T24 F K 2 [] Q
theorem Ek {a b:Ex}(h:b=jy∨(b=a/\a.maybe=true)):tH a b=decide (a=b):=by
 rw[Bool.eq_iff_iff]
 rcases h with rfl | ⟨rfl,hm⟩
 ·rw[decide_eq_true_eq,wu];simp only[tH,Bool.and_eq_true,decide_eq_true_eq,Bool.or_eq_true];refine⟨λ h=>h.2.resolve_left λ h=>h rfl,λ h=>⟨?_,.inr h⟩⟩;rw[(wu a).2 h]
 simp only[tH,decide_true,Bool.true_and,Bool.or_eq_true,decide_eq_true_eq,iff_true];unfold Ex.maybe at hm;simp only[Bool.or_eq_true,decide_eq_true_eq]at hm
 rcases hm with h | h
 ·exact .inr h
 refine .inl ?_;obtain⟨op,v,t,m,cu,args⟩:=b;rintro h0;have h0:op=0:=h0;subst h0;unfold Ex.may at h;simp at h
theorem RP (x:aE):x.cut.kind=x.kind:=by
 unfold aE.cut
 repeat' split
 all_goals rfl
theorem RQ (x:aE)(h:x.ok=true):x.cut.cond=jy∨(x.cut.cond=x.cond/\x.cond.maybe=true):=by
 unfold aE.cut;unfold aE.ok at h
 by_cases h1:x.kind=1
 ·simp[h1];exact .inl rfl
 by_cases h2:x.kind=2
 ·simp[h2];exact .inl rfl
 by_cases h3:x.kind=3
 ·simp[h3];exact .inl rfl
 by_cases h4:x.kind=4
 ·simp[h4];exact .inl rfl
 by_cases h5:x.kind=5
 ·simp[h5];exact .inl rfl
 by_cases h6:x.kind=6
 ·simp[h6]at h ⊢;exact .inr h.2
 by_cases h7:x.kind=7
 ·simp[h7]at h ⊢;exact .inr h.1.2
 by_cases h8:x.kind=8
 ·simp[h8];exact .inl rfl
 simp[h1,h2,h3,h4,h5,h6,h7,h8];exact .inl rfl
theorem apj (x:aE)(h:x.ok=true):x.cut.q.cond=jy∨(x.cut.q.cond=x.q.cond/\x.q.cond.maybe=true):=by
 unfold aE.cut;unfold aE.ok at h
 by_cases h8:x.kind=8
 ·simp[h8]at h ⊢;have:=((Df x.q).1 h).c;exact .inr (by simpa[Ex.maybe]using this)
 simp only[h8,if_false]
 repeat' split
 all_goals exact .inl rfl
theorem Nk (x:aE)(h:x.ok=true):fq x x.cut=s7 x x.cut:=by
 have h1:=Ek (RQ x h);have h2:=Ek (apj x h);unfold s7;rw[h1,h2,Bool.eq_iff_iff];simp only[fq,gf,RP,Bool.and_eq_true,decide_eq_true_eq,beq_iff_eq,true_and];constructor
 ·rintro⟨a1,a2,a3,a4,a5,a6,⟨b1,b2,b3,b4,b5,b6,b7,b8⟩,a7,a8⟩;exact⟨a1,a2,a4,a5,a3,a7,a8,a6,b1,b2,b5,b6,b8,b7,b3,b4⟩
 rintro⟨a1,a2,a4,a5,a3,a7,a8,a6,b1,b2,b5,b6,b8,b7,b3,b4⟩;exact⟨a1,a2,a3,a4,a5,a6,⟨b1,b2,b3,b4,b5,b6,b7,b8⟩,a7,a8⟩
theorem apk (x:aE):aik x x.cut:=by
 unfold aE.cut
 split
 ·exact⟨.inl rfl,.inr rfl,.inr rfl,.inr rfl,.inr rfl⟩
 split
 ·exact⟨.inr rfl,.inr rfl,.inr rfl,.inr rfl,.inr rfl⟩
 split
 ·exact⟨.inr rfl,.inl rfl,.inr rfl,.inr rfl,.inr rfl⟩
 split
 ·exact⟨.inr rfl,.inr rfl,.inr rfl,.inr rfl,.inr rfl⟩
 split
 ·exact⟨.inr rfl,.inr rfl,.inl rfl,.inr rfl,.inr rfl⟩
 split
 ·exact⟨.inr rfl,.inr rfl,.inr rfl,.inr rfl,.inr rfl⟩
 split
 ·exact⟨.inr rfl,.inr rfl,.inr rfl,.inl rfl,.inr rfl⟩
 split
 ·exact⟨.inr rfl,.inr rfl,.inr rfl,.inr rfl,.inl rfl⟩
 exact⟨.inr rfl,.inr rfl,.inr rfl,.inr rfl,.inr rfl⟩
theorem aj0 (x:aE)(h:x.cond.sz<=lim):x.cut.cond.sz<=lim:=by
 have hz:jy.sz<=lim:=by simp[jy,Ex.sz,Ex.mB,lim]
 unfold aE.cut
 repeat' split
 all_goals first | exact h | exact hz
theorem aiY (x:aE)(hs:x.sm):fF x (iR [aP 2] λ v1 H' _=>dU H'.get v1 (.bool x.may)):=by
 rintro F K tc b ⟨f1,f3,f4,f5⟩ k0 k1 ⟨hl,hp,hn⟩ rfl;have h83:=aiE x x.cut (apk x) hs (aj0 x hs.cond)
 have aot:ai pG 83 [.agg x.cells 31,.agg tc 31] (.bool (fq x x.cut)):=h83.conv (by simp[hp]) λ D xs hv=>by
  cases hv with
  | cons _ y0 _ ys h0 hv =>
  cases hv with
  | cons _ y1 _ ys h1 hv =>
  refine .cons _ _ _ _ h0 (.cons _ _ _ _ ?_ hv)
  cases h1 with
  | agg _ l _ a b=>exact .agg _ _ _ (hn.oQ a) (by simp)
 have hxl:=x.aA
 cases hb:x.ok with
 | false =>
  rw[hb]at f5;simp[T24,BD,f5];exact .bool (by simp[aE.may,hb])
 | true =>
  rw[hb]at f5;rw[Nk x hb]at aot;simp[T24,BD,f1,f4,f5,k0,k1];refine ao.pure aot ?_;simp;exact .bool (by simp[aE.may,hb])
end Go.Abs
