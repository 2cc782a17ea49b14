/- A part. -/
import Derived.Test.YtlhafglnokpioaaGreatBt6
noncomputable section
namespace Go.Abs
open List
open Go.Proofs
open Classical
set_option maxRecDepth 100000
theorem pH (a b:Nat) (x y:List Nat):cmpL (a::x) (b::y)=if a=b then cmpL x y else if a<b then -1 else 1:=by
 simp only[cmpL]
 by_cases e:a=b
 ·subst e;simp
 rw[show Nat.beq a b=false by simpa using e,ah e];dsimp only
 by_cases h:a<b
 ·rw[show Nat.blt a b=true by rw[Nat.blt_eq];exact h,ao h]
 rw[show Nat.blt a b=false by cases q:Nat.blt a b with
  |false=>rfl
  |true=>rw[Nat.blt_eq]at q;exact ai q h,ah h]
theorem FD:∀a b:List Nat,cmpL b a = - cmpL a b
 |[],[]=>rfl
 |[],_::_=>rfl
 |_::_,[]=>rfl
 |a :: x,b::y=>by
  rw[pH,pH]
  by_cases e:a=b
  ·subst e;simp[FD x y]
  rw[ah e,ah (Ne.symm e)]
  by_cases h:a<b
  ·rw[ao h,ah (by omega)];rfl
  rw[ah h,ao (by omega)]
theorem af2 {k q:Int}(hk:k=0∨k=1∨k=2∨k=3)(hq:q=0∨q=1∨q=2∨q=3):rk k=rk q↔k=q:=by
 rcases hk with rfl|rfl|rfl|rfl<;>rcases hq with rfl|rfl|rfl|rfl<;>decide
theorem KJ {a b:Val}(ha:a.may=true)(hb:b.may=true):b.ord a = - a.ord b:=by
 have hi:=af2 (Val.lN ha) (Val.lN hb);unfold Val.ord
 by_cases e:a.kind=b.kind
 ·rw[ao e,ao e.symm]
  by_cases e2:a.kind=2
  ·rw[ao e2,ao (by omega),FD]
  rw[ah e2,ah (by omega)]
  repeat' split
  all_goals omega
 rw[ah e,ah (Ne.symm e)];have:rk a.kind≠rk b.kind:=λ h=>e (hi.1 h)
 repeat' split
 all_goals omega
def iR (r:List Val):Prop:=∀v∈r,v.may=true
theorem sX {a b:Val}(ha:a.may=true)(hb:b.may=true):cV a b=a.ord b:=by simp[cV,ha,hb]
theorem kh:∀ {l m:List Val},iR l->iR m->dZ m l = - dZ l m
 |[],[],_,_=>by simp[dZ]
 |[],_::_,_,_=>by simp[dZ]
 |_::_,[],_,_=>by simp[dZ]
 |a::l,b::m,hl,hm=>by
  have ha:=hl a (by simp);have hb:=hm b (by simp);have ih:=kh (l:=l) (m:=m) (λ v hv=>hl v (by simp[hv])) (λ v hv=>hm v (by simp[hv]));rw[dZ,dZ,sX ha hb,sX hb ha,KJ ha hb,ih]
  by_cases e:a.ord b=0
  ·simp[e]
  simp[e]
def m8 (a b:Int):Int:=if a=0 then b else if b=0 then a else min a b
theorem uR (H:Hp)(n:Nat):aj pG 90 [] H n (λ u K k=>u=.fn (.func 165) [] [.ptr n 0]/\K=(H.put n (aG 1 [zI 0])).put n (aG 1 [zI 0])/\k=n+1):=by
 refine aj.of c90 (by simp[A90]) λ F hF=>?_;simp[A90]
theorem jB {H:Hp}{n p:Nat}(a b:Int)(hp:H.get p=aG 1 [zI a]):aj pG 165 [zI b,.ptr p 0] H n (λ u K k=>u=zI (m8 a b)/\K.get p=aG 1 [zI (m8 a b)]/\k=n/\∀c,c≠p->K.get c=H.get c):=by
 refine aj.of c165 (by simp[A165]) λ F hF=>?_;unfold m8
 by_cases h2:b=0
 ·simp[A165,hF,hp,h2]
 by_cases h1:a=0
 ·subst h1;simp[A165,hF,hp,h2];intro c hc;simp[hc]
 by_cases h3:b<a
 ·simp[A165,hF,hp,h1,h2,h3];have:min a b=b:=by omega
  simp[this];intro c hc;simp[hc]
 simp[A165,hF,hp,h1,h2,h3]
 try omega
def KU:Nat->List (List Nat)->List (AV×AV×Nat)
 |_,[]=>[]
 |i,x::r=>(.str x,zI 1,i)::KU (i+1) r
theorem Aq (x:List Nat):∀(l:List (List Nat))(i:Nat),KU i (l++[x])=KU i l++[(.str x,zI 1,i+l.length)]
 |[],i=>by simp[KU]
 |y::r,i=>by simp[KU,Aq x r (i+1)];omega
theorem nW (a b:List Nat):dH .s (.str a) (.str b)=some (decide (a=b)):=by
 simp only[dH,eJ]
 congr 1
 rw[Bool.eq_iff_iff];simp
theorem AX (k:List Nat):∀(l:List (List Nat))(i:Nat),findKey .s (.str k) (KU i l)=some (if k∈l then some (zI 1)else none)
 |[],i=>rfl
 |y::r,i=>by
  simp only[KU,findKey,nW]
  by_cases h:k=y
  ·simp[h]
  simp[h,AX k r (i+1)]
theorem Rk (k:List Nat)(v:AV):∀(l:List (List Nat))(i:Nat),k∉l->iC .s (.str k) v (KU i l)=some none
 |[],i,_=>rfl
 |y::r,i,h=>by
  simp only[mem_cons,not_or]at h;simp only[KU,iC,nW];simp[h.1,Rk k v r (i+1) h.2]
theorem Rj (k:List Nat)(v:AV):∀(l:List (List Nat))(i:Nat),k∈l->∃es,iC .s (.str k) v (KU i l)=some (some es)/\findKey .s (.str k) es=some (some v)
 |[],i,h=>by simp at h
 |y :: r,i,h=>by
  simp only[KU,iC,nW]
  by_cases e:k=y
  ·subst e;simp[findKey,nW]
  have h2:k∈r:=by simpa[e]using h
  obtain⟨es,h3,h4⟩:=Rj k v r (i+1) h2;simp[e,h3,findKey,nW,h4]
theorem abZ (k:List Nat)(l:List (List Nat))(i:Nat):findKey .s (.str k) (KU i l++[(.str k,zI 1,i+l.length)])=some (some (zI 1)):=by
 rw[<-Aq,AX];simp
def EG (cols:List Int)(r:List Val):List (List Nat):=if ru (m6 r cols)=true then []else [(ng (m6 r cols)).1]
def eh (cols:List Int)(rows:List (List Val)):List (List Nat):=rows.flatMap (EG cols)
theorem Hr (cols:List Int)(rows:List (List Val))(i:Nat)(h:i<rows.length):eh cols (rows.take (i+1))=eh cols (rows.take i)++EG cols rows[i]:=by
 unfold eh;rw[take_snoc h,flatMap_append];simp
theorem PW (cols:List Int)(rows:List (List Val)):(eh cols rows).length<=rows.length:=by
 induction rows with
 |nil=>simp[eh]
 |cons a r ih =>
  have e:eh cols (a::r)=EG cols a++eh cols r:=rfl;rw[e,length_append,length_cons];unfold EG;split<;>simp<;>omega
theorem PV (cols:List Int)(rows:List (List Val))(i:Nat):∃l,eh cols rows=eh cols (rows.take i)++l:=⟨eh cols (rows.drop i),by
 unfold eh;rw[<-flatMap_append,take_append_drop]⟩
theorem aag (x:mb) (rows:List (List Val)) (hl:x.cols.length<=aM) (hrl:rows.length<=aM) (hr:∀r∈rows,(∀v∈r,v.eA)/\mV x.cols r):ae pG 94 [aQ.av x,.ds (bG rows) rows.length 1] (.bool (decide (¬(eh x.cols rows).Nodup))):=by
 unfold aM at hrl;refine pv c94 λ F hF=>?_;simp[A94,hF,aL.av,eC,kD];refine aE.of (λ t F K n ms=>∃i c,t=rows.length - i/\i<=rows.length/\F.get 2=some (.ptr 0 0)/\F.get 5=some (.map 1)/\F.get 12=some (.ds (bG rows) rows.length 1)/\F.get 13=some (zI (rows.length:Int))/\F.get 14=some (zI (i:Int))/\K.get 0=aG 6 [.int .u32 x.id,.int .u32 x.table,.str x.name,cQ.ds x.cols,.bool x.uniq,.int .u32 x.root]/\K.get 1=some (.map (KU 0 (eh x.cols (rows.take i))) c)/\c=(eh x.cols (rows.take i)).length/\(eh x.cols (rows.take i)).Nodup/\ms=[]) rows.length ⟨0,0,by simp,by omega,by simp,by simp,by simp,by simp,by simp,by simp,by simp[eh,KU],by simp[eh],by simp[eh],rfl⟩ ?_;clear hF F;rintro t F K n ms ⟨i,c,rfl,hi,f2,f5,f12,f13,f14,k0,k1,rfl,nd,rfl⟩
 by_cases h:i<rows.length
 ·have hx:=ji (k:=.i64) h;have w:=aC i (by omega);have hs:=Hr x.cols rows i h;obtain⟨h1,h2⟩:=hr rows[i] (b6 h);have hk:=ac9 x rows[i] hl h1 h2;simp only[aL.av,eC]at hk;obtain⟨rest,hpre⟩:=PV x.cols rows (i+1);have hlen:=PW x.cols (rows.take i);generalize rows[i]=r at *;generalize eh x.cols (rows.take i)=l at *;simp[Zq,f13,f14,h,f12,hx,f2,k0];refine aw.pure hk ?_
  cases hn:ru (m6 r x.cols)with
  |true =>
   have e:EG x.cols r=[]:=by unfold EG;rw[ao hn]
   rw[e,append_nil]at hs;simp[Me,IC,f14,w,f2,f5,f12,f13,k0,k1];exact⟨_,by omega,i+1,rfl,by omega,rfl,l.length,⟨by rw[hs],rfl⟩,by rw[hs],by rw[hs];exact nd⟩
  |false =>
   have e:EG x.cols r=[(ng (m6 r x.cols)).1]:=by unfold EG;rw[hn];rfl
   rw[e]at hs;generalize (ng (m6 r x.cols)).1=q at *
   by_cases hm:q∈l
   ·obtain⟨es,hs1,hs2⟩:=Rj q (zI 2) l 0 hm
    have:¬(eh x.cols rows).Nodup:=λ hd=>by
     rw[hpre,hs]at hd;have:=(nodup_append.1 (nodup_append.1 hd).1).2.2;exact this q hm q (by simp) rfl
    simp[Me,Vj,f5,k1,eW,qh,isKey,AX,hm,hs1,hs2,Vi,adQ];exact .bool (by simp[this])
   have hs1:=Rk q (zI 1) l 0 hm;have hs2:=abZ q l 0;simp only[qw]at hs2;simp[Me,Vj,f5,k1,eW,qh,isKey,AX,hm,hs1,hs2,Vi,IC,f14,w,f2,f12,f13,k0];refine⟨_,by omega,i+1,rfl,by omega,rfl,l.length+1,⟨by rw[hs,Aq];simp,rfl⟩,by rw[hs];simp,?_⟩;rw[hs];exact nodup_append.2 ⟨nd,by simp,by rintro a ha b hb rfl;simp at hb;subst hb;exact hm ha⟩
 obtain rfl:i=rows.length:=by omega
 rw[eZ (aP _)]at nd;simp[Zq,f13,f14,Vk];exact .bool (by simp[nd])
def tj (s:bB)(id:Int)(rows:List (List Val)):Prop:=∀x∈s.on id,x.uniq=true->(eh x.cols rows).Nodup
def Hu (row:List Val):List mb->Int
 |[]=>0
 |x::xs=>if (ng (m6 row x.cols)).2=0 then Hu row xs else (ng (m6 row x.cols)).2
def zR (s:bB)(t:bo)(row:List Val):Int:=if (uC t.cols row).2=0 then Hu row (s.on t.id)else (uC t.cols row).2
def qW (s:bB)(t:bo)(rows:List (List Val)):Int:=rows.foldl (λ a r=>m8 a (zR s t r)) 0
theorem za (a b c:Int):m8 (m8 a b) c=m8 a (m8 b c):=by
 unfold m8
 by_cases h1:a=0<;>by_cases h2:b=0<;>by_cases h3:c=0<;>simp[h1,h2,h3]
 ·omega
 have e1:¬min a b=0:=by omega
 have e2:¬min b c=0:=by omega
 rw[ah e1,ah e2]
@[simp] theorem ac7 (a:Int):m8 a 0=a:=by unfold m8;split<;>simp_all
@[simp] theorem Ho (a:Int):m8 0 a=a:=by simp[m8]
def kF (row:List Val)(xs:List mb):Int:=xs.foldl (λ a x=>m8 a (ng (m6 row x.cols)).2) 0
theorem abB (row:List Val)(xs:List mb)(j:Nat)(h:j<xs.length):kF row (xs.take (j+1))=m8 (kF row (xs.take j)) (ng (m6 row xs[j].cols)).2:=by
 unfold kF;rw[take_snoc h,List.foldl_append];rfl
theorem sH (f:mb->Int):∀(xs:List mb)(a:Int),xs.foldl (λ a x=>m8 a (f x)) a=m8 a (xs.foldl (λ a x=>m8 a (f x)) 0)
 |[],a=>by simp
 |x::xs,a=>by
  simp only[foldl_cons];rw[sH f xs (m8 a (f x)),sH f xs (m8 0 (f x)),Ho,za]
theorem ac_ (row:List Val):∀(xs:List mb),(∀x∈xs,(ng (m6 row x.cols)).2=0∨(ng (m6 row x.cols)).2=51)->kF row xs=Hu row xs
 |[],_=>rfl
 |x :: xs,h=>by
  have ih:=ac_ row xs λ y hy=>h y (by simp[hy])
  have hz:Hu row xs=0∨Hu row xs=51:=by
   clear ih
   induction xs with
   |nil=>exact .inl rfl
   |cons y ys ih2 =>
    unfold Hu
    split
    ·exact ih2 λ z hz=>h z (by simp at hz ⊢;rcases hz with rfl|hz<;>simp[*])
    exact h y (by simp)
  unfold kF at ih ⊢;simp only[foldl_cons];rw[sH,ih,Ho,Hu]
  rcases h x (by simp)with h1|h1
  ·rw[h1,Ho,ao rfl]
  rw[h1,ah (by omega)]
  rcases hz with h2|h2<;>rw[h2]<;>simp[m8]
theorem Uk {row:List Val}{cols:List Int}(hm:∀v∈row,v.may=true)(hl:cols.length<=16)(hc:mV cols row):(ng (m6 row cols)).2=0∨(ng (m6 row cols)).2=51:=by
 have h1:∀v∈m6 row cols,v.may=true:=by
  intro v hv;obtain⟨c,h1,rfl⟩:=mem_map.1 hv;obtain⟨h2,h3⟩:=hc c h1;have:c.toNat<row.length:=by omega
  simp only[getD,cE this,Option.getD_some];exact hm _ (b6 this)
 unfold ng;rw[ah (by simp;omega),ao h1]
 split<;>simp
theorem abV (row:List Val)(xs:List mb)(hxl:xs.length<=1048576)(e acc:Int)(hl:∀x∈xs,x.cols.length<=aM)(hr:∀v∈row,v.eA)(ja:e=0->∀x∈xs,mV x.cols row)(F:Fr)(K:Hp)(n p:Nat)(Q:QA)(f7:F.get 7=some (.fn (.func 165) [] [.ptr p 0]))(f9:F.get 9=some (aF row))(f11:F.get 11=some (zI e))(f40:F.get 40=some (aQ.ds xs))(f41:F.get 41=some (zI (xs.length:Int)))(f42:F.get 42=some (zI 0))(kp:K.get p=aG 1 [zI acc])(pn:p<n)
  (k:∀F' K' n',F'.get 2=F.get 2->F'.get 3=F.get 3->F'.get 4=F.get 4->F'.get 7=F.get 7->F'.get 21=F.get 21->F'.get 22=F.get 22->F'.get 23=F.get 23->n<=n'->(∀c,c<n->c≠p->K'.get c=K.get c)->K'.get p=aG 1 [zI (if e=0 then m8 acc (kF row xs)else acc)]->Q (.exit 2) F' K' n' []):aE Gv pG F K n [] Q:=by
 refine aE.of (λ t F' K' n' ms=>∃j,t=xs.length - j/\j<=xs.length/\F'.get 2=F.get 2/\F'.get 3=F.get 3/\F'.get 4=F.get 4/\F'.get 7=some (.fn (.func 165) [] [.ptr p 0])/\F'.get 21=F.get 21/\F'.get 22=F.get 22/\F'.get 23=F.get 23/\F'.get 9=some (aF row)/\F'.get 11=some (zI e)/\F'.get 40=some (aQ.ds xs)/\F'.get 41=some (zI (xs.length:Int))/\F'.get 42=some (zI (j:Int))/\n<=n'/\(∀c,c<n->c≠p->K'.get c=K.get c)/\K'.get p=aG 1 [zI (if e=0 then m8 acc (kF row (xs.take j))else acc)]/\ms=[]) xs.length ⟨0,by simp,by omega,rfl,rfl,rfl,f7,rfl,rfl,rfl,f9,f11,f40,f41,f42,aP _,λ _ _ _=>rfl,by simpa[kF]using kp,rfl⟩ ?_;clear f9 f11 f40 f41 f42 kp;rintro t F' K' n' ms ⟨j,rfl,hj,g2,g3,g4,g7,g21,g22,g23,f9,f11,f40,f41,f42,hn,hk,kp,rfl⟩
 by_cases h:j<xs.length
 ·have hy:=aQ.ix (ik:=.i64) h;have w:=aC j (by omega);have hxm:xs[j]∈xs:=b6 h;have hsn:=abB row xs j h;have hkey:=λ h0:e=0=>ac9 xs[j] row (hl _ hxm) hr (ja h0 _ hxm);simp only[aL.av,eC]at hkey;rw[eC]at hy;generalize xs[j]=x at *
  by_cases h0:e=0
  ·subst h0;rw[ao rfl]at kp;have hkey:=hkey rfl;simp[Gv,f41,f42,h,f40,hy,zg,f11,f9];refine aw.pure hkey ?_;simp[W4,g7];refine aw.of (jB (m8 acc (kF row (xs.take j))) (ng (m6 row x.cols)).2 (by rw[Tr.get_put,ah (by omega),Tr.get_put,ah (by omega),kp])) λ v K2 n2 ⟨e1,e2,e3,e4⟩=>?_;subst e1 e3;simp[I4,f42,w,g2,g3,g4,g7,g21,g22,g23,f9,f11,f40,f41];refine⟨_,by omega,j+1,rfl,by omega,rfl,by omega,λ c h1 h2=>?_,?_⟩
   ·rw[e4 c h2,Tr.get_put,ah (by omega),Tr.get_put,ah (by omega),hk c h1 h2]
   rw[e2,hsn,<-za]
  rw[ah h0]at kp;simp[Gv,f41,f42,h,f40,hy,zg,f11,h0,I4,w,g2,g3,g4,g7,g21,g22,g23,f9];refine⟨_,by omega,j+1,rfl,by omega,rfl,by omega,λ c h1 h2=>?_,?_⟩
  ·rw[ah (by omega),ah (by omega),hk c h1 h2]
  rw[ah (by omega),ah (by omega),kp]
 obtain rfl:j=xs.length:=by omega
 rw[eZ (aP _)]at kp;simp[Gv,f41,f42];refine k _ _ _ ?_ ?_ ?_ ?_ ?_ ?_ ?_ hn hk kp
 ·simp[g2]
 ·simp[g3]
 ·simp[g4]
 ·simp[g7,f7]
 ·simp[g21]
 ·simp[g22]
 simp[g23]
def dR (s:bB)(t:bo)(rows:List (List Val)):Int:=if qW s t rows=0 then (if tj s t.id rows then 0 else 160)else qW s t rows
theorem TZ (s:bB) (t:bo) (rows:List (List Val)) (hs:s.indexes.length<=aM) (hc:∀x∈s.indexes,x.cols.length<=aM) (hrl:rows.length<=aM) (hv:∀r∈rows,r.length<=aM/\∀v∈r,v.eA) (ja:∀r∈rows,r.length=t.cols.length->∀x∈s.on t.id,mV x.cols r) (lR:∀x∈s.on t.id,x.cols.length<=16) (hfit:∀r∈rows,r.length=t.cols.length):ae pG 41 [fe.av s,aA.av t,.ds (bG rows) rows.length 1] (zI (dR s t rows)):=by
 unfold aM at hrl;refine pv c41 λ F hF=>?_;have hon:=atb s hs hc t.id;simp only[aL.av,dI]at hon;have hsub:∀x∈s.on t.id,x∈s.indexes:=λ x hx=>(mem_filter.1 hx).1;have hlen:(s.on t.id).length<=aM:=uo (length_filter_le _ _) hs;unfold aM at hlen;simp[A41,hF,aL.av,dI,dB];refine aw.of (uR _ _) λ u K k ⟨e1,e2,e3⟩=>?_;subst e1 e2 e3;simp[aeD,hF];refine aE.of (λ q F K n ms=>∃i,q=rows.length - i/\i<=rows.length/\F.get 2=some (.ds (bG rows) rows.length 1)/\F.get 3=some (.ptr 0 0)/\F.get 4=some (.ptr 1 0)/\F.get 7=some (.fn (.func 165) [] [.ptr 2 0])/\F.get 21=some (.ds (bG rows) rows.length 1)/\F.get 22=some (zI (rows.length:Int))/\F.get 23=some (zI (i:Int))/\K.get 0=aG 2 [aA.ds s.tables,aQ.ds s.indexes]/\K.get 1=aG 4 [.int .u32 t.id,.str t.name,bL.ds t.cols,.int .u32 t.head]/\K.get 2=aG 1 [zI (qW s t (rows.take i))]/\3<=n/\ms=[]) rows.length ⟨0,by simp,by omega,by simp[hF],by simp,by simp,by simp,by simp,by simp,by simp,by simp,by simp,by simp[qW],by omega,rfl⟩ ?_;clear hF F;rintro q F K n ms ⟨i,rfl,hi,f2,f3,f4,f7,f21,f22,f23,k0,k1,k2,n3,rfl⟩
 by_cases h:i<rows.length
 ·have hx:=ji (k:=.i64) h;have w:=aC i (by omega);have hrm:rows[i]∈rows:=b6 h;obtain⟨h1,h2⟩:=hv rows[i] hrm;have henc:=ane t.cols rows[i] h1 h2;have hsn:qW s t (rows.take (i+1))=m8 (qW s t (rows.take i)) (zR s t rows[i]):=by unfold qW;rw[take_snoc h,List.foldl_append];rfl
  have hin1:=ja rows[i] hrm (hfit _ hrm)
  have hw:zR s t rows[i]=if (uC t.cols rows[i]).2=0 then kF rows[i] (s.on t.id)else (uC t.cols rows[i]).2:=by
   unfold zR
   split
   ·rename_i h0
    have hf0:qM t.cols rows[i]=0:=by
     unfold uC at h0
     split at h0
     ·assumption
     rename_i h;exact ai h0 h
    rw[ac_];intro x hx;exact Uk (rF hf0).2.2.2.2 (lR x hx) (hin1 x hx)
   rfl
  generalize qW s t (rows.take i)=a at *;generalize rows[i]=r at *;simp[ZD,f22,f23,h,f21,hx,f4,k1];refine aw.pure henc ?_;simp[aeC,f7];refine aw.of (jB a (uC t.cols r).2 k2) λ v K2 m2 ⟨e1,e2,e3,e4⟩=>?_;subst e1 e3;simp[aeB,f3,f4,e4 0 (by omega),e4 1 (by omega),k0,k1];refine aw.pure hon ?_;simp[aL.aD];refine abV r (s.on t.id) hlen (uC t.cols r).2 _ (λ x hx=>hc x (hsub x hx)) h2 (λ _=>hin1) _ _ _ 2 _ (by simp[f7]) (by simp) (by simp) (by simp) (by simp) (by simp) e2 (by omega) λ F' K' n' g2 g3 g4 g7 g21 g22 g23 hn hk kp=>?_;simp[f2,f3,f4,f7,f21,f22,f23]at g2 g3 g4 g7 g21 g22 g23;simp[W3,g2,g3,g4,g7,g21,g22,g23,w];refine⟨_,by omega,i+1,rfl,by omega,rfl,?_,?_,?_,by omega⟩
  ·rw[hk 0 (by omega) (by omega),e4 0 (by omega),k0]
  ·rw[hk 1 (by omega) (by omega),e4 1 (by omega),k1]
  rw[kp,hsn,hw]
  split
  ·rename_i h0;rw[h0,ac7]
  rfl
 obtain rfl:i=rows.length:=by omega
 rw[eZ (aP _)]at k2;unfold dR;generalize qW s t rows=a at *;simp[ZD,f22,f23,WZ,f7];refine aw.of (jB a 0 k2) λ v K2 m2 ⟨e1,e2,e3,e4⟩=>?_;subst e1 e3;simp only[ac7]at e2
 by_cases h0:a=0
 ·simp[I3,h0,WX,f3,f4,e4 0 (by omega),e4 1 (by omega),k0,k1];refine aw.pure hon ?_;simp[aL.aD];unfold tj;generalize s.on t.id=xs at *;refine aE.of (λ q F K n ms=>∃j,q=xs.length - j/\j<=xs.length/\F.get 2=some (.ds (bG rows) rows.length 1)/\F.get 68=some (aQ.ds xs)/\F.get 69=some (zI (xs.length:Int))/\F.get 70=some (zI (j:Int))/\(∀x∈xs.take j,x.uniq=true->(eh x.cols rows).Nodup)/\ms=[]) xs.length ⟨0,by simp,by omega,by simp[f2],by simp,by simp,by simp,by simp,rfl⟩ ?_;clear f2 f3 f4 f7 f21 f22 f23 k0 k1 k2;rintro q F K n ms ⟨j,rfl,hj,f2,f68,f69,f70,hk,rfl⟩
  by_cases h:j<xs.length
  ·have hy:=aQ.ix (ik:=.i64) h;have w:=aC j (by omega);have hxm:xs[j]∈xs:=b6 h;have hms:∀x∈xs.take (j+1),x∈xs.take j∨x=xs[j]:=λ x hx=>by rwa [take_snoc h,mem_append,gp]at hx
   have htw:=aag xs[j] rows (hc _ (hsub _ hxm)) (by unfold aM;omega) λ r hr=>⟨(hv r hr).2,ja r hr (hfit r hr) _ hxm⟩;simp only[aL.av,eC]at htw;rw[eC]at hy;generalize xs[j]=x at *
   cases hu:x.uniq with
   |false =>
    simp[Oq,f69,f70,h,f68,hy,zg,hu,I2,w,f2];refine⟨_,by omega,j+1,rfl,by omega,rfl,λ y hy' hyu=>?_⟩
    rcases hms y hy' with h1|rfl
    ·exact hk y h1 hyu
    rw[hu]at hyu;cases hyu
   |true =>
    rw[hu]at htw;simp[Oq,f69,f70,h,f68,hy,zg,hu,f2];refine aw.pure htw ?_
    by_cases hnd:(eh x.cols rows).Nodup
    ·simp[hnd,I2,f70,w,f2,f68,f69];refine⟨_,by omega,j+1,rfl,by omega,rfl,λ y hy' hyu=>?_⟩
     rcases hms y hy' with h1|rfl
     ·exact hk y h1 hyu
     exact hnd
    have:¬ ∀x∈xs,x.uniq=true->(eh x.cols rows).Nodup:=λ h1=>hnd (h1 x hxm hu);simp only[ah this];simp[hnd,WW];exact fp
  obtain rfl:j=xs.length:=by omega
  rw[eZ (aP _)]at hk;simp only[ao hk];simp[Oq,f69,f70,WV];exact fp
 simp[I3,h0,WY];exact fp
end Go.Abs
namespace Go.Abs
open List
open Go.Proofs
open Classical
set_option maxRecDepth 100000
variable {α:Type}{k:Nat}
theorem uI {F F2:Fr}{K:Hp}{m:Nat}{va x:AV}{l r cs:List AV}{len sa k sz:Nat}(hF:∀(t:Nat) v,F2.get t=some v->F.get t=some v) (ha:au K m va (l++x::r) len sa) (h1:0<len) (hx:au K m x cs k sz) (hz:0<sz) (hcs:aJ cs) (hd:∀c,blk va=some c->blk x≠some c):
  ∃h K2,ez h F K F2 K2/\au K2 m va (l++.ds cs k sz::r) len sa/\∀c,blk va≠some c->blk x≠some c->K2.get c=K.get c:=by
 have hfz:∀h:Hf,(∀c,blk x=some c->h c=K.get c)->eY h x (.ds cs k sz):=by
  intro h hh;obtain⟨s',rfl⟩:∃s',sz=s'+1:=⟨sz - 1,by omega⟩;obtain⟨h0,⟨rfl,rfl⟩|⟨b,kk,rfl,hb,hk,ho⟩⟩:=hx
  ·have:cs=[]:=by simpa using h0
   subst this;exact .nil _
  obtain⟨u,z,bs,t,rfl,hg⟩:=ho.fX (o:=0) (c:=k*(s'+1)) (by omega);refine .sl _ _ _ _ _ _ _ _ _ _ ((hh b rfl).trans hk) hg ?_;rw[drop_zero,eZ (by omega)];exact bh.pure hcs
 obtain⟨h0,⟨_,h1⟩|⟨b,kb,rfl,hb,hk,ho⟩⟩:=ha
 ·omega
 have hxb:blk x≠some b:=hd b rfl;obtain⟨u,z,bs,t,rfl,hu,hg,hi⟩:=ho
 refine⟨λ c=>if blk x=some c then K.get c else none,(match blk x with
  |some c=>K.put c none
  |none=>K).put b (aG u (l++AV.ds cs k sz::r)),⟨λ c y hc=>?_,λ c hc=>?_,λ t v hv=>⟨v,hF t v hv,.inl rfl⟩,λ c y hc=>?_⟩,⟨by simpa using h0,.inr ⟨b,.cells u [] (l++AV.ds cs k sz::r) .nil,rfl,hb,by simp,OwnB.list (by simpa using hu)⟩⟩,λ c h3 h4=>?_⟩
 ·split at hc
  ·exact hc
  cases hc
 ·have hc:(if blk x=some c then K.get c else none)≠none:=hc
  by_cases he:blk x=some c
  ·have hcb:c≠b:=λ e=>hxb (by rw[he,e]);rw[he];simp[hcb]
  simp[he]at hc
 ·by_cases hcb:c=b
  ·subst hcb;simp at hc;subst hc;refine⟨_,hk,.inr ⟨u,z,bs,t,_,rfl,rfl,by simpa using hu.symm,λ i v' hv=>?_⟩⟩
   by_cases hil:i<l.length
   ·rw[getElem?_append_left hil]at hv;exact⟨v',by rw[hg,getElem?_append_left hil];exact hv,.inl rfl⟩
   rw[getElem?_append_right (by omega)]at hv
   rcases Nat.eq_zero_or_pos (i - l.length)with e|e
   ·rw[e]at hv;simp at hv;subst hv;refine⟨x,by rw[hg,getElem?_append_right (by omega),e];simp,.inr (hfz _ λ c hc=>ao hc)⟩
   obtain⟨j,hj⟩:∃j,i - l.length=j+1:=⟨i - l.length - 1,by omega⟩;rw[hj]at hv;simp at hv;exact⟨v',by rw[hg,getElem?_append_right (by omega),hj];simpa using hv,.inl rfl⟩
  rw[Tr.get_put,ah hcb]at hc;refine⟨y,?_,.inl rfl⟩
  cases hbx:blk x with
  |none=>rw[hbx]at hc;exact hc
  |some d =>
   rw[hbx]at hc;simp only[Tr.get_put]at hc
   split at hc
   ·cases hc
   exact hc
 have hc:c≠b:=λ e=>h3 (by rw[e];rfl);rw[Tr.get_put,ah hc]
 cases hbx:blk x with
 |none=>rfl
 |some d =>
  have:c≠d:=λ e=>h4 (by rw[hbx,e]);simp[this]
theorem app0 {α:Type}{s':Nat}(E:aL α (s'+1))(l:List α)(hl:l.length<=aM){P:Program}{K:Hp}{b fP:Nat}{F:Fr}{Q:QA}{pd:Pd}{r:List (Option GO)}(hby:fP<=4096)
  (hgo:∀v H' n',b+1<=n'->au H' n' v (E.l l) l.length (s'+1)->(∀c,blk v=some c->b<=c)->(∀c,c<b->H'.get c=K.get c)->fj P r (pd.f v F) H' n' [] Q):
  Dy (iM (s'+1) fP (b+1) (.sl b 0 0 (s'+1)) (E.ds l) (K.put b (aG 0 []))) pd r P F (K.put b (aG 0 [])) (b+1) [] Q:=by
 unfold aM at hl;have ho:au (K.put b (aG 0 [])) (b+1) (.sl b 0 0 (s'+1)) [] 0 (s'+1):=⟨by simp,.inr ⟨b,_,rfl,by omega,(Tr.get_put _ _ _ _).trans (ao rfl),OwnB.list rfl⟩⟩
 by_cases h0:l.length=0
 ·have hn:l=[]:=length_eq_zero_iff.1 h0;subst hn
  have e2:iM (s'+1) fP (b+1) (.sl b 0 0 (s'+1)) (E.ds []) (K.put b (aG 0 []))=.val (.sl b 0 0 (s'+1)):=by
   unfold Go.Abs.iM;simp[aL.ds,lW]
  rw[e2];simp;refine hgo _ _ _ (aP _) ho (λ c hc=>by simp at hc;omega) λ c hc=>?_;simp[show ¬c=b by omega]
 refine au.rQ (k:=l.length) (new:=E.l l) ho (by simp[aL.ds]) (by simp[aL.ds]) (by simp[aL.alU]) (by omega) (by omega) (by unfold big;omega) hby (by simp) λ H' o' g=>?_;rw[qw]at o' ⊢;refine hgo _ _ _ (by omega) (by simpa using o') (λ c hc=>by simp at hc;omega) λ c hc=>?_;rw[g c (by omega) (by simp;omega)];simp[show ¬c=b by omega]
structure CpF (F:Fr):Prop where
 f1:F.get 1=some (.ptr 0 0)
 f2:F.get 2=some (.ptr 1 0)
 f3:F.get 3=some (.ptr 2 0)
structure CpM (s:bB)(i j:Nat)(vt vi:AV)(K:Hp)(m:Nat):Prop where
 hm:3<=m
 k0:K.get 0=aG 2 (fe.cells s)
 k1:K.get 1=aG 2 [.al (.slice none 0 0),.al (.slice none 0 0)]
 k2:K.get 2=aG 2 [vt,vi]
 ot:au K m vt (aA.l (s.tables.take i)) i 4
 oi:au K m vi (aQ.l (s.indexes.take j)) j 6
 dt:∀c,blk vt=some c->3<=c
 di:∀c,blk vi=some c->3<=c/\blk vt≠some c
theorem ahY (s:bB) (hs:s.dz) (F:Fr) (K:Hp) (m:Nat) (Q:QA) (hF:CpF F) (f4:F.get 4=some (zI 0)) (M:CpM s 0 0 (.al (.slice none 0 0)) (.al (.slice none 0 0)) K m)
  (hQ:∀vt F K m,CpF F->CpM s s.tables.length 0 vt (.al (.slice none 0 0)) K m->Q .normal F K m []):aE OA pG F K m [] (fy 0 Q):=by
 have ht:=hs.t;unfold aM at ht;refine aE.ZZ (λ q F K m ms=>∃(i:Nat) (vt:AV),q=s.tables.length - i/\i<=s.tables.length/\CpF F/\F.get 4=some (zI (i:Int))/\CpM s i 0 vt (.al (.slice none 0 0)) K m/\ms=[]) s.tables.length (Zs.refl ⟨0,_,by simp,by simp,hF,f4,M,rfl⟩) ?_;clear hF f4 M F K m;rintro q1 F K m ms ⟨i,vt,rfl,hi,⟨f1,f2,f3⟩,f4,M,rfl⟩;have k0:=M.k0;rw[dI]at k0
 by_cases hlt:i<s.tables.length
 ·have hxx:=aA.ix (ik:=.i64) hlt;have hld:=λ H=>aA.mf s.tables[i] (aA.l (s.tables.drop (i+1))) H;have htc:=hs.tc _ (b6 hlt);unfold aM at htc;simp[OA,f1,f4,k0,aL.aD,hlt,hxx,hld,aL.av];generalize hK1:Tr.put (Tr.put K m _) m _=K1;have g1:∀c,c<m->K1.get c=K.get c:=λ c hc=>by rw[<-hK1];simp[ga hc]
  have x1:K1.get m=aG 4 (aA.cells s.tables[i]):=by rw[<-hK1];simp
  clear hK1;rw[dB]at x1;simp[ae7,x1];refine app0 bL _ (by unfold aM;omega) (by omega) λ v K2 m2 hm2 hv dv g2=>?_;have x2:=(g2 m (by omega)).trans x1;have hone:=hv.cO;obtain⟨hl1,hl2⟩:=hv.Aw;have b2:∀c,c<m->K2.get c=K.get c:=λ c hc=>(g2 c (by omega)).trans (g1 c hc);have hm:=M.hm;have k22:=(b2 2 (by omega)).trans M.k2;have hto:=M.ot.cO;have hta:=λ c h=>M.ot.bg (c:=c) h;simp[x2,hone,hl1,hl2,ae6,f3,show ¬ 2=m by omega,k22];generalize hK3:Tr.put (Tr.put K2 m _) m2 _=K3;have g3:∀c,c≠m->c<m2->K3.get c=K2.get c:=λ c h1 h2=>by rw[<-hK3];simp[h1,ga h2]
  have x3:K3.get m2=aG 4 [.int .u32 s.tables[i].id,.str s.tables[i].name,v,.int .u32 s.tables[i].head]:=by rw[<-hK3];simp
  clear hK3;have ot3:au K3 (m2+1) vt (aA.l (s.tables.take i)) i 4:=M.ot.frame (by omega) λ c hc=>(g3 c (by have:=hta c hc;omega) (by have:=hta c hc;omega)).trans (b2 c (hta c hc));refine au.rQ (k:=1) (new:=[.int .u32 s.tables[i].id,.str s.tables[i].name,v,.int .u32 s.tables[i].head]) ot3 (aR x3) (by simp) (by simp) (by omega) (by omega) (by unfold big;omega) (by omega) (by simp[hone]) λ K4 o4 g4=>?_;have k24:=(g4 2 (by omega) λ h=>by have:=M.dt 2 h;omega).trans ((g3 2 (by omega) (by omega)).trans k22);simp[f3,k24,ae5,f4,aC i (by omega)];generalize hK5:Tr.put K4 2 _=K5;have g5:∀c,c≠2->K5.get c=K4.get c:=λ c hc=>by rw[<-hK5];simp[hc]
  have x5:K5.get 2=aG 2 [.sl (m2+1) 0 (i+1) 4,.al (.slice none 0 0)]:=by rw[<-hK5];simp
  clear hK5;generalize hF2:(Fp 4 _ _:Fr)=F2;have w1:F2.get 1=some (.ptr 0 0):=by rw[<-hF2];simp[f1]
  have w2:F2.get 2=some (.ptr 1 0):=by rw[<-hF2];simp[f2]
  have w3:F2.get 3=some (.ptr 2 0):=by rw[<-hF2];simp[f3]
  have w4:F2.get 4=some (zI ((i+1:Nat):Int)):=by rw[<-hF2];simp
  clear hF2;have bk:∀c,c<m->c≠2->blk vt≠some c->K5.get c=K.get c:=λ c h1 h2 h3=>(g5 c h2).trans ((g4 c (by omega) h3).trans ((g3 c (by omega) (by omega)).trans (b2 c h1)))
  have QJ:au K5 (m2+1+1) (.sl (m2+1) 0 (i+1) 4) ((aA.l (s.tables.take i)++[.int .u32 s.tables[i].id,.str s.tables[i].name])++v::[.int .u32 s.tables[i].head]) (i+1) 4:=by
   have:=o4.frame (H':=K5) (n':=m2+1+1) (by omega) λ c hc=>g5 c (by simp at hc;omega);simpa using this
  have ov5:au K5 (m2+1+1) v (bL.l s.tables[i].cols) s.tables[i].cols.length 3:=hv.frame (by omega) λ c hc=>by
   have h1:=dv c hc;have h2:=hv.bg hc;exact(g5 c (by omega)).trans ((g4 c (by omega) λ h=>by have:=hta c h;omega).trans (g3 c (by omega) h2))
  have nv:∀c,c<m->blk v≠some c:=λ c h1 h2=>by have:=dv c h2;omega
  obtain⟨hh,K6,hsh,Pz,g6⟩:=uI (F:=F2) (F2:=F2) (λ t v hv=>hv) QJ (by omega) ov5 (by omega) (by simp) (λ c hc hc2=>by
   have:=hv.bg hc2;simp at hc;omega)
  have na:∀c,c<m->blk (AV.sl (m2+1) 0 (i+1) 4)≠some c:=λ c h1 h2=>by simp at h2;omega
  have nt:∀c,c<3->blk vt≠some c:=λ c h1 h2=>by have:=M.dt c h2;omega
  refine⟨s.tables.length - (i+1),by omega,hh,F2,K6,hsh,i+1,rfl,hlt,⟨w1,w2,w3⟩,w4,⟨.sl (m2+1) 0 (i+1) 4,by omega,?_,?_,?_,?_,by simpa using au.nil _ _ 6,λ c hc=>by simp at hc;omega,by simp⟩,rfl⟩
  ·exact(g6 0 (na 0 (by omega)) (nv 0 (by omega))).trans ((bk 0 (by omega) (by omega) (nt 0 (by omega))).trans M.k0)
  ·exact(g6 1 (na 1 (by omega)) (nv 1 (by omega))).trans ((bk 1 (by omega) (by omega) (nt 1 (by omega))).trans M.k1)
  ·exact(g6 2 (na 2 (by omega)) (nv 2 (by omega))).trans x5
  have e:aA.l (s.tables.take (i+1))=(aA.l (s.tables.take i)++[.int .u32 s.tables[i].id,.str s.tables[i].name])++.ds (bL.l s.tables[i].cols) s.tables[i].cols.length 3::[.int .u32 s.tables[i].head]:=by
   rw[take_add_one,cE hlt,Option.toList,aL.dV,aL.lP,dB];simp[aL.ds]
  rw[e];exact Pz
 obtain rfl:i=s.tables.length:=by omega
 simp[OA,f1,f4,k0,aL.aD];exact hQ vt _ K m ⟨by simp[f1],by simp[f2],by simp[f3]⟩ M
theorem ahX (s:bB) (hs:s.dz) (vt:AV) (F:Fr) (K:Hp) (m:Nat) (Q:QA) (hF:CpF F) (f6:F.get 6=some (zI 0)) (M:CpM s s.tables.length 0 vt (.al (.slice none 0 0)) K m)
  (hQ:∀vi F K m,CpF F->CpM s s.tables.length s.indexes.length vt vi K m->Q .normal F K m []):aE Oz pG F K m [] (fy 2 Q):=by
 have ht:=hs.i;unfold aM at ht;refine aE.ZZ (λ q F K m ms=>∃(i:Nat) (vi:AV),q=s.indexes.length - i/\i<=s.indexes.length/\CpF F/\F.get 6=some (zI (i:Int))/\CpM s s.tables.length i vt vi K m/\ms=[]) s.indexes.length (Zs.refl ⟨0,_,by simp,by simp,hF,f6,M,rfl⟩) ?_;clear hF f6 M F K m;rintro q1 F K m ms ⟨i,vi,rfl,hi,⟨f1,f2,f3⟩,f6,M,rfl⟩;have k0:=M.k0;rw[dI]at k0
 by_cases hlt:i<s.indexes.length
 ·have hxx:=aQ.ix (ik:=.i64) hlt;have hld:=λ H=>aQ.mf s.indexes[i] (aQ.l (s.indexes.drop (i+1))) H;have htc:=hs.ic _ (b6 hlt);unfold aM at htc;simp[Oz,f1,f6,k0,aL.aD,hlt,hxx,hld,aL.av];generalize hK1:Tr.put (Tr.put K m _) m _=K1;have g1:∀c,c<m->K1.get c=K.get c:=λ c hc=>by rw[<-hK1];simp[ga hc]
  have x1:K1.get m=aG 6 (aQ.cells s.indexes[i]):=by rw[<-hK1];simp
  clear hK1;rw[eC]at x1;simp[Yh,x1];refine app0 cQ _ (by unfold aM;omega) (by omega) λ v K2 m2 hm2 hv dv g2=>?_;have x2:=(g2 m (by omega)).trans x1;have hone:=hv.cO;obtain⟨hl1,hl2⟩:=hv.Aw;have b2:∀c,c<m->K2.get c=K.get c:=λ c hc=>(g2 c (by omega)).trans (g1 c hc);have hm:=M.hm;have k22:=(b2 2 (by omega)).trans M.k2;have hto:=M.oi.cO;have htv:=M.ot.cO;have hta:=λ c h=>M.oi.bg (c:=c) h;have htb:=λ c h=>M.ot.bg (c:=c) h;simp[x2,hone,hl1,hl2,Yg,f3,show ¬ 2=m by omega,k22];generalize hK3:Tr.put (Tr.put K2 m _) m2 _=K3;have g3:∀c,c≠m->c<m2->K3.get c=K2.get c:=λ c h1 h2=>by rw[<-hK3];simp[h1,ga h2]
  have x3:K3.get m2=aG 6 [.int .u32 s.indexes[i].id,.int .u32 s.indexes[i].table,.str s.indexes[i].name,v,.bool s.indexes[i].uniq,.int .u32 s.indexes[i].root]:=by rw[<-hK3];simp
  clear hK3;have ot3:au K3 (m2+1) vi (aQ.l (s.indexes.take i)) i 6:=M.oi.frame (by omega) λ c hc=>(g3 c (by have:=hta c hc;omega) (by have:=hta c hc;omega)).trans (b2 c (hta c hc));refine au.rQ (k:=1) (new:=[.int .u32 s.indexes[i].id,.int .u32 s.indexes[i].table,.str s.indexes[i].name,v,.bool s.indexes[i].uniq,.int .u32 s.indexes[i].root]) ot3 (aR x3) (by simp) (by simp) (by omega) (by omega) (by unfold big;omega) (by omega) (by simp[hone]) λ K4 o4 g4=>?_;have k24:=(g4 2 (by omega) λ h=>by have:=(M.di 2 h).1;omega).trans ((g3 2 (by omega) (by omega)).trans k22);simp[f3,k24,Yf,f6,aC i (by omega)];generalize hK5:Tr.put K4 2 _=K5;have g5:∀c,c≠2->K5.get c=K4.get c:=λ c hc=>by rw[<-hK5];simp[hc]
  have x5:K5.get 2=aG 2 [vt,.sl (m2+1) 0 (i+1) 6]:=by rw[<-hK5];simp
  clear hK5;generalize hF2:(Fp 6 _ _:Fr)=F2;have w1:F2.get 1=some (.ptr 0 0):=by rw[<-hF2];simp[f1]
  have w2:F2.get 2=some (.ptr 1 0):=by rw[<-hF2];simp[f2]
  have w3:F2.get 3=some (.ptr 2 0):=by rw[<-hF2];simp[f3]
  have w4:F2.get 6=some (zI ((i+1:Nat):Int)):=by rw[<-hF2];simp
  clear hF2;have bk:∀c,c<m->c≠2->blk vi≠some c->K5.get c=K.get c:=λ c h1 h2 h3=>(g5 c h2).trans ((g4 c (by omega) h3).trans ((g3 c (by omega) (by omega)).trans (b2 c h1)))
  have QJ:au K5 (m2+1+1) (.sl (m2+1) 0 (i+1) 6) ((aQ.l (s.indexes.take i)++[.int .u32 s.indexes[i].id,.int .u32 s.indexes[i].table,.str s.indexes[i].name])++v::[.bool s.indexes[i].uniq,.int .u32 s.indexes[i].root]) (i+1) 6:=by
   have:=o4.frame (H':=K5) (n':=m2+1+1) (by omega) λ c hc=>g5 c (by simp at hc;omega);simpa using this
  have ov5:au K5 (m2+1+1) v (cQ.l s.indexes[i].cols) s.indexes[i].cols.length 1:=hv.frame (by omega) λ c hc=>by
   have h1:=dv c hc;have h2:=hv.bg hc;exact(g5 c (by omega)).trans ((g4 c (by omega) λ h=>by have:=hta c h;omega).trans (g3 c (by omega) h2))
  have nv:∀c,c<m->blk v≠some c:=λ c h1 h2=>by have:=dv c h2;omega
  obtain⟨hh,K6,hsh,Pz,g6⟩:=uI (F:=F2) (F2:=F2) (λ t v hv=>hv) QJ (by omega) ov5 (by omega) (by simp) (λ c hc hc2=>by
   have:=hv.bg hc2;simp at hc;omega)
  have na:∀c,c<m->blk (AV.sl (m2+1) 0 (i+1) 6)≠some c:=λ c h1 h2=>by simp at h2;omega
  have nt:∀c,c<3->blk vi≠some c:=λ c h1 h2=>by have:=(M.di c h2).1;omega
  refine⟨s.indexes.length - (i+1),by omega,hh,F2,K6,hsh,i+1,rfl,hlt,⟨w1,w2,w3⟩,w4,⟨.sl (m2+1) 0 (i+1) 6,by omega,?_,?_,?_,?_,?_,M.dt,λ c hc=>⟨by simp at hc;omega,λ h=>by have:=htb c h;simp at hc;omega⟩⟩,rfl⟩
  ·exact(g6 0 (na 0 (by omega)) (nv 0 (by omega))).trans ((bk 0 (by omega) (by omega) (nt 0 (by omega))).trans M.k0)
  ·exact(g6 1 (na 1 (by omega)) (nv 1 (by omega))).trans ((bk 1 (by omega) (by omega) (nt 1 (by omega))).trans M.k1)
  ·exact(g6 2 (na 2 (by omega)) (nv 2 (by omega))).trans x5
  ·exact M.ot.frame (by omega) λ c hc=>by
    have h1:=htb c hc;have h2:=M.dt c hc;exact(g6 c (na c h1) (nv c h1)).trans (bk c h1 (by omega) λ h=>(M.di c h).2 hc)
  have e:aQ.l (s.indexes.take (i+1))=(aQ.l (s.indexes.take i)++[.int .u32 s.indexes[i].id,.int .u32 s.indexes[i].table,.str s.indexes[i].name])++.ds (cQ.l s.indexes[i].cols) s.indexes[i].cols.length 1::[.bool s.indexes[i].uniq,.int .u32 s.indexes[i].root]:=by
   rw[take_add_one,cE hlt,Option.toList,aL.dV,aL.lP,eC];simp[aL.ds]
  rw[e];exact Pz
 obtain rfl:i=s.indexes.length:=by omega
 simp[Oz,f1,f6,k0,aL.aD];exact hQ vi _ K m ⟨by simp[f1],by simp[f2],by simp[f3]⟩ M
theorem ant (s:bB)(hs:s.dz):ae pG 22 [fe.av s] (fe.av s):=by
 refine pv c22 λ F hF=>?_;have ht:=hs.t;have hi:=hs.i;unfold aM at ht hi;simp[A22,hF,aL.av];refine ahY s hs _ _ _ _ ⟨by simp,by simp,by simp⟩ (by simp) ⟨by omega,by simp,by simp,by simp,by simpa using au.nil _ _ 4,by simpa using au.nil _ _ 6,by simp,by simp⟩ λ vt F K m ⟨f1,f2,f3⟩ M=>?_;simp[ae4];refine ahX s hs vt _ _ _ _ ⟨by simp[f1],by simp[f2],by simp[f3]⟩ (by simp) M λ vi F K m ⟨f1,f2,f3⟩ M=>?_;have k1:=M.k1;have k2:=M.k2;have ot:=M.ot;have oi:=M.oi;have h1:=ot.cO;have h2:=oi.cO;rw[take_length]at ot oi;have dt:=M.dt;have di:=M.di;simp[Ye,f2,f3,k1,k2,h1,h2];refine .agg _ _ _ ?_;rw[dI];refine .cons _ _ _ _ ?_ (.cons _ _ _ _ ?_ .nil)
 ·exact(ot.frame (aP _) λ c hc=>by
   have:=dt c hc;simp[show ¬c=1 by omega]).nf (bh.pure (by simp)) (by omega)
 exact(oi.frame (aP _) λ c hc=>by
  have:=(di c hc).1;simp[show ¬c=1 by omega]).nf (bh.pure (by simp)) (by omega)
end Go.Abs
namespace Go.Abs
open List
open Go.Proofs
open Classical
set_option maxRecDepth 100000
def aW (t:List (List Val)):AV:=.ds (bG t) t.length 1
def dM:aL (List (List Val)) 1:=⟨λ t=>[aW t],λ _=>rfl,λ _=>by simp[aW],λ _=>by simp[aY,AV.one,aW]⟩
theorem sP (t:List (List Val)):dM.cells t=[aW t]:=rfl
structure jP where
 aO:bB
 rows:List (List (List Val))
def fc:aL jP 3:=⟨λ w=>[aA.ds w.aO.tables,aQ.ds w.aO.indexes,dM.ds w.rows],λ _=>rfl,λ _=>by simp,λ _=>by simp[aY,AV.one,aL.ds]⟩
theorem jf (w:jP):fc.cells w=[aA.ds w.aO.tables,aQ.ds w.aO.indexes,dM.ds w.rows]:=rfl
def mS (L:List (List Val)):Prop:=∀k,∀h:k+1<L.length,0<=dZ L[k+1] (L[k]'(by omega))
theorem Rf (L:List (List Val))(hL:L.length<=aM)(hl:∀l∈L,l.length<=aM):ae pG 39 [aW L,.fn (.func 40) [] []] (.bool (decide (mS L))):=by
 unfold aM at hL hl;refine hU c39 (by simp[aW]) (by simp) (by simp[A39]) λ F hF=>?_;simp[A39,hF,aW];have w0:IntKind.i64.wrap ((L.length:Int) - 1)=(L.length:Int) - 1:=dY _ (by omega) (by omega);rw[w0];refine aE.of (λ t F K n ms=>∃j:Nat,t=j/\j<=L.length/\F.get 0=some (aW L)/\F.get 1=some (.fn (.func 40) [] [])/\F.get 5=some (zI ((j:Int) - 1))/\(∀k,j<=k+1->∀h:k+1<L.length,0<=dZ L[k+1] (L[k]'(by omega)))/\ms=[]) L.length ⟨L.length,by simp,by omega,by simp[hF,aW],by simp[hF],by simp,λ k h1 h2=>by omega,rfl⟩ ?_;clear hF F;rintro t F K n ms ⟨j,hj,hjl,f0,f1,f5,hk,rfl⟩;rw[aW]at f0
 by_cases h:2<=j
 ·obtain⟨k,hjk⟩:∃k,j=k+2:=⟨j - 2,by omega⟩;subst hjk;have h1:k+1<L.length:=by omega
  have hx:=ji (k:=.i64) h1;have hy:=ji (k:=.i64) (show k<L.length by omega);have ho:=KI L[k+1] (L[k]'(by omega)) (hl _ (b6 _)) (hl _ (b6 _));have e5:((k+2:Nat):Int) - 1=((k+1:Nat):Int):=by omega
  have w1:IntKind.i64.wrap (((k+1:Nat):Int) - 1)=(k:Int):=by rw[dY _ (by omega) (by omega)];omega
  rw[e5]at f5
  have hk1:(0<=dZ L[k+1] (L[k]'(by omega)))->∀k',k+1<=k'+1->∀h:k'+1<L.length,0<=dZ L[k'+1] (L[k']'(by omega)):=λ h0 k' h2 h3=>by
   by_cases e:k'=k
   ·subst e;exact h0
   exact hk k' (by omega) h3
  have hbad:¬(0<=dZ L[k+1] (L[k]'(by omega)))->¬mS L:=λ h0 h2=>h0 (h2 k h1);generalize L[k+1]=a at *;generalize L[k]'(by omega)=b at *;generalize hc:k+1=c at *;have hcp:(0:Int)<(c:Int):=by omega
  simp[ZF,f5,show 0<c by omega];refine cj.of (dK (l:=[(40,[aF a,aF b],λ H n=>.mk (zI (dZ a b)) H n)]) ?_) ?_
  ·simp only[gp];rintro y rfl;exact cL ho
  by_cases h0:dZ a b<0
  ·have hb:=hbad (by omega);simp[ab,f0,f1,f5,hx,hy,w1,bZ,h0,aeI];exact .bool (by simp[hb])
  simp[ab,f0,f1,f5,hx,hy,w1,bZ,h0,aeH];exact⟨c,by omega,by omega,by simp[aW],by omega,hk1 (by omega)⟩
 simp[ZF,f5,show ¬(1:Int)<(j:Int) by omega,aeG];have:mS L:=λ k h1=>hk k (by omega) h1;exact .bool (by simp[this])
structure jP.dz (w:jP):Prop where
 s:w.aO.dz
 g:w.aO.eA
 l:w.rows.length<=aM
 t:∀t∈w.rows,t.length<=aM
 r:∀t∈w.rows,∀r∈t,r.length<=aM/\∀v∈r,v.eA
structure nj (s:bB)(t:bo)(L:List (List Val)):Prop where
 len:L.length<=4096
 w:qW s t L=0
 jZ:mS L
 uq:tj s t.id L
structure eK (w:jP):Prop where
 s:eM w.aO
 l:w.rows.length=w.aO.tables.length
 t:∀i (h1:i<w.rows.length) (h2:i<w.aO.tables.length),nj w.aO w.aO.tables[i] w.rows[i]
theorem EB (a b:Int):m8 a b=0↔a=0/\b=0:=by
 unfold m8
 by_cases h1:a=0<;>by_cases h2:b=0<;>simp[h1,h2]
 omega
theorem l7 (s:bB)(t:bo)(L:List (List Val)):qW s t L=0↔∀r∈L,zR s t r=0:=by
 have key:∀(L:List (List Val)) (a:Int),L.foldl (λ a r=>m8 a (zR s t r)) a=0↔a=0/\∀r∈L,zR s t r=0:=by
  intro L
  induction L with
  |nil=>intro a;simp
  |cons r L ih=>intro a;simp only[foldl_cons,ih,EB,mem_cons,forall_eq_or_imp,and_assoc]
 unfold qW;rw[key];simp
theorem DI {s:bB}{t:bo}{r:List Val}(h:zR s t r=0):qM t.cols r=0:=by
 unfold zR at h
 split at h
 ·rename_i h0;unfold uC at h0
  split at h0
  ·assumption
  rename_i h;exact ai h0 h
 rename_i h0;exact ai h h0
theorem eM.tbl {s:bB}(h:eM s)(hg:s.eA){t:bo}(ht:t∈s.tables):(s.table t.id).1=t:=by
 have ha:=(vA s.tables hg.t).1 h.tabs;obtain⟨i,hi,rfl⟩:=getElem_of_mem ht;unfold bB.table je
 have e:s.tables.find? (λ u:bo=>decide (u.id=s.tables[i].id))=some s.tables[i]:=by
  rw[find?_eq_some_iff_getElem];refine⟨by simp,i,hi,rfl,λ j hj=>?_⟩;have:=((ha i) hi).2.2.2 j hj;simp;omega
 rw[e]
theorem eM.on {s:bB}(h:eM s)(hg:s.eA){t:bo}(ht:t∈s.tables){x:mb}(hx:x∈s.on t.id):fL t x.cols:=by
 obtain⟨h1,h2⟩:=mem_filter.1 hx;simp at h2;obtain⟨i,hi,rfl⟩:=getElem_of_mem h1;have:=(h.ixs i hi).cols;rw[h2,h.tbl hg ht]at this;exact this
theorem fL.ah7 {t:bo}{l:List Int}(h:fL t l){r:List Val}(hr:r.length=t.cols.length):mV l r:=by
 intro c hc;obtain⟨i,hi,rfl⟩:=getElem_of_mem hc;have:=h.2.2 i hi;exact⟨this.1,by rw[hr];exact this.2.1⟩
structure RowsFit (s:bB)(t:bo)(L:List (List Val)):Prop where
 ja:∀r∈L,r.length=t.cols.length->∀x∈s.on t.id,mV x.cols r
 lR:∀x∈s.on t.id,x.cols.length<=16
theorem eM.rows {s:bB}(h:eM s)(hg:s.eA){t:bo}(ht:t∈s.tables)(L:List (List Val)):RowsFit s t L:=
 ⟨λ _ _ hr _ hx=>(h.on hg ht hx).ah7 hr,λ _ hx=>(h.on hg ht hx).2.1⟩
theorem fF (s:bB)(t:bo)(L:List (List Val)):dR s t L=0↔qW s t L=0/\tj s t.id L:=by
 unfold dR
 by_cases h1:qW s t L=0<;>by_cases h2:tj s t.id L<;>simp[h1,h2]
theorem agM (t:bo)(L:List (List Val))(hL:L.length<=aM)(hl:∀l∈L,l.length<=aM)(F:Fr)(K:Hp)(n p:Nat)(Q:QA)(f4:F.get 4=some (.ptr p 0))(kp:K.get p=aG 4 [.int .u32 t.id,.str t.name,bL.ds t.cols,.int .u32 t.head])(f39:F.get 39=some (aW L))(f40:F.get 40=some (zI (L.length:Int)))(f41:F.get 41=some (zI 0))
  (k1:¬(∀r∈L,qM t.cols r=0)->∀F',F'.get 2=some (.bool false)->Q .ret F' K n [])
  (k2:(∀r∈L,qM t.cols r=0)->∀F',F'.get 1=F.get 1->F'.get 4=F.get 4->F'.get 5=F.get 5->F'.get 24=F.get 24->F'.get 25=F.get 25->F'.get 26=F.get 26->Q (.exit 2) F' K n []):aE OB pG F K n [] Q:=by
 unfold aM at hL;refine aE.of (λ q F' K' n' ms=>∃i,q=L.length - i/\i<=L.length/\F'.get 1=F.get 1/\F'.get 4=F.get 4/\F'.get 5=F.get 5/\F'.get 24=F.get 24/\F'.get 25=F.get 25/\F'.get 26=F.get 26/\F'.get 39=some (aW L)/\F'.get 40=some (zI (L.length:Int))/\F'.get 41=some (zI (i:Int))/\(∀r∈L.take i,qM t.cols r=0)/\K'=K/\n'=n/\ms=[]) L.length ⟨0,by simp,by omega,rfl,rfl,rfl,rfl,rfl,rfl,f39,f40,f41,by simp,rfl,rfl,rfl⟩ ?_;clear f39 f40 f41;rintro q F' K' n' ms ⟨i,rfl,hi,g1,g4,g5,g24,g25,g26,f39,f40,f41,hk,rfl,rfl,rfl⟩;have g4':=g4.trans f4;rw[aW]at f39
 by_cases h:i<L.length
 ·have hx:=ji (k:=.i64) h;have w:=aC i (by omega);have hrm:L[i]∈L:=b6 h;have hms:∀x∈L.take (i+1),x∈L.take i∨x=L[i]:=λ x hx=>by rwa [take_snoc h,mem_append,gp]at hx
  have hf:=T0 t.cols L[i] (hl _ hrm);generalize L[i]=r at *;simp[OB,f40,f41,h,f39,hx,g4',kp];refine aw.pure hf ?_
  by_cases h0:qM t.cols r=0
  ·simp[h0,Yw,f41,w,g1,g4',g5,g24,g25,g26,f39,f40,f4];refine⟨_,by omega,i+1,rfl,by omega,by simp[aW],rfl,λ x hx=>?_⟩
   rcases hms x hx with h1|rfl
   ·exact hk x h1
   exact h0
  simp[h0,Yx];exact k1 (λ h1=>h0 (h1 r hrm)) _ (by simp)
 obtain rfl:i=L.length:=by omega
 rw[eZ (aP _)]at hk;simp[OB,f40,f41];refine k2 hk _ ?_ ?_ ?_ ?_ ?_ ?_
 ·simp[g1]
 ·simp[g4]
 ·simp[g5]
 ·simp[g24]
 ·simp[g25]
 simp[g26]
theorem ac5 (w:jP)(hw:w.dz):ae pG 19 [fc.av w] (.bool (decide (eK w))):=by
 refine pv c19 λ F hF=>?_;have EN:=ac6 w.aO hw.s;simp only[aL.av,dI]at EN;have gw:=hw.s.t;have hl:=hw.l;unfold aM at gw hl;simp[A19,hF,aL.av,jf];refine aw.pure EN ?_
 by_cases h0:eM w.aO
 ·by_cases h1:w.rows.length=w.aO.tables.length
  ·simp[h0,aL.aD,h1,ae_];refine aE.of (λ q F K n ms=>∃i,q=w.rows.length - i/\i<=w.rows.length/\F.get 1=some (.ptr 0 0)/\F.get 24=some (aA.ds w.aO.tables)/\F.get 25=some (zI (w.aO.tables.length:Int))/\F.get 26=some (zI (i:Int))/\K.get 0=aG 3 [aA.ds w.aO.tables,aQ.ds w.aO.indexes,dM.ds w.rows]/\0<n/\(∀j (hj:j<i) (h1:j<w.rows.length) (h2:j<w.aO.tables.length),nj w.aO w.aO.tables[j] w.rows[j])/\ms=[]) w.rows.length ⟨0,by simp,by omega,by simp,by simp,by simp,by simp,by simp,by omega,λ j hj=>by omega,rfl⟩ ?_;clear hF F;rintro q F K n ms ⟨i,rfl,hi,f1,f24,f25,f26,k0,n0,hk,rfl⟩
   by_cases h:i<w.rows.length
   ·have h2:i<w.aO.tables.length:=by omega
    have hx:=dM.ix (ik:=.i64) h;have hy:=aA.ix (ik:=.i64) h2;have wr:=aC i (by omega);have htm:w.rows[i]∈w.rows:=b6 h;have hTm:w.aO.tables[i]∈w.aO.tables:=b6 h2;have hrf:=h0.rows hw.g hTm w.rows[i];have hlt:=hw.t _ htm;have hrr:=hw.r _ htm;have hno:∀P:Prop,(nj w.aO w.aO.tables[i] w.rows[i]->P)->¬P->¬eK w:=λ P a b c=>b (a (c.t i h h2))
    have hyes:nj w.aO w.aO.tables[i] w.rows[i]->∀j (hj:j<i+1) (h1:j<w.rows.length) (h2:j<w.aO.tables.length),nj w.aO w.aO.tables[j] w.rows[j]:=λ a j hj h1 h2=>by
     by_cases e:j=i
     ·subst e;exact a
     exact hk j (by omega) h1 h2
    rw[sP]at hx;rw[dB]at hy;generalize w.rows[i]=L at *;generalize w.aO.tables[i]=t at *;have hso:=Rf L hlt λ r hr=>(hrr r hr).1;simp[ZM,f25,f26,h2,f24,hy,akG,aL.av,dB,f1,k0,show ¬ 0=n by omega,hx,aW]
    by_cases h4:4096<L.length
    ·have:=hno (L.length<=4096) (λ a=>a.len) (by omega);simp[show (4096:Int)<(L.length:Int) by omega,ae9];exact .bool (by simp[this])
    simp[show ¬(4096:Int)<(L.length:Int) by omega,ae8];refine agM t L hlt (λ r hr=>(hrr r hr).1) _ _ _ n _ (by simp) (by simp) (by simp[aW]) (by simp) (by simp) (λ hb F' g2=>?_) λ hfit F' g1 g4 g5 g24 g25 g26=>?_
    ·have:=hno (∀r∈L,qM t.cols r=0) (λ a r hr=>DI ((l7 _ _ _).1 a.w r hr)) hb;simp[g2];exact .bool (by simp[this])
    simp[f1,f24,f25,f26]at g1 g4 g5 g24 g25 g26;have hfl:∀r∈L,r.length=t.cols.length:=λ r hr=>(rF (hfit r hr)).2.1;have hfs:=TZ w.aO t L hw.s.i hw.s.ic hlt hrr hrf.ja hrf.lR hfl;simp only[aL.av,dI,dB]at hfs;rw[aW]at hso;simp[Yv,g5];refine aw.pure hso ?_
    by_cases h5:mS L
    ·simp[h5,g1,g4,g5,k0,show ¬ 0=n by omega];refine aw.pure hfs ?_
     by_cases h6:dR w.aO t L=0
     ·obtain⟨h7,h8⟩:=(fF _ _ _).1 h6;simp[h6,Yu,g26,wr,g1,g24,g25,k0,show ¬ 0=n by omega];exact⟨_,by omega,i+1,rfl,by omega,rfl,hyes ⟨by omega,h7,h5,h8⟩⟩
     have:=hno (qW w.aO t L=0/\tj w.aO t.id L) (λ a=>⟨a.w,a.uq⟩) (λ a=>h6 ((fF _ _ _).2 a));simp[h6,JE];exact .bool (by simp[this])
    have:=hno (mS L) (λ a=>a.jZ) h5;simp[h5,JE];exact .bool (by simp[this])
   obtain rfl:i=w.rows.length:=by omega
   have:eK w:=⟨h0,h1,λ j a b=>hk j a a b⟩;simp[ZM,f25,f26,h1,Yt];exact .bool (by simp[this])
  have:¬eK w:=λ h=>h1 h.l;simp[h0,aL.aD,h1,Ys];exact .bool (by simp[this])
 have:¬eK w:=λ h=>h0 h.s;simp[h0,Ys];exact .bool (by simp[this])
def Uo:aL (List Val) 1:=⟨λ r=>[aF r],λ _=>rfl,λ _=>by simp,λ _=>by simp[aY,AV.one,aF]⟩
theorem anj (r:List Val):Uo.cells r=[aF r]:=rfl
theorem ani (L:List (List Val)):Uo.l L=bG L:=by
 induction L with
 |nil=>rfl
 |cons a r ih=>rw[aL.kz,ih];rfl
theorem Un (L:List (List Val)):Uo.ds L=aW L:=by simp[aL.ds,aW,ani]
structure Cp9 (w:jP)(i:Nat)(vr:AV)(K:Hp)(m:Nat):Prop where
 hm:3<=m
 k0:K.get 0=aG 3 [aA.ds w.aO.tables,aQ.ds w.aO.indexes,dM.ds w.rows]
 k1:K.get 1=aG 3 [.al (.slice none 0 0),.al (.slice none 0 0),.al (.slice none 0 0)]
 k2:K.get 2=aG 3 [aA.ds w.aO.tables,aQ.ds w.aO.indexes,vr]
 o:au K m vr (dM.l (w.rows.take i)) i 1
 d:∀c,blk vr=some c->3<=c
theorem ahW (w:jP)(i:Nat)(h:i<w.rows.length)(hl:(w.rows[i]).length<=aM)(hr:∀r∈w.rows[i],r.length<=aM)(vr:AV)(F:Fr)(K:Hp)(m:Nat)(Q:QA)(f1:F.get 1=some (.ptr 0 0))(f2:F.get 2=some (.ptr 1 0))(f3:F.get 3=some (.ptr 2 0))(f4:F.get 4=some (zI (i:Int)))(f5:F.get 5=some (.al (.slice none 0 0)))(f6:F.get 6=some (zI 0))(M:Cp9 w i vr K m)
  (hQ:∀u F' K' m',F'.get 1=some (.ptr 0 0)->F'.get 2=some (.ptr 1 0)->F'.get 3=some (.ptr 2 0)->F'.get 4=some (zI (i:Int))->F'.get 5=some u->Cp9 w i vr K' m'->au K' m' u (Uo.l w.rows[i]) (w.rows[i]).length 1->(∀c,blk u=some c->3<=c/\blk vr≠some c)->Q (.exit 2) F' K' m' []):aE acA pG F K m [] Q:=by
 have hx:=dM.ix (ik:=.i64) h;rw[sP]at hx;generalize hLL:w.rows[i]=L at *;unfold aM at hl;refine aE.ZZ (λ q F K m ms=>∃(k:Nat) (u:AV),q=L.length - k/\k<=L.length/\F.get 1=some (.ptr 0 0)/\F.get 2=some (.ptr 1 0)/\F.get 3=some (.ptr 2 0)/\F.get 4=some (zI (i:Int))/\F.get 5=some u/\F.get 6=some (zI (k:Int))/\Cp9 w i vr K m/\au K m u (Uo.l (L.take k)) k 1/\(∀c,blk u=some c->3<=c/\blk vr≠some c)/\ms=[]) L.length (Zs.refl ⟨0,_,by simp,by simp,f1,f2,f3,f4,f5,f6,M,by simpa using au.nil _ _ 1,by simp,rfl⟩) ?_;clear f1 f2 f3 f4 f5 f6 M F K m;rintro q1 F K m ms ⟨k,u,rfl,hk,f1,f2,f3,f4,f5,f6,M,ou,du,rfl⟩;have k0:=M.k0;have hm:=M.hm
 by_cases hlt:k<L.length
 ·have hy:=ji (k:=.i64) hlt;have hrl:=hr _ (b6 hlt);have wk:=aC k (by omega);have hta:=λ c h=>M.o.bg (c:=c) h;have hua:=λ c h=>ou.bg (c:=c) h;have hou:=ou.cO;have e:=take_snoc hlt;generalize L[k]=r at *;simp[acA,f1,f4,f6,k0,hx,aW,hlt,f5,show ¬ 0=m by omega,hy];rw[<-LF];refine app0 sO r hrl (by omega) λ v K2 m2 hm2 hv dv g2=>?_;have hone:=hv.cO;obtain⟨hl1,hl2⟩:=hv.Aw;simp[hl1,hl2,rep];generalize hK3:Tr.put K2 m2 _=K3;have g3:∀c,c<m2->K3.get c=K2.get c:=λ c h2=>by rw[<-hK3];simp[ga h2]
  have x3:K3.get m2=aG 1 [v]:=by rw[<-hK3];simp
  clear hK3;have ou3:au K3 (m2+1) u (Uo.l (L.take k)) k 1:=ou.frame (by omega) λ c hc=>(g3 c (by have:=hua c hc;omega)).trans (g2 c (hua c hc));refine au.rQ (k:=1) (new:=[v]) ou3 (aR x3) (by simp) (by simp) (by omega) (by omega) (by unfold big;omega) (by omega) (by simp[hone]) λ K4 o4 g4=>?_;simp[aoq,f6,wk];generalize hF2:(Fp 6 _ _:Fr)=F2;have w1:F2.get 1=some (.ptr 0 0):=by rw[<-hF2];simp[f1]
  have w2:F2.get 2=some (.ptr 1 0):=by rw[<-hF2];simp[f2]
  have w3:F2.get 3=some (.ptr 2 0):=by rw[<-hF2];simp[f3]
  have w4:F2.get 4=some (zI (i:Int)):=by rw[<-hF2];simp[f4]
  have w5:F2.get 5=some (.sl (m2+1) 0 (k+1) 1):=by rw[<-hF2];simp
  have w6:F2.get 6=some (zI ((k+1:Nat):Int)):=by rw[<-hF2];simp
  clear hF2;have bk:∀c,c<m->blk u≠some c->K4.get c=K.get c:=λ c h1 h3=>(g4 c (by omega) h3).trans ((g3 c (by omega)).trans (g2 c h1))
  have ov5:au K4 (m2+1+1) v (sO.l r) r.length 3:=hv.frame (by omega) λ c hc=>by
   have h1:=dv c hc;have h2:=hv.bg hc;exact(g4 c (by omega) λ h=>by have:=hua c h;omega).trans (g3 c h2)
  have nv:∀c,c<m->blk v≠some c:=λ c h1 h2=>by have:=dv c h2;omega
  obtain⟨hh,K6,hsh,Pz,g6⟩:=uI (F:=F2) (F2:=F2) (l:=Uo.l (L.take k)) (r:=[]) (λ t v hv=>hv) o4 (by omega) ov5 (by omega) (by simp) (λ c hc hc2=>by
   have:=hv.bg hc2;simp at hc;omega)
  have na:∀c,c<m->blk (AV.sl (m2+1) 0 (k+1) 1)≠some c:=λ c h1 h2=>by simp at h2;omega
  have nu:∀c,c<3->blk u≠some c:=λ c h1 h2=>by have:=(du c h2).1;omega
  have full:∀c,c<m->blk u≠some c->K6.get c=K.get c:=λ c h1 h2=>(g6 c (na c h1) (nv c h1)).trans (bk c h1 h2);refine⟨L.length - (k+1),by omega,hh,F2,K6,hsh,k+1,rfl,by omega,w1,w2,w3,w4,_,w5,w6,⟨by omega,?_,?_,?_,?_,M.d⟩,?_,λ c hc=>?_,rfl⟩
  ·exact(full 0 (by omega) (nu 0 (by omega))).trans M.k0
  ·exact(full 1 (by omega) (nu 1 (by omega))).trans M.k1
  ·exact(full 2 (by omega) (nu 2 (by omega))).trans M.k2
  ·exact M.o.frame (by omega) λ c hc=>full c (hta c hc) λ h=>(du c h).2 hc
  ·rw[e,aL.dV,aL.lP,anj,<-LF];exact Pz
  simp at hc;subst hc;exact⟨by omega,λ h=>by have:=hta _ h;omega⟩
 obtain rfl:k=L.length:=by omega
 rw[eZ (aP _)]at ou;simp[acA,f1,f4,f6,k0,hx,aW];refine hQ u _ K m ?_ ?_ ?_ ?_ ?_ M ou du
 ·simp[f1]
 ·simp[f2]
 ·simp[f3]
 ·simp[f4]
 simp[f5]
theorem anr (w:jP)(hw:w.dz):ae pG 9 [fc.av w] (fc.av w):=by
 refine pv c9 λ F hF=>?_;have EN:=ant w.aO hw.s;simp only[aL.av,dI]at EN;have hl:=hw.l;unfold aM at hl;simp[A9,hF,aL.av,jf];refine aw.pure EN ?_;simp[aor];generalize hK:Tr.put (Tr.put _ 2 _) 2 _=K;have k0:K.get 0=aG 3 [aA.ds w.aO.tables,aQ.ds w.aO.indexes,dM.ds w.rows]:=by rw[<-hK];simp
 have k1:K.get 1=aG 3 [.al (.slice none 0 0),.al (.slice none 0 0),.al (.slice none 0 0)]:=by rw[<-hK];simp
 have k2:K.get 2=aG 3 [aA.ds w.aO.tables,aQ.ds w.aO.indexes,.al (.slice none 0 0)]:=by rw[<-hK];simp
 clear hK;refine aE.ZZ (λ q F K m ms=>∃(i:Nat) (vr:AV),q=w.rows.length - i/\i<=w.rows.length/\F.get 1=some (.ptr 0 0)/\F.get 2=some (.ptr 1 0)/\F.get 3=some (.ptr 2 0)/\F.get 4=some (zI (i:Int))/\Cp9 w i vr K m/\ms=[]) w.rows.length (Zs.refl ⟨0,.al (.slice none 0 0),by simp,by simp,by simp,by simp,by simp,by simp,⟨by omega,k0,k1,k2,by simpa using au.nil _ _ 1,by simp⟩,rfl⟩) ?_;clear hF F k0 k1 k2 K;rintro q1 F K m ms ⟨i,vr,rfl,hi,f1,f2,f3,f4,M,rfl⟩;have k0:=M.k0;have hm:=M.hm
 by_cases hlt:i<w.rows.length
 ·have htm:w.rows[i]∈w.rows:=b6 hlt;have wi:=aC i (by omega);have e:=take_snoc hlt;simp[aiU,f1,f4,k0,aL.aD,hlt];refine ahW w i hlt (hw.t _ htm) (λ r hr=>(hw.r _ htm r hr).1) vr _ _ _ _ (by simp[f1]) (by simp[f2]) (by simp[f3]) (by simp[f4]) (by simp) (by simp) M λ u F K m f1 f2 f3 f4 f5 M ou du=>?_;have hm:=M.hm;have k2:=M.k2;have hta:=λ c h=>M.o.bg (c:=c) h;have hua:=λ c h=>ou.bg (c:=c) h;have hone:=ou.cO;obtain⟨hl1,hl2⟩:=ou.Aw;simp[aop,f3,k2,f5,hl1,hl2,rep];generalize hK3:Tr.put K m _=K3;have g3:∀c,c<m->K3.get c=K.get c:=λ c h2=>by rw[<-hK3];simp[ga h2]
  have x3:K3.get m=aG 1 [u]:=by rw[<-hK3];simp
  clear hK3;have or3:au K3 (m+1) vr (dM.l (w.rows.take i)) i 1:=M.o.frame (by omega) λ c hc=>g3 c (hta c hc);refine au.rQ (k:=1) (new:=[u]) or3 (aR x3) (by simp) (by simp) (by omega) (by omega) (by unfold big;omega) (by omega) (by simp[hone]) λ K4 o4 g4=>?_;have nr:∀c,c<3->blk vr≠some c:=λ c h1 h2=>by have:=M.d c h2;omega
  have k24:=(g4 2 (by omega) (nr 2 (by omega))).trans ((g3 2 (by omega)).trans k2);simp[f3,k24,adP,f4,wi];generalize hK5:Tr.put K4 2 _=K5;have g5:∀c,c≠2->K5.get c=K4.get c:=λ c hc=>by rw[<-hK5];simp[hc]
  have x5:K5.get 2=aG 3 [aA.ds w.aO.tables,aQ.ds w.aO.indexes,.sl (m+1) 0 (i+1) 1]:=by rw[<-hK5];simp
  clear hK5;generalize hF2:(Fp 4 _ _:Fr)=F2;have w1:F2.get 1=some (.ptr 0 0):=by rw[<-hF2];simp[f1]
  have w2:F2.get 2=some (.ptr 1 0):=by rw[<-hF2];simp[f2]
  have w3:F2.get 3=some (.ptr 2 0):=by rw[<-hF2];simp[f3]
  have w4:F2.get 4=some (zI ((i+1:Nat):Int)):=by rw[<-hF2];simp
  clear hF2;have bk:∀c,c<m->c≠2->blk vr≠some c->K5.get c=K.get c:=λ c h1 h2 h3=>(g5 c h2).trans ((g4 c (by omega) h3).trans (g3 c h1));have QJ:au K5 (m+1+1) (.sl (m+1) 0 (i+1) 1) (dM.l (w.rows.take i)++u::[]) (i+1) 1:=o4.frame (by omega) λ c hc=>g5 c (by simp at hc;omega);have ov5:au K5 (m+1+1) u (Uo.l w.rows[i]) (w.rows[i]).length 1:=ou.frame (by omega) λ c hc=>bk c (hua c hc) (by have:=(du c hc).1;omega) (du c hc).2
  obtain⟨hh,K6,hsh,Pz,g6⟩:=uI (F:=F2) (F2:=F2) (λ t v hv=>hv) QJ (by omega) ov5 (by omega) (by simp) (λ c hc hc2=>by
   have:=hua c hc2;simp at hc;omega)
  have full:∀c,c<3->K6.get c=K5.get c:=λ c h1=>g6 c (λ h=>by simp at h;omega) λ h=>by have:=(du c h).1;omega
  refine⟨w.rows.length - (i+1),by omega,hh,F2,K6,hsh,i+1,rfl,by omega,w1,w2,w3,w4,⟨.sl (m+1) 0 (i+1) 1,by omega,?_,?_,?_,?_,λ c hc=>by simp at hc;omega⟩,rfl⟩
  ·exact(full 0 (by omega)).trans ((bk 0 (by omega) (by omega) (nr 0 (by omega))).trans M.k0)
  ·exact(full 1 (by omega)).trans ((bk 1 (by omega) (by omega) (nr 1 (by omega))).trans M.k1)
  ·exact(full 2 (by omega)).trans x5
  rw[e,aL.dV,aL.lP,sP,<-Un];exact Pz
 obtain rfl:i=w.rows.length:=by omega
 have o:=M.o;rw[eZ (aP _)]at o;simp[aiU,f1,f4,k0,aL.aD,adO,f3,M.k2,f2,M.k1,M.o.cO]
 have o':au (K.put 1 (aG 3 [aA.ds w.aO.tables,aQ.ds w.aO.indexes,vr])) m vr (dM.l w.rows) w.rows.length 1:=o.frame (aP _) λ c hc=>by
  have:=M.d c hc;rw[Tr.get_put,ah (by omega)]
 exact .agg _ _ _ (.cons _ _ _ _ fp (.cons _ _ _ _ fp (.cons _ _ _ _ (o'.nf (.pure (by simp))) .nil)))
def fA (b:Bool):Val:=⟨3,if b then 1 else 0,[]⟩
def Lh (k:Int)(v:Val):Bool:=decide (v.kind=0)||decide (v.kind=k)
def jO (k:Int)(l:List Val):Int:=if l.all Val.may then (if l.all (Lh k)then 0 else 30)else 5
def ct (r:Val×Int):AV:=.aX [r.1.av,zI r.2]
@[simp] theorem ai' (r:Val×Int):Pure (ct r):=by simp[ct]
theorem zQ (b:Bool):ae pG 308 [.bool b] (fA b).av:=by
 refine pv c308 λ F hF=>?_;cases b
 ·simp[A308,hF];exact fp
 simp[A308,hF];exact fp
theorem vq (b:Bool):ae pG 219 [.bool b] (fA b).av:=by
 refine pv c219 λ F hF=>?_;cases b
 ·simp[A219,hF];exact fp
 simp[A219,hF];exact fp
theorem F9 (p:Val->Bool)(l:List Val)(i:Nat)(h:i<l.length)(h0:(l.take i).all p=true):(l.take (i+1)).all p=p l[i]:=by
 rw[take_snoc h,all_append,h0];simp
theorem U9 (p:Val->Bool)(l:List Val)(i:Nat)(h:i<l.length)(h0:p l[i]=false):l.all p=false:=by
 rw[all_eq_false];exact⟨l[i],b6 h,by simp[h0]⟩
theorem xB (k:Int) (l:List Val) (hl:l.length<=aM):ae pG 307 [zI k,aF l] (zI (jO k l)):=by
 unfold aM at hl;refine pv c307 λ F hF=>?_;simp[A307,hF,aF];refine aE.of (λ t F K n ms=>∃i,t=l.length - i/\i<=l.length/\F.get 0=some (zI k)/\F.get 1=some (aF l)/\F.get 9=some (aF l)/\F.get 10=some (zI (l.length:Int))/\F.get 11=some (zI (i:Int))/\(l.take i).all Val.may=true/\ms=[]) l.length ⟨0,by simp[hF,aF]⟩ ?_;clear hF F;rintro t F K n ms ⟨i,rfl,hi,f0,f1,f9,f10,f11,ha,rfl⟩;rw[aF]at f1 f9
 by_cases h:i<l.length
 ·have hx:=gB (k:=.i64) h;have w:=aC i (by omega);have hs:=F9 Val.may l i h ha;have hn:=U9 Val.may l i h;generalize l[i]=v at *;have hm:=lO v;simp only[Val.av]at hm;simp[JP,f10,f11,h,f9,hx,gK,Val.av];refine aw.pure hm ?_
  cases hv:v.may with
  |true =>
   simp[XE,f11,w,f0,f1,f9,f10];exact⟨_,by omega,i+1,rfl,by omega,by simp[aF],rfl,by rw[hv]at hs;simpa using hs⟩
  |false =>
   have e:jO k l=5:=by unfold jO;rw[hn hv];rfl
   simp[XF,e];exact fp
 obtain rfl:i=l.length:=by omega
 rw[eZ (aP _)]at ha;have hall:=ha;simp[JP,f10,f11,XD,f1];refine aE.of (λ t F K n ms=>∃i,t=l.length - i/\i<=l.length/\F.get 0=some (zI k)/\F.get 19=some (aF l)/\F.get 20=some (zI (l.length:Int))/\F.get 21=some (zI (i:Int))/\(l.take i).all (Lh k)=true/\ms=[]) l.length ⟨0,by simp[f0,aF]⟩ ?_;clear f0 f1 f9 f10 f11 F;rintro t F K n ms ⟨i,rfl,hi,f0,f19,f20,f21,ha,rfl⟩;rw[aF]at f19
 by_cases h:i<l.length
 ·have hx:=gB (k:=.i64) h;have w:=aC i (by omega);have hs:=F9 (Lh k) l i h ha;have hn:=U9 (Lh k) l i h;generalize l[i]=v at *
  by_cases h0:v.kind=0
  ·have hk:Lh k v=true:=by simp[Lh,h0]
   simp[xW,f20,f21,h,f19,hx,gK,Val.av,h0,w,f0];exact⟨_,by omega,i+1,rfl,by omega,by simp[aF],rfl,by rw[hk]at hs;simpa using hs⟩
  by_cases h1:v.kind=k
  ·have hk:Lh k v=true:=by simp[Lh,h1]
   simp[xW,f20,f21,h,f19,hx,gK,Val.av,h1];simp[h1]at h0;simp[h0,f19,f21,w,f0,f20];exact⟨_,by omega,i+1,rfl,by omega,by simp[aF],rfl,by rw[hk]at hs;simpa using hs⟩
  have hk:Lh k v=false:=by simp[Lh,h0,h1]
  have e:jO k l=30:=by unfold jO;rw[hall,hn hk];rfl
  simp[e,xW,f20,f21,h,f19,hx,gK,Val.av,h0,h1,f0];exact fp
 obtain rfl:i=l.length:=by omega
 rw[eZ (aP _)]at ha;have e:jO k l=0:=by unfold jO;rw[hall,ha];rfl
 simp[e,xW,f20,f21,MC];exact fp
theorem amO {H:Hp}{b:Nat}{a:Val}(h:H.get b=aG 3 a.cells):eY H.get (.sl b 0 1 3) (aF [a]):=by
 have:=au.nf (H:=H) (n:=b+1) (v:=.sl b 0 1 3) (l:=sO.l [a]) (len:=1) (sz:=3) ⟨by simp,.inr ⟨b,_,rfl,by omega,h,OwnB.list (l:=sO.l [a]) (by simp)⟩⟩ (.pure (by simp));rw[Bc]at this;exact this
theorem Lu {H:Hp}{b:Nat}{a c:Val}(h:H.get b=aG 6 (a.cells++c.cells)):eY H.get (.sl b 0 2 3) (aF [a,c]):=by
 have:=au.nf (H:=H) (n:=b+1) (v:=.sl b 0 2 3) (l:=sO.l [a,c]) (len:=2) (sz:=3) ⟨by simp,.inr ⟨b,_,rfl,by omega,h,OwnB.list (l:=sO.l [a,c]) (by simp)⟩⟩ (.pure (by simp));rw[Bc]at this;exact this
def jR (a b:Val)(r:Int×Bool):Val×Int:=if jO 1 [a,b]≠0∨a.kind=0∨b.kind=0 then (iw,jO 1 [a,b])else if r.2=true then (⟨1,r.1,[]⟩,0)else (iw,31)
theorem oU (a b:Val) (g:FuncId) (r:Int×Bool) (h:jO 1 [a,b]=0->a.kind≠0->b.kind≠0->ae pG g [zI a.num,zI b.num] (.aX [zI r.1,.bool r.2])):ae pG 305 [a.av,b.av,.fn (.func g) [] []] (ct (jR a b r)):=by
 refine pv c305 λ F hF=>?_;have hall:=xB 1 [a,b] (by simp[aM]);unfold jR;generalize jO 1 [a,b]=e at *;simp[A305,hF,Val.av,rep];refine aw.nf hall (by simp) (.cons _ _ _ _ fp (.cons _ _ _ _ (Lu (a:=a) (c:=b) (by simp[Val.cells])) .nil)) ?_
 by_cases h0:e=0
 ·by_cases ha:a.kind=0
  ·simp[xP,h0,ha,BK];exact fp
  by_cases hb:b.kind=0
  ·simp[xP,h0,ha,hb,BK];exact fp
  simp[xP,h0,ha,hb,XI,hF];refine aw.pure (h h0 ha hb) ?_
  cases hr:r.2 with
  |true=>simp[Jj,XG];exact fp
  |false=>simp[Jj,XH];exact fp
 simp[xP,h0,BK];exact fp
def jT (a b:Val)(r:Bool):Val×Int:=if ¬(a.may=true/\b.may=true)then (iw,5)else if a.kind=0∨b.kind=0 then (iw,0)else if a.kind≠b.kind then (iw,30)else (fA r,0)
theorem pF (a b:Val) (g:FuncId) (r:Bool) (h:ae pG g [zI (a.ord b)] (.bool r)):ae pG 340 [a.av,b.av,.fn (.func g) [] []] (ct (jT a b r)):=by
 refine pv c340 λ F hF=>?_;have ha:=lO a;have hb:=lO b;have ho:=KH a b;unfold jT;simp only[Val.av]at ha hb ho;simp[A340,hF,Val.av];refine aw.pure ha ?_
 cases hma:a.may with
 |false=>simp[Jb];exact fp
 |true =>
  simp;refine aw.pure hb ?_
  cases hmb:b.may with
  |false=>simp[Jb];exact fp
  |true =>
   by_cases h1:a.kind=0
   ·simp[xM,h1,Ja];exact fp
   by_cases h2:b.kind=0
   ·simp[xM,h1,h2,Ja];exact fp
   by_cases h3:a.kind=b.kind
   ·simp[xM,h2,I9,h3,Xy,hF];simp only[h3]at ho h1;refine aw.pure ho ?_;simp;refine aw.pure h ?_;simp;refine aw.pure (zQ r) ?_;simp[Val.av];exact fp
   simp[xM,h1,h2,I9,h3,Xz];exact fp
def opC (c f:FuncId):CF:={res:=[bU 4 3,aI 5],code:=.seq (.mc [oP (bm 2) (Fh (ar 0)),oP (bm 3) (Fh (ar 1)),oP (bm 4) (ak [(zI 0),(zI 0),(.str [])] 3),oP (bm 5) (ej (aT (zI 0)))]) (.seq (.mc [oP (bm 6) (iI 3 (ar 2)),oP (bm 7) (iI 3 (ar 3)),cP (bm 8) c [(ar 6),(ar 7),(aT (.fn (.func f) [] []))],oP (bm 9) (e1 (mN 0) (ar 8)),oP (bm 10) (e1 (mN 1) (ar 8)),oP pZ (dm 3 (ar 4) (ar 9)),oP (bm 5) (ej (ar 10))]) .ret),nt:=11}
theorem rp {g c f:FuncId}(hc:HU pG g=some (opC c f)){a b:Val}{r:Val×Int}(h:ae pG c [a.av,b.av,.fn (.func f) [] []] (ct r)):ae pG g [a.av,b.av] (ct r):=by
 refine hU hc (by simp) (by simp) (by simp[opC]) λ F hF=>?_;simp only[Val.av]at h;simp[opC,hF,Val.av];refine aw.pure h ?_;simp[ct,Val.av];exact fp
end Go.Abs
