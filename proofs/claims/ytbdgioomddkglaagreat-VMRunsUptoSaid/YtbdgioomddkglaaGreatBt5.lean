/- A part. -/
import Derived.Test.YtbdgioomddkglaaGreatBt4
noncomputable section
namespace Go.Abs
open List
open Go.Proofs
open Classical
set_option maxRecDepth 100000
def bG:Val:=⟨0,0,[]⟩
def jr (row:List Val)(cols:List Int):List Val:=cols.map λ c=>row.getD c.toNat bG
def kU (l:List Val):Bool:=l.any λ v=>decide (v.kind=0)
def jM (cols:List Int)(row:List Val):Prop:=∀c∈cols,0<=c/\c<(row.length:Int)
theorem D8 (row:List Val)(cols:List Int)(i k:Nat)(h:i<cols.length)(hk:k<row.length)(e:cols[i]=(k:Int)):jr row (cols.take (i+1))=jr row (cols.take i)++[row[k]]:=by
 unfold jr;rw[take_snoc h,map_append,List.map_singleton,e];simp[getD,dU hk]
theorem wo (l:List Val)(v:Val):kU (l++[v])=(kU l||decide (v.kind=0)):=by simp[kU]
theorem KH {row:List Val}{cols:List Int}(hr:∀v∈row,v.jA)(hc:jM cols row):∀v∈jr row cols,v.jA:=by
 intro v hv;obtain⟨c,h1,rfl⟩:=mem_map.1 hv;obtain⟨h2,h3⟩:=hc c h1;have:c.toNat<row.length:=by omega
 simp only[getD,dU this,Option.getD_some];exact hr _ (bT this)
@[simp] theorem apk (row:List Val)(cols:List Int):(jr row cols).length=cols.length:=by simp[jr]
theorem ado (x:lY)(row:List Val)(hl:x.cols.length<=bm)(hr:∀v∈row,v.jA)(hc:jM x.cols row):ah pG 91 [aR.av x,ai row] (.aW [.str (iM (jr row x.cols)).1,.bool (kU (jr row x.cols)),iI (iM (jr row x.cols)).2]):=by
 unfold bm at hl;refine pv c91 λ F hF=>?_;have hK:=ab3 (jr row x.cols) (KH hr hc);simp[A91,hF,aN.av,cJ,aN.aF];refine aG.of (λ t F K n ms=>∃i u,t=x.cols.length - i/\i<=x.cols.length/\F.get 1=some (ai row)/\F.get 7=some u/\F.get 8=some (.bool (kU (jr row (x.cols.take i))))/\F.get 14=some (fo.ds x.cols)/\F.get 15=some (iI (x.cols.length:Int))/\F.get 16=some (iI (i:Int))/\aC K n u (qT.l (jr row (x.cols.take i))) (jr row (x.cols.take i)).length 3/\ms=[]) x.cols.length ⟨0,.aI (.slice none 0 0),by simp,by omega,by simp[hF],by simp,by simp[jr,kU],by simp,by simp,by simp,aC.nil _ _ _,rfl⟩ ?_;clear hF F;rintro t F K n ms ⟨i,u,rfl,hi,f1,f7,f8,f14,f15,f16,O,rfl⟩;rw[ai]at f1
 by_cases h:i<x.cols.length
 ·have hx:=fo.ix (ik:=.i64) h;have w:=ax i (by omega);obtain⟨h2,h3⟩:=hc x.cols[i] (bT h);obtain⟨k,hk⟩:=Int.eq_ofNat_of_zero_le h2;have hkl:k<row.length:=by omega
  have hy:=cr (k:=.i64) hkl;have hs:=D8 row x.cols i k h hkl hk;rw[sZ,hk]at hx;have hsl:(jr row (x.cols.take i)).length<4000000:=by simp;omega
  have hnn:=wo (jr row (x.cols.take i)) row[k];rw[<-hs]at hnn;generalize row[k]=v at *;generalize jr row (x.cols.take i)=L at *;have hmin:min (i+1) x.cols.length=(jr row (x.cols.take (i+1))).length:=by simp
  generalize hL':jr row (x.cols.take (i+1))=L' at *;simp[ZF,f15,f16,h,f14,hx,f1,hy,f7,cY,rep,Val.av];refine aC.acu (E:=qT) (x:=v) O (by omega) (by omega) hsl λ H' O' _=>?_;rw[<-hs]at O'
  cases hn:kU L with
  |true =>
   rw[hn]at f8 hnn;simp[Ur,f8,Up,w,f16,f1,f14,f15,ai];exact⟨_,by omega,i+1,rfl,by omega,by rw[hL',hnn];rfl,rfl,by rw[hL',hmin];simpa[hs]using O'⟩
  |false =>
   rw[hn]at f8 hnn;simp[Ur,f8,Up,w,f16,f1,f14,f15,ai,hy,dP];exact⟨_,by omega,i+1,rfl,by omega,by rw[hL',hnn];rfl,rfl,by rw[hL',hmin];simpa[hs]using O'⟩
 obtain rfl:i=x.cols.length:=by omega
 rw[eS (aM _)]at O f8;simp[ZF,f15,f16,ad5,f7]
 have hz:fW K.get u (ai (jr row x.cols)):=by
  have:=O.lD (.pure (by simp));rw[xa]at this;exact this
 refine au.lD hK (by simp) (.cons _ _ _ _ hz .nil) ?_;simp[Us,f8];exact fp
theorem agr (x:lY) (row:List Val) (hl:x.cols.length<=bm) (hr:∀v∈row,v.jA) (hc:jM x.cols row):ah pG 43 [aR.av x,ai row] (.aW [.str (iM (jr row x.cols)).1,.bool (kU (jr row x.cols)),iI (iM (jr row x.cols)).2]):=by
 unfold bm at hl;refine pv c43 λ F hF=>?_;have hK:=aiH (jr row x.cols) (KH hr hc);simp[A43,hF,aN.av,cJ];refine aG.of (λ t F K n ms=>∃i u,t=x.cols.length - i/\i<=x.cols.length/\F.get 1=some (ai row)/\F.get 2=some (.ptr 0 0)/\F.get 7=some u/\F.get 8=some (.bool (kU (jr row (x.cols.take i))))/\F.get 9=some (iI (i:Int))/\K.get 0=cl 6 [.int .u32 x.id,.int .u32 x.table,.str x.name,fo.ds x.cols,.bool x.uniq,.int .u32 x.root]/\0<n/\(∀k,u≠.sl 0 0 k 3)/\aC K n u (qT.l (jr row (x.cols.take i))) (jr row (x.cols.take i)).length 3/\ms=[]) x.cols.length ⟨0,.aI (.slice none 0 0),by simp,by omega,by simp[hF],by simp,by simp,by simp[jr,kU],by simp,by simp,by omega,by simp,aC.nil _ _ _,rfl⟩ ?_;clear hF F;rintro t F K n ms ⟨i,u,rfl,hi,f1,f2,f7,f8,f9,k0,n0,ne,O,rfl⟩;rw[ai]at f1
 by_cases h:i<x.cols.length
 ·have hx:=fo.ix (ik:=.i64) h;have w:=ax i (by omega);obtain⟨h2,h3⟩:=hc x.cols[i] (bT h);obtain⟨k,hk⟩:=Int.eq_ofNat_of_zero_le h2;have hkl:k<row.length:=by omega
  have hy:=cr (k:=.i64) hkl;have hs:=D8 row x.cols i k h hkl hk;rw[sZ,hk]at hx;have hsl:(jr row (x.cols.take i)).length<4000000:=by simp;omega
  have hnn:=wo (jr row (x.cols.take i)) row[k];rw[<-hs]at hnn;generalize row[k]=v at *;generalize jr row (x.cols.take i)=L at *;have hmin:min (i+1) x.cols.length=(jr row (x.cols.take (i+1))).length:=by simp
  generalize hL':jr row (x.cols.take (i+1))=L' at *;simp[ZS,f2,f9,k0,aN.aF,h,hx,f1,hy,f7,cY,rep,Val.av];refine aC.acu (E:=qT) (x:=v) (O.alN _ _) (by omega) (by omega) hsl λ H' O' hf=>?_;rw[<-hs]at O'
  have k0':H'.get 0=cl 6 [.int .u32 x.id,.int .u32 x.table,.str x.name,fo.ds x.cols,.bool x.uniq,.int .u32 x.root]:=by
   rw[hf 0 (by omega) (ne _),Tr.get_put,ae (by omega),Tr.get_put,ae (by omega),k0]
  have kn:H'.get n=cl 3 [iI v.kind,iI v.num,.str v.s]:=by
   rw[hf n (by omega) (λ e=>by
    subst e;obtain⟨_,⟨h,_⟩|⟨b,y,h,hb,_⟩⟩:=O
    ·cases h
    injection h with h;omega)]
   simp
  cases hn:kU L with
  |true =>
   rw[hn]at f8 hnn;simp[V2,f8,V1,w,f9,f1,f2,ai];exact⟨_,by omega,i+1,rfl,by omega,by rw[hL',hnn];rfl,rfl,k0',by rw[hL',hmin];simpa[hs]using O'⟩
  |false =>
   rw[hn]at f8 hnn;simp[V2,f8,V1,w,f9,f1,f2,ai,kn];exact⟨_,by omega,i+1,rfl,by omega,by rw[hL',hnn];rfl,rfl,k0',by rw[hL',hmin];simpa[hs]using O'⟩
 obtain rfl:i=x.cols.length:=by omega
 rw[eS (aM _)]at O f8;simp[ZS,f2,f9,k0,aN.aF,aff,f7]
 have hz:fW K.get u (ai (jr row x.cols)):=by
  have:=O.lD (.pure (by simp));rw[xa]at this;exact this
 refine au.lD hK (by simp) (.cons _ _ _ _ hz .nil) ?_;simp[V3,f8];exact fp
theorem Ac (a b:Nat) (x y:List Nat):cmpL (a::x) (b::y)=if a=b then cmpL x y else if a<b then -1 else 1:=by
 simp only[cmpL]
 by_cases e:a=b
 ·subst e;simp
 rw[show Nat.beq a b=false by simpa using e,ae e];dsimp only
 by_cases h:a<b
 ·rw[show Nat.blt a b=true by rw[Nat.blt_eq];exact h,ak h]
 rw[show Nat.blt a b=false by cases q:Nat.blt a b with
  |false=>rfl
  |true=>rw[Nat.blt_eq]at q;exact aj q h,ae h]
theorem Fz:∀a b:List Nat,cmpL b a = - cmpL a b
 |[],[]=>rfl
 |[],_::_=>rfl
 |_::_,[]=>rfl
 |a :: x,b::y=>by
  rw[Ac,Ac]
  by_cases e:a=b
  ·subst e;simp[Fz x y]
  rw[ae e,ae (Ne.symm e)]
  by_cases h:a<b
  ·rw[ak h,ae (by omega)];rfl
  rw[ae h,ak (by omega)]
theorem ag1 {k q:Int}(hk:k=0∨k=1∨k=2∨k=3)(hq:q=0∨q=1∨q=2∨q=3):rk k=rk q↔k=q:=by
 rcases hk with rfl|rfl|rfl|rfl<;>rcases hq with rfl|rfl|rfl|rfl<;>decide
theorem aa1 {a b:Val}(ha:a.may=true)(hb:b.may=true):b.ord a = - a.ord b:=by
 have hi:=ag1 (Val.gX ha) (Val.gX hb);unfold Val.ord
 by_cases e:a.kind=b.kind
 ·rw[ak e,ak e.symm]
  by_cases e2:a.kind=2
  ·rw[ak e2,ak (by omega),Fz]
  rw[ae e2,ae (by omega)]
  repeat' split
  all_goals omega
 rw[ae e,ae (Ne.symm e)];have:rk a.kind≠rk b.kind:=λ h=>e (hi.1 h)
 repeat' split
 all_goals omega
def He (r:List Val):Prop:=∀v∈r,v.may=true
theorem H7 {a b:Val}(ha:a.may=true)(hb:b.may=true):cV a b=a.ord b:=by simp[cV,ha,hb]
theorem Ec:∀ {l m:List Val},He l->He m->fY m l = - fY l m
 |[],[],_,_=>by simp[fY]
 |[],_::_,_,_=>by simp[fY]
 |_::_,[],_,_=>by simp[fY]
 |a::l,b::m,hl,hm=>by
  have ha:=hl a (by simp);have hb:=hm b (by simp);have ih:=Ec (l:=l) (m:=m) (λ v hv=>hl v (by simp[hv])) (λ v hv=>hm v (by simp[hv]));rw[fY,fY,H7 ha hb,H7 hb ha,aa1 ha hb,ih]
  by_cases e:a.ord b=0
  ·simp[e]
  simp[e]
theorem KL:∀ {l m:List Val},He l->He m->(qc l m<=0↔fY l m<=0)
 |[],[],_,_=>by simp[qc,fY]
 |[],_::_,_,_=>by simp[qc,fY];omega
 |_::_,[],_,_=>by simp[qc,fY]
 |a::l,b::m,hl,hm=>by
  have ha:=hl a (by simp);have hb:=hm b (by simp);have ih:=KL (l:=l) (m:=m) (λ v hv=>hl v (by simp[hv])) (λ v hv=>hm v (by simp[hv]));rw[qc,fY,H7 ha hb]
  by_cases e:a.ord b=0
  ·simp[e,ih]
  simp[e]
def eL (a b:Int):Int:=if a=0 then b else if b=0 then a else min a b
theorem Dv (a b:Int):ah pG 40 [iI a,iI b] (iI (eL a b)):=by
 refine pv c40 λ F hF=>?_;unfold eL
 by_cases h1:a=0
 ·simp[A40,hF,h1];exact fp
 by_cases h2:b=0
 ·simp[A40,hF,h1,h2];exact fp
 have hm:uK .i64 a [iI b]=some (iI (min a b)):=by
  unfold uK;simp[uK];omega
 simp[A40,hF,h1,h2,qU,uL,hm];exact fp
theorem abV (H:Hp)(n:Nat):ar pG 88 [] H n (λ u K k=>u=.fn (.func 117) [] [.ptr n 0]/\K=(H.put n (cl 1 [iI 0])).put n (cl 1 [iI 0])/\k=n+1):=by
 refine ar.of c88 (by simp[A88]) λ F hF=>?_;simp[A88]
theorem wW {H:Hp}{n p:Nat}(a b:Int)(hp:H.get p=cl 1 [iI a]):ar pG 117 [iI b,.ptr p 0] H n (λ u K k=>u=iI (eL a b)/\K.get p=cl 1 [iI (eL a b)]/\k=n/\∀c,c≠p->K.get c=H.get c):=by
 refine ar.of c117 (by simp[A117]) λ F hF=>?_;unfold eL
 by_cases h2:b=0
 ·simp[A117,hF,hp,h2]
 by_cases h1:a=0
 ·subst h1;simp[A117,hF,hp,h2];intro c hc;simp[hc]
 by_cases h3:b<a
 ·simp[A117,hF,hp,h1,h2,h3];have:min a b=b:=by omega
  simp[this];intro c hc;simp[hc]
 simp[A117,hF,hp,h1,h2,h3]
 try omega
def GM:Nat->List (List Nat)->List (AV×AV×Nat)
 |_,[]=>[]
 |i,x::r=>(.str x,iI 1,i)::GM (i+1) r
theorem u6 (x:List Nat):∀(l:List (List Nat))(i:Nat),GM i (l++[x])=GM i l++[(.str x,iI 1,i+l.length)]
 |[],i=>by simp[GM]
 |y::r,i=>by simp[GM,u6 x r (i+1)];omega
theorem oJ (a b:List Nat):dW .s (.str a) (.str b)=some (decide (a=b)):=by
 simp only[dW,dZ]
 congr 1
 rw[Bool.eq_iff_iff];simp
theorem sT (k:List Nat):∀(l:List (List Nat))(i:Nat),findKey .s (.str k) (GM i l)=some (if k∈l then some (iI 1)else none)
 |[],i=>rfl
 |y::r,i=>by
  simp only[GM,findKey,oJ]
  by_cases h:k=y
  ·simp[h]
  simp[h,sT k r (i+1)]
theorem G5 (k:List Nat)(v:AV):∀(l:List (List Nat))(i:Nat),k∉l->jz .s (.str k) v (GM i l)=some none
 |[],i,_=>rfl
 |y::r,i,h=>by
  simp only[mem_cons,not_or]at h;simp only[GM,jz,oJ];simp[h.1,G5 k v r (i+1) h.2]
theorem G4 (k:List Nat)(v:AV):∀(l:List (List Nat))(i:Nat),k∈l->∃es,jz .s (.str k) v (GM i l)=some (some es)/\findKey .s (.str k) es=some (some v)
 |[],i,h=>by simp at h
 |y :: r,i,h=>by
  simp only[GM,jz,oJ]
  by_cases e:k=y
  ·subst e;simp[findKey,oJ]
  have h2:k∈r:=by simpa[e]using h
  obtain⟨es,h3,h4⟩:=G4 k v r (i+1) h2;simp[e,h3,findKey,oJ,h4]
theorem LF (k:List Nat)(l:List (List Nat))(i:Nat):findKey .s (.str k) (GM i l++[(.str k,iI 1,i+l.length)])=some (some (iI 1)):=by
 rw[<-u6,sT];simp
def uN (cols:List Int)(r:List Val):List (List Nat):=if kU (jr r cols)=true then []else [(iM (jr r cols)).1]
def dD (cols:List Int)(rows:List (List Val)):List (List Nat):=rows.flatMap (uN cols)
theorem wB (cols:List Int)(rows:List (List Val))(i:Nat)(h:i<rows.length):dD cols (rows.take (i+1))=dD cols (rows.take i)++uN cols rows[i]:=by
 unfold dD;rw[take_snoc h,flatMap_append];simp
theorem zI (cols:List Int)(rows:List (List Val)):(dD cols rows).length<=rows.length:=by
 induction rows with
 |nil=>simp[dD]
 |cons a r ih =>
  have e:dD cols (a::r)=uN cols a++dD cols r:=rfl;rw[e,length_append,length_cons];unfold uN;split<;>simp<;>omega
theorem zH (cols:List Int)(rows:List (List Val))(i:Nat):∃l,dD cols rows=dD cols (rows.take i)++l:=⟨dD cols (rows.drop i),by
 unfold dD;rw[<-flatMap_append,take_append_drop]⟩
theorem aao (x:lY) (rows:List (List Val)) (hl:x.cols.length<=bm) (hrl:rows.length<=bm) (hr:∀r∈rows,(∀v∈r,v.jA)/\jM x.cols r):ah pG 92 [aR.av x,.ds (bn rows) rows.length 1] (.bool (decide (¬(dD x.cols rows).Nodup))):=by
 unfold bm at hrl;refine pv c92 λ F hF=>?_;simp[A92,hF,aN.av,cJ,lh];refine aG.of (λ t F K n ms=>∃i c,t=rows.length - i/\i<=rows.length/\F.get 2=some (.ptr 0 0)/\F.get 5=some (.map 1)/\F.get 12=some (.ds (bn rows) rows.length 1)/\F.get 13=some (iI (rows.length:Int))/\F.get 14=some (iI (i:Int))/\K.get 0=cl 6 [.int .u32 x.id,.int .u32 x.table,.str x.name,fo.ds x.cols,.bool x.uniq,.int .u32 x.root]/\K.get 1=some (.map (GM 0 (dD x.cols (rows.take i))) c)/\c=(dD x.cols (rows.take i)).length/\(dD x.cols (rows.take i)).Nodup/\ms=[]) rows.length ⟨0,0,by simp,by omega,by simp,by simp,by simp,by simp,by simp,by simp,by simp[dD,GM],by simp[dD],by simp[dD],rfl⟩ ?_;clear hF F;rintro t F K n ms ⟨i,c,rfl,hi,f2,f5,f12,f13,f14,k0,k1,rfl,nd,rfl⟩
 by_cases h:i<rows.length
 ·have hx:=fk (k:=.i64) h;have w:=ax i (by omega);have hs:=wB x.cols rows i h;obtain⟨h1,h2⟩:=hr rows[i] (bT h);have hk:=ado x rows[i] hl h1 h2;simp only[aN.av,cJ]at hk;obtain⟨rest,hpre⟩:=zH x.cols rows (i+1);have hlen:=zI x.cols (rows.take i);generalize rows[i]=r at *;generalize dD x.cols (rows.take i)=l at *;simp[ZE,f13,f14,h,f12,hx,f2,k0];refine au.pure hk ?_
  cases hn:kU (jr r x.cols)with
  |true =>
   have e:uN x.cols r=[]:=by unfold uN;rw[ak hn]
   rw[e,append_nil]at hs;simp[Mc,Iw,f14,w,f2,f5,f12,f13,k0,k1];exact⟨_,by omega,i+1,rfl,by omega,rfl,l.length,⟨by rw[hs],rfl⟩,by rw[hs],by rw[hs];exact nd⟩
  |false =>
   have e:uN x.cols r=[(iM (jr r x.cols)).1]:=by unfold uN;rw[hn];rfl
   rw[e]at hs;generalize (iM (jr r x.cols)).1=q at *
   by_cases hm:q∈l
   ·obtain⟨es,hs1,hs2⟩:=G4 q (iI 2) l 0 hm
    have:¬(dD x.cols rows).Nodup:=λ hd=>by
     rw[hpre,hs]at hd;have:=(nodup_append.1 (nodup_append.1 hd).1).2.2;exact this q hm q (by simp) rfl
    simp[Mc,Un,f5,k1,jl,oQ,isKey,sT,hm,hs1,hs2,Um,ad4];exact .bool (by simp[this])
   have hs1:=G5 q (iI 1) l 0 hm;have hs2:=LF q l 0;simp only[gz]at hs2;simp[Mc,Un,f5,k1,jl,oQ,isKey,sT,hm,hs1,hs2,Um,Iw,f14,w,f2,f12,f13,k0];refine⟨_,by omega,i+1,rfl,by omega,rfl,l.length+1,⟨by rw[hs,u6];simp,rfl⟩,by rw[hs];simp,?_⟩;rw[hs];exact nodup_append.2 ⟨nd,by simp,by rintro a ha b hb rfl;simp at hb;subst hb;exact hm ha⟩
 obtain rfl:i=rows.length:=by omega
 rw[eS (aM _)]at nd;simp[ZE,f13,f14,Uo];exact .bool (by simp[nd])
theorem PX (x:lY) (xs:List lY) (j:Nat) (hj:j<xs.length) (hxj:xs[j]=x) (rows:List (List Val)) (hl:x.cols.length<=bm) (hrl:rows.length<=bm) (hr:∀r∈rows,(∀v∈r,v.jA)/\jM x.cols r) (F:Fr) (K:Hp) (n q:Nat) (Q:QA) (f2:F.get 2=some (.ds (bn rows) rows.length 1)) (f7:F.get 7=some (aR.ds xs)) (f8:F.get 8=some (iI (j:Int))) (f9:F.get 9=some (.map q)) (f10:F.get 10=some (iI 0)) (kq:K.get q=some (.map [] 0))
  (k1:¬(dD x.cols rows).Nodup->∀F' K',F'.get 6=some (.bool false)->Q .ret F' K' n [])
  (k2:(dD x.cols rows).Nodup->∀F' K',F'.get 2=F.get 2->F'.get 7=F.get 7->F'.get 8=F.get 8->(∀c,c≠q->K'.get c=K.get c)->Q (.exit 2) F' K' n []):aG N3 pG F K n [] Q:=by
 unfold bm at hrl;refine aG.of (λ t F' K' n' ms=>∃i c,t=rows.length - i/\i<=rows.length/\F'.get 2=F.get 2/\F'.get 7=F.get 7/\F'.get 8=F.get 8/\F'.get 9=some (.map q)/\F'.get 10=some (iI (i:Int))/\K'.get q=some (.map (GM 0 (dD x.cols (rows.take i))) c)/\c=(dD x.cols (rows.take i)).length/\(dD x.cols (rows.take i)).Nodup/\(∀c,c≠q->K'.get c=K.get c)/\n'=n/\ms=[]) rows.length ⟨0,0,by simp,by omega,rfl,rfl,rfl,f9,f10,by simpa[dD,GM]using kq,by simp[dD],by simp[dD],λ _ _=>rfl,rfl,rfl⟩ ?_;rintro t F' K' n' ms ⟨i,c,rfl,hi,g2,g7,g8,g9,g10,kq',rfl,nd,hk',rfl,rfl⟩;have g2':=g2.trans f2;have g7':=g7.trans f7;have g8':=g8.trans f8
 by_cases h:i<rows.length
 ·have hx:=fk (k:=.i64) h;have hy:=aR.ix (ik:=.i64) hj;have w:=ax i (by omega);have hs:=wB x.cols rows i h;obtain⟨h1,h2⟩:=hr rows[i] (bT h);have hk:=agr x rows[i] hl h1 h2;simp only[aN.av,cJ]at hk;obtain⟨rest,hpre⟩:=zH x.cols rows (i+1);have hlen:=zI x.cols (rows.take i);rw[hxj,cJ]at hy;generalize rows[i]=r at *;generalize dD x.cols (rows.take i)=l at *;simp[N3,g10,g2',h];refine bD.of (cL (l:=[(43,[.agg [.int .u32 x.id,.int .u32 x.table,.str x.name,fo.ds x.cols,.bool x.uniq,.int .u32 x.root] 6,ai r],λ H n=>.mk (.aW [.str (iM (jr r x.cols)).1,.bool (kU (jr r x.cols)),iI (iM (jr r x.cols)).2]) H n)]) ?_) ?_
  ·simp only[fD];rintro y rfl;exact aQ hk
  cases hn:kU (jr r x.cols)with
  |true =>
   have e:uN x.cols r=[]:=by unfold uN;rw[ak hn]
   rw[e,append_nil]at hs;simp[ab,g7',g8',hy,oy,g2',g10,hx,bK,MQ,Jo,w,g9,kq',f2,f7,f8];exact⟨_,by omega,i+1,rfl,by omega,rfl,l.length,⟨by rw[hs],rfl⟩,by rw[hs],by rw[hs];exact nd,hk'⟩
  |false =>
   have e:uN x.cols r=[(iM (jr r x.cols)).1]:=by unfold uN;rw[hn];rfl
   rw[e]at hs;generalize (iM (jr r x.cols)).1=q0 at *
   by_cases hm:q0∈l
   ·obtain⟨es,hs1,hs2⟩:=G4 q0 (iI 2) l 0 hm
    have hnd:¬(dD x.cols rows).Nodup:=λ hd=>by
     rw[hpre,hs]at hd;have:=(nodup_append.1 (nodup_append.1 hd).1).2.2;exact this q0 hm q0 (by simp) rfl
    simp[ab,g7',g8',hy,oy,g2',g10,hx,bK,MQ,Jq,g9,kq',jl,oQ,isKey,sT,hm,hs1,hs2,Jp,XD];exact k1 hnd _ _ (by simp)
   have hs1:=G5 q0 (iI 1) l 0 hm;have hs2:=LF q0 l 0;simp only[gz]at hs2;simp[ab,g7',g8',hy,oy,g2',g10,hx,bK,MQ,Jq,g9,kq',jl,oQ,isKey,sT,hm,hs1,hs2,Jp,Jo,w,f2,f7,f8];refine⟨_,by omega,i+1,rfl,by omega,rfl,l.length+1,⟨by rw[hs,u6];simp,rfl⟩,by rw[hs];simp,?_,?_⟩
   ·rw[hs];exact nodup_append.2 ⟨nd,by simp,by rintro a ha b hb rfl;simp at hb;subst hb;exact hm ha⟩
   intro c hc;simp[hc];exact hk' c hc
 obtain rfl:i=rows.length:=by omega
 rw[eS (aM _)]at nd;simp[N3,g10,g2'];refine k2 nd _ _ ?_ ?_ ?_ hk'
 ·simp[g2',f2]
 ·simp[g7',f7]
 simp[g8',f8]
def lx (s:eF)(id:Int)(rows:List (List Val)):Prop:=∀x∈s.on id,x.uniq=true->(dD x.cols rows).Nodup
theorem Ue (s:eF) (t:iP) (hs:s.indexes.length<=bm) (hc:∀x∈s.indexes,x.cols.length<=bm) (rows:List (List Val)) (hrl:rows.length<=bm) (hr:∀r∈rows,∀v∈r,v.jA) (eZ:∀x∈s.on t.id,∀r∈rows,jM x.cols r):ah pG 20 [fA.av s,bf.av t,.ds (bn rows) rows.length 1] (.bool (decide (lx s t.id rows))):=by
 refine pv c20 λ F hF=>?_;have hon:=ao4 s hs t.id;simp only[aN.av,bJ]at hon;have hsub:∀x∈s.on t.id,x∈s.indexes:=λ x hx=>(mem_filter.1 hx).1;have hlen:(s.on t.id).length<=bm:=rC (length_filter_le _ _) hs;unfold bm at hlen;simp[A20,hF,aN.av,bJ,cT];refine au.pure hon ?_;unfold lx;generalize s.on t.id=xs at *;simp[afW];refine aG.of (λ r F K n ms=>∃j,r=xs.length - j/\j<=xs.length/\F.get 2=some (.ds (bn rows) rows.length 1)/\F.get 7=some (aR.ds xs)/\F.get 8=some (iI (j:Int))/\(∀x∈xs.take j,x.uniq=true->(dD x.cols rows).Nodup)/\ms=[]) xs.length ⟨0,by simp,by omega,by simp[hF],by simp,by simp,by simp,rfl⟩ ?_;clear hF F;rintro r F K n ms ⟨j,rfl,hj,f2,f7,f8,hk,rfl⟩
 by_cases h:j<xs.length
 ·have hy:=aR.ix (ik:=.i64) h;have w:=ax j (by omega);have hxm:xs[j]∈xs:=bT h;have hms:∀x∈xs.take (j+1),x∈xs.take j∨x=xs[j]:=λ x hx=>by rwa [take_snoc h,mem_append,fD]at hx
  have key:=PX xs[j] xs j h rfl rows (hc _ (hsub _ hxm)) hrl (λ r hr'=>⟨hr r hr',eZ _ hxm r hr'⟩);rw[cJ]at hy;generalize xs[j]=x at *
  cases hu:x.uniq with
  |false =>
   simp[N2,f7,f8,aN.aF,h,hy,hu,Jn,w,f2];refine⟨_,by omega,j+1,rfl,by omega,rfl,λ y hy' hyu=>?_⟩
   rcases hms y hy' with h1|rfl
   ·exact hk y h1 hyu
   rw[hu]at hyu;cases hyu
  |true =>
   simp[N2,f7,f8,aN.aF,h,hy,hu,lh];refine key _ _ _ n _ (by simp[f2]) (by simp[f7]) (by simp[f8]) (by simp) (by simp) (by simp) (λ hnd F' K' f6=>?_) λ hnd F' K' g2 g7 g8 _=>?_
   ·have:¬ ∀x∈xs,x.uniq=true->(dD x.cols rows).Nodup:=λ h1=>hnd (h1 x hxm hu);simp[f6];exact .bool (by symm;rw[decide_eq_false_iff_not];exact this)
   simp[f2,f7,f8]at g2 g7 g8;simp[Jn,w,g2,g7,g8];refine⟨_,by omega,j+1,rfl,by omega,rfl,λ y hy' hyu=>?_⟩
   rcases hms y hy' with h1|rfl
   ·exact hk y h1 hyu
   exact hnd
 obtain rfl:j=xs.length:=by omega
 rw[eS (aM _)]at hk;simp[N2,f7,f8,aN.aF,XC];exact .bool (by symm;simpa using hk)
def uP (row:List Val):List lY->Int
 |[]=>0
 |x::xs=>if (iM (jr row x.cols)).2=0 then uP row xs else (iM (jr row x.cols)).2
def ri (s:eF)(t:iP)(row:List Val):Int:=if (nU t.cols row).2=0 then uP row (s.on t.id)else (nU t.cols row).2
def j1 (s:eF)(t:iP)(rows:List (List Val)):Int:=rows.foldl (λ a r=>eL a (ri s t r)) 0
theorem Pe {row:List Val}{xs:List lY}{j:Nat}(h:j<xs.length):uP row (xs.drop j)=if (iM (jr row xs[j].cols)).2=0 then uP row (xs.drop (j+1))else (iM (jr row xs[j].cols)).2:=by
 rw[lG h];rfl
theorem PW (s:eF) (t:iP) (row:List Val) (hs:s.indexes.length<=bm) (hc:∀x∈s.indexes,x.cols.length<=bm) (hv:row.length<=bm) (hr:∀v∈row,v.jA) (eZ:row.length=t.cols.length->∀x∈s.on t.id,jM x.cols row):ah pG 41 [fA.av s,bf.av t,ai row] (iI (ri s t row)):=by
 refine pv c41 λ F hF=>?_;have hon:=ao4 s hs t.id;have he:=anO t.cols row hv hr;simp only[aN.av,bJ]at hon;have hsub:∀x∈s.on t.id,x∈s.indexes:=λ x hx=>(mem_filter.1 hx).1;have hlen:(s.on t.id).length<=bm:=rC (length_filter_le _ _) hs;unfold bm at hlen;unfold ri;simp[A41,hF,aN.av,bJ,cT];refine au.pure he ?_
 by_cases h0:(nU t.cols row).2=0
 ·have hl:row.length=t.cols.length:=by
   unfold nU at h0
   split at h0
   ·rename_i h;exact(nj h).2.1
   rename_i h;exact aj h0 h
  have eZ:=eZ hl;simp[V6,h0,afj];refine au.pure hon ?_;generalize s.on t.id=xs at *;simp[afi];refine aG.of (λ r F K n ms=>∃j,r=xs.length - j/\j<=xs.length/\F.get 2=some (ai row)/\F.get 9=some (aR.ds xs)/\F.get 10=some (iI (j:Int))/\uP row xs=uP row (xs.drop j)/\ms=[]) xs.length ⟨0,by simp,by omega,by simp[hF],by simp,by simp,rfl,rfl⟩ ?_;clear hF F;rintro r F K n ms ⟨j,rfl,hj,f2,f9,f10,hk,rfl⟩
  by_cases h:j<xs.length
  ·have hy:=aR.ix (ik:=.i64) h;have w:=ax j (by omega);have hxm:xs[j]∈xs:=bT h;have hkey:=agr xs[j] row (hc _ (hsub _ hxm)) hr (eZ _ hxm);simp only[aN.av,cJ]at hkey;rw[Pe h]at hk;rw[cJ]at hy;rw[hk];generalize xs[j]=x at *;simp[ZT,f9,f10,aN.aF,h,hy,oy,f2];refine au.pure hkey ?_
   by_cases h1:(iM (jr row x.cols)).2=0
   ·simp[V5,h1,V8,f10,w,f2,f9];exact⟨_,by omega,j+1,rfl,by omega,rfl,rfl⟩
   simp[V5,h1,afh];exact fp
  obtain rfl:j=xs.length:=by omega
  rw[hk];simp[ZT,f9,f10,aN.aF,V7,uP];exact fp
 simp[V6,h0,afk];exact fp
theorem DI (s:eF)(t:iP)(rows:List (List Val))(hs:s.indexes.length<=bm)(hc:∀x∈s.indexes,x.cols.length<=bm)(hrl:rows.length<=bm)(hv:∀r∈rows,r.length<=bm/\∀v∈r,v.jA)(eZ:∀r∈rows,r.length=t.cols.length->∀x∈s.on t.id,jM x.cols r):ah pG 19 [fA.av s,bf.av t,.ds (bn rows) rows.length 1] (iI (j1 s t rows)):=by
 unfold bm at hrl;refine pv c19 λ F hF=>?_;simp[A19,hF,aN.av,bJ,cT];refine aG.of (λ q F K n ms=>∃i,q=rows.length - i/\i<=rows.length/\F.get 2=some (.ds (bn rows) rows.length 1)/\F.get 3=some (.ptr 0 0)/\F.get 4=some (.ptr 1 0)/\F.get 7=some (iI (j1 s t (rows.take i)))/\F.get 8=some (iI (i:Int))/\K.get 0=cl 2 [bf.ds s.tables,aR.ds s.indexes]/\K.get 1=cl 4 [.int .u32 t.id,.str t.name,cN.ds t.cols,.int .u32 t.head]/\ms=[]) rows.length ⟨0,by simp,by omega,by simp[hF],by simp,by simp,by simp[j1],by simp,by simp,by simp,rfl⟩ ?_;clear hF F;rintro q F K n ms ⟨i,rfl,hi,f2,f3,f4,f7,f8,k0,k1,rfl⟩
 by_cases h:i<rows.length
 ·have hx:=fk (k:=.i64) h;have w:=ax i (by omega);obtain⟨h1,h2⟩:=hv rows[i] (bT h);have hw:=PW s t rows[i] hs hc h1 h2 (eZ _ (bT h));have hls:=Dv (j1 s t (rows.take i)) (ri s t rows[i]);have hsn:j1 s t (rows.take (i+1))=eL (j1 s t (rows.take i)) (ri s t rows[i]):=by unfold j1;rw[take_snoc h,List.foldl_append];rfl
  simp only[aN.av,bJ,cT]at hw;generalize j1 s t (rows.take i)=a at *;generalize ri s t rows[i]=b at *;generalize rows[i]=r at *;simp[Z4,f2,f8,h];refine bD.of (cL (l:=[(41,[.agg [bf.ds s.tables,aR.ds s.indexes] 2,.agg [.int .u32 t.id,.str t.name,cN.ds t.cols,.int .u32 t.head] 4,ai r],λ H n=>.mk (iI b) H n),(40,[iI a,iI b],λ H n=>.mk (iI (eL a b)) H n)]) ?_) ?_
  ·simp only[mem_cons,not_mem_nil,or_false];rintro y (rfl|rfl)
   ·exact aQ hw
   exact aQ hls
  have t1:∀(H:Hp) (n:Nat),(yz [((41:Nat),[.agg [bf.ds s.tables,aR.ds s.indexes] 2,.agg [.int .u32 t.id,.str t.name,cN.ds t.cols,.int .u32 t.head] 4,ai r],λ H n=>.mk (iI b) H n),(40,[iI a,iI b],λ H n=>.mk (iI (eL a b)) H n)]).call 40 [iI a,iI b] H n=kV (.mk (iI (eL a b)) H n):=λ H n=>by
   rw[tj (λ e=>by cases e),bK]
  simp[ab,f2,f3,f4,f7,f8,k0,k1,hx,bK,t1,afY,w];exact⟨_,by omega,i+1,rfl,by omega,by rw[hsn],rfl⟩
 obtain rfl:i=rows.length:=by omega
 rw[eS (aM _)]at f7;simp[Z4,f2,f8,afX,f7];exact fp
theorem zx (a b c:Int):eL (eL a b) c=eL a (eL b c):=by
 unfold eL
 by_cases h1:a=0<;>by_cases h2:b=0<;>by_cases h3:c=0<;>simp[h1,h2,h3]
 ·omega
 have e1:¬min a b=0:=by omega
 have e2:¬min b c=0:=by omega
 rw[ae e1,ae e2]
@[simp] theorem adm (a:Int):eL a 0=a:=by unfold eL;split<;>simp_all
@[simp] theorem Hy (a:Int):eL 0 a=a:=by simp[eL]
def kF (row:List Val)(xs:List lY):Int:=xs.foldl (λ a x=>eL a (iM (jr row x.cols)).2) 0
theorem abC (row:List Val)(xs:List lY)(j:Nat)(h:j<xs.length):kF row (xs.take (j+1))=eL (kF row (xs.take j)) (iM (jr row xs[j].cols)).2:=by
 unfold kF;rw[take_snoc h,List.foldl_append];rfl
theorem sS (f:lY->Int):∀(xs:List lY)(a:Int),xs.foldl (λ a x=>eL a (f x)) a=eL a (xs.foldl (λ a x=>eL a (f x)) 0)
 |[],a=>by simp
 |x::xs,a=>by
  simp only[foldl_cons];rw[sS f xs (eL a (f x)),sS f xs (eL 0 (f x)),Hy,zx]
theorem adp (row:List Val):∀(xs:List lY),(∀x∈xs,(iM (jr row x.cols)).2=0∨(iM (jr row x.cols)).2=51)->kF row xs=uP row xs
 |[],_=>rfl
 |x :: xs,h=>by
  have ih:=adp row xs λ y hy=>h y (by simp[hy])
  have hz:uP row xs=0∨uP row xs=51:=by
   clear ih
   induction xs with
   |nil=>exact .inl rfl
   |cons y ys ih2 =>
    unfold uP
    split
    ·exact ih2 λ z hz=>h z (by simp at hz ⊢;rcases hz with rfl|hz<;>simp[*])
    exact h y (by simp)
  unfold kF at ih ⊢;simp only[foldl_cons];rw[sS,ih,Hy,uP]
  rcases h x (by simp)with h1|h1
  ·rw[h1,Hy,ak rfl]
  rw[h1,ae (by omega)]
  rcases hz with h2|h2<;>rw[h2]<;>simp[eL]
theorem Tj {row:List Val}{cols:List Int}(hm:∀v∈row,v.may=true)(hl:cols.length<=16)(hc:jM cols row):(iM (jr row cols)).2=0∨(iM (jr row cols)).2=51:=by
 have h1:∀v∈jr row cols,v.may=true:=by
  intro v hv;obtain⟨c,h1,rfl⟩:=mem_map.1 hv;obtain⟨h2,h3⟩:=hc c h1;have:c.toNat<row.length:=by omega
  simp only[getD,dU this,Option.getD_some];exact hm _ (bT this)
 unfold iM;rw[ae (by simp;omega),ak h1]
 split<;>simp
theorem abS (row:List Val)(xs:List lY)(hxl:xs.length<=1048576)(e acc:Int)(hl:∀x∈xs,x.cols.length<=bm)(hr:∀v∈row,v.jA)(eZ:e=0->∀x∈xs,jM x.cols row)(F:Fr)(K:Hp)(n p:Nat)(Q:QA)(f7:F.get 7=some (.fn (.func 117) [] [.ptr p 0]))(f9:F.get 9=some (ai row))(f11:F.get 11=some (iI e))(f40:F.get 40=some (aR.ds xs))(f41:F.get 41=some (iI (xs.length:Int)))(f42:F.get 42=some (iI 0))(kp:K.get p=cl 1 [iI acc])(pn:p<n)
  (k:∀F' K' n',F'.get 2=F.get 2->F'.get 3=F.get 3->F'.get 4=F.get 4->F'.get 7=F.get 7->F'.get 21=F.get 21->F'.get 22=F.get 22->F'.get 23=F.get 23->n<=n'->(∀c,c<n->c≠p->K'.get c=K.get c)->K'.get p=cl 1 [iI (if e=0 then eL acc (kF row xs)else acc)]->Q (.exit 2) F' K' n' []):aG Gw pG F K n [] Q:=by
 refine aG.of (λ t F' K' n' ms=>∃j,t=xs.length - j/\j<=xs.length/\F'.get 2=F.get 2/\F'.get 3=F.get 3/\F'.get 4=F.get 4/\F'.get 7=some (.fn (.func 117) [] [.ptr p 0])/\F'.get 21=F.get 21/\F'.get 22=F.get 22/\F'.get 23=F.get 23/\F'.get 9=some (ai row)/\F'.get 11=some (iI e)/\F'.get 40=some (aR.ds xs)/\F'.get 41=some (iI (xs.length:Int))/\F'.get 42=some (iI (j:Int))/\n<=n'/\(∀c,c<n->c≠p->K'.get c=K.get c)/\K'.get p=cl 1 [iI (if e=0 then eL acc (kF row (xs.take j))else acc)]/\ms=[]) xs.length ⟨0,by simp,by omega,rfl,rfl,rfl,f7,rfl,rfl,rfl,f9,f11,f40,f41,f42,aM _,λ _ _ _=>rfl,by simpa[kF]using kp,rfl⟩ ?_;clear f9 f11 f40 f41 f42 kp;rintro t F' K' n' ms ⟨j,rfl,hj,g2,g3,g4,g7,g21,g22,g23,f9,f11,f40,f41,f42,hn,hk,kp,rfl⟩
 by_cases h:j<xs.length
 ·have hy:=aR.ix (ik:=.i64) h;have w:=ax j (by omega);have hxm:xs[j]∈xs:=bT h;have hsn:=abC row xs j h;have hkey:=λ h0:e=0=>ado xs[j] row (hl _ hxm) hr (eZ h0 _ hxm);simp only[aN.av,cJ]at hkey;rw[cJ]at hy;generalize xs[j]=x at *
  by_cases h0:e=0
  ·subst h0;rw[ak rfl]at kp;have hkey:=hkey rfl;simp[Gw,f41,f42,h,f40,hy,oy,f11,f9];refine au.pure hkey ?_;simp[Vi,g7];refine au.of (wW (eL acc (kF row (xs.take j))) (iM (jr row x.cols)).2 (by rw[Tr.get_put,ae (by omega),Tr.get_put,ae (by omega),kp])) λ v K2 n2 ⟨e1,e2,e3,e4⟩=>?_;subst e1 e3;simp[IM,f42,w,g2,g3,g4,g7,g21,g22,g23,f9,f11,f40,f41];refine⟨_,by omega,j+1,rfl,by omega,rfl,by omega,λ c h1 h2=>?_,?_⟩
   ·rw[e4 c h2,Tr.get_put,ae (by omega),Tr.get_put,ae (by omega),hk c h1 h2]
   rw[e2,hsn,<-zx]
  rw[ae h0]at kp;simp[Gw,f41,f42,h,f40,hy,oy,f11,h0,IM,w,g2,g3,g4,g7,g21,g22,g23,f9];refine⟨_,by omega,j+1,rfl,by omega,rfl,by omega,λ c h1 h2=>?_,?_⟩
  ·rw[ae (by omega),ae (by omega),hk c h1 h2]
  rw[ae (by omega),ae (by omega),kp]
 obtain rfl:j=xs.length:=by omega
 rw[eS (aM _)]at kp;simp[Gw,f41,f42];refine k _ _ _ ?_ ?_ ?_ ?_ ?_ ?_ ?_ hn hk kp
 ·simp[g2]
 ·simp[g3]
 ·simp[g4]
 ·simp[g7,f7]
 ·simp[g21]
 ·simp[g22]
 simp[g23]
def E5 (s:eF)(t:iP)(rows:List (List Val)):Int:=if j1 s t rows=0 then (if lx s t.id rows then 0 else 160)else j1 s t rows
theorem ais (s:eF)(t:iP)(rows:List (List Val))(hs:s.indexes.length<=bm)(hc:∀x∈s.indexes,x.cols.length<=bm)(hrl:rows.length<=bm)(hv:∀r∈rows,r.length<=bm/\∀v∈r,v.jA)(eZ:∀r∈rows,r.length=t.cols.length->∀x∈s.on t.id,jM x.cols r)(uS:∀x∈s.on t.id,x.cols.length<=16)(hfit:∀r∈rows,r.length=t.cols.length):ah pG 63 [fA.av s,bf.av t,.ds (bn rows) rows.length 1] (iI (E5 s t rows)):=by
 unfold bm at hrl;refine pv c63 λ F hF=>?_;have hon:=atw s hs hc t.id;simp only[aN.av,bJ]at hon;have hsub:∀x∈s.on t.id,x∈s.indexes:=λ x hx=>(mem_filter.1 hx).1;have hlen:(s.on t.id).length<=bm:=rC (length_filter_le _ _) hs;unfold bm at hlen;simp[A63,hF,aN.av,bJ,cT];refine au.of (abV _ _) λ u K k ⟨e1,e2,e3⟩=>?_;subst e1 e2 e3;simp[aeP,hF];refine aG.of (λ q F K n ms=>∃i,q=rows.length - i/\i<=rows.length/\F.get 2=some (.ds (bn rows) rows.length 1)/\F.get 3=some (.ptr 0 0)/\F.get 4=some (.ptr 1 0)/\F.get 7=some (.fn (.func 117) [] [.ptr 2 0])/\F.get 21=some (.ds (bn rows) rows.length 1)/\F.get 22=some (iI (rows.length:Int))/\F.get 23=some (iI (i:Int))/\K.get 0=cl 2 [bf.ds s.tables,aR.ds s.indexes]/\K.get 1=cl 4 [.int .u32 t.id,.str t.name,cN.ds t.cols,.int .u32 t.head]/\K.get 2=cl 1 [iI (j1 s t (rows.take i))]/\3<=n/\ms=[]) rows.length ⟨0,by simp,by omega,by simp[hF],by simp,by simp,by simp,by simp[hF],by simp,by simp,by simp,by simp,by simp[j1],by omega,rfl⟩ ?_;clear hF F;rintro q F K n ms ⟨i,rfl,hi,f2,f3,f4,f7,f21,f22,f23,k0,k1,k2,n3,rfl⟩
 by_cases h:i<rows.length
 ·have hx:=fk (k:=.i64) h;have w:=ax i (by omega);have hrm:rows[i]∈rows:=bT h;obtain⟨h1,h2⟩:=hv rows[i] hrm;have henc:=anN t.cols rows[i] h1 h2;have hsn:j1 s t (rows.take (i+1))=eL (j1 s t (rows.take i)) (ri s t rows[i]):=by unfold j1;rw[take_snoc h,List.foldl_append];rfl
  have hin1:=eZ rows[i] hrm (hfit _ hrm)
  have hw:ri s t rows[i]=if (nU t.cols rows[i]).2=0 then kF rows[i] (s.on t.id)else (nU t.cols rows[i]).2:=by
   unfold ri
   split
   ·rename_i h0
    have hf0:nk t.cols rows[i]=0:=by
     unfold nU at h0
     split at h0
     ·assumption
     rename_i h;exact aj h0 h
    rw[adp];intro x hx;exact Tj (nj hf0).2.2.2.2 (uS x hx) (hin1 x hx)
   rfl
  generalize j1 s t (rows.take i)=a at *;generalize rows[i]=r at *;simp[ZO,f22,f23,h,f21,hx,f4,k1];refine au.pure henc ?_;simp[aeO,f7];refine au.of (wW a (nU t.cols r).2 k2) λ v K2 m2 ⟨e1,e2,e3,e4⟩=>?_;subst e1 e3;simp[aeN,f3,f4,e4 0 (by omega),e4 1 (by omega),k0,k1];refine au.pure hon ?_;simp[aN.aF];refine abS r (s.on t.id) hlen (nU t.cols r).2 _ (λ x hx=>hc x (hsub x hx)) h2 (λ _=>hin1) _ _ _ 2 _ (by simp[f7]) (by simp) (by simp) (by simp) (by simp) (by simp) e2 (by omega) λ F' K' n' g2 g3 g4 g7 g21 g22 g23 hn hk kp=>?_;simp[f2,f3,f4,f7,f21,f22,f23]at g2 g3 g4 g7 g21 g22 g23;simp[Vh,g2,g3,g4,g7,g21,g22,g23,w];refine⟨_,by omega,i+1,rfl,by omega,rfl,?_,?_,?_,by omega⟩
  ·rw[hk 0 (by omega) (by omega),e4 0 (by omega),k0]
  ·rw[hk 1 (by omega) (by omega),e4 1 (by omega),k1]
  rw[kp,hsn,hw]
  split
  ·rename_i h0;rw[h0,adm]
  rfl
 obtain rfl:i=rows.length:=by omega
 rw[eS (aM _)]at k2;unfold E5;generalize j1 s t rows=a at *;simp[ZO,f22,f23,Vg,f7];refine au.of (wW a 0 k2) λ v K2 m2 ⟨e1,e2,e3,e4⟩=>?_;subst e1 e3;simp only[adm]at e2
 by_cases h0:a=0
 ·simp[IL,h0,Ve,f3,f4,e4 0 (by omega),e4 1 (by omega),k0,k1];refine au.pure hon ?_;simp[aN.aF];unfold lx;generalize s.on t.id=xs at *;refine aG.of (λ q F K n ms=>∃j,q=xs.length - j/\j<=xs.length/\F.get 2=some (.ds (bn rows) rows.length 1)/\F.get 68=some (aR.ds xs)/\F.get 69=some (iI (xs.length:Int))/\F.get 70=some (iI (j:Int))/\(∀x∈xs.take j,x.uniq=true->(dD x.cols rows).Nodup)/\ms=[]) xs.length ⟨0,by simp,by omega,by simp[f2],by simp,by simp,by simp,by simp,rfl⟩ ?_;clear f2 f3 f4 f7 f21 f22 f23 k0 k1 k2;rintro q F K n ms ⟨j,rfl,hj,f2,f68,f69,f70,hk,rfl⟩
  by_cases h:j<xs.length
  ·have hy:=aR.ix (ik:=.i64) h;have w:=ax j (by omega);have hxm:xs[j]∈xs:=bT h;have hms:∀x∈xs.take (j+1),x∈xs.take j∨x=xs[j]:=λ x hx=>by rwa [take_snoc h,mem_append,fD]at hx
   have htw:=aao xs[j] rows (hc _ (hsub _ hxm)) (by unfold bm;omega) λ r hr=>⟨(hv r hr).2,eZ r hr (hfit r hr) _ hxm⟩;simp only[aN.av,cJ]at htw;rw[cJ]at hy;generalize xs[j]=x at *
   cases hu:x.uniq with
   |false =>
    simp[NR,f69,f70,h,f68,hy,oy,hu,IK,w,f2];refine⟨_,by omega,j+1,rfl,by omega,rfl,λ y hy' hyu=>?_⟩
    rcases hms y hy' with h1|rfl
    ·exact hk y h1 hyu
    rw[hu]at hyu;cases hyu
   |true =>
    rw[hu]at htw;simp[NR,f69,f70,h,f68,hy,oy,hu,f2];refine au.pure htw ?_
    by_cases hnd:(dD x.cols rows).Nodup
    ·simp[hnd,IK,f70,w,f2,f68,f69];refine⟨_,by omega,j+1,rfl,by omega,rfl,λ y hy' hyu=>?_⟩
     rcases hms y hy' with h1|rfl
     ·exact hk y h1 hyu
     exact hnd
    have:¬ ∀x∈xs,x.uniq=true->(dD x.cols rows).Nodup:=λ h1=>hnd (h1 x hxm hu);simp only[ae this];simp[hnd,Vd];exact fp
  obtain rfl:j=xs.length:=by omega
  rw[eS (aM _)]at hk;simp only[ak hk];simp[NR,f69,f70,Vb];exact fp
 simp[IL,h0,Vf];exact fp
end Go.Abs
namespace Go.Abs
open List
open Go.Proofs
open Classical
set_option maxRecDepth 100000
variable {α:Type}{k:Nat}
theorem Ex.lD {h:Hf}{op:Int}{v:Val}{t m:List Nat}{qw:Int}{args:List Ex}{x:AV}(hx:fW h x (.ds (Ex.dC args) args.length 8)):cM h [iI op,iI v.kind,iI v.num,.str v.s,.str t,.str m,iI qw,x] (Ex.mk op v t m qw args).cells:=by
 rw[Ex.cells];exact .cons _ _ _ _ fp (.cons _ _ _ _ fp (.cons _ _ _ _ fp (.cons _ _ _ _ fp (.cons _ _ _ _ fp (.cons _ _ _ _ fp (.cons _ _ _ _ fp (.cons _ _ _ _ hx .nil)))))))
theorem aC.O6 {H:Hp}{n:Nat}{v:AV}{l:List AV}{len sz:Nat}(h:aC H n v l len sz):v.len=1/\v.cells=[v]:=by
 obtain⟨_,⟨rfl,_⟩|⟨b,k,rfl,_⟩⟩:=h<;>exact⟨rfl,rfl⟩
theorem uY {F F2:Fr}{K:Hp}{m:Nat}{va x:AV}{l r cs:List AV}{len sa k sz:Nat}(hF:∀(t:Nat) v,F2.get t=some v->F.get t=some v) (ha:aC K m va (l++x::r) len sa) (h1:0<len) (hx:aC K m x cs k sz) (hz:0<sz) (hcs:aT cs) (hd:∀c,blk va=some c->blk x≠some c):
  ∃h K2,jm h F K F2 K2/\aC K2 m va (l++.ds cs k sz::r) len sa/\∀c,blk va≠some c->blk x≠some c->K2.get c=K.get c:=by
 have hfz:∀h:Hf,(∀c,blk x=some c->h c=K.get c)->fW h x (.ds cs k sz):=by
  intro h hh;obtain⟨s',rfl⟩:∃s',sz=s'+1:=⟨sz - 1,by omega⟩;obtain⟨h0,⟨rfl,rfl⟩|⟨b,kk,rfl,hb,hk,ho⟩⟩:=hx
  ·have:cs=[]:=by simpa using h0
   subst this;exact .nil _
  obtain⟨u,z,bs,t,rfl,hg⟩:=ho.ju (o:=0) (c:=k*(s'+1)) (by omega);refine .sl _ _ _ _ _ _ _ _ _ _ ((hh b rfl).trans hk) hg ?_;rw[drop_zero,eS (by omega)];exact cM.pure hcs
 obtain⟨h0,⟨_,h1⟩|⟨b,kb,rfl,hb,hk,ho⟩⟩:=ha
 ·omega
 have hxb:blk x≠some b:=hd b rfl;obtain⟨u,z,bs,t,rfl,hu,hg,hi⟩:=ho
 refine⟨λ c=>if blk x=some c then K.get c else none,(match blk x with
  |some c=>K.put c none
  |none=>K).put b (cl u (l++AV.ds cs k sz::r)),⟨λ c y hc=>?_,λ c hc=>?_,λ t v hv=>⟨v,hF t v hv,.inl rfl⟩,λ c y hc=>?_⟩,⟨by simpa using h0,.inr ⟨b,.cells u [] (l++AV.ds cs k sz::r) .nil,rfl,hb,by simp,OwnB.list (by simpa using hu)⟩⟩,λ c h3 h4=>?_⟩
 ·split at hc
  ·exact hc
  cases hc
 ·have hc:(if blk x=some c then K.get c else none)≠none:=hc
  by_cases he:blk x=some c
  ·have hcb:c≠b:=λ e=>hxb (by rw[he,e]);rw[he];simp[hcb]
  simp[he]at hc
 ·by_cases hcb:c=b
  ·subst hcb;simp at hc;subst hc;refine⟨_,hk,.inr ⟨u,z,bs,t,_,rfl,rfl,by simpa using hu.symm,λ i v' hv=>?_⟩⟩
   by_cases hil:i<l.length
   ·rw[getElem?_append_left hil]at hv;exact⟨v',by rw[hg,getElem?_append_left hil];exact hv,.inl rfl⟩
   rw[getElem?_append_right (by omega)]at hv
   rcases Nat.eq_zero_or_pos (i - l.length)with e|e
   ·rw[e]at hv;simp at hv;subst hv;refine⟨x,by rw[hg,getElem?_append_right (by omega),e];simp,.inr (hfz _ λ c hc=>ak hc)⟩
   obtain⟨j,hj⟩:∃j,i - l.length=j+1:=⟨i - l.length - 1,by omega⟩;rw[hj]at hv;simp at hv;exact⟨v',by rw[hg,getElem?_append_right (by omega),hj];simpa using hv,.inl rfl⟩
  rw[Tr.get_put,ae hcb]at hc;refine⟨y,?_,.inl rfl⟩
  cases hbx:blk x with
  |none=>rw[hbx]at hc;exact hc
  |some d =>
   rw[hbx]at hc;simp only[Tr.get_put]at hc
   split at hc
   ·cases hc
   exact hc
 have hc:c≠b:=λ e=>h3 (by rw[e];rfl);rw[Tr.get_put,ae hc]
 cases hbx:blk x with
 |none=>rfl
 |some d =>
  have:c≠d:=λ e=>h4 (by rw[hbx,e]);simp[this]
theorem app0 {α:Type}{s':Nat}(E:aN α (s'+1))(l:List α)(hl:l.length<=bm){P:Program}{K:Hp}{b eT:Nat}{F:Fr}{Q:QA}{pd:Pd}{r:List (Option GO)}(hby:eT<=4096)
  (hgo:∀v H' n',b+1<=n'->aC H' n' v (E.l l) l.length (s'+1)->(∀c,blk v=some c->b<=c)->(∀c,c<b->H'.get c=K.get c)->fy P r (pd.f v F) H' n' [] Q):
  Dt (fP (s'+1) eT (b+1) (.sl b 0 0 (s'+1)) (E.ds l) (K.put b (cl 0 []))) pd r P F (K.put b (cl 0 [])) (b+1) [] Q:=by
 unfold bm at hl;have ho:aC (K.put b (cl 0 [])) (b+1) (.sl b 0 0 (s'+1)) [] 0 (s'+1):=⟨by simp,.inr ⟨b,_,rfl,by omega,(Tr.get_put _ _ _ _).trans (ak rfl),OwnB.list rfl⟩⟩
 by_cases h0:l.length=0
 ·have hn:l=[]:=length_eq_zero_iff.1 h0;subst hn
  have e2:fP (s'+1) eT (b+1) (.sl b 0 0 (s'+1)) (E.ds []) (K.put b (cl 0 []))=.val (.sl b 0 0 (s'+1)):=by
   unfold Go.Abs.fP;simp[aN.ds,nP]
  rw[e2];simp;refine hgo _ _ _ (aM _) ho (λ c hc=>by simp at hc;omega) λ c hc=>?_;simp[show ¬c=b by omega]
 refine aC.PR (k:=l.length) (new:=E.l l) ho (by simp[aN.ds]) (by simp[aN.ds]) (by simp[aN.amB]) (by omega) (by omega) (by unfold big;omega) hby (by simp) λ H' o' g=>?_;rw[gz]at o' ⊢;refine hgo _ _ _ (by omega) (by simpa using o') (λ c hc=>by simp at hc;omega) λ c hc=>?_;rw[g c (by omega) (by simp;omega)];simp[show ¬c=b by omega]
structure CpF (F:Fr):Prop where
 f1:F.get 1=some (.ptr 0 0)
 f2:F.get 2=some (.ptr 1 0)
 f3:F.get 3=some (.ptr 2 0)
structure CpM (s:eF)(i j:Nat)(vt vi:AV)(K:Hp)(m:Nat):Prop where
 hm:3<=m
 k0:K.get 0=cl 2 (fA.cells s)
 k1:K.get 1=cl 2 [.aI (.slice none 0 0),.aI (.slice none 0 0)]
 k2:K.get 2=cl 2 [vt,vi]
 ot:aC K m vt (bf.l (s.tables.take i)) i 4
 oi:aC K m vi (aR.l (s.indexes.take j)) j 6
 dt:∀c,blk vt=some c->3<=c
 di:∀c,blk vi=some c->3<=c/\blk vt≠some c
theorem aiU (s:eF) (hs:s.aO) (F:Fr) (K:Hp) (m:Nat) (Q:QA) (hF:CpF F) (f4:F.get 4=some (iI 0)) (M:CpM s 0 0 (.aI (.slice none 0 0)) (.aI (.slice none 0 0)) K m)
  (hQ:∀vt F K m,CpF F->CpM s s.tables.length 0 vt (.aI (.slice none 0 0)) K m->Q .normal F K m []):aG N1 pG F K m [] (jN 0 Q):=by
 have ht:=hs.t;unfold bm at ht;refine aG.ofZ (λ q F K m ms=>∃(i:Nat) (vt:AV),q=s.tables.length - i/\i<=s.tables.length/\CpF F/\F.get 4=some (iI (i:Int))/\CpM s i 0 vt (.aI (.slice none 0 0)) K m/\ms=[]) s.tables.length (Zs.refl ⟨0,_,by simp,by simp,hF,f4,M,rfl⟩) ?_;clear hF f4 M F K m;rintro q1 F K m ms ⟨i,vt,rfl,hi,⟨f1,f2,f3⟩,f4,M,rfl⟩;have k0:=M.k0;rw[bJ]at k0
 by_cases hlt:i<s.tables.length
 ·have hxx:=bf.ix (ik:=.i64) hlt;have hld:=λ H=>bf.sC s.tables[i] (bf.l (s.tables.drop (i+1))) H;have htc:=hs.tc _ (bT hlt);unfold bm at htc;simp[N1,f1,f4,k0,aN.aF,hlt,hxx,hld,aN.av];generalize hK1:Tr.put (Tr.put K m _) m _=K1;have g1:∀c,c<m->K1.get c=K.get c:=λ c hc=>by rw[<-hK1];simp[cg hc]
  have x1:K1.get m=cl 4 (bf.cells s.tables[i]):=by rw[<-hK1];simp
  clear hK1;rw[cT]at x1;simp[afR,x1];refine app0 cN _ (by unfold bm;omega) (by omega) λ v K2 m2 hm2 hv dv g2=>?_;have x2:=(g2 m (by omega)).trans x1;have hone:=hv.dI;obtain⟨hl1,hl2⟩:=hv.O6;have b2:∀c,c<m->K2.get c=K.get c:=λ c hc=>(g2 c (by omega)).trans (g1 c hc);have hm:=M.hm;have k22:=(b2 2 (by omega)).trans M.k2;have hto:=M.ot.dI;have hta:=λ c h=>M.ot.ba (c:=c) h;simp[x2,hone,hl1,hl2,afQ,f3,show ¬ 2=m by omega,k22];generalize hK3:Tr.put (Tr.put K2 m _) m2 _=K3;have g3:∀c,c≠m->c<m2->K3.get c=K2.get c:=λ c h1 h2=>by rw[<-hK3];simp[h1,cg h2]
  have x3:K3.get m2=cl 4 [.int .u32 s.tables[i].id,.str s.tables[i].name,v,.int .u32 s.tables[i].head]:=by rw[<-hK3];simp
  clear hK3;have ot3:aC K3 (m2+1) vt (bf.l (s.tables.take i)) i 4:=M.ot.frame (by omega) λ c hc=>(g3 c (by have:=hta c hc;omega) (by have:=hta c hc;omega)).trans (b2 c (hta c hc));refine aC.PR (k:=1) (new:=[.int .u32 s.tables[i].id,.str s.tables[i].name,v,.int .u32 s.tables[i].head]) ot3 (bM x3) (by simp) (by simp) (by omega) (by omega) (by unfold big;omega) (by omega) (by simp[hone]) λ K4 o4 g4=>?_;have k24:=(g4 2 (by omega) λ h=>by have:=M.dt 2 h;omega).trans ((g3 2 (by omega) (by omega)).trans k22);simp[f3,k24,afP,f4,ax i (by omega)];generalize hK5:Tr.put K4 2 _=K5;have g5:∀c,c≠2->K5.get c=K4.get c:=λ c hc=>by rw[<-hK5];simp[hc]
  have x5:K5.get 2=cl 2 [.sl (m2+1) 0 (i+1) 4,.aI (.slice none 0 0)]:=by rw[<-hK5];simp
  clear hK5;generalize hF2:(Fp 4 _ _:Fr)=F2;have w1:F2.get 1=some (.ptr 0 0):=by rw[<-hF2];simp[f1]
  have w2:F2.get 2=some (.ptr 1 0):=by rw[<-hF2];simp[f2]
  have w3:F2.get 3=some (.ptr 2 0):=by rw[<-hF2];simp[f3]
  have w4:F2.get 4=some (iI ((i+1:Nat):Int)):=by rw[<-hF2];simp
  clear hF2;have bk:∀c,c<m->c≠2->blk vt≠some c->K5.get c=K.get c:=λ c h1 h2 h3=>(g5 c h2).trans ((g4 c (by omega) h3).trans ((g3 c (by omega) (by omega)).trans (b2 c h1)))
  have oa5:aC K5 (m2+1+1) (.sl (m2+1) 0 (i+1) 4) ((bf.l (s.tables.take i)++[.int .u32 s.tables[i].id,.str s.tables[i].name])++v::[.int .u32 s.tables[i].head]) (i+1) 4:=by
   have:=o4.frame (H':=K5) (n':=m2+1+1) (by omega) λ c hc=>g5 c (by simp at hc;omega);simpa using this
  have ov5:aC K5 (m2+1+1) v (cN.l s.tables[i].cols) s.tables[i].cols.length 3:=hv.frame (by omega) λ c hc=>by
   have h1:=dv c hc;have h2:=hv.ba hc;exact(g5 c (by omega)).trans ((g4 c (by omega) λ h=>by have:=hta c h;omega).trans (g3 c (by omega) h2))
  have nv:∀c,c<m->blk v≠some c:=λ c h1 h2=>by have:=dv c h2;omega
  obtain⟨hh,K6,hsh,oa6,g6⟩:=uY (F:=F2) (F2:=F2) (λ t v hv=>hv) oa5 (by omega) ov5 (by omega) (by simp) (λ c hc hc2=>by
   have:=hv.ba hc2;simp at hc;omega)
  have na:∀c,c<m->blk (AV.sl (m2+1) 0 (i+1) 4)≠some c:=λ c h1 h2=>by simp at h2;omega
  have nt:∀c,c<3->blk vt≠some c:=λ c h1 h2=>by have:=M.dt c h2;omega
  refine⟨s.tables.length - (i+1),by omega,hh,F2,K6,hsh,i+1,rfl,hlt,⟨w1,w2,w3⟩,w4,⟨.sl (m2+1) 0 (i+1) 4,by omega,?_,?_,?_,?_,by simpa using aC.nil _ _ 6,λ c hc=>by simp at hc;omega,by simp⟩,rfl⟩
  ·exact(g6 0 (na 0 (by omega)) (nv 0 (by omega))).trans ((bk 0 (by omega) (by omega) (nt 0 (by omega))).trans M.k0)
  ·exact(g6 1 (na 1 (by omega)) (nv 1 (by omega))).trans ((bk 1 (by omega) (by omega) (nt 1 (by omega))).trans M.k1)
  ·exact(g6 2 (na 2 (by omega)) (nv 2 (by omega))).trans x5
  have e:bf.l (s.tables.take (i+1))=(bf.l (s.tables.take i)++[.int .u32 s.tables[i].id,.str s.tables[i].name])++.ds (cN.l s.tables[i].cols) s.tables[i].cols.length 3::[.int .u32 s.tables[i].head]:=by
   rw[take_add_one,dU hlt,Option.toList,aN.mK,aN.zB,cT];simp[aN.ds]
  rw[e];exact oa6
 obtain rfl:i=s.tables.length:=by omega
 simp[N1,f1,f4,k0,aN.aF];exact hQ vt _ K m ⟨by simp[f1],by simp[f2],by simp[f3]⟩ M
theorem aiT (s:eF) (hs:s.aO) (vt:AV) (F:Fr) (K:Hp) (m:Nat) (Q:QA) (hF:CpF F) (f6:F.get 6=some (iI 0)) (M:CpM s s.tables.length 0 vt (.aI (.slice none 0 0)) K m)
  (hQ:∀vi F K m,CpF F->CpM s s.tables.length s.indexes.length vt vi K m->Q .normal F K m []):aG NZ pG F K m [] (jN 2 Q):=by
 have ht:=hs.i;unfold bm at ht;refine aG.ofZ (λ q F K m ms=>∃(i:Nat) (vi:AV),q=s.indexes.length - i/\i<=s.indexes.length/\CpF F/\F.get 6=some (iI (i:Int))/\CpM s s.tables.length i vt vi K m/\ms=[]) s.indexes.length (Zs.refl ⟨0,_,by simp,by simp,hF,f6,M,rfl⟩) ?_;clear hF f6 M F K m;rintro q1 F K m ms ⟨i,vi,rfl,hi,⟨f1,f2,f3⟩,f6,M,rfl⟩;have k0:=M.k0;rw[bJ]at k0
 by_cases hlt:i<s.indexes.length
 ·have hxx:=aR.ix (ik:=.i64) hlt;have hld:=λ H=>aR.sC s.indexes[i] (aR.l (s.indexes.drop (i+1))) H;have htc:=hs.ic _ (bT hlt);unfold bm at htc;simp[NZ,f1,f6,k0,aN.aF,hlt,hxx,hld,aN.av];generalize hK1:Tr.put (Tr.put K m _) m _=K1;have g1:∀c,c<m->K1.get c=K.get c:=λ c hc=>by rw[<-hK1];simp[cg hc]
  have x1:K1.get m=cl 6 (aR.cells s.indexes[i]):=by rw[<-hK1];simp
  clear hK1;rw[cJ]at x1;simp[WX,x1];refine app0 fo _ (by unfold bm;omega) (by omega) λ v K2 m2 hm2 hv dv g2=>?_;have x2:=(g2 m (by omega)).trans x1;have hone:=hv.dI;obtain⟨hl1,hl2⟩:=hv.O6;have b2:∀c,c<m->K2.get c=K.get c:=λ c hc=>(g2 c (by omega)).trans (g1 c hc);have hm:=M.hm;have k22:=(b2 2 (by omega)).trans M.k2;have hto:=M.oi.dI;have htv:=M.ot.dI;have hta:=λ c h=>M.oi.ba (c:=c) h;have htb:=λ c h=>M.ot.ba (c:=c) h;simp[x2,hone,hl1,hl2,WW,f3,show ¬ 2=m by omega,k22];generalize hK3:Tr.put (Tr.put K2 m _) m2 _=K3;have g3:∀c,c≠m->c<m2->K3.get c=K2.get c:=λ c h1 h2=>by rw[<-hK3];simp[h1,cg h2]
  have x3:K3.get m2=cl 6 [.int .u32 s.indexes[i].id,.int .u32 s.indexes[i].table,.str s.indexes[i].name,v,.bool s.indexes[i].uniq,.int .u32 s.indexes[i].root]:=by rw[<-hK3];simp
  clear hK3;have ot3:aC K3 (m2+1) vi (aR.l (s.indexes.take i)) i 6:=M.oi.frame (by omega) λ c hc=>(g3 c (by have:=hta c hc;omega) (by have:=hta c hc;omega)).trans (b2 c (hta c hc));refine aC.PR (k:=1) (new:=[.int .u32 s.indexes[i].id,.int .u32 s.indexes[i].table,.str s.indexes[i].name,v,.bool s.indexes[i].uniq,.int .u32 s.indexes[i].root]) ot3 (bM x3) (by simp) (by simp) (by omega) (by omega) (by unfold big;omega) (by omega) (by simp[hone]) λ K4 o4 g4=>?_;have k24:=(g4 2 (by omega) λ h=>by have:=(M.di 2 h).1;omega).trans ((g3 2 (by omega) (by omega)).trans k22);simp[f3,k24,WV,f6,ax i (by omega)];generalize hK5:Tr.put K4 2 _=K5;have g5:∀c,c≠2->K5.get c=K4.get c:=λ c hc=>by rw[<-hK5];simp[hc]
  have x5:K5.get 2=cl 2 [vt,.sl (m2+1) 0 (i+1) 6]:=by rw[<-hK5];simp
  clear hK5;generalize hF2:(Fp 6 _ _:Fr)=F2;have w1:F2.get 1=some (.ptr 0 0):=by rw[<-hF2];simp[f1]
  have w2:F2.get 2=some (.ptr 1 0):=by rw[<-hF2];simp[f2]
  have w3:F2.get 3=some (.ptr 2 0):=by rw[<-hF2];simp[f3]
  have w4:F2.get 6=some (iI ((i+1:Nat):Int)):=by rw[<-hF2];simp
  clear hF2;have bk:∀c,c<m->c≠2->blk vi≠some c->K5.get c=K.get c:=λ c h1 h2 h3=>(g5 c h2).trans ((g4 c (by omega) h3).trans ((g3 c (by omega) (by omega)).trans (b2 c h1)))
  have oa5:aC K5 (m2+1+1) (.sl (m2+1) 0 (i+1) 6) ((aR.l (s.indexes.take i)++[.int .u32 s.indexes[i].id,.int .u32 s.indexes[i].table,.str s.indexes[i].name])++v::[.bool s.indexes[i].uniq,.int .u32 s.indexes[i].root]) (i+1) 6:=by
   have:=o4.frame (H':=K5) (n':=m2+1+1) (by omega) λ c hc=>g5 c (by simp at hc;omega);simpa using this
  have ov5:aC K5 (m2+1+1) v (fo.l s.indexes[i].cols) s.indexes[i].cols.length 1:=hv.frame (by omega) λ c hc=>by
   have h1:=dv c hc;have h2:=hv.ba hc;exact(g5 c (by omega)).trans ((g4 c (by omega) λ h=>by have:=hta c h;omega).trans (g3 c (by omega) h2))
  have nv:∀c,c<m->blk v≠some c:=λ c h1 h2=>by have:=dv c h2;omega
  obtain⟨hh,K6,hsh,oa6,g6⟩:=uY (F:=F2) (F2:=F2) (λ t v hv=>hv) oa5 (by omega) ov5 (by omega) (by simp) (λ c hc hc2=>by
   have:=hv.ba hc2;simp at hc;omega)
  have na:∀c,c<m->blk (AV.sl (m2+1) 0 (i+1) 6)≠some c:=λ c h1 h2=>by simp at h2;omega
  have nt:∀c,c<3->blk vi≠some c:=λ c h1 h2=>by have:=(M.di c h2).1;omega
  refine⟨s.indexes.length - (i+1),by omega,hh,F2,K6,hsh,i+1,rfl,hlt,⟨w1,w2,w3⟩,w4,⟨.sl (m2+1) 0 (i+1) 6,by omega,?_,?_,?_,?_,?_,M.dt,λ c hc=>⟨by simp at hc;omega,λ h=>by have:=htb c h;simp at hc;omega⟩⟩,rfl⟩
  ·exact(g6 0 (na 0 (by omega)) (nv 0 (by omega))).trans ((bk 0 (by omega) (by omega) (nt 0 (by omega))).trans M.k0)
  ·exact(g6 1 (na 1 (by omega)) (nv 1 (by omega))).trans ((bk 1 (by omega) (by omega) (nt 1 (by omega))).trans M.k1)
  ·exact(g6 2 (na 2 (by omega)) (nv 2 (by omega))).trans x5
  ·exact M.ot.frame (by omega) λ c hc=>by
    have h1:=htb c hc;have h2:=M.dt c hc;exact(g6 c (na c h1) (nv c h1)).trans (bk c h1 (by omega) λ h=>(M.di c h).2 hc)
  have e:aR.l (s.indexes.take (i+1))=(aR.l (s.indexes.take i)++[.int .u32 s.indexes[i].id,.int .u32 s.indexes[i].table,.str s.indexes[i].name])++.ds (fo.l s.indexes[i].cols) s.indexes[i].cols.length 1::[.bool s.indexes[i].uniq,.int .u32 s.indexes[i].root]:=by
   rw[take_add_one,dU hlt,Option.toList,aN.mK,aN.zB,cJ];simp[aN.ds]
  rw[e];exact oa6
 obtain rfl:i=s.indexes.length:=by omega
 simp[NZ,f1,f6,k0,aN.aF];exact hQ vi _ K m ⟨by simp[f1],by simp[f2],by simp[f3]⟩ M
theorem an3 (s:eF)(hs:s.aO):ah pG 24 [fA.av s] (fA.av s):=by
 refine pv c24 λ F hF=>?_;have ht:=hs.t;have hi:=hs.i;unfold bm at ht hi;simp[A24,hF,aN.av];refine aiU s hs _ _ _ _ ⟨by simp,by simp,by simp⟩ (by simp) ⟨by omega,by simp,by simp,by simp,by simpa using aC.nil _ _ 4,by simpa using aC.nil _ _ 6,by simp,by simp⟩ λ vt F K m ⟨f1,f2,f3⟩ M=>?_;simp[afO];refine aiT s hs vt _ _ _ _ ⟨by simp[f1],by simp[f2],by simp[f3]⟩ (by simp) M λ vi F K m ⟨f1,f2,f3⟩ M=>?_;have k1:=M.k1;have k2:=M.k2;have ot:=M.ot;have oi:=M.oi;have h1:=ot.dI;have h2:=oi.dI;rw[take_length]at ot oi;have dt:=M.dt;have di:=M.di;simp[WU,f2,f3,k1,k2,h1,h2];refine .agg _ _ _ ?_;rw[bJ];refine .cons _ _ _ _ ?_ (.cons _ _ _ _ ?_ .nil)
 ·exact(ot.frame (aM _) λ c hc=>by
   have:=dt c hc;simp[show ¬c=1 by omega]).lD (cM.pure (by simp)) (by omega)
 exact(oi.frame (aM _) λ c hc=>by
  have:=(di c hc).1;simp[show ¬c=1 by omega]).lD (cM.pure (by simp)) (by omega)
end Go.Abs
namespace Go.Abs
open List
open Go.Proofs
open Classical
set_option maxRecDepth 100000
def bV (t:List (List Val)):AV:=.ds (bn t) t.length 1
def jJ:aN (List (List Val)) 1:=⟨λ t=>[bV t],λ _=>rfl,λ _=>by simp[bV],λ _=>by simp[aX,AV.one,bV]⟩
theorem lg (t:List (List Val)):jJ.cells t=[bV t]:=rfl
structure er where
 bQ:eF
 rows:List (List (List Val))
def bw:aN er 3:=⟨λ w=>[bf.ds w.bQ.tables,aR.ds w.bQ.indexes,jJ.ds w.rows],λ _=>rfl,λ _=>by simp,λ _=>by simp[aX,AV.one,aN.ds]⟩
theorem fa (w:er):bw.cells w=[bf.ds w.bQ.tables,aR.ds w.bQ.indexes,jJ.ds w.rows]:=rfl
def mh (L:List (List Val)):Prop:=∀k,∀h:k+1<L.length,0<=fY L[k+1] (L[k]'(by omega))
theorem Qy (L:List (List Val))(hL:L.length<=bm)(hl:∀l∈L,l.length<=bm):ah pG 61 [bV L,.fn (.func 62) [] []] (.bool (decide (mh L))):=by
 unfold bm at hL hl;refine eY c61 (by simp[bV]) (by simp) (by simp[A61]) λ F hF=>?_;simp[A61,hF,bV];have w0:IntKind.i64.wrap ((L.length:Int) - 1)=(L.length:Int) - 1:=aY _ (by omega) (by omega);rw[w0];refine aG.of (λ t F K n ms=>∃j:Nat,t=j/\j<=L.length/\F.get 0=some (bV L)/\F.get 1=some (.fn (.func 62) [] [])/\F.get 5=some (iI ((j:Int) - 1))/\(∀k,j<=k+1->∀h:k+1<L.length,0<=fY L[k+1] (L[k]'(by omega)))/\ms=[]) L.length ⟨L.length,by simp,by omega,by simp[hF,bV],by simp[hF],by simp,λ k h1 h2=>by omega,rfl⟩ ?_;clear hF F;rintro t F K n ms ⟨j,hj,hjl,f0,f1,f5,hk,rfl⟩;rw[bV]at f0
 by_cases h:2<=j
 ·obtain⟨k,hjk⟩:∃k,j=k+2:=⟨j - 2,by omega⟩;subst hjk;have h1:k+1<L.length:=by omega
  have hx:=fk (k:=.i64) h1;have hy:=fk (k:=.i64) (show k<L.length by omega);have ho:=aa0 L[k+1] (L[k]'(by omega)) (hl _ (bT _)) (hl _ (bT _));have e5:((k+2:Nat):Int) - 1=((k+1:Nat):Int):=by omega
  have w1:IntKind.i64.wrap (((k+1:Nat):Int) - 1)=(k:Int):=by rw[aY _ (by omega) (by omega)];omega
  rw[e5]at f5
  have hk1:(0<=fY L[k+1] (L[k]'(by omega)))->∀k',k+1<=k'+1->∀h:k'+1<L.length,0<=fY L[k'+1] (L[k']'(by omega)):=λ h0 k' h2 h3=>by
   by_cases e:k'=k
   ·subst e;exact h0
   exact hk k' (by omega) h3
  have hbad:¬(0<=fY L[k+1] (L[k]'(by omega)))->¬mh L:=λ h0 h2=>h0 (h2 k h1);generalize L[k+1]=a at *;generalize L[k]'(by omega)=b at *;generalize hc:k+1=c at *;have hcp:(0:Int)<(c:Int):=by omega
  simp[ZQ,f5,show 0<c by omega];refine bD.of (cL (l:=[(62,[ai a,ai b],λ H n=>.mk (iI (fY a b)) H n)]) ?_) ?_
  ·simp only[fD];rintro y rfl;exact aQ ho
  by_cases h0:fY a b<0
  ·have hb:=hbad (by omega);simp[ab,f0,f1,f5,hx,hy,w1,bK,h0,aeU];exact .bool (by simp[hb])
  simp[ab,f0,f1,f5,hx,hy,w1,bK,h0,aeT];exact⟨c,by omega,by omega,by simp[bV],by omega,hk1 (by omega)⟩
 simp[ZQ,f5,show ¬(1:Int)<(j:Int) by omega,aeS];have:mh L:=λ k h1=>hk k (by omega) h1;exact .bool (by simp[this])
structure er.aO (w:er):Prop where
 s:w.bQ.aO
 g:w.bQ.jA
 l:w.rows.length<=bm
 t:∀t∈w.rows,t.length<=bm
 r:∀t∈w.rows,∀r∈t,r.length<=bm/\∀v∈r,v.jA
structure BO (s:eF)(t:iP)(L:List (List Val)):Prop where
 len:L.length<=4096
 w:j1 s t L=0
 srt:mh L
 uq:lx s t.id L
structure fL (w:er):Prop where
 s:eK w.bQ
 l:w.rows.length=w.bQ.tables.length
 t:∀i (h1:i<w.rows.length) (h2:i<w.bQ.tables.length),BO w.bQ w.bQ.tables[i] w.rows[i]
theorem RG (a b:Int):eL a b=0↔a=0/\b=0:=by
 unfold eL
 by_cases h1:a=0<;>by_cases h2:b=0<;>simp[h1,h2]
 omega
theorem tB (s:eF)(t:iP)(L:List (List Val)):j1 s t L=0↔∀r∈L,ri s t r=0:=by
 have key:∀(L:List (List Val)) (a:Int),L.foldl (λ a r=>eL a (ri s t r)) a=0↔a=0/\∀r∈L,ri s t r=0:=by
  intro L
  induction L with
  |nil=>intro a;simp
  |cons r L ih=>intro a;simp only[foldl_cons,ih,RG,mem_cons,forall_eq_or_imp,and_assoc]
 unfold j1;rw[key];simp
theorem vG {s:eF}{t:iP}{r:List Val}(h:ri s t r=0):nk t.cols r=0:=by
 unfold ri at h
 split at h
 ·rename_i h0;unfold nU at h0
  split at h0
  ·assumption
  rename_i h;exact aj h0 h
 rename_i h0;exact aj h h0
theorem eK.tbl {s:eF}(h:eK s)(hg:s.jA){t:iP}(ht:t∈s.tables):(s.table t.id).1=t:=by
 have ha:=(vQ s.tables hg.t).1 h.tabs;obtain⟨i,hi,rfl⟩:=getElem_of_mem ht;unfold eF.table jI
 have e:s.tables.find? (λ u:iP=>decide (u.id=s.tables[i].id))=some s.tables[i]:=by
  rw[find?_eq_some_iff_getElem];refine⟨by simp,i,hi,rfl,λ j hj=>?_⟩;have:=((ha i) hi).2.2.2 j hj;simp;omega
 rw[e]
theorem eK.on {s:eF}(h:eK s)(hg:s.jA){t:iP}(ht:t∈s.tables){x:lY}(hx:x∈s.on t.id):dL t x.cols:=by
 obtain⟨h1,h2⟩:=mem_filter.1 hx;simp at h2;obtain⟨i,hi,rfl⟩:=getElem_of_mem h1;have:=(h.ixs i hi).cols;rw[h2,h.tbl hg ht]at this;exact this
theorem dL.ai3 {t:iP}{l:List Int}(h:dL t l){r:List Val}(hr:r.length=t.cols.length):jM l r:=by
 intro c hc;obtain⟨i,hi,rfl⟩:=getElem_of_mem hc;have:=h.2.2 i hi;exact⟨this.1,by rw[hr];exact this.2.1⟩
structure RowsFit (s:eF)(t:iP)(L:List (List Val)):Prop where
 eZ:∀r∈L,r.length=t.cols.length->∀x∈s.on t.id,jM x.cols r
 uS:∀x∈s.on t.id,x.cols.length<=16
theorem eK.rows {s:eF}(h:eK s)(hg:s.jA){t:iP}(ht:t∈s.tables)(L:List (List Val)):RowsFit s t L:=
 ⟨λ _ _ hr _ hx=>(h.on hg ht hx).ai3 hr,λ _ hx=>(h.on hg ht hx).2.1⟩
theorem wT (s:eF)(t:iP)(L:List (List Val)):E5 s t L=0↔j1 s t L=0/\lx s t.id L:=by
 unfold E5
 by_cases h1:j1 s t L=0<;>by_cases h2:lx s t.id L<;>simp[h1,h2]
theorem ahL (t:iP)(L:List (List Val))(hL:L.length<=bm)(hl:∀l∈L,l.length<=bm)(F:Fr)(K:Hp)(n p:Nat)(Q:QA)(f4:F.get 4=some (.ptr p 0))(kp:K.get p=cl 4 [.int .u32 t.id,.str t.name,cN.ds t.cols,.int .u32 t.head])(f39:F.get 39=some (bV L))(f40:F.get 40=some (iI (L.length:Int)))(f41:F.get 41=some (iI 0))
  (k1:¬(∀r∈L,nk t.cols r=0)->∀F',F'.get 2=some (.bool false)->Q .ret F' K n [])
  (k2:(∀r∈L,nk t.cols r=0)->∀F',F'.get 1=F.get 1->F'.get 4=F.get 4->F'.get 5=F.get 5->F'.get 24=F.get 24->F'.get 25=F.get 25->F'.get 26=F.get 26->Q (.exit 2) F' K n []):aG NY pG F K n [] Q:=by
 unfold bm at hL;refine aG.of (λ q F' K' n' ms=>∃i,q=L.length - i/\i<=L.length/\F'.get 1=F.get 1/\F'.get 4=F.get 4/\F'.get 5=F.get 5/\F'.get 24=F.get 24/\F'.get 25=F.get 25/\F'.get 26=F.get 26/\F'.get 39=some (bV L)/\F'.get 40=some (iI (L.length:Int))/\F'.get 41=some (iI (i:Int))/\(∀r∈L.take i,nk t.cols r=0)/\K'=K/\n'=n/\ms=[]) L.length ⟨0,by simp,by omega,rfl,rfl,rfl,rfl,rfl,rfl,f39,f40,f41,by simp,rfl,rfl,rfl⟩ ?_;clear f39 f40 f41;rintro q F' K' n' ms ⟨i,rfl,hi,g1,g4,g5,g24,g25,g26,f39,f40,f41,hk,rfl,rfl,rfl⟩;have g4':=g4.trans f4;rw[bV]at f39
 by_cases h:i<L.length
 ·have hx:=fk (k:=.i64) h;have w:=ax i (by omega);have hrm:L[i]∈L:=bT h;have hms:∀x∈L.take (i+1),x∈L.take i∨x=L[i]:=λ x hx=>by rwa [take_snoc h,mem_append,fD]at hx
  have hf:=SV t.cols L[i] (hl _ hrm);generalize L[i]=r at *;simp[NY,f40,f41,h,f39,hx,g4',kp];refine au.pure hf ?_
  by_cases h0:nk t.cols r=0
  ·simp[h0,WR,f41,w,g1,g4',g5,g24,g25,g26,f39,f40,f4];refine⟨_,by omega,i+1,rfl,by omega,by simp[bV],rfl,λ x hx=>?_⟩
   rcases hms x hx with h1|rfl
   ·exact hk x h1
   exact h0
  simp[h0,WT];exact k1 (λ h1=>h0 (h1 r hrm)) _ (by simp)
 obtain rfl:i=L.length:=by omega
 rw[eS (aM _)]at hk;simp[NY,f40,f41];refine k2 hk _ ?_ ?_ ?_ ?_ ?_ ?_
 ·simp[g1]
 ·simp[g4]
 ·simp[g5]
 ·simp[g24]
 ·simp[g25]
 simp[g26]
theorem adl (w:er)(hw:w.aO):ah pG 29 [bw.av w] (.bool (decide (fL w))):=by
 refine pv c29 λ F hF=>?_;have EP:=amm w.bQ hw.s;simp only[aN.av,bJ]at EP;have hst:=hw.s.t;have hl:=hw.l;unfold bm at hst hl;simp[A29,hF,aN.av,fa];refine au.pure EP ?_
 by_cases h0:eK w.bQ
 ·by_cases h1:w.rows.length=w.bQ.tables.length
  ·simp[h0,aN.aF,h1,afN];refine aG.of (λ q F K n ms=>∃i,q=w.rows.length - i/\i<=w.rows.length/\F.get 1=some (.ptr 0 0)/\F.get 24=some (bf.ds w.bQ.tables)/\F.get 25=some (iI (w.bQ.tables.length:Int))/\F.get 26=some (iI (i:Int))/\K.get 0=cl 3 [bf.ds w.bQ.tables,aR.ds w.bQ.indexes,jJ.ds w.rows]/\0<n/\(∀j (hj:j<i) (h1:j<w.rows.length) (h2:j<w.bQ.tables.length),BO w.bQ w.bQ.tables[j] w.rows[j])/\ms=[]) w.rows.length ⟨0,by simp,by omega,by simp,by simp,by simp,by simp,by simp,by omega,λ j hj=>by omega,rfl⟩ ?_;clear hF F;rintro q F K n ms ⟨i,rfl,hi,f1,f24,f25,f26,k0,n0,hk,rfl⟩
   by_cases h:i<w.rows.length
   ·have h2:i<w.bQ.tables.length:=by omega
    have hx:=jJ.ix (ik:=.i64) h;have hy:=bf.ix (ik:=.i64) h2;have wr:=ax i (by omega);have htm:w.rows[i]∈w.rows:=bT h;have hTm:w.bQ.tables[i]∈w.bQ.tables:=bT h2;have hrf:=h0.rows hw.g hTm w.rows[i];have hlt:=hw.t _ htm;have hrr:=hw.r _ htm;have hno:∀P:Prop,(BO w.bQ w.bQ.tables[i] w.rows[i]->P)->¬P->¬fL w:=λ P a b c=>b (a (c.t i h h2))
    have hyes:BO w.bQ w.bQ.tables[i] w.rows[i]->∀j (hj:j<i+1) (h1:j<w.rows.length) (h2:j<w.bQ.tables.length),BO w.bQ w.bQ.tables[j] w.rows[j]:=λ a j hj h1 h2=>by
     by_cases e:j=i
     ·subst e;exact a
     exact hk j (by omega) h1 h2
    rw[lg]at hx;rw[cT]at hy;generalize w.rows[i]=L at *;generalize w.bQ.tables[i]=t at *;have hso:=Qy L hlt λ r hr=>(hrr r hr).1;simp[Z2,f25,f26,h2,f24,hy,Qr,aN.av,cT,f1,k0,show ¬ 0=n by omega,hx,bV]
    by_cases h4:4096<L.length
    ·have:=hno (L.length<=4096) (λ a=>a.len) (by omega);simp[show (4096:Int)<(L.length:Int) by omega,afM];exact .bool (by simp[this])
    simp[show ¬(4096:Int)<(L.length:Int) by omega,afL];refine ahL t L hlt (λ r hr=>(hrr r hr).1) _ _ _ n _ (by simp) (by simp) (by simp[bV]) (by simp) (by simp) (λ hb F' g2=>?_) λ hfit F' g1 g4 g5 g24 g25 g26=>?_
    ·have:=hno (∀r∈L,nk t.cols r=0) (λ a r hr=>vG ((tB _ _ _).1 a.w r hr)) hb;simp[g2];exact .bool (by simp[this])
    simp[f1,f24,f25,f26]at g1 g4 g5 g24 g25 g26;have hfl:∀r∈L,r.length=t.cols.length:=λ r hr=>(nj (hfit r hr)).2.1;have hfs:=ais w.bQ t L hw.s.i hw.s.ic hlt hrr hrf.eZ hrf.uS hfl;simp only[aN.av,bJ,cT]at hfs;rw[bV]at hso;simp[WQ,g5];refine au.pure hso ?_
    by_cases h5:mh L
    ·simp[h5,g1,g4,g5,k0,show ¬ 0=n by omega];refine au.pure hfs ?_
     by_cases h6:E5 w.bQ t L=0
     ·obtain⟨h7,h8⟩:=(wT _ _ _).1 h6;simp[h6,WO,g26,wr,g1,g24,g25,k0,show ¬ 0=n by omega];exact⟨_,by omega,i+1,rfl,by omega,rfl,hyes ⟨by omega,h7,h5,h8⟩⟩
     have:=hno (j1 w.bQ t L=0/\lx w.bQ t.id L) (λ a=>⟨a.w,a.uq⟩) (λ a=>h6 ((wT _ _ _).2 a));simp[h6,Jj];exact .bool (by simp[this])
    have:=hno (mh L) (λ a=>a.srt) h5;simp[h5,Jj];exact .bool (by simp[this])
   obtain rfl:i=w.rows.length:=by omega
   have:fL w:=⟨h0,h1,λ j a b=>hk j a a b⟩;simp[Z2,f25,f26,h1,WN];exact .bool (by simp[this])
  have:¬fL w:=λ h=>h1 h.l;simp[h0,aN.aF,h1,WM];exact .bool (by simp[this])
 have:¬fL w:=λ h=>h0 h.s;simp[h0,WM];exact .bool (by simp[this])
end Go.Abs
