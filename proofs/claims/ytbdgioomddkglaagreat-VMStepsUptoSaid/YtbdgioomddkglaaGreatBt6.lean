/- A part. -/
import Derived.Test.YtbdgioomddkglaaGreatBt5
noncomputable section
namespace Go.Abs
open List
open Go.Proofs
open Classical
set_option maxRecDepth 100000
theorem lst_assoc (a b c:Int):lst (lst a b) c=lst a (lst b c):=by
 unfold lst
 by_cases h1:a=0<;>by_cases h2:b=0<;>by_cases h3:c=0<;>simp[h1,h2,h3]
 ·omega
 have e1:¬min a b=0:=by omega
 have e2:¬min b c=0:=by omega
 rw[if_neg e1,if_neg e2]
@[simp] theorem lst_0 (a:Int):lst a 0=a:=by unfold lst;split<;>simp_all
@[simp] theorem lst_0' (a:Int):lst 0 a=a:=by simp[lst]
def kF (row:List Val)(xs:List Ixd):Int:=xs.foldl (λ a x=>lst a (encK (sel row x.cols)).2) 0
theorem kF_snoc (row:List Val)(xs:List Ixd)(j:Nat)(h:j<xs.length):kF row (xs.take (j+1))=lst (kF row (xs.take j)) (encK (sel row xs[j].cols)).2:=by
 unfold kF;rw[take_snoc h,List.foldl_append];rfl
theorem foldl_lst (f:Ixd->Int):∀(xs:List Ixd)(a:Int),xs.foldl (λ a x=>lst a (f x)) a=lst a (xs.foldl (λ a x=>lst a (f x)) 0)
 | [],a=>by simp
 | x::xs,a=>by
  simp only[foldl_cons];rw[foldl_lst f xs (lst a (f x)),foldl_lst f xs (lst 0 (f x)),lst_0',lst_assoc]
theorem kF_eq (row:List Val):∀(xs:List Ixd),(∀x∈xs,(encK (sel row x.cols)).2=0∨(encK (sel row x.cols)).2=51)->kF row xs=kErr row xs
 | [],_=>rfl
 | x :: xs,h=>by
  have ih:=kF_eq row xs λ y hy=>h y (by simp[hy])
  have hz:kErr row xs=0∨kErr row xs=51:=by
   clear ih
   induction xs with
   | nil=>exact .inl rfl
   | cons y ys ih2 =>
    unfold kErr
    split
    ·exact ih2 λ z hz=>h z (by simp at hz ⊢;rcases hz with rfl | hz<;>simp[*])
    exact h y (by simp)
  unfold kF at ih ⊢;simp only[foldl_cons];rw[foldl_lst,ih,lst_0',kErr]
  rcases h x (by simp)with h1 | h1
  ·rw[h1,lst_0',if_pos rfl]
  rw[h1,if_neg (by omega)]
  rcases hz with h2 | h2<;>rw[h2]<;>simp[lst]
theorem encK_err {row:List Val}{cols:List Int}(hm:∀v∈row,v.may=true)(hl:cols.length<=16)(hc:ColsIn cols row):(encK (sel row cols)).2=0∨(encK (sel row cols)).2=51:=by
 have h1:∀v∈sel row cols,v.may=true:=by
  intro v hv;obtain⟨c,h1,rfl⟩:=mem_map.1 hv;obtain⟨h2,h3⟩:=hc c h1;have:c.toNat<row.length:=by omega
  simp only[getD,getElem?_eq_getElem this,Option.getD_some];exact hm _ (getElem_mem this)
 unfold encK;rw[if_neg (by simp;omega),if_pos h1]
 split<;>simp
theorem fits63a (row:List Val)(xs:List Ixd)(hxl:xs.length<=1048576)(e acc:Int)(hl:∀x∈xs,x.cols.length<=lim)(hr:∀v∈row,v.rng)(hin:e=0->∀x∈xs,ColsIn x.cols row)(F:Fr)(K:Hp)(n p:Nat)(Q:QA)(f7:F.get 7=some (.fn (.func 117) [] [.ptr p 0]))(f9:F.get 9=some (rowAV row))(f11:F.get 11=some (.int .i64 e))(f40:F.get 40=some (eIxd.ds xs))(f41:F.get 41=some (.int .i64 (xs.length:Int)))(f42:F.get 42=some (.int .i64 0))(kp:K.get p=some (.cells 1 [] [.int .i64 acc] .nil))(pn:p<n)
  (k:∀F' K' n',F'.get 2=F.get 2->F'.get 3=F.get 3->F'.get 4=F.get 4->F'.get 7=F.get 7->F'.get 21=F.get 21->F'.get 22=F.get 22->F'.get 23=F.get 23->n<=n'->(∀c,c<n->c≠p->K'.get c=K.get c)->K'.get p=some (.cells 1 [] [.int .i64 (if e=0 then lst acc (kF row xs)else acc)] .nil)->Q (.exit 2) F' K' n' []):LoopV L63_0 pG F K n [] Q:=by
 refine LoopV.of (λ t F' K' n' ms=>∃j,t=xs.length - j/\j<=xs.length/\F'.get 2=F.get 2/\F'.get 3=F.get 3/\F'.get 4=F.get 4/\F'.get 7=some (.fn (.func 117) [] [.ptr p 0])/\F'.get 21=F.get 21/\F'.get 22=F.get 22/\F'.get 23=F.get 23/\F'.get 9=some (rowAV row)/\F'.get 11=some (.int .i64 e)/\F'.get 40=some (eIxd.ds xs)/\F'.get 41=some (.int .i64 (xs.length:Int))/\F'.get 42=some (.int .i64 (j:Int))/\n<=n'/\(∀c,c<n->c≠p->K'.get c=K.get c)/\K'.get p=some (.cells 1 [] [.int .i64 (if e=0 then lst acc (kF row (xs.take j))else acc)] .nil)/\ms=[]) xs.length ⟨0,by simp,by omega,rfl,rfl,rfl,f7,rfl,rfl,rfl,f9,f11,f40,f41,f42,Nat.le_refl _,λ _ _ _=>rfl,by simpa[kF]using kp,rfl⟩ ?_;clear f9 f11 f40 f41 f42 kp;rintro t F' K' n' ms ⟨j,rfl,hj,g2,g3,g4,g7,g21,g22,g23,f9,f11,f40,f41,f42,hn,hk,kp,rfl⟩
 by_cases h:j<xs.length
 ·have hy:=eIxd.ix (ik:=.i64) h;have w:=wrap_nat j (by omega);have hxm:xs[j]∈xs:=getElem_mem h;have hsn:=kF_snoc row xs j h;have hkey:=λ h0:e=0=>key91 xs[j] row (hl _ hxm) hr (hin h0 _ hxm);simp only[Enc.av,eIxd_c]at hkey;rw[eIxd_c]at hy;generalize xs[j]=x at *
  by_cases h0:e=0
  ·subst h0;rw[if_pos rfl]at kp;have hkey:=hkey rfl;simp[L63_0,R63_8,f41,f42,h,R63_9,f40,hy,ixdLd,R63_10,f11,R63_11,f9];refine CalV.pure hkey ?_;simp[R63_12,g7];refine CalV.of (first117 (lst acc (kF row (xs.take j))) (encK (sel row x.cols)).2 (by rw[Tr.get_put,if_neg (by omega),Tr.get_put,if_neg (by omega),kp])) λ v K2 n2 ⟨e1,e2,e3,e4⟩=>?_;subst e1 e3;simp[R63_13,f42,w,g2,g3,g4,g7,g21,g22,g23,f9,f11,f40,f41];refine⟨_,by omega,j+1,rfl,by omega,rfl,by omega,λ c h1 h2=>?_,?_⟩
   ·rw[e4 c h2,Tr.get_put,if_neg (by omega),Tr.get_put,if_neg (by omega),hk c h1 h2]
   rw[e2,hsn,<-lst_assoc]
  rw[if_neg h0]at kp;simp[L63_0,R63_8,f41,f42,h,R63_9,f40,hy,ixdLd,R63_10,f11,h0,R63_13,w,g2,g3,g4,g7,g21,g22,g23,f9];refine⟨_,by omega,j+1,rfl,by omega,rfl,by omega,λ c h1 h2=>?_,?_⟩
  ·rw[if_neg (by omega),if_neg (by omega),hk c h1 h2]
  rw[if_neg (by omega),if_neg (by omega),kp]
 obtain rfl:j=xs.length:=by omega
 rw[take_of_length_le (Nat.le_refl _)]at kp;simp[L63_0,R63_8,f41,f42];refine k _ _ _ ?_ ?_ ?_ ?_ ?_ ?_ ?_ hn hk kp
 ·simp[g2]
 ·simp[g3]
 ·simp[g4]
 ·simp[g7,f7]
 ·simp[g21]
 ·simp[g22]
 simp[g23]
def fitsS (s:Sch)(t:Tbl)(rows:List (List Val)):Int:=if allW s t rows=0 then (if UniqOk s t.id rows then 0 else 160)else allW s t rows
theorem fits63 (s:Sch) (t:Tbl) (rows:List (List Val)) (hs:s.indexes.length<=lim) (hc:∀x∈s.indexes,x.cols.length<=lim) (hrl:rows.length<=lim) (hv:∀r∈rows,r.length<=lim/\∀v∈r,v.rng) (hin:∀r∈rows,r.length=t.cols.length->∀x∈s.on t.id,ColsIn x.cols r) (h16:∀x∈s.on t.id,x.cols.length<=16) (hfit:∀r∈rows,r.length=t.cols.length):FnPure pG 63 [eSch.av s,eTbl.av t,.ds (rowsC rows) rows.length 1] (.int .i64 (fitsS s t rows)):=by
 unfold lim at hrl;refine pureV c63 (by simp) (by simp) (by simp[A63]) λ F hF=>?_;have hon:=On90 s hs hc t.id;simp only[Enc.av,eSch_c]at hon;have hsub:∀x∈s.on t.id,x∈s.indexes:=λ x hx=>(mem_filter.1 hx).1;have hlen:(s.on t.id).length<=lim:=Nat.le_trans (length_filter_le _ _) hs;unfold lim at hlen;simp[A63,B63,R63_0,R63_1,hF,Enc.av,eSch_c,eTbl_c];refine CalV.of (first88 _ _) λ u K k ⟨e1,e2,e3⟩=>?_;subst e1 e2 e3;simp[R63_2,hF];refine LoopV.of (λ q F K n ms=>∃i,q=rows.length - i/\i<=rows.length/\F.get 2=some (.ds (rowsC rows) rows.length 1)/\F.get 3=some (.ptr 0 0)/\F.get 4=some (.ptr 1 0)/\F.get 7=some (.fn (.func 117) [] [.ptr 2 0])/\F.get 21=some (.ds (rowsC rows) rows.length 1)/\F.get 22=some (.int .i64 (rows.length:Int))/\F.get 23=some (.int .i64 (i:Int))/\K.get 0=some (.cells 2 [] [eTbl.ds s.tables,eIxd.ds s.indexes] .nil)/\K.get 1=some (.cells 4 [] [.int .u32 t.id,.str t.name,eCol.ds t.cols,.int .u32 t.head] .nil)/\K.get 2=some (.cells 1 [] [.int .i64 (allW s t (rows.take i))] .nil)/\3<=n/\ms=[]) rows.length ⟨0,by simp,by omega,by simp[hF],by simp,by simp,by simp,by simp[hF],by simp,by simp,by simp,by simp,by simp[allW],by omega,rfl⟩ ?_;clear hF F;rintro q F K n ms ⟨i,rfl,hi,f2,f3,f4,f7,f21,f22,f23,k0,k1,k2,n3,rfl⟩
 by_cases h:i<rows.length
 ·have hx:=ixa_row (k:=.i64) h;have w:=wrap_nat i (by omega);have hrm:rows[i]∈rows:=getElem_mem h;obtain⟨h1,h2⟩:=hv rows[i] hrm;have henc:=enc89 t.cols rows[i] h1 h2;have hsn:allW s t (rows.take (i+1))=lst (allW s t (rows.take i)) (wErr s t rows[i]):=by unfold allW;rw[take_snoc h,List.foldl_append];rfl
  have hin1:=hin rows[i] hrm (hfit _ hrm)
  have hw:wErr s t rows[i]=if (encE t.cols rows[i]).2=0 then kF rows[i] (s.on t.id)else (encE t.cols rows[i]).2:=by
   unfold wErr
   split
   ·rename_i h0
    have hf0:fitE t.cols rows[i]=0:=by
     unfold encE at h0
     split at h0
     ·assumption
     rename_i h;exact absurd h0 h
    rw[kF_eq];intro x hx;exact encK_err (fitE_ok hf0).2.2.2.2 (h16 x hx) (hin1 x hx)
   rfl
  generalize allW s t (rows.take i)=a at *;generalize rows[i]=r at *;simp[L63_1,R63_3,f22,f23,h,R63_4,f21,hx,R63_5,f4,k1];refine CalV.pure henc ?_;simp[R63_6,f7];refine CalV.of (first117 a (encE t.cols r).2 k2) λ v K2 m2 ⟨e1,e2,e3,e4⟩=>?_;subst e1 e3;simp[R63_7,f3,f4,e4 0 (by omega),e4 1 (by omega),k0,k1];refine CalV.pure hon ?_;simp[Enc.len_ds];refine fits63a r (s.on t.id) hlen (encE t.cols r).2 _ (λ x hx=>hc x (hsub x hx)) h2 (λ _=>hin1) _ _ _ 2 _ (by simp[f7]) (by simp) (by simp) (by simp) (by simp) (by simp) e2 (by omega) λ F' K' n' g2 g3 g4 g7 g21 g22 g23 hn hk kp=>?_;simp[f2,f3,f4,f7,f21,f22,f23]at g2 g3 g4 g7 g21 g22 g23;simp[R63_14,g2,g3,g4,g7,g21,g22,g23,w];refine⟨_,by omega,i+1,rfl,by omega,rfl,?_,?_,?_,by omega⟩
  ·rw[hk 0 (by omega) (by omega),e4 0 (by omega),k0]
  ·rw[hk 1 (by omega) (by omega),e4 1 (by omega),k1]
  rw[kp,hsn,hw]
  split
  ·rename_i h0;rw[h0,lst_0]
  rfl
 obtain rfl:i=rows.length:=by omega
 rw[take_of_length_le (Nat.le_refl _)]at k2;unfold fitsS;generalize allW s t rows=a at *;simp[L63_1,R63_3,f22,f23,R63_15,f7];refine CalV.of (first117 a 0 k2) λ v K2 m2 ⟨e1,e2,e3,e4⟩=>?_;subst e1 e3;simp only[lst_0]at e2
 by_cases h0:a=0
 ·simp[R63_16,h0,R63_18,f3,f4,e4 0 (by omega),e4 1 (by omega),k0,k1];refine CalV.pure hon ?_;simp[Enc.len_ds];unfold UniqOk;generalize s.on t.id=xs at *;refine LoopV.of (λ q F K n ms=>∃j,q=xs.length - j/\j<=xs.length/\F.get 2=some (.ds (rowsC rows) rows.length 1)/\F.get 68=some (eIxd.ds xs)/\F.get 69=some (.int .i64 (xs.length:Int))/\F.get 70=some (.int .i64 (j:Int))/\(∀x∈xs.take j,x.uniq=true->(kList x.cols rows).Nodup)/\ms=[]) xs.length ⟨0,by simp,by omega,by simp[f2],by simp,by simp,by simp,by simp,rfl⟩ ?_;clear f2 f3 f4 f7 f21 f22 f23 k0 k1 k2;rintro q F K n ms ⟨j,rfl,hj,f2,f68,f69,f70,hk,rfl⟩
  by_cases h:j<xs.length
  ·have hy:=eIxd.ix (ik:=.i64) h;have w:=wrap_nat j (by omega);have hxm:xs[j]∈xs:=getElem_mem h;have hms:∀x∈xs.take (j+1),x∈xs.take j∨x=xs[j]:=λ x hx=>by rwa [take_snoc h,mem_append,mem_singleton]at hx
   have htw:=twice92 xs[j] rows (hc _ (hsub _ hxm)) (by unfold lim;omega) λ r hr=>⟨(hv r hr).2,hin r hr (hfit r hr) _ hxm⟩;simp only[Enc.av,eIxd_c]at htw;rw[eIxd_c]at hy;generalize xs[j]=x at *
   cases hu:x.uniq with
   | false =>
    simp[L63_2,R63_19,f69,f70,h,R63_20,f68,hy,ixdLd,R63_21,hu,R63_23,w,f2];refine⟨_,by omega,j+1,rfl,by omega,rfl,λ y hy' hyu=>?_⟩
    rcases hms y hy' with h1 | rfl
    ·exact hk y h1 hyu
    rw[hu]at hyu;cases hyu
   | true =>
    rw[hu]at htw;simp[L63_2,R63_19,f69,f70,h,R63_20,f68,hy,ixdLd,R63_21,hu,f2];refine CalV.pure htw ?_
    by_cases hnd:(kList x.cols rows).Nodup
    ·simp[hnd,R63_23,f70,w,f2,f68,f69];refine⟨_,by omega,j+1,rfl,by omega,rfl,λ y hy' hyu=>?_⟩
     rcases hms y hy' with h1 | rfl
     ·exact hk y h1 hyu
     exact hnd
    have:¬ ∀x∈xs,x.uniq=true->(kList x.cols rows).Nodup:=λ h1=>hnd (h1 x hxm hu);simp only[if_neg this];simp[hnd,R63_22];exact .pure _ (by simp)
  obtain rfl:j=xs.length:=by omega
  rw[take_of_length_le (Nat.le_refl _)]at hk;simp only[if_pos hk];simp[L63_2,R63_19,f69,f70,R63_24];exact .pure _ (by simp)
 simp[R63_16,h0,R63_17];exact .pure _ (by simp)
end Go.Abs
namespace Go.Abs
open List
open Go.Proofs
open Classical
set_option maxRecDepth 100000
variable {α:Type}{k:Nat}
theorem Ex.sz_mem {l:List Ex}{e:Ex}(h:e∈l):e.sz<=Ex.szL l:=by
 induction l with
 | nil=>cases h
 | cons a r ih =>
  cases h with
  | head=>simp[Ex.szL]
  | tail _ hm=>have:=ih hm;simp[Ex.szL];omega
theorem Ex.sz_get {args:List Ex}{i:Nat}(h:i<args.length):args[i].sz<=Ex.szL args:=Ex.sz_mem (getElem_mem h)
def Ex.split (e:Ex):List Ex:=match e with
 | .mk op v t m col args=>if h:op=20/\args.length=2 then (args[0]'(by omega)).split++(args[1]'(by omega)).split else [.mk op v t m col args]
 termination_by e.sz
 decreasing_by
 ·have:=Ex.sz_get (args:=args) (i:=0) (by omega);simp[Ex.sz];omega
 have:=Ex.sz_get (args:=args) (i:=1) (by omega);simp[Ex.sz];omega
@[simp] theorem intsC_one (l:List Int):allOne (intsC l)=true:=by
 induction l with
 | nil=>rfl
 | cons a r ih=>simp only[intsC,map_cons,allOne_cons,one_int,Bool.true_and];exact ih
def Val.z:Val:=⟨0,0,[]⟩
theorem Ex.frz {h:Hf}{op:Int}{v:Val}{t m:List Nat}{col:Int}{args:List Ex}{x:AV}(hx:Frz h x (.ds (Ex.cellsL args) args.length 8)):FrzL h [.int .i64 op,.int .i64 v.kind,.int .i64 v.num,.str v.s,.str t,.str m,.int .i64 col,x] (Ex.mk op v t m col args).cells:=by
 rw[Ex.cells];exact .cons _ _ _ _ (.pure _ (by simp)) (.cons _ _ _ _ (.pure _ (by simp)) (.cons _ _ _ _ (.pure _ (by simp)) (.cons _ _ _ _ (.pure _ (by simp)) (.cons _ _ _ _ (.pure _ (by simp)) (.cons _ _ _ _ (.pure _ (by simp)) (.cons _ _ _ _ (.pure _ (by simp)) (.cons _ _ _ _ hx .nil)))))))
theorem FIL.refl (h:Hf):∀l:List AV,FIL h l l
 | []=>by simp
 | v::l=>by simp[FIL.refl h l]
theorem OwnS.len1 {H:Hp}{n:Nat}{v:AV}{l:List AV}{len sz:Nat}(h:OwnS H n v l len sz):v.len=1/\v.cells=[v]:=by
 obtain⟨_,⟨rfl,_⟩ | ⟨b,k,rfl,_⟩⟩:=h<;>exact⟨rfl,rfl⟩
def Ex.op:Ex->Int
 | .mk op _ _ _ _ _=>op
theorem shutMid {F F2:Fr}{K:Hp}{m:Nat}{va x:AV}{l r cs:List AV}{len sa k sz:Nat}(hF:∀(t:Nat) v,F2.get t=some v->F.get t=some v) (ha:OwnS K m va (l++x::r) len sa) (h1:0<len) (hx:OwnS K m x cs k sz) (hz:0<sz) (hcs:PureL cs) (hd:∀c,blk va=some c->blk x≠some c):
  ∃h K2,Shuts h F K F2 K2/\OwnS K2 m va (l++.ds cs k sz::r) len sa/\∀c,blk va≠some c->blk x≠some c->K2.get c=K.get c:=by
 have hfz:∀h:Hf,(∀c,blk x=some c->h c=K.get c)->Frz h x (.ds cs k sz):=by
  intro h hh;obtain⟨s',rfl⟩:∃s',sz=s'+1:=⟨sz - 1,by omega⟩;obtain⟨h0,⟨rfl,rfl⟩ | ⟨b,kk,rfl,hb,hk,ho⟩⟩:=hx
  ·have:cs=[]:=by simpa using h0
   subst this;exact .nil _
  obtain⟨u,z,bs,t,rfl,hg⟩:=ho.grab (o:=0) (c:=k*(s'+1)) (by omega);refine .sl _ _ _ _ _ _ _ _ _ _ ((hh b rfl).trans hk) hg ?_;rw[drop_zero,take_of_length_le (by omega)];exact FrzL.pure hcs
 obtain⟨h0,⟨_,h1⟩ | ⟨b,kb,rfl,hb,hk,ho⟩⟩:=ha
 ·omega
 have hxb:blk x≠some b:=hd b rfl;obtain⟨u,z,bs,t,rfl,hu,hg,hi⟩:=ho
 refine⟨λ c=>if blk x=some c then K.get c else none,(match blk x with
  | some c=>K.put c none
  | none=>K).put b (some (.cells u [] (l++AV.ds cs k sz::r) .nil)),⟨λ c y hc=>?_,λ c hc=>?_,λ t v hv=>⟨v,hF t v hv,.inl rfl⟩,λ c y hc=>?_⟩,⟨by simpa using h0,.inr ⟨b,.cells u [] (l++AV.ds cs k sz::r) .nil,rfl,hb,by simp,OwnB.list (by simpa using hu)⟩⟩,λ c h3 h4=>?_⟩
 ·split at hc
  ·exact hc
  cases hc
 ·have hc:(if blk x=some c then K.get c else none)≠none:=hc
  by_cases he:blk x=some c
  ·have hcb:c≠b:=λ e=>hxb (by rw[he,e]);rw[he];simp[hcb]
  simp[he]at hc
 ·by_cases hcb:c=b
  ·subst hcb;simp at hc;subst hc;refine⟨_,hk,.inr ⟨u,z,bs,t,_,rfl,rfl,by simpa using hu.symm,λ i v' hv=>?_⟩⟩
   by_cases hil:i<l.length
   ·rw[getElem?_append_left hil]at hv;exact⟨v',by rw[hg,getElem?_append_left hil];exact hv,.inl rfl⟩
   rw[getElem?_append_right (by omega)]at hv
   rcases Nat.eq_zero_or_pos (i - l.length)with e | e
   ·rw[e]at hv;simp at hv;subst hv;refine⟨x,by rw[hg,getElem?_append_right (by omega),e];simp,.inr (hfz _ λ c hc=>if_pos hc)⟩
   obtain⟨j,hj⟩:∃j,i - l.length=j+1:=⟨i - l.length - 1,by omega⟩;rw[hj]at hv;simp at hv;exact⟨v',by rw[hg,getElem?_append_right (by omega),hj];simpa using hv,.inl rfl⟩
  rw[Tr.get_put,if_neg hcb]at hc;refine⟨y,?_,.inl rfl⟩
  cases hbx:blk x with
  | none=>rw[hbx]at hc;exact hc
  | some d =>
   rw[hbx]at hc;simp only[Tr.get_put]at hc
   split at hc
   ·cases hc
   exact hc
 have hc:c≠b:=λ e=>h3 (by rw[e];rfl);rw[Tr.get_put,if_neg hc]
 cases hbx:blk x with
 | none=>rfl
 | some d =>
  have:c≠d:=λ e=>h4 (by rw[hbx,e]);simp[this]
theorem app0 {α:Type}{s':Nat}(E:Enc α (s'+1))(l:List α)(hl:l.length<=lim){P:Program}{K:Hp}{b by_:Nat}{F:Fr}{Q:QA}{pd:Pd}{r:List (Option GO)}(hby:by_<=4096)
  (hgo:∀v H' n',b+1<=n'->OwnS H' n' v (E.l l) l.length (s'+1)->(∀c,blk v=some c->b<=c)->(∀c,c<b->H'.get c=K.get c)->VCO P r (pd.f v F) H' n' [] Q):
  OpV (cApp (s'+1) by_ (b+1) (.sl b 0 0 (s'+1)) (E.ds l) (K.put b (some (.cells 0 [] [] .nil)))) pd r P F (K.put b (some (.cells 0 [] [] .nil))) (b+1) [] Q:=by
 unfold lim at hl;have ho:OwnS (K.put b (some (.cells 0 [] [] .nil))) (b+1) (.sl b 0 0 (s'+1)) [] 0 (s'+1):=⟨by simp,.inr ⟨b,_,rfl,by omega,(Tr.get_put _ _ _ _).trans (if_pos rfl),OwnB.list rfl⟩⟩
 by_cases h0:l.length=0
 ·have hn:l=[]:=length_eq_zero_iff.1 h0;subst hn
  have e2:cApp (s'+1) by_ (b+1) (.sl b 0 0 (s'+1)) (E.ds []) (K.put b (some (.cells 0 [] [] .nil)))=.val (.sl b 0 0 (s'+1)):=by
   unfold Go.Abs.cApp;simp[Enc.ds,cApp1]
  rw[e2];simp;refine hgo _ _ _ (Nat.le_refl _) ho (λ c hc=>by simp at hc;omega) λ c hc=>?_;simp[show ¬c=b by omega]
 refine OwnS.appA (k:=l.length) (new:=E.l l) ho (by simp[Enc.ds]) (by simp[Enc.ds]) (by simp[Enc.l_len]) (by omega) (by omega) (by unfold big;omega) hby (by simp) λ H' o' g=>?_;rw[Nat.zero_add]at o' ⊢;refine hgo _ _ _ (by omega) (by simpa using o') (λ c hc=>by simp at hc;omega) λ c hc=>?_;rw[g c (by omega) (by simp;omega)];simp[show ¬c=b by omega]
structure CpF (F:Fr):Prop where
 f1:F.get 1=some (.ptr 0 0)
 f2:F.get 2=some (.ptr 1 0)
 f3:F.get 3=some (.ptr 2 0)
structure CpM (s:Sch)(i j:Nat)(vt vi:AV)(K:Hp)(m:Nat):Prop where
 hm:3<=m
 k0:K.get 0=some (.cells 2 [] (eSch.cells s) .nil)
 k1:K.get 1=some (.cells 2 [] [.cst (.slice none 0 0),.cst (.slice none 0 0)] .nil)
 k2:K.get 2=some (.cells 2 [] [vt,vi] .nil)
 ot:OwnS K m vt (eTbl.l (s.tables.take i)) i 4
 oi:OwnS K m vi (eIxd.l (s.indexes.take j)) j 6
 dt:∀c,blk vt=some c->3<=c
 di:∀c,blk vi=some c->3<=c/\blk vt≠some c
theorem copy6a (s:Sch) (hs:s.fine) (F:Fr) (K:Hp) (m:Nat) (Q:QA) (hF:CpF F) (f4:F.get 4=some (.int .i64 0)) (M:CpM s 0 0 (.cst (.slice none 0 0)) (.cst (.slice none 0 0)) K m)
  (hQ:∀vt F K m,CpF F->CpM s s.tables.length 0 vt (.cst (.slice none 0 0)) K m->Q .normal F K m []):LoopV L24_0 pG F K m [] (BlkQ 0 Q):=by
 have ht:=hs.t;unfold lim at ht;refine LoopV.ofZ (λ q F K m ms=>∃(i:Nat) (vt:AV),q=s.tables.length - i/\i<=s.tables.length/\CpF F/\F.get 4=some (.int .i64 (i:Int))/\CpM s i 0 vt (.cst (.slice none 0 0)) K m/\ms=[]) s.tables.length (Zs.refl ⟨0,_,by simp,by simp,hF,f4,M,rfl⟩) ?_;clear hF f4 M F K m;rintro q1 F K m ms ⟨i,vt,rfl,hi,⟨f1,f2,f3⟩,f4,M,rfl⟩;have k0:=M.k0;rw[eSch_c]at k0
 by_cases hlt:i<s.tables.length
 ·have hxx:=eTbl.ix (ik:=.i64) hlt;have hld:=λ H=>eTbl.ldN s.tables[i] (eTbl.l (s.tables.drop (i+1))) H;have htc:=hs.tc _ (getElem_mem hlt);unfold lim at htc;simp[L24_0,R24_3,R24_4,f1,f4,k0,Enc.len_ds,hlt,hxx,hld,Enc.av];generalize hK1:Tr.put (Tr.put K m _) m _=K1;have g1:∀c,c<m->K1.get c=K.get c:=λ c hc=>by rw[<-hK1];simp[neC hc]
  have x1:K1.get m=some (.cells 4 [] (eTbl.cells s.tables[i]) .nil):=by rw[<-hK1];simp
  clear hK1;rw[eTbl_c]at x1;simp[R24_5,x1];refine app0 eCol _ (by unfold lim;omega) (by omega) λ v K2 m2 hm2 hv dv g2=>?_;have x2:=(g2 m (by omega)).trans x1;have hone:=hv.isOne;obtain⟨hl1,hl2⟩:=hv.len1;have b2:∀c,c<m->K2.get c=K.get c:=λ c hc=>(g2 c (by omega)).trans (g1 c hc);have hm:=M.hm;have k22:=(b2 2 (by omega)).trans M.k2;have hto:=M.ot.isOne;have hta:=λ c h=>M.ot.blkLt (c:=c) h;simp[x2,hone,hl1,hl2,R24_6,f3,show ¬ 2=m by omega,k22];generalize hK3:Tr.put (Tr.put K2 m _) m2 _=K3;have g3:∀c,c≠m->c<m2->K3.get c=K2.get c:=λ c h1 h2=>by rw[<-hK3];simp[h1,neC h2]
  have x3:K3.get m2=some (.cells 4 [] [.int .u32 s.tables[i].id,.str s.tables[i].name,v,.int .u32 s.tables[i].head] .nil):=by rw[<-hK3];simp
  clear hK3;have ot3:OwnS K3 (m2+1) vt (eTbl.l (s.tables.take i)) i 4:=M.ot.frame (by omega) λ c hc=>(g3 c (by have:=hta c hc;omega) (by have:=hta c hc;omega)).trans (b2 c (hta c hc));refine OwnS.appA (k:=1) (new:=[.int .u32 s.tables[i].id,.str s.tables[i].name,v,.int .u32 s.tables[i].head]) ot3 (sliceCells_one x3) (by simp) (by simp) (by omega) (by omega) (by unfold big;omega) (by omega) (by simp[hone]) λ K4 o4 g4=>?_;have k24:=(g4 2 (by omega) λ h=>by have:=M.dt 2 h;omega).trans ((g3 2 (by omega) (by omega)).trans k22);simp[f3,k24,R24_7,f4,wrap_nat i (by omega)];generalize hK5:Tr.put K4 2 _=K5;have g5:∀c,c≠2->K5.get c=K4.get c:=λ c hc=>by rw[<-hK5];simp[hc]
  have x5:K5.get 2=some (.cells 2 [] [.sl (m2+1) 0 (i+1) 4,.cst (.slice none 0 0)] .nil):=by rw[<-hK5];simp
  clear hK5;generalize hF2:(Fp 4 _ _:Fr)=F2;have w1:F2.get 1=some (.ptr 0 0):=by rw[<-hF2];simp[f1]
  have w2:F2.get 2=some (.ptr 1 0):=by rw[<-hF2];simp[f2]
  have w3:F2.get 3=some (.ptr 2 0):=by rw[<-hF2];simp[f3]
  have w4:F2.get 4=some (.int .i64 ((i+1:Nat):Int)):=by rw[<-hF2];simp
  clear hF2;have bk:∀c,c<m->c≠2->blk vt≠some c->K5.get c=K.get c:=λ c h1 h2 h3=>(g5 c h2).trans ((g4 c (by omega) h3).trans ((g3 c (by omega) (by omega)).trans (b2 c h1)))
  have oa5:OwnS K5 (m2+1+1) (.sl (m2+1) 0 (i+1) 4) ((eTbl.l (s.tables.take i)++[.int .u32 s.tables[i].id,.str s.tables[i].name])++v::[.int .u32 s.tables[i].head]) (i+1) 4:=by
   have:=o4.frame (H':=K5) (n':=m2+1+1) (by omega) λ c hc=>g5 c (by simp at hc;omega);simpa using this
  have ov5:OwnS K5 (m2+1+1) v (eCol.l s.tables[i].cols) s.tables[i].cols.length 3:=hv.frame (by omega) λ c hc=>by
   have h1:=dv c hc;have h2:=hv.blkLt hc;exact(g5 c (by omega)).trans ((g4 c (by omega) λ h=>by have:=hta c h;omega).trans (g3 c (by omega) h2))
  have nv:∀c,c<m->blk v≠some c:=λ c h1 h2=>by have:=dv c h2;omega
  obtain⟨hh,K6,hsh,oa6,g6⟩:=shutMid (F:=F2) (F2:=F2) (λ t v hv=>hv) oa5 (by omega) ov5 (by omega) (by simp) (λ c hc hc2=>by
   have:=hv.blkLt hc2;simp at hc;omega)
  have na:∀c,c<m->blk (AV.sl (m2+1) 0 (i+1) 4)≠some c:=λ c h1 h2=>by simp at h2;omega
  have nt:∀c,c<3->blk vt≠some c:=λ c h1 h2=>by have:=M.dt c h2;omega
  refine⟨s.tables.length - (i+1),by omega,hh,F2,K6,hsh,i+1,rfl,hlt,⟨w1,w2,w3⟩,w4,⟨.sl (m2+1) 0 (i+1) 4,by omega,?_,?_,?_,?_,by simpa using OwnS.nil _ _ 6,λ c hc=>by simp at hc;omega,by simp⟩,rfl⟩
  ·exact(g6 0 (na 0 (by omega)) (nv 0 (by omega))).trans ((bk 0 (by omega) (by omega) (nt 0 (by omega))).trans M.k0)
  ·exact(g6 1 (na 1 (by omega)) (nv 1 (by omega))).trans ((bk 1 (by omega) (by omega) (nt 1 (by omega))).trans M.k1)
  ·exact(g6 2 (na 2 (by omega)) (nv 2 (by omega))).trans x5
  have e:eTbl.l (s.tables.take (i+1))=(eTbl.l (s.tables.take i)++[.int .u32 s.tables[i].id,.str s.tables[i].name])++.ds (eCol.l s.tables[i].cols) s.tables[i].cols.length 3::[.int .u32 s.tables[i].head]:=by
   rw[take_add_one,getElem?_eq_getElem hlt,Option.toList,Enc.l_append,Enc.l_one,eTbl_c];simp[Enc.ds]
  rw[e];exact oa6
 obtain rfl:i=s.tables.length:=by omega
 simp[L24_0,R24_3,f1,f4,k0,Enc.len_ds];exact hQ vt _ K m ⟨by simp[f1],by simp[f2],by simp[f3]⟩ M
theorem copy6b (s:Sch) (hs:s.fine) (vt:AV) (F:Fr) (K:Hp) (m:Nat) (Q:QA) (hF:CpF F) (f6:F.get 6=some (.int .i64 0)) (M:CpM s s.tables.length 0 vt (.cst (.slice none 0 0)) K m)
  (hQ:∀vi F K m,CpF F->CpM s s.tables.length s.indexes.length vt vi K m->Q .normal F K m []):LoopV L24_1 pG F K m [] (BlkQ 2 Q):=by
 have ht:=hs.i;unfold lim at ht;refine LoopV.ofZ (λ q F K m ms=>∃(i:Nat) (vi:AV),q=s.indexes.length - i/\i<=s.indexes.length/\CpF F/\F.get 6=some (.int .i64 (i:Int))/\CpM s s.tables.length i vt vi K m/\ms=[]) s.indexes.length (Zs.refl ⟨0,_,by simp,by simp,hF,f6,M,rfl⟩) ?_;clear hF f6 M F K m;rintro q1 F K m ms ⟨i,vi,rfl,hi,⟨f1,f2,f3⟩,f6,M,rfl⟩;have k0:=M.k0;rw[eSch_c]at k0
 by_cases hlt:i<s.indexes.length
 ·have hxx:=eIxd.ix (ik:=.i64) hlt;have hld:=λ H=>eIxd.ldN s.indexes[i] (eIxd.l (s.indexes.drop (i+1))) H;have htc:=hs.ic _ (getElem_mem hlt);unfold lim at htc;simp[L24_1,R24_9,R24_10,f1,f6,k0,Enc.len_ds,hlt,hxx,hld,Enc.av];generalize hK1:Tr.put (Tr.put K m _) m _=K1;have g1:∀c,c<m->K1.get c=K.get c:=λ c hc=>by rw[<-hK1];simp[neC hc]
  have x1:K1.get m=some (.cells 6 [] (eIxd.cells s.indexes[i]) .nil):=by rw[<-hK1];simp
  clear hK1;rw[eIxd_c]at x1;simp[R24_11,x1];refine app0 eInt _ (by unfold lim;omega) (by omega) λ v K2 m2 hm2 hv dv g2=>?_;have x2:=(g2 m (by omega)).trans x1;have hone:=hv.isOne;obtain⟨hl1,hl2⟩:=hv.len1;have b2:∀c,c<m->K2.get c=K.get c:=λ c hc=>(g2 c (by omega)).trans (g1 c hc);have hm:=M.hm;have k22:=(b2 2 (by omega)).trans M.k2;have hto:=M.oi.isOne;have htv:=M.ot.isOne;have hta:=λ c h=>M.oi.blkLt (c:=c) h;have htb:=λ c h=>M.ot.blkLt (c:=c) h;simp[x2,hone,hl1,hl2,R24_12,f3,show ¬ 2=m by omega,k22];generalize hK3:Tr.put (Tr.put K2 m _) m2 _=K3;have g3:∀c,c≠m->c<m2->K3.get c=K2.get c:=λ c h1 h2=>by rw[<-hK3];simp[h1,neC h2]
  have x3:K3.get m2=some (.cells 6 [] [.int .u32 s.indexes[i].id,.int .u32 s.indexes[i].table,.str s.indexes[i].name,v,.bool s.indexes[i].uniq,.int .u32 s.indexes[i].root] .nil):=by rw[<-hK3];simp
  clear hK3;have ot3:OwnS K3 (m2+1) vi (eIxd.l (s.indexes.take i)) i 6:=M.oi.frame (by omega) λ c hc=>(g3 c (by have:=hta c hc;omega) (by have:=hta c hc;omega)).trans (b2 c (hta c hc));refine OwnS.appA (k:=1) (new:=[.int .u32 s.indexes[i].id,.int .u32 s.indexes[i].table,.str s.indexes[i].name,v,.bool s.indexes[i].uniq,.int .u32 s.indexes[i].root]) ot3 (sliceCells_one x3) (by simp) (by simp) (by omega) (by omega) (by unfold big;omega) (by omega) (by simp[hone]) λ K4 o4 g4=>?_;have k24:=(g4 2 (by omega) λ h=>by have:=(M.di 2 h).1;omega).trans ((g3 2 (by omega) (by omega)).trans k22);simp[f3,k24,R24_13,f6,wrap_nat i (by omega)];generalize hK5:Tr.put K4 2 _=K5;have g5:∀c,c≠2->K5.get c=K4.get c:=λ c hc=>by rw[<-hK5];simp[hc]
  have x5:K5.get 2=some (.cells 2 [] [vt,.sl (m2+1) 0 (i+1) 6] .nil):=by rw[<-hK5];simp
  clear hK5;generalize hF2:(Fp 6 _ _:Fr)=F2;have w1:F2.get 1=some (.ptr 0 0):=by rw[<-hF2];simp[f1]
  have w2:F2.get 2=some (.ptr 1 0):=by rw[<-hF2];simp[f2]
  have w3:F2.get 3=some (.ptr 2 0):=by rw[<-hF2];simp[f3]
  have w4:F2.get 6=some (.int .i64 ((i+1:Nat):Int)):=by rw[<-hF2];simp
  clear hF2;have bk:∀c,c<m->c≠2->blk vi≠some c->K5.get c=K.get c:=λ c h1 h2 h3=>(g5 c h2).trans ((g4 c (by omega) h3).trans ((g3 c (by omega) (by omega)).trans (b2 c h1)))
  have oa5:OwnS K5 (m2+1+1) (.sl (m2+1) 0 (i+1) 6) ((eIxd.l (s.indexes.take i)++[.int .u32 s.indexes[i].id,.int .u32 s.indexes[i].table,.str s.indexes[i].name])++v::[.bool s.indexes[i].uniq,.int .u32 s.indexes[i].root]) (i+1) 6:=by
   have:=o4.frame (H':=K5) (n':=m2+1+1) (by omega) λ c hc=>g5 c (by simp at hc;omega);simpa using this
  have ov5:OwnS K5 (m2+1+1) v (eInt.l s.indexes[i].cols) s.indexes[i].cols.length 1:=hv.frame (by omega) λ c hc=>by
   have h1:=dv c hc;have h2:=hv.blkLt hc;exact(g5 c (by omega)).trans ((g4 c (by omega) λ h=>by have:=hta c h;omega).trans (g3 c (by omega) h2))
  have nv:∀c,c<m->blk v≠some c:=λ c h1 h2=>by have:=dv c h2;omega
  obtain⟨hh,K6,hsh,oa6,g6⟩:=shutMid (F:=F2) (F2:=F2) (λ t v hv=>hv) oa5 (by omega) ov5 (by omega) (by simp) (λ c hc hc2=>by
   have:=hv.blkLt hc2;simp at hc;omega)
  have na:∀c,c<m->blk (AV.sl (m2+1) 0 (i+1) 6)≠some c:=λ c h1 h2=>by simp at h2;omega
  have nt:∀c,c<3->blk vi≠some c:=λ c h1 h2=>by have:=(M.di c h2).1;omega
  refine⟨s.indexes.length - (i+1),by omega,hh,F2,K6,hsh,i+1,rfl,hlt,⟨w1,w2,w3⟩,w4,⟨.sl (m2+1) 0 (i+1) 6,by omega,?_,?_,?_,?_,?_,M.dt,λ c hc=>⟨by simp at hc;omega,λ h=>by have:=htb c h;simp at hc;omega⟩⟩,rfl⟩
  ·exact(g6 0 (na 0 (by omega)) (nv 0 (by omega))).trans ((bk 0 (by omega) (by omega) (nt 0 (by omega))).trans M.k0)
  ·exact(g6 1 (na 1 (by omega)) (nv 1 (by omega))).trans ((bk 1 (by omega) (by omega) (nt 1 (by omega))).trans M.k1)
  ·exact(g6 2 (na 2 (by omega)) (nv 2 (by omega))).trans x5
  ·exact M.ot.frame (by omega) λ c hc=>by
    have h1:=htb c hc;have h2:=M.dt c hc;exact(g6 c (na c h1) (nv c h1)).trans (bk c h1 (by omega) λ h=>(M.di c h).2 hc)
  have e:eIxd.l (s.indexes.take (i+1))=(eIxd.l (s.indexes.take i)++[.int .u32 s.indexes[i].id,.int .u32 s.indexes[i].table,.str s.indexes[i].name])++.ds (eInt.l s.indexes[i].cols) s.indexes[i].cols.length 1::[.bool s.indexes[i].uniq,.int .u32 s.indexes[i].root]:=by
   rw[take_add_one,getElem?_eq_getElem hlt,Option.toList,Enc.l_append,Enc.l_one,eIxd_c];simp[Enc.ds]
  rw[e];exact oa6
 obtain rfl:i=s.indexes.length:=by omega
 simp[L24_1,R24_9,f1,f6,k0,Enc.len_ds];exact hQ vi _ K m ⟨by simp[f1],by simp[f2],by simp[f3]⟩ M
theorem copy6 (s:Sch)(hs:s.fine):FnPure pG 24 [eSch.av s] (eSch.av s):=by
 refine pureV c24 (by simp) (by simp) (by simp[A24]) λ F hF=>?_;have ht:=hs.t;have hi:=hs.i;unfold lim at ht hi;simp[A24,B24,R24_0,R24_1,R24_2,hF,Enc.av];refine copy6a s hs _ _ _ _ ⟨by simp,by simp,by simp⟩ (by simp) ⟨by omega,by simp,by simp,by simp,by simpa using OwnS.nil _ _ 4,by simpa using OwnS.nil _ _ 6,by simp,by simp⟩ λ vt F K m ⟨f1,f2,f3⟩ M=>?_;simp[R24_8];refine copy6b s hs vt _ _ _ _ ⟨by simp[f1],by simp[f2],by simp[f3]⟩ (by simp) M λ vi F K m ⟨f1,f2,f3⟩ M=>?_;have k1:=M.k1;have k2:=M.k2;have ot:=M.ot;have oi:=M.oi;have h1:=ot.isOne;have h2:=oi.isOne;rw[take_length]at ot oi;have dt:=M.dt;have di:=M.di;simp[R24_14,f2,f3,k1,k2,h1,h2];refine .agg _ _ _ ?_;rw[eSch_c];refine .cons _ _ _ _ ?_ (.cons _ _ _ _ ?_ .nil)
 ·exact(ot.frame (Nat.le_refl _) λ c hc=>by
   have:=dt c hc;simp[show ¬c=1 by omega]).frz (FrzL.pure (by simp)) (by omega)
 exact(oi.frame (Nat.le_refl _) λ c hc=>by
  have:=(di c hc).1;simp[show ¬c=1 by omega]).frz (FrzL.pure (by simp)) (by omega)
end Go.Abs
namespace Go.Abs
open List
open Go.Proofs
open Classical
set_option maxRecDepth 100000
def tabAV (t:List (List Val)):AV:=.ds (rowsC t) t.length 1
def eTab:Enc (List (List Val)) 1:=⟨λ t=>[tabAV t],λ _=>rfl,λ _=>by simp[tabAV],λ _=>by simp[allOne,AV.one,tabAV]⟩
theorem eTab_c (t:List (List Val)):eTab.cells t=[tabAV t]:=rfl
structure Wld where
 sch:Sch
 rows:List (List (List Val))
def eWld:Enc Wld 3:=⟨λ w=>[eTbl.ds w.sch.tables,eIxd.ds w.sch.indexes,eTab.ds w.rows],λ _=>rfl,λ _=>by simp,λ _=>by simp[allOne,AV.one,Enc.ds]⟩
theorem eWld_c (w:Wld):eWld.cells w=[eTbl.ds w.sch.tables,eIxd.ds w.sch.indexes,eTab.ds w.rows]:=rfl
def Sorted (L:List (List Val)):Prop:=∀k,∀h:k+1<L.length,0<=rowO L[k+1] (L[k]'(by omega))
theorem sorted61 (L:List (List Val))(hL:L.length<=lim)(hl:∀l∈L,l.length<=lim):FnPure pG 61 [tabAV L,.fn (.func 62) [] []] (.bool (decide (Sorted L))):=by
 unfold lim at hL hl;refine pureV c61 (by simp[tabAV]) (by simp) (by simp[A61]) λ F hF=>?_;simp[A61,B61,R61_0,R61_1,hF,tabAV];have w0:IntKind.i64.wrap ((L.length:Int) - 1)=(L.length:Int) - 1:=wrap_sm _ (by omega) (by omega);rw[w0];refine LoopV.of (λ t F K n ms=>∃j:Nat,t=j/\j<=L.length/\F.get 0=some (tabAV L)/\F.get 1=some (.fn (.func 62) [] [])/\F.get 5=some (.int .i64 ((j:Int) - 1))/\(∀k,j<=k+1->∀h:k+1<L.length,0<=rowO L[k+1] (L[k]'(by omega)))/\ms=[]) L.length ⟨L.length,by simp,by omega,by simp[hF,tabAV],by simp[hF],by simp,λ k h1 h2=>by omega,rfl⟩ ?_;clear hF F;rintro t F K n ms ⟨j,hj,hjl,f0,f1,f5,hk,rfl⟩;rw[tabAV]at f0
 by_cases h:2<=j
 ·obtain⟨k,hjk⟩:∃k,j=k+2:=⟨j - 2,by omega⟩;subst hjk;have h1:k+1<L.length:=by omega
  have hx:=ixa_row (k:=.i64) h1;have hy:=ixa_row (k:=.i64) (show k<L.length by omega);have ho:=order17 L[k+1] (L[k]'(by omega)) (hl _ (getElem_mem _)) (hl _ (getElem_mem _));have e5:((k+2:Nat):Int) - 1=((k+1:Nat):Int):=by omega
  have w1:IntKind.i64.wrap (((k+1:Nat):Int) - 1)=(k:Int):=by rw[wrap_sm _ (by omega) (by omega)];omega
  rw[e5]at f5
  have hk1:(0<=rowO L[k+1] (L[k]'(by omega)))->∀k',k+1<=k'+1->∀h:k'+1<L.length,0<=rowO L[k'+1] (L[k']'(by omega)):=λ h0 k' h2 h3=>by
   by_cases e:k'=k
   ·subst e;exact h0
   exact hk k' (by omega) h3
  have hbad:¬(0<=rowO L[k+1] (L[k]'(by omega)))->¬Sorted L:=λ h0 h2=>h0 (h2 k h1);generalize L[k+1]=a at *;generalize L[k]'(by omega)=b at *;generalize hc:k+1=c at *;have hcp:(0:Int)<(c:Int):=by omega
  simp[L61_0,R61_2,f5,show 0<c by omega,R61_3];refine DrwV.of (ceT_ok (l:=[(62,[rowAV a,rowAV b],λ H n=>.mk (.int .i64 (rowO a b)) H n)]) ?_) ?_
  ·simp only[mem_singleton];rintro y rfl;exact ceT_pure ho
  by_cases h0:rowO a b<0
  ·have hb:=hbad (by omega);simp[clearF_get,f0,f1,f5,hx,hy,w1,ceT_hd,h0,R61_4];exact .bool (by simp[hb])
  simp[clearF_get,f0,f1,f5,hx,hy,w1,ceT_hd,h0,R61_5];exact⟨c,by omega,by omega,by simp[tabAV],by omega,hk1 (by omega)⟩
 simp[L61_0,R61_2,f5,show ¬(1:Int)<(j:Int) by omega,R61_6];have:Sorted L:=λ k h1=>hk k (by omega) h1;exact .bool (by simp[this])
structure Wld.fine (w:Wld):Prop where
 s:w.sch.fine
 g:w.sch.rng
 l:w.rows.length<=lim
 t:∀t∈w.rows,t.length<=lim
 r:∀t∈w.rows,∀r∈t,r.length<=lim/\∀v∈r,v.rng
structure TabR (s:Sch)(t:Tbl)(L:List (List Val)):Prop where
 len:L.length<=4096
 w:allW s t L=0
 srt:Sorted L
 uq:UniqOk s t.id L
structure WldOk (w:Wld):Prop where
 s:SchOk w.sch
 l:w.rows.length=w.sch.tables.length
 t:∀i (h1:i<w.rows.length) (h2:i<w.sch.tables.length),TabR w.sch w.sch.tables[i] w.rows[i]
theorem lst_zero (a b:Int):lst a b=0↔a=0/\b=0:=by
 unfold lst
 by_cases h1:a=0<;>by_cases h2:b=0<;>simp[h1,h2]
 omega
theorem allW_zero (s:Sch)(t:Tbl)(L:List (List Val)):allW s t L=0↔∀r∈L,wErr s t r=0:=by
 have key:∀(L:List (List Val)) (a:Int),L.foldl (λ a r=>lst a (wErr s t r)) a=0↔a=0/\∀r∈L,wErr s t r=0:=by
  intro L
  induction L with
  | nil=>intro a;simp
  | cons r L ih=>intro a;simp only[foldl_cons,ih,lst_zero,mem_cons,forall_eq_or_imp,and_assoc]
 unfold allW;rw[key];simp
theorem wErr_fit {s:Sch}{t:Tbl}{r:List Val}(h:wErr s t r=0):fitE t.cols r=0:=by
 unfold wErr at h
 split at h
 ·rename_i h0;unfold encE at h0
  split at h0
  ·assumption
  rename_i h;exact absurd h0 h
 rename_i h0;exact absurd h h0
theorem SchOk.tbl {s:Sch}(h:SchOk s)(hg:s.rng){t:Tbl}(ht:t∈s.tables):(s.table t.id).1=t:=by
 have ha:=(tabsOk_iff s.tables hg.t).1 h.tabs;obtain⟨i,hi,rfl⟩:=getElem_of_mem ht;unfold Sch.table firstD
 have e:s.tables.find? (λ u:Tbl=>decide (u.id=s.tables[i].id))=some s.tables[i]:=by
  rw[find?_eq_some_iff_getElem];refine⟨by simp,i,hi,rfl,λ j hj=>?_⟩;have:=((ha i) hi).2.2.2 j hj;simp;omega
 rw[e]
theorem SchOk.on {s:Sch}(h:SchOk s)(hg:s.rng){t:Tbl}(ht:t∈s.tables){x:Ixd}(hx:x∈s.on t.id):PlacesOk t x.cols:=by
 obtain⟨h1,h2⟩:=mem_filter.1 hx;simp at h2;obtain⟨i,hi,rfl⟩:=getElem_of_mem h1;have:=(h.ixs i hi).cols;rw[h2,h.tbl hg ht]at this;exact this
theorem PlacesOk.colsIn {t:Tbl}{l:List Int}(h:PlacesOk t l){r:List Val}(hr:r.length=t.cols.length):ColsIn l r:=by
 intro c hc;obtain⟨i,hi,rfl⟩:=getElem_of_mem hc;have:=h.2.2 i hi;exact⟨this.1,by rw[hr];exact this.2.1⟩
structure RowsFit (s:Sch)(t:Tbl)(L:List (List Val)):Prop where
 hin:∀r∈L,r.length=t.cols.length->∀x∈s.on t.id,ColsIn x.cols r
 h16:∀x∈s.on t.id,x.cols.length<=16
theorem SchOk.rows {s:Sch}(h:SchOk s)(hg:s.rng){t:Tbl}(ht:t∈s.tables)(L:List (List Val)):RowsFit s t L:=
 ⟨λ _ _ hr _ hx=>(h.on hg ht hx).colsIn hr,λ _ hx=>(h.on hg ht hx).2.1⟩
theorem fitsS_zero (s:Sch)(t:Tbl)(L:List (List Val)):fitsS s t L=0↔allW s t L=0/\UniqOk s t.id L:=by
 unfold fitsS
 by_cases h1:allW s t L=0<;>by_cases h2:UniqOk s t.id L<;>simp[h1,h2]
theorem may29a (t:Tbl)(L:List (List Val))(hL:L.length<=lim)(hl:∀l∈L,l.length<=lim)(F:Fr)(K:Hp)(n p:Nat)(Q:QA)(f4:F.get 4=some (.ptr p 0))(kp:K.get p=some (.cells 4 [] [.int .u32 t.id,.str t.name,eCol.ds t.cols,.int .u32 t.head] .nil))(f39:F.get 39=some (tabAV L))(f40:F.get 40=some (.int .i64 (L.length:Int)))(f41:F.get 41=some (.int .i64 0))
  (k1:¬(∀r∈L,fitE t.cols r=0)->∀F',F'.get 2=some (.bool false)->Q .ret F' K n [])
  (k2:(∀r∈L,fitE t.cols r=0)->∀F',F'.get 1=F.get 1->F'.get 4=F.get 4->F'.get 5=F.get 5->F'.get 24=F.get 24->F'.get 25=F.get 25->F'.get 26=F.get 26->Q (.exit 2) F' K n []):LoopV L29_0 pG F K n [] Q:=by
 unfold lim at hL;refine LoopV.of (λ q F' K' n' ms=>∃i,q=L.length - i/\i<=L.length/\F'.get 1=F.get 1/\F'.get 4=F.get 4/\F'.get 5=F.get 5/\F'.get 24=F.get 24/\F'.get 25=F.get 25/\F'.get 26=F.get 26/\F'.get 39=some (tabAV L)/\F'.get 40=some (.int .i64 (L.length:Int))/\F'.get 41=some (.int .i64 (i:Int))/\(∀r∈L.take i,fitE t.cols r=0)/\K'=K/\n'=n/\ms=[]) L.length ⟨0,by simp,by omega,rfl,rfl,rfl,rfl,rfl,rfl,f39,f40,f41,by simp,rfl,rfl,rfl⟩ ?_;clear f39 f40 f41;rintro q F' K' n' ms ⟨i,rfl,hi,g1,g4,g5,g24,g25,g26,f39,f40,f41,hk,rfl,rfl,rfl⟩;have g4':=g4.trans f4;rw[tabAV]at f39
 by_cases h:i<L.length
 ·have hx:=ixa_row (k:=.i64) h;have w:=wrap_nat i (by omega);have hrm:L[i]∈L:=getElem_mem h;have hms:∀x∈L.take (i+1),x∈L.take i∨x=L[i]:=λ x hx=>by rwa [take_snoc h,mem_append,mem_singleton]at hx
  have hf:=fits60 t.cols L[i] (hl _ hrm);generalize L[i]=r at *;simp[L29_0,R29_10,f40,f41,h,R29_11,f39,hx,R29_12,g4',kp];refine CalV.pure hf ?_
  by_cases h0:fitE t.cols r=0
  ·simp[h0,R29_14,f41,w,g1,g4',g5,g24,g25,g26,f39,f40,f4];refine⟨_,by omega,i+1,rfl,by omega,by simp[tabAV],rfl,λ x hx=>?_⟩
   rcases hms x hx with h1 | rfl
   ·exact hk x h1
   exact h0
  simp[h0,R29_13];exact k1 (λ h1=>h0 (h1 r hrm)) _ (by simp)
 obtain rfl:i=L.length:=by omega
 rw[take_of_length_le (Nat.le_refl _)]at hk;simp[L29_0,R29_10,f40,f41];refine k2 hk _ ?_ ?_ ?_ ?_ ?_ ?_
 ·simp[g1]
 ·simp[g4]
 ·simp[g5]
 ·simp[g24]
 ·simp[g25]
 simp[g26]
theorem may29 (w:Wld)(hw:w.fine):FnPure pG 29 [eWld.av w] (.bool (decide (WldOk w))):=by
 refine pureV c29 (by simp) (by simp) (by simp[A29]) λ F hF=>?_;have hsch:=may16 w.sch hw.s;simp only[Enc.av,eSch_c]at hsch;have hst:=hw.s.t;have hl:=hw.l;unfold lim at hst hl;simp[A29,B29,R29_0,R29_1,hF,Enc.av,eWld_c];refine CalV.pure hsch ?_
 by_cases h0:SchOk w.sch
 ·by_cases h1:w.rows.length=w.sch.tables.length
  ·simp[h0,Enc.len_ds,h1,R29_3];refine LoopV.of (λ q F K n ms=>∃i,q=w.rows.length - i/\i<=w.rows.length/\F.get 1=some (.ptr 0 0)/\F.get 24=some (eTbl.ds w.sch.tables)/\F.get 25=some (.int .i64 (w.sch.tables.length:Int))/\F.get 26=some (.int .i64 (i:Int))/\K.get 0=some (.cells 3 [] [eTbl.ds w.sch.tables,eIxd.ds w.sch.indexes,eTab.ds w.rows] .nil)/\0<n/\(∀j (hj:j<i) (h1:j<w.rows.length) (h2:j<w.sch.tables.length),TabR w.sch w.sch.tables[j] w.rows[j])/\ms=[]) w.rows.length ⟨0,by simp,by omega,by simp,by simp,by simp,by simp,by simp,by omega,λ j hj=>by omega,rfl⟩ ?_;clear hF F;rintro q F K n ms ⟨i,rfl,hi,f1,f24,f25,f26,k0,n0,hk,rfl⟩
   by_cases h:i<w.rows.length
   ·have h2:i<w.sch.tables.length:=by omega
    have hx:=eTab.ix (ik:=.i64) h;have hy:=eTbl.ix (ik:=.i64) h2;have wr:=wrap_nat i (by omega);have htm:w.rows[i]∈w.rows:=getElem_mem h;have hTm:w.sch.tables[i]∈w.sch.tables:=getElem_mem h2;have hrf:=h0.rows hw.g hTm w.rows[i];have hlt:=hw.t _ htm;have hrr:=hw.r _ htm;have hno:∀P:Prop,(TabR w.sch w.sch.tables[i] w.rows[i]->P)->¬P->¬WldOk w:=λ P a b c=>b (a (c.t i h h2))
    have hyes:TabR w.sch w.sch.tables[i] w.rows[i]->∀j (hj:j<i+1) (h1:j<w.rows.length) (h2:j<w.sch.tables.length),TabR w.sch w.sch.tables[j] w.rows[j]:=λ a j hj h1 h2=>by
     by_cases e:j=i
     ·subst e;exact a
     exact hk j (by omega) h1 h2
    rw[eTab_c]at hx;rw[eTbl_c]at hy;generalize w.rows[i]=L at *;generalize w.sch.tables[i]=t at *;have hso:=sorted61 L hlt λ r hr=>(hrr r hr).1;simp[L29_1,R29_4,f25,f26,h2,R29_5,f24,hy,tblLd,Enc.av,eTbl_c,R29_6,f1,k0,show ¬ 0=n by omega,hx,R29_7,tabAV]
    by_cases h4:4096<L.length
    ·have:=hno (L.length<=4096) (λ a=>a.len) (by omega);simp[show (4096:Int)<(L.length:Int) by omega,R29_8];exact .bool (by simp[this])
    simp[show ¬(4096:Int)<(L.length:Int) by omega,R29_9];refine may29a t L hlt (λ r hr=>(hrr r hr).1) _ _ _ n _ (by simp) (by simp) (by simp[tabAV]) (by simp) (by simp) (λ hb F' g2=>?_) λ hfit F' g1 g4 g5 g24 g25 g26=>?_
    ·have:=hno (∀r∈L,fitE t.cols r=0) (λ a r hr=>wErr_fit ((allW_zero _ _ _).1 a.w r hr)) hb;simp[g2];exact .bool (by simp[this])
    simp[f1,f24,f25,f26]at g1 g4 g5 g24 g25 g26;have hfl:∀r∈L,r.length=t.cols.length:=λ r hr=>(fitE_ok (hfit r hr)).2.1;have hfs:=fits63 w.sch t L hw.s.i hw.s.ic hlt hrr hrf.hin hrf.h16 hfl;simp only[Enc.av,eSch_c,eTbl_c]at hfs;rw[tabAV]at hso;simp[R29_15,g5];refine CalV.pure hso ?_
    by_cases h5:Sorted L
    ·simp[h5,g1,g4,g5,k0,show ¬ 0=n by omega];refine CalV.pure hfs ?_
     by_cases h6:fitsS w.sch t L=0
     ·obtain⟨h7,h8⟩:=(fitsS_zero _ _ _).1 h6;simp[h6,R29_17,g26,wr,g1,g24,g25,k0,show ¬ 0=n by omega];exact⟨_,by omega,i+1,rfl,by omega,rfl,hyes ⟨by omega,h7,h5,h8⟩⟩
     have:=hno (allW w.sch t L=0/\UniqOk w.sch t.id L) (λ a=>⟨a.w,a.uq⟩) (λ a=>h6 ((fitsS_zero _ _ _).2 a));simp[h6,R29_16];exact .bool (by simp[this])
    have:=hno (Sorted L) (λ a=>a.srt) h5;simp[h5,R29_16];exact .bool (by simp[this])
   obtain rfl:i=w.rows.length:=by omega
   have:WldOk w:=⟨h0,h1,λ j a b=>hk j a a b⟩;simp[L29_1,R29_4,f25,f26,h1,R29_18];exact .bool (by simp[this])
  have:¬WldOk w:=λ h=>h1 h.l;simp[h0,Enc.len_ds,h1,R29_2];exact .bool (by simp[this])
 have:¬WldOk w:=λ h=>h0 h.s;simp[h0,R29_2];exact .bool (by simp[this])
theorem rowR_srt {a b:List Val}(ha:rMay a)(hb:rMay b):(0<=rowO b a)↔¬(0<rowR a b):=by
 rw[rowO_neg ha hb];have:=rowR_le ha hb;omega
theorem may6a (w:Wld)(i:Nat)(h:i<w.rows.length)(hL:(w.rows[i]).length<=lim)(hl:∀l∈w.rows[i],l.length<=lim)(hm:∀l∈w.rows[i],rMay l)(F:Fr)(K:Hp)(n:Nat)(Q:QA)(f1:F.get 1=some (.ptr 0 0))(k0:K.get 0=some (.cells 3 [] [eTbl.ds w.sch.tables,eIxd.ds w.sch.indexes,eTab.ds w.rows] .nil))(f3:F.get 3=some (.int .i64 (i:Int)))(f5:F.get 5=some (.int .i64 1))
  (k1:¬Sorted w.rows[i]->∀F',F'.get 2=some (.bool false)->Q .ret F' K n [])
  (k2:Sorted w.rows[i]->∀F',F'.get 1=F.get 1->F'.get 3=F.get 3->Q (.exit 2) F' K n []):LoopV L6_0 pG F K n [] Q:=by
 have hx:=eTab.ix (ik:=.i64) h;rw[eTab_c]at hx;generalize hLL:w.rows[i]=L at *;unfold lim at hL;refine LoopV.of (λ q F' K' n' ms=>∃j:Nat,q=L.length - j/\F'.get 1=F.get 1/\F'.get 3=F.get 3/\F'.get 5=some (.int .i64 ((j+1:Nat):Int))/\j<=L.length/\(∀k,k<j->∀h:k+1<L.length,0<=rowO L[k+1] (L[k]'(by omega)))/\K'=K/\n'=n/\ms=[]) L.length ⟨0,by simp,rfl,rfl,by simpa using f5,by omega,λ k hk=>by omega,rfl,rfl,rfl⟩ ?_;clear f5;rintro q F' K' n' ms ⟨j,rfl,g1,g3,f5,hj,hk,rfl,rfl,rfl⟩;have g1':=g1.trans f1;have g3':=g3.trans f3
 by_cases h:j+1<L.length
 ·have ha:=ixa_row (k:=.i64) (show j<L.length by omega);have hb:=ixa_row (k:=.i64) h;have ho:=Order31 (L[j]'(by omega)) L[j+1] (hl _ (getElem_mem _)) (hl _ (getElem_mem _)) (hm _ (getElem_mem _)) (hm _ (getElem_mem _));have hsr:=rowR_srt (hm _ (getElem_mem (show j<L.length by omega))) (hm _ (getElem_mem h));have w1:IntKind.i64.wrap (((j+1:Nat):Int) - 1)=(j:Int):=by rw[wrap_sm _ (by omega) (by omega)];omega
  have w2:=wrap_nat (j+1) (by omega)
  have hk1:(0<=rowO L[j+1] (L[j]'(by omega)))->∀k,k<j+1->∀h:k+1<L.length,0<=rowO L[k+1] (L[k]'(by omega)):=λ h0 k h2 h3=>by
   by_cases e:k=j
   ·subst e;exact h0
   exact hk k (by omega) h3
  have hbad:¬(0<=rowO L[j+1] (L[j]'(by omega)))->¬Sorted L:=λ h0 h2=>h0 (h2 j h);generalize L[j+1]=b at *;generalize L[j]'(by omega)=a at *;generalize hc:j+1=c at *;simp[L6_0,R6_9,f5,g1',g3',k0,hx,tabAV,h,R6_10];refine DrwV.of (ceT_ok (l:=[(21,[rowAV a,rowAV b],λ H n=>.mk (.int .i64 (rowR a b)) H n)]) ?_) ?_
  ·simp only[mem_singleton];rintro y rfl;exact ceT_pure ho
  by_cases h0:0<rowR a b
  ·simp[clearF_get,g1',g3',f5,k0,hx,tabAV,ha,hb,w1,ceT_hd,h0,R6_11];exact k1 (hbad (λ h1=>(hsr.1 h1) h0)) _ (by simp)
  simp[clearF_get,g1',g3',f5,k0,hx,tabAV,ha,hb,w1,ceT_hd,h0,R6_12,w2,f1,f3];exact⟨_,by omega,c,rfl,rfl,by omega,hk1 (hsr.2 h0)⟩
 simp[L6_0,R6_9,f5,g1',g3',k0,hx,tabAV,show ¬((j:Int)+1<(L.length:Int)) by omega];refine k2 (λ k h1=>hk k (by omega) h1) _ ?_ ?_
 ·simp[g1',f1]
 simp[g3',f3]
theorem may6 (w:Wld) (hw:w.fine):FnPure pG 6 [eWld.av w] (.bool (decide (WldOk w))):=by
 refine pureV c6 (by simp) (by simp) (by simp[A6]) λ F hF=>?_;have hsch:=may23 w.sch hw.s hw.g;simp only[Enc.av,eSch_c]at hsch;have hst:=hw.s.t;have hl:=hw.l;unfold lim at hst hl;simp[A6,B6,R6_0,R6_1,hF,Enc.av,eWld_c];refine CalV.pure hsch ?_
 by_cases h0:SchOk w.sch
 ·by_cases h1:w.rows.length=w.sch.tables.length
  ·simp[h0,Enc.len_ds,h1,R6_3];refine LoopV.of (λ q F K n ms=>∃i,q=w.rows.length - i/\i<=w.rows.length/\F.get 1=some (.ptr 0 0)/\F.get 3=some (.int .i64 (i:Int))/\K.get 0=some (.cells 3 [] [eTbl.ds w.sch.tables,eIxd.ds w.sch.indexes,eTab.ds w.rows] .nil)/\0<n/\(∀j (hj:j<i) (h1:j<w.rows.length) (h2:j<w.sch.tables.length),TabR w.sch w.sch.tables[j] w.rows[j])/\ms=[]) w.rows.length ⟨0,by simp,by omega,by simp,by simp,by simp,by omega,λ j hj=>by omega,rfl⟩ ?_;clear hF F;rintro q F K n ms ⟨i,rfl,hi,f1,f3,k0,n0,hk,rfl⟩
   by_cases h:i<w.rows.length
   ·have h2:i<w.sch.tables.length:=by omega
    have hx:=eTab.ix (ik:=.i64) h;have hy:=eTbl.ix (ik:=.i64) h2;have wr:=wrap_nat i (by omega);have htm:w.rows[i]∈w.rows:=getElem_mem h;have hTm:w.sch.tables[i]∈w.sch.tables:=getElem_mem h2;have hrf:=h0.rows hw.g hTm w.rows[i];have hlt:=hw.t _ htm;have hrr:=hw.r _ htm;have hno:∀P:Prop,(TabR w.sch w.sch.tables[i] w.rows[i]->P)->¬P->¬WldOk w:=λ P a b c=>b (a (c.t i h h2))
    have hyes:TabR w.sch w.sch.tables[i] w.rows[i]->∀j (hj:j<i+1) (h1:j<w.rows.length) (h2:j<w.sch.tables.length),TabR w.sch w.sch.tables[j] w.rows[j]:=λ a j hj h1 h2=>by
     by_cases e:j=i
     ·subst e;exact a
     exact hk j (by omega) h1 h2
    have loop:=may6a w i h hlt (λ r hr=>(hrr r hr).1);rw[eTab_c]at hx;rw[eTbl_c]at hy;generalize w.rows[i]=L at *;generalize w.sch.tables[i]=t at *;have hwr:=AllWritten19 w.sch t L hw.s.i hw.s.ic hlt hrr hrf.hin;simp only[Enc.av,eSch_c,eTbl_c]at hwr;simp[L6_1,R6_4,f1,f3,k0,Enc.len_ds,h,R6_5,hy,tblLd,Enc.av,eTbl_c,R6_6];generalize hK:Tr.put (Tr.put K n _) n _=K2;have q0:K2.get 0=some (.cells 3 [] [eTbl.ds w.sch.tables,eIxd.ds w.sch.indexes,eTab.ds w.rows] .nil):=by rw[<-hK,Tr.get_put,if_neg (by omega),Tr.get_put,if_neg (by omega),k0]
    have qn:K2.get n=some (.cells 4 [] [.int .u32 t.id,.str t.name,eCol.ds t.cols,.int .u32 t.head] .nil):=by rw[<-hK];simp
    clear hK
    by_cases h4:4096<L.length
    ·have:=hno (L.length<=4096) (λ a=>a.len) (by omega);refine DrwV.of (ce0_ok (P:=pG)) ?_;simp[clearF_get,f1,f3,q0,hx,tabAV,show (4096:Int)<(L.length:Int) by omega,R6_7];exact .bool (by simp[this])
    by_cases h5:allW w.sch t L=0
    ·have hfit:∀r∈L,fitE t.cols r=0:=λ r hr=>wErr_fit ((allW_zero _ _ _).1 h5 r hr);have hul:=Unlike20 w.sch t hw.s.i hw.s.ic L hlt (λ r hr=>(hrr r hr).2) (λ x hx r hr=>hrf.hin r hr (fitE_ok (hfit r hr)).2.1 x hx);simp only[Enc.av,eSch_c,eTbl_c]at hul;rw[h5]at hwr;obtain⟨bq,hbq⟩:∃b,b=decide (UniqOk w.sch t.id L):=⟨_,rfl⟩;rw[<-hbq]at hul
     have t1:∀(b:Bool) (H:Hp) (n:Nat),(ceT [((19:Nat),[.agg [eTbl.ds w.sch.tables,eIxd.ds w.sch.indexes] 2,.agg [.int .u32 t.id,.str t.name,eCol.ds t.cols,.int .u32 t.head] 4,.ds (rowsC L) L.length 1],λ H n=>.mk (.int .i64 0) H n),(20,[.agg [eTbl.ds w.sch.tables,eIxd.ds w.sch.indexes] 2,.agg [.int .u32 t.id,.str t.name,eCol.ds t.cols,.int .u32 t.head] 4,.ds (rowsC L) L.length 1],λ H n=>.mk (.bool b) H n)]).call 20 [.agg [eTbl.ds w.sch.tables,eIxd.ds w.sch.indexes] 2,.agg [.int .u32 t.id,.str t.name,eCol.ds t.cols,.int .u32 t.head] 4,.ds (rowsC L) L.length 1] H n=noPan (.mk (.bool b) H n):=λ b H n=>by
      rw[ceT_tl (λ e=>by cases e),ceT_hd]
     refine DrwV.of (ceT_ok (l:=[(19,[.agg [eTbl.ds w.sch.tables,eIxd.ds w.sch.indexes] 2,.agg [.int .u32 t.id,.str t.name,eCol.ds t.cols,.int .u32 t.head] 4,.ds (rowsC L) L.length 1],λ H n=>.mk (.int .i64 0) H n),(20,[.agg [eTbl.ds w.sch.tables,eIxd.ds w.sch.indexes] 2,.agg [.int .u32 t.id,.str t.name,eCol.ds t.cols,.int .u32 t.head] 4,.ds (rowsC L) L.length 1],λ H n=>.mk (.bool bq) H n)]) ?_) ?_
     ·simp only[mem_cons,not_mem_nil,or_false];rintro y (rfl | rfl)
      ·exact ceT_pure hwr
      exact ceT_pure hul
     have t2:=t1 bq
     cases bq with
     | true =>
      have h6:UniqOk w.sch t.id L:=of_decide_eq_true hbq.symm;simp[clearF_get,f1,f3,q0,qn,hx,tabAV,show ¬(4096:Int)<(L.length:Int) by omega,ceT_hd,t2,R6_8];refine loop (λ r hr=>(fitE_ok (hfit r hr)).2.2.2.2) _ _ _ _ ?_ q0 ?_ ?_ (λ hb F' g2=>?_) λ hs F' g1 g3=>?_
      ·simp[clearF_get,f1]
      ·simp[clearF_get,f3]
      ·simp
      ·have:=hno (Sorted L) (λ a=>a.srt) hb;simp[g2];exact .bool (by simp[this])
      simp[clearF_get,f1,f3]at g1 g3;simp[R6_13,g3,wr,g1,q0];exact⟨_,by omega,i+1,rfl,by omega,rfl,hyes ⟨by omega,h5,hs,h6⟩⟩
     | false =>
      have:=hno (UniqOk w.sch t.id L) (λ a=>a.uq) (of_decide_eq_false hbq.symm);simp[clearF_get,f1,f3,q0,qn,hx,tabAV,show ¬(4096:Int)<(L.length:Int) by omega,ceT_hd,t2,R6_7];exact .bool (by simp[this])
    have:=hno (allW w.sch t L=0) (λ a=>a.w) h5;refine DrwV.of (ceT_ok (l:=[(19,[.agg [eTbl.ds w.sch.tables,eIxd.ds w.sch.indexes] 2,.agg [.int .u32 t.id,.str t.name,eCol.ds t.cols,.int .u32 t.head] 4,.ds (rowsC L) L.length 1],λ H n=>.mk (.int .i64 (allW w.sch t L)) H n)]) ?_) ?_
    ·simp only[mem_singleton];rintro y rfl;exact ceT_pure hwr
    simp[clearF_get,f1,f3,q0,qn,hx,tabAV,show ¬(4096:Int)<(L.length:Int) by omega,ceT_hd,h5,R6_7];exact .bool (by simp[this])
   obtain rfl:i=w.rows.length:=by omega
   have:WldOk w:=⟨h0,h1,λ j a b=>hk j a a b⟩;simp[L6_1,R6_4,f1,f3,k0,Enc.len_ds,h1,R6_14];exact .bool (by simp[this])
  have:¬WldOk w:=λ h=>h1 h.l;simp[h0,Enc.len_ds,h1,R6_2];exact .bool (by simp[this])
 have:¬WldOk w:=λ h=>h0 h.s;simp[h0,R6_2];exact .bool (by simp[this])
def eRw:Enc (List Val) 1:=⟨λ r=>[rowAV r],λ _=>rfl,λ _=>by simp,λ _=>by simp[allOne,AV.one,rowAV]⟩
theorem eRw_c (r:List Val):eRw.cells r=[rowAV r]:=rfl
theorem eRw_l (L:List (List Val)):eRw.l L=rowsC L:=by
 induction L with
 | nil=>rfl
 | cons a r ih=>rw[Enc.l_cons,ih];rfl
theorem eRw_ds (L:List (List Val)):eRw.ds L=tabAV L:=by simp[Enc.ds,tabAV,eRw_l]
structure Cp9 (w:Wld)(i:Nat)(vr:AV)(K:Hp)(m:Nat):Prop where
 hm:3<=m
 k0:K.get 0=some (.cells 3 [] [eTbl.ds w.sch.tables,eIxd.ds w.sch.indexes,eTab.ds w.rows] .nil)
 k1:K.get 1=some (.cells 3 [] [.cst (.slice none 0 0),.cst (.slice none 0 0),.cst (.slice none 0 0)] .nil)
 k2:K.get 2=some (.cells 3 [] [eTbl.ds w.sch.tables,eIxd.ds w.sch.indexes,vr] .nil)
 o:OwnS K m vr (eTab.l (w.rows.take i)) i 1
 d:∀c,blk vr=some c->3<=c
theorem copy9a (w:Wld)(i:Nat)(h:i<w.rows.length)(hl:(w.rows[i]).length<=lim)(hr:∀r∈w.rows[i],r.length<=lim)(vr:AV)(F:Fr)(K:Hp)(m:Nat)(Q:QA)(f1:F.get 1=some (.ptr 0 0))(f2:F.get 2=some (.ptr 1 0))(f3:F.get 3=some (.ptr 2 0))(f4:F.get 4=some (.int .i64 (i:Int)))(f5:F.get 5=some (.cst (.slice none 0 0)))(f6:F.get 6=some (.int .i64 0))(M:Cp9 w i vr K m)
  (hQ:∀u F' K' m',F'.get 1=some (.ptr 0 0)->F'.get 2=some (.ptr 1 0)->F'.get 3=some (.ptr 2 0)->F'.get 4=some (.int .i64 (i:Int))->F'.get 5=some u->Cp9 w i vr K' m'->OwnS K' m' u (eRw.l w.rows[i]) (w.rows[i]).length 1->(∀c,blk u=some c->3<=c/\blk vr≠some c)->Q (.exit 2) F' K' m' []):LoopV L9_0 pG F K m [] Q:=by
 have hx:=eTab.ix (ik:=.i64) h;rw[eTab_c]at hx;generalize hLL:w.rows[i]=L at *;unfold lim at hl;refine LoopV.ofZ (λ q F K m ms=>∃(k:Nat) (u:AV),q=L.length - k/\k<=L.length/\F.get 1=some (.ptr 0 0)/\F.get 2=some (.ptr 1 0)/\F.get 3=some (.ptr 2 0)/\F.get 4=some (.int .i64 (i:Int))/\F.get 5=some u/\F.get 6=some (.int .i64 (k:Int))/\Cp9 w i vr K m/\OwnS K m u (eRw.l (L.take k)) k 1/\(∀c,blk u=some c->3<=c/\blk vr≠some c)/\ms=[]) L.length (Zs.refl ⟨0,_,by simp,by simp,f1,f2,f3,f4,f5,f6,M,by simpa using OwnS.nil _ _ 1,by simp,rfl⟩) ?_;clear f1 f2 f3 f4 f5 f6 M F K m;rintro q1 F K m ms ⟨k,u,rfl,hk,f1,f2,f3,f4,f5,f6,M,ou,du,rfl⟩;have k0:=M.k0;have hm:=M.hm
 by_cases hlt:k<L.length
 ·have hy:=ixa_row (k:=.i64) hlt;have hrl:=hr _ (getElem_mem hlt);have wk:=wrap_nat k (by omega);have hta:=λ c h=>M.o.blkLt (c:=c) h;have hua:=λ c h=>ou.blkLt (c:=c) h;have hou:=ou.isOne;have e:=take_snoc hlt;generalize L[k]=r at *;simp[L9_0,R9_6,f1,f4,f6,k0,hx,tabAV,hlt,R9_7,f5,show ¬ 0=m by omega,hy];rw[<-eVal_ds];refine app0 eVal r hrl (by omega) λ v K2 m2 hm2 hv dv g2=>?_;have hone:=hv.isOne;obtain⟨hl1,hl2⟩:=hv.len1;simp[hone,hl1,hl2,rep];generalize hK3:Tr.put K2 m2 _=K3;have g3:∀c,c<m2->K3.get c=K2.get c:=λ c h2=>by rw[<-hK3];simp[neC h2]
  have x3:K3.get m2=some (.cells 1 [] [v] .nil):=by rw[<-hK3];simp
  clear hK3;have ou3:OwnS K3 (m2+1) u (eRw.l (L.take k)) k 1:=ou.frame (by omega) λ c hc=>(g3 c (by have:=hua c hc;omega)).trans (g2 c (hua c hc));refine OwnS.appA (k:=1) (new:=[v]) ou3 (sliceCells_one x3) (by simp) (by simp) (by omega) (by omega) (by unfold big;omega) (by omega) (by simp[hone]) λ K4 o4 g4=>?_;simp[R9_8,f6,wk];generalize hF2:(Fp 6 _ _:Fr)=F2;have w1:F2.get 1=some (.ptr 0 0):=by rw[<-hF2];simp[f1]
  have w2:F2.get 2=some (.ptr 1 0):=by rw[<-hF2];simp[f2]
  have w3:F2.get 3=some (.ptr 2 0):=by rw[<-hF2];simp[f3]
  have w4:F2.get 4=some (.int .i64 (i:Int)):=by rw[<-hF2];simp[f4]
  have w5:F2.get 5=some (.sl (m2+1) 0 (k+1) 1):=by rw[<-hF2];simp
  have w6:F2.get 6=some (.int .i64 ((k+1:Nat):Int)):=by rw[<-hF2];simp
  clear hF2;have bk:∀c,c<m->blk u≠some c->K4.get c=K.get c:=λ c h1 h3=>(g4 c (by omega) h3).trans ((g3 c (by omega)).trans (g2 c h1))
  have ov5:OwnS K4 (m2+1+1) v (eVal.l r) r.length 3:=hv.frame (by omega) λ c hc=>by
   have h1:=dv c hc;have h2:=hv.blkLt hc;exact(g4 c (by omega) λ h=>by have:=hua c h;omega).trans (g3 c h2)
  have nv:∀c,c<m->blk v≠some c:=λ c h1 h2=>by have:=dv c h2;omega
  obtain⟨hh,K6,hsh,oa6,g6⟩:=shutMid (F:=F2) (F2:=F2) (l:=eRw.l (L.take k)) (r:=[]) (λ t v hv=>hv) o4 (by omega) ov5 (by omega) (by simp) (λ c hc hc2=>by
   have:=hv.blkLt hc2;simp at hc;omega)
  have na:∀c,c<m->blk (AV.sl (m2+1) 0 (k+1) 1)≠some c:=λ c h1 h2=>by simp at h2;omega
  have nu:∀c,c<3->blk u≠some c:=λ c h1 h2=>by have:=(du c h2).1;omega
  have full:∀c,c<m->blk u≠some c->K6.get c=K.get c:=λ c h1 h2=>(g6 c (na c h1) (nv c h1)).trans (bk c h1 h2);refine⟨L.length - (k+1),by omega,hh,F2,K6,hsh,k+1,rfl,by omega,w1,w2,w3,w4,_,w5,w6,⟨by omega,?_,?_,?_,?_,M.d⟩,?_,λ c hc=>?_,rfl⟩
  ·exact(full 0 (by omega) (nu 0 (by omega))).trans M.k0
  ·exact(full 1 (by omega) (nu 1 (by omega))).trans M.k1
  ·exact(full 2 (by omega) (nu 2 (by omega))).trans M.k2
  ·exact M.o.frame (by omega) λ c hc=>full c (hta c hc) λ h=>(du c h).2 hc
  ·rw[e,Enc.l_append,Enc.l_one,eRw_c,<-eVal_ds];exact oa6
  simp at hc;subst hc;exact⟨by omega,λ h=>by have:=hta _ h;omega⟩
 obtain rfl:k=L.length:=by omega
 rw[take_of_length_le (Nat.le_refl _)]at ou;simp[L9_0,R9_6,f1,f4,f6,k0,hx,tabAV];refine hQ u _ K m ?_ ?_ ?_ ?_ ?_ M ou du
 ·simp[f1]
 ·simp[f2]
 ·simp[f3]
 ·simp[f4]
 simp[f5]
theorem copy9 (w:Wld)(hw:w.fine):FnPure pG 9 [eWld.av w] (eWld.av w):=by
 refine pureV c9 (by simp) (by simp) (by simp[A9]) λ F hF=>?_;have hsch:=copy6 w.sch hw.s;simp only[Enc.av,eSch_c]at hsch;have hl:=hw.l;unfold lim at hl;simp[A9,B9,R9_0,R9_1,hF,Enc.av,eWld_c];refine CalV.pure hsch ?_;simp[R9_2];generalize hK:Tr.put (Tr.put _ 2 _) 2 _=K;have k0:K.get 0=some (.cells 3 [] [eTbl.ds w.sch.tables,eIxd.ds w.sch.indexes,eTab.ds w.rows] .nil):=by rw[<-hK];simp
 have k1:K.get 1=some (.cells 3 [] [.cst (.slice none 0 0),.cst (.slice none 0 0),.cst (.slice none 0 0)] .nil):=by rw[<-hK];simp
 have k2:K.get 2=some (.cells 3 [] [eTbl.ds w.sch.tables,eIxd.ds w.sch.indexes,.cst (.slice none 0 0)] .nil):=by rw[<-hK];simp
 clear hK;refine LoopV.ofZ (λ q F K m ms=>∃(i:Nat) (vr:AV),q=w.rows.length - i/\i<=w.rows.length/\F.get 1=some (.ptr 0 0)/\F.get 2=some (.ptr 1 0)/\F.get 3=some (.ptr 2 0)/\F.get 4=some (.int .i64 (i:Int))/\Cp9 w i vr K m/\ms=[]) w.rows.length (Zs.refl ⟨0,.cst (.slice none 0 0),by simp,by simp,by simp,by simp,by simp,by simp,⟨by omega,k0,k1,k2,by simpa using OwnS.nil _ _ 1,by simp⟩,rfl⟩) ?_;clear hF F k0 k1 k2 K;rintro q1 F K m ms ⟨i,vr,rfl,hi,f1,f2,f3,f4,M,rfl⟩;have k0:=M.k0;have hm:=M.hm
 by_cases hlt:i<w.rows.length
 ·have htm:w.rows[i]∈w.rows:=getElem_mem hlt;have wi:=wrap_nat i (by omega);have e:=take_snoc hlt;simp[L9_1,R9_3,f1,f4,k0,Enc.len_ds,hlt,R9_4,R9_5];refine copy9a w i hlt (hw.t _ htm) (λ r hr=>(hw.r _ htm r hr).1) vr _ _ _ _ (by simp[f1]) (by simp[f2]) (by simp[f3]) (by simp[f4]) (by simp) (by simp) M λ u F K m f1 f2 f3 f4 f5 M ou du=>?_;have hm:=M.hm;have k2:=M.k2;have hta:=λ c h=>M.o.blkLt (c:=c) h;have hua:=λ c h=>ou.blkLt (c:=c) h;have hone:=ou.isOne;obtain⟨hl1,hl2⟩:=ou.len1;simp[R9_9,f3,k2,f5,hone,hl1,hl2,rep];generalize hK3:Tr.put K m _=K3;have g3:∀c,c<m->K3.get c=K.get c:=λ c h2=>by rw[<-hK3];simp[neC h2]
  have x3:K3.get m=some (.cells 1 [] [u] .nil):=by rw[<-hK3];simp
  clear hK3;have or3:OwnS K3 (m+1) vr (eTab.l (w.rows.take i)) i 1:=M.o.frame (by omega) λ c hc=>g3 c (hta c hc);refine OwnS.appA (k:=1) (new:=[u]) or3 (sliceCells_one x3) (by simp) (by simp) (by omega) (by omega) (by unfold big;omega) (by omega) (by simp[hone]) λ K4 o4 g4=>?_;have nr:∀c,c<3->blk vr≠some c:=λ c h1 h2=>by have:=M.d c h2;omega
  have k24:=(g4 2 (by omega) (nr 2 (by omega))).trans ((g3 2 (by omega)).trans k2);simp[f3,k24,R9_10,f4,wi];generalize hK5:Tr.put K4 2 _=K5;have g5:∀c,c≠2->K5.get c=K4.get c:=λ c hc=>by rw[<-hK5];simp[hc]
  have x5:K5.get 2=some (.cells 3 [] [eTbl.ds w.sch.tables,eIxd.ds w.sch.indexes,.sl (m+1) 0 (i+1) 1] .nil):=by rw[<-hK5];simp
  clear hK5;generalize hF2:(Fp 4 _ _:Fr)=F2;have w1:F2.get 1=some (.ptr 0 0):=by rw[<-hF2];simp[f1]
  have w2:F2.get 2=some (.ptr 1 0):=by rw[<-hF2];simp[f2]
  have w3:F2.get 3=some (.ptr 2 0):=by rw[<-hF2];simp[f3]
  have w4:F2.get 4=some (.int .i64 ((i+1:Nat):Int)):=by rw[<-hF2];simp
  clear hF2;have bk:∀c,c<m->c≠2->blk vr≠some c->K5.get c=K.get c:=λ c h1 h2 h3=>(g5 c h2).trans ((g4 c (by omega) h3).trans (g3 c h1));have oa5:OwnS K5 (m+1+1) (.sl (m+1) 0 (i+1) 1) (eTab.l (w.rows.take i)++u::[]) (i+1) 1:=o4.frame (by omega) λ c hc=>g5 c (by simp at hc;omega);have ov5:OwnS K5 (m+1+1) u (eRw.l w.rows[i]) (w.rows[i]).length 1:=ou.frame (by omega) λ c hc=>bk c (hua c hc) (by have:=(du c hc).1;omega) (du c hc).2
  obtain⟨hh,K6,hsh,oa6,g6⟩:=shutMid (F:=F2) (F2:=F2) (λ t v hv=>hv) oa5 (by omega) ov5 (by omega) (by simp) (λ c hc hc2=>by
   have:=hua c hc2;simp at hc;omega)
  have full:∀c,c<3->K6.get c=K5.get c:=λ c h1=>g6 c (λ h=>by simp at h;omega) λ h=>by have:=(du c h).1;omega
  refine⟨w.rows.length - (i+1),by omega,hh,F2,K6,hsh,i+1,rfl,by omega,w1,w2,w3,w4,⟨.sl (m+1) 0 (i+1) 1,by omega,?_,?_,?_,?_,λ c hc=>by simp at hc;omega⟩,rfl⟩
  ·exact(full 0 (by omega)).trans ((bk 0 (by omega) (by omega) (nr 0 (by omega))).trans M.k0)
  ·exact(full 1 (by omega)).trans ((bk 1 (by omega) (by omega) (nr 1 (by omega))).trans M.k1)
  ·exact(full 2 (by omega)).trans x5
  rw[e,Enc.l_append,Enc.l_one,eTab_c,<-eRw_ds];exact oa6
 obtain rfl:i=w.rows.length:=by omega
 have o:=M.o;rw[take_of_length_le (Nat.le_refl _)]at o;simp[L9_1,R9_3,f1,f4,k0,Enc.len_ds,R9_11,f3,M.k2,f2,M.k1,M.o.isOne]
 have o':OwnS (K.put 1 (some (.cells 3 [] [eTbl.ds w.sch.tables,eIxd.ds w.sch.indexes,vr] .nil))) m vr (eTab.l w.rows) w.rows.length 1:=o.frame (Nat.le_refl _) λ c hc=>by
  have:=M.d c hc;rw[Tr.get_put,if_neg (by omega)]
 exact .agg _ _ _ (.cons _ _ _ _ (.pure _ (by simp)) (.cons _ _ _ _ (.pure _ (by simp)) (.cons _ _ _ _ (o'.frz (.pure (by simp))) .nil)))
end Go.Abs
