/- A part. -/
import Derived.Test.YtbdgioomddkglaaGreatBt4
noncomputable section
namespace Go.Abs
open List
open Go.Proofs
open Classical
set_option maxRecDepth 100000
def be8 (u:Nat):List Nat:=(List.range 8).map λ j=>u / 2 ^ (56 - 8*j) % 256
def escC (s:List Nat):List Nat:=s.flatMap λ c=>if c=0 then [c,255]else [c]
def offs (x:Int):Nat:=(x+9223372036854775808).toNat
def keyV (v:Val):List Nat:=if v.kind=3 then [(2+v.num).toNat]else if v.kind=1 then 4::be8 (offs v.num)else if v.kind=2 then 5::(escC v.s++[0,1])else [1]
theorem OwnS.ne {H:Hp}{n:Nat}{u:AV}{l:List AV}{len sz:Nat}(O:OwnS H n u l len sz):∀k,u≠.sl n 0 k 1:=by
 rintro k rfl;obtain⟨_,⟨h,_⟩ | ⟨b,y,h,hb,_⟩⟩:=O
 ·cases h
 injection h with h;omega
theorem OwnS.box {H:Hp}{n:Nat}{u:AV}{l:List Nat}(O:OwnS H n u (byC l) l.length 1)(y z:ABlk):OwnS ((H.put n (some y)).put n (some z)) (n+1) u (byC l) l.length 1:=by
 obtain⟨h0,⟨rfl,h1⟩ | ⟨b,k,rfl,hb,hk,ho⟩⟩:=O
 ·exact⟨h0,.inl ⟨rfl,h1⟩⟩
 exact⟨h0,.inr ⟨b,k,rfl,by omega,by rw[Tr.get_put,if_neg (by omega),Tr.get_put,if_neg (by omega),hk],ho⟩⟩
theorem xor_pow {c:Nat}(h:c<2 ^ 63):c ^^^ 2 ^ 63=2 ^ 63+c:=by
 apply Nat.eq_of_testBit_eq;intro j;rw[Nat.testBit_xor,Nat.testBit_two_pow]
 rcases Nat.lt_trichotomy j 63 with h1 | rfl | h1
 ·rw[Nat.testBit_two_pow_add_gt h1];simp[show ¬ 63=j by omega]
 ·rw[Nat.testBit_two_pow_add_eq];simp
 have h2:2 ^ 64<=2 ^ j:=Nat.pow_le_pow_right (by omega) (by omega);rw[Nat.testBit_lt_two_pow (show 2 ^ 63+c<2 ^ j by omega),Nat.testBit_lt_two_pow (show c<2 ^ j by omega)];simp;omega
theorem xor63 (x:Int)(h1 : -9223372036854775808<=x)(h2:x<9223372036854775808):cArith .xor .u64 (IntKind.u64.wrap x) 9223372036854775808=.val (.int .u64 ((offs x:Nat):Int)):=by
 have key:∀a:Nat,a<18446744073709551616->(BitVec.ofInt 64 (a:Int) ^^^ BitVec.ofInt 64 9223372036854775808).toNat=if a<9223372036854775808 then 9223372036854775808+a else a - 9223372036854775808:=by
  intro a ha;have e1:(BitVec.ofInt 64 (a:Int)).toNat=a:=by rw[bv64 _ (by omega) (by omega)];simp
  have e2:(BitVec.ofInt 64 9223372036854775808).toNat=2 ^ 63:=rfl;rw[BitVec.toNat_xor,e1,e2]
  split
  ·rename_i h;exact xor_pow h
  rename_i h;have h3:=xor_pow (c:=a - 9223372036854775808) (by omega);have h4:2 ^ 63+(a - 9223372036854775808)=a:=by omega
  rw[h4]at h3;rw[<-h3,Nat.xor_assoc,Nat.xor_self,Nat.xor_zero];omega
 have e0:IntKind.u64.wrap x=(((x % 18446744073709551616).toNat:Nat):Int):=by simp[IntKind.wrap,IntKind.signed,IntKind.bits];omega
 rw[cArith_xor,e0];have e1:=key (x % 18446744073709551616).toNat (by omega);refine Eq.trans (congrArg (λ k:Nat=>ERes.val (.int .u64 (IntKind.u64.wrap (k:Int)))) e1) ?_;have e2:(if (x % 18446744073709551616).toNat<9223372036854775808 then 9223372036854775808+(x % 18446744073709551616).toNat else (x % 18446744073709551616).toNat - 9223372036854775808)=offs x:=by unfold offs;split<;>omega
 simp only[e2];rw[u64_sm (by unfold offs;omega)]
theorem put159a (u:Nat)(hu:u<18446744073709551616)(F:Fr)(K:Hp)(n:Nat)(v:AV)(l:List Nat)(hl:l.length<100000)(Q:QA)(f0:F.get 0=some v)(f5:F.get 5=some (.int .u64 (u:Int)))(f6:F.get 6=some (.int .i64 56))(o:OwnS K n v (byC l) l.length 1)
  (k:∀(F':Fr)(K':Hp)(n':Nat)(v':AV),F'.get 0=some v'->OwnS K' n' v' (byC (l++be8 u)) (l++be8 u).length 1->Q (.exit 1) F' K' n' []):LoopV L159_0 pG F K n [] Q:=by
 refine LoopV.of (λ t F K n ms=>∃j v,t=8 - j/\j<=8/\F.get 0=some v/\F.get 5=some (.int .u64 (u:Int))/\F.get 6=some (.int .i64 (56 - 8*(j:Int)))/\OwnS K n v (byC (l++(be8 u).take j)) (l++(be8 u).take j).length 1/\ms=[]) 8 ⟨0,v,by simp,by omega,f0,f5,by simpa using f6,by simpa using o,rfl⟩ ?_;clear f0 f5 f6 o F K n v;rintro t F K n ms ⟨j,v,rfl,hj,f0,f5,f6,o,rfl⟩;have bl:(be8 u).length=8:=by simp[be8]
 by_cases h:j<8
 ·have s1:cShift .shr (.int .u64 (u:Int)) (.int .i64 (56 - 8*(j:Int)))=.val (.int .u64 ((u / 2 ^ (56 - 8*j):Nat):Int)):=by
   rw[cShr_ok _ _ _ _ (by omega)];have:min (56 - 8*(j:Int)).toNat IntKind.u64.bits=56 - 8*j:=by simp[IntKind.bits];omega
   rw[this,Int.fdiv_eq_ediv_of_nonneg _ (by exact Int.le_of_lt (Int.pow_pos (by omega)))];simp
  have s2:IntKind.u8.wrap ((u / 2 ^ (56 - 8*j):Nat):Int)=(((be8 u)[j]'(by omega):Nat):Int):=by simp[be8,IntKind.wrap,IntKind.signed,IntKind.bits]
  have s3:(be8 u).take (j+1)=(be8 u).take j++[(be8 u)[j]'(by omega)]:=take_snoc (by omega);generalize (be8 u)[j]'(by omega)=z at *;generalize u / 2 ^ (56 - 8*j)=d at *;have w:IntKind.i64.wrap (56 - 8*(j:Int) - 8)=56 - 8*((j+1:Nat):Int):=by rw[wrap_sm _ (by omega) (by omega)];omega
  simp[L159_0,R159_8,f6,show 8*(j:Int)<=56 by omega,R159_9,f0,f5,s1,cToInt_int,s2];refine OwnS.appB o [z] (by simp) (by simp;omega) λ H' o' _=>?_;simp[R159_10,f6,w,f5];exact⟨_,by omega,j+1,rfl,by omega,by omega,by rw[show l.length+min (j+1) (be8 u).length=l.length+(min j (be8 u).length+1) by omega,s3];simpa using o'⟩
 obtain rfl:j=8:=by omega
 simp[L159_0,R159_8,f6];rw[take_of_length_le (by omega)]at o;refine k _ _ _ v ?_ o;simp[f0]
theorem escC_snoc (s:List Nat)(i:Nat)(h:i<s.length):escC (s.take (i+1))=escC (s.take i)++(if s[i]=0 then [s[i],255]else [s[i]]):=by
 unfold escC;rw[take_snoc h,flatMap_append];simp
theorem escC_len (s:List Nat):(escC s).length<=2*s.length:=by
 induction s with
 | nil=>simp[escC]
 | cons a r ih =>
  have e:escC (a::r)=(if a=0 then [a,255]else [a])++escC r:=rfl;rw[e,length_append,length_cons]
  split<;>simp<;>omega
theorem put159b (s:List Nat)(hs:s.length<=64)(a b:AV)(F:Fr)(K:Hp)(n q:Nat)(v:AV)(l:List Nat)(hl:l.length<100000)(Q:QA)(f0:F.get 0=some v)(f3:F.get 3=some (.ptr q 0))(f47:F.get 47=some (.int .i64 (s.length:Int)))(f48:F.get 48=some (.int .i64 0))(hq:K.get q=some (.cells 3 [] [a,b,.str s] .nil))(qn:q<n)(ne:∀k,v≠.sl q 0 k 1)(o:OwnS K n v (byC l) l.length 1)
  (k:∀(F':Fr)(K':Hp)(n':Nat)(v':AV),F'.get 0=some v'->OwnS K' n' v' (byC (l++escC s)) (l++escC s).length 1->Q (.exit 3) F' K' n' []):LoopV L159_1 pG F K n [] Q:=by
 refine LoopV.of (λ t F K n ms=>∃i v,t=s.length - i/\i<=s.length/\F.get 0=some v/\F.get 3=some (.ptr q 0)/\F.get 47=some (.int .i64 (s.length:Int))/\F.get 48=some (.int .i64 (i:Int))/\K.get q=some (.cells 3 [] [a,b,.str s] .nil)/\q<n/\(∀k,v≠.sl q 0 k 1)/\OwnS K n v (byC (l++escC (s.take i))) (l++escC (s.take i)).length 1/\ms=[]) s.length ⟨0,v,by simp,by omega,f0,f3,f47,f48,hq,qn,ne,by simpa[escC]using o,rfl⟩ ?_;clear f0 f3 f47 f48 hq qn ne o F K n v;rintro t F K n ms ⟨i,v,rfl,hi,f0,f3,f47,f48,hq,qn,ne,o,rfl⟩
 by_cases h:i<s.length
 ·have hx:=cIxs_at (k:=.i64) h;have w:=wrap_nat i (by omega);have h1:=escC_snoc s i h;have h2:=escC_len (s.take i);have h3:(s.take i).length<=64:=by simp;omega
  generalize s[i]=c at *;simp[L159_1,R159_15,f47,f48,h,R159_16,R159_17,f0,f3,hq,hx];refine OwnS.appB o [c] (by simp) (by simp;omega) λ H' o' hf=>?_;have hq':=(hf q qn (ne _)).trans hq;simp[R159_18,f3,hq',hx]
  by_cases h0:c=0
  ·subst h0;rw[if_pos rfl]at h1;simp[R159_19];refine OwnS.appB (l:=l++escC (s.take i)++[0]) (by simpa[Nat.add_assoc]using o') [255] (by simp) (by simp;omega) λ H2 o2 hf2=>?_;have hq2:=(hf2 q (by omega) (by intro e;injection e with e;omega)).trans hq';simp[R159_20,f3,f47,f48,w,hq2];exact⟨_,by omega,i+1,rfl,by omega,rfl,by omega,by omega,by rw[h1];simpa[Nat.add_assoc]using o2⟩
  rw[if_neg h0]at h1;simp[h0,R159_20,f3,f47,f48,w,hq'];exact⟨_,by omega,i+1,rfl,by omega,rfl,by omega,by omega,by rw[h1];simpa[Nat.add_assoc]using o'⟩
 obtain rfl:i=s.length:=by omega
 simp[L159_1,R159_15,f47,f48];rw[take_of_length_le (Nat.le_refl _)]at o;refine k _ _ _ v ?_ o;simp[f0]
theorem put159 {H:Hp}{n:Nat}{u:AV}{l:List Nat}(O:OwnS H n u (byC l) l.length 1)(hl:l.length<90000)(v:Val)(hm:v.may=true)(hr:v.rng):
  CallR pG 159 [u,v.av] H n (λ w K k=>OwnS K k w (byC (l++keyV v)) (l++keyV v).length 1):=by
 refine CallR.of c159 (by simp[A159]) λ F hF=>?_;have hk:=Val.may_kind hm;have hO:=O.box (.cells 3 [] [.int .i64 0,.int .i64 0,.str []] .nil) (.cells 3 [] v.cells .nil);have hO1:=O.upd (.cells 3 [] v.cells .nil);have hne:=O.ne;unfold keyV
 by_cases k3:v.kind=3
 ·have hn:v.num=0∨v.num=1:=by
   have:=hm;unfold Val.may at this;simp[k3]at this;exact this.2
  have w:IntKind.u8.wrap (IntKind.i64.wrap (2+v.num))=(((2+v.num).toNat:Nat):Int):=by rcases hn with h | h<;>rw[h]<;>rfl
  generalize (2+v.num).toNat=z at *;simp[A159,B159,R159_0,R159_1,R159_2,R159_3,hF,Val.av,k3,cToInt_int,w];simp only[Val.cells,k3]at hO1;refine OwnS.appB hO1 [z] (by simp) (by simp;omega) λ H' o' _=>?_;simp;simpa using o'
 by_cases k1:v.kind=1
 ·have hx:=xor63 v.num hr.lo hr.hi;simp[A159,B159,R159_0,R159_1,R159_2,R159_4,R159_5,hF,Val.av,k1];simp only[Val.cells,k1]at hO1;refine OwnS.appB hO1 [4] (by simp) (by simp;omega) λ H' o' hf=>?_;have hq:=hf n (by omega) (hne _);simp at hq;simp[R159_6,hq,cToInt_int,hx,R159_7];refine put159a (offs v.num) (by unfold offs;have:=hr.lo;have:=hr.hi;omega) _ _ _ _ (l++[4]) (by simp;omega) _ (by simp;rfl) (by simp) (by simp) (by simpa using o') λ F K n' v' f0 o2=>?_;simp[R159_11,f0];simpa[Nat.add_assoc]using o2
 by_cases k2:v.kind=2
 ·have h64:=Val.may_len hm k2;simp[A159,B159,R159_0,R159_1,R159_2,R159_4,R159_12,R159_13,hF,Val.av,k2];simp only[Val.cells,k2]at hO1;refine OwnS.appB hO1 [5] (by simp) (by simp;omega) λ H' o' hf=>?_;have hq:=hf n (by omega) (hne _);simp at hq;simp[R159_14,hq];refine put159b v.s h64 _ _ _ _ _ n _ (l++[5]) (by simp;omega) _ (by simp;rfl) (by simp) (by simp) (by simp) (by rw[hq]) (by omega) (λ k e=>by injection e with e;omega) (by simpa using o') λ F K n' v' f0 o2=>?_;have:=escC_len v.s;simp[R159_21,f0,rep];refine OwnS.appB o2 [0,1] (by simp) (by simp;omega) λ H2 o3 _=>?_;simp;simpa[Nat.add_assoc]using o3
 have k0:v.kind=0:=by omega
 simp[A159,B159,R159_0,R159_1,R159_2,R159_4,R159_12,R159_22,hF,Val.av,k0];simp only[Val.cells,k0]at hO1;refine OwnS.appB hO1 [1] (by simp) (by simp;omega) λ H' o' _=>?_;simp;simpa using o'
def keyB (row:List Val):List Nat:=row.flatMap keyV
def encK (row:List Val):List Nat×Int:=if 16<row.length then ([],1)else if ∀v∈row,v.may=true then (if (keyB row).length<=140 then (keyB row,0)else ([],51))else ([],5)
theorem keyV_len (v:Val) (hm:v.may=true):(keyV v).length<=131:=by
 unfold keyV
 split
 ·simp
 split
 ·simp[be8]
 split
 ·rename_i h;have:=Val.may_len hm h;have:=escC_len v.s;simp;omega
 simp
theorem keys_snoc (row:List Val)(i:Nat)(h:i<row.length):keyB (row.take (i+1))=keyB (row.take i)++keyV row[i]:=by
 unfold keyB;rw[take_snoc h,flatMap_append];simp
theorem keys_len (row:List Val)(hm:∀v∈row,v.may=true):(keyB row).length<=row.length*131:=by
 induction row with
 | nil=>simp[keyB]
 | cons a r ih =>
  have:=ih λ v hv=>hm v (by simp[hv]);have h1:=keyV_len a (hm a (by simp));simp only[keyB,flatMap_cons,length_append,length_cons]at this ⊢;omega
theorem keyV_byte (v:Val) (hm:v.may=true) (hr:v.rng):∀b∈keyV v,b<256:=by
 unfold keyV
 split
 ·rename_i k3;have:=hm;unfold Val.may at this;simp[k3]at this;intro b hb;simp at hb;omega
 split
 ·intro b hb
  rcases mem_cons.1 hb with rfl | hb
  ·omega
  simp only[be8,mem_map]at hb;obtain⟨j,_,rfl⟩:=hb;exact Nat.mod_lt _ (by omega)
 split
 ·intro b hb;simp only[mem_cons,mem_append,not_mem_nil,or_false,escC,mem_flatMap]at hb
  rcases hb with rfl | ⟨c,hc,hb⟩ | rfl | rfl
  ·omega
  ·have:=hr.b c hc
   split at hb<;>simp at hb<;>omega
  ·omega
  omega
 simp
theorem keys_byte (row:List Val)(hm:∀v∈row,v.may=true)(hr:∀v∈row,v.rng):∀b∈keyB row,b<256:=by
 intro b hb;obtain⟨v,hv,h⟩:=mem_flatMap.1 hb;exact keyV_byte v (hm v hv) (hr v hv) b h
theorem encK124 (row:List Val)(hr:∀v∈row,v.rng):FnPure pG 124 [rowAV row] (.tup [.str (encK row).1,.int .i64 (encK row).2]):=by
 refine pureV c124 (by simp) (by simp) (by simp[A124]) λ F hF=>?_;unfold encK
 by_cases h16:16<row.length
 ·simp[A124,B124,R124_0,R124_1,hF,rowAV,show (16:Int)<(row.length:Int) by omega,R124_2,h16];exact .pure _ (by simp)
 simp[A124,B124,R124_0,R124_1,hF,rowAV,show ¬(16:Int)<(row.length:Int) by omega,R124_3,R124_4,h16];refine LoopV.of (λ t F K n ms=>∃i u,t=row.length - i/\i<=row.length/\F.get 4=some u/\F.get 10=some (rowAV row)/\F.get 11=some (.int .i64 (row.length:Int))/\F.get 12=some (.int .i64 (i:Int))/\OwnS K n u (byC (keyB (row.take i))) (keyB (row.take i)).length 1/\(∀v∈row.take i,v.may=true)/\ms=[]) row.length ⟨0,.cst (.slice none 0 0),by simp,by omega,by simp,by simp[rowAV],by simp,by simp,OwnS.nil _ _ _,by simp,rfl⟩ ?_;clear hF F;rintro t F K n ms ⟨i,u,rfl,hi,f4,f10,f11,f12,O,hm,rfl⟩;rw[rowAV]at f10
 by_cases h:i<row.length
 ·have hx:=ixa_val (k:=.i64) h;have w:=wrap_nat i (by omega);have hs:=keys_snoc row i h;have hl:=keys_len (row.take i) hm;have hl2:(row.take i).length<=16:=by simp;omega
  have hr1:=hr row[i] (getElem_mem h);have hms:∀v∈row.take (i+1),v∈row.take i∨v=row[i]:=λ v hv=>by rwa [take_snoc h,mem_append,mem_singleton]at hv
  have hin:row[i]∈row:=getElem_mem h;generalize row[i]=v at *;have hmv:=may52 v;simp only[Val.av]at hmv;simp[L124_0,R124_5,f11,f12,h,R124_6,f10,hx,ld_val,Val.av,R124_7];refine CalV.pure hmv ?_
  by_cases h1:v.may=true
  ·simp[h1,R124_9,f4];have O2:=O.box (.cells 3 [] [.int .i64 0,.int .i64 0,.str []] .nil) (.cells 3 [] [.int .i64 v.kind,.int .i64 v.num,.str v.s] .nil);have hp:=put159 O2 (by omega) v h1 hr1;simp only[Val.av]at hp;refine CalV.of hp λ u' K' n' o'=>?_;simp[R124_10,f12,w,f10,f11];refine⟨_,by omega,i+1,rfl,by omega,by simp[rowAV],rfl,by rw[hs];simpa using o',λ x hx=>?_⟩
   rcases hms x hx with h2 | rfl
   ·exact hm x h2
   exact h1
  have:¬ ∀v∈row,v.may=true:=λ h2=>h1 (h2 v hin);simp[h1,R124_8];rw[if_neg this];exact .pure _ (by simp)
 obtain rfl:i=row.length:=by omega
 rw[take_of_length_le (Nat.le_refl _)]at O hm
 have hl:cLenL u=.val (.int .i64 ((keyB row).length:Int)):=by
  obtain⟨_,⟨rfl,h⟩ | ⟨b,_,rfl,_⟩⟩:=O
  ·rw[h];simp
  simp
 have hb:=O.b2s (keys_byte row hm hr);rw[if_pos hm];generalize keyB row=B at *
 by_cases h140:B.length<=140
 ·simp[L124_0,R124_5,f11,f12,R124_11,f4,hl,show ¬(140:Int)<(B.length:Int) by omega,R124_13,eB2s,hb,h140];exact .pure _ (by simp)
 simp[L124_0,R124_5,f11,f12,R124_11,f4,hl,show (140:Int)<(B.length:Int) by omega,R124_12,h140];exact .pure _ (by simp)
def be8P (u t:Nat):List Nat:=4::(List.range 8).map λ j=>if 8 - t<=j then u / 2 ^ (56 - 8*j) % 256 else 0
theorem be8P_len (u t:Nat):(be8P u t).length=9:=by simp[be8P]
theorem be8P_set (u t:Nat) (h:t<8):(be8P u t).set (8 - t) (u / 2 ^ (8*t) % 256)=be8P u (t+1):=by
 apply ext_getElem
 ·simp[be8P]
 intro j h1 h2;rw[getElem_set];rw[be8P_len]at h2
 cases j with
 | zero=>rw[if_neg (by omega)];rfl
 | succ j =>
  simp only[be8P,getElem_cons_succ,List.getElem_map,List.getElem_range]
  by_cases e:8 - t=j+1
  ·rw[if_pos e,if_pos (by omega),show 56 - 8*j=8*t by omega]
  rw[if_neg e]
  by_cases e2:8 - t<=j
  ·rw[if_pos e2,if_pos (by omega)]
  rw[if_neg e2,if_neg (by omega)]
theorem be8P_8 (u:Nat):be8P u 8=4::be8 u:=by simp[be8P,be8]
theorem One105a (u:Nat)(hu:u<18446744073709551616)(F:Fr)(K:Hp)(n q:Nat)(y:ABlk)(Q:QA)(f3:F.get 3=some (.int .u64 (u:Int)))(f4:F.get 4=some (.sl q 0 9 1))(f5:F.get 5=some (.int .i64 8))(hq:K.get q=some y)(ho:OwnB y (byC (be8P u 0)))
  (k:∀(F':Fr)(K':Hp)(y:ABlk),F'.get 4=some (.sl q 0 9 1)->K'.get q=some y->OwnB y (byC (4::be8 u))->Q (.exit 0) F' K' n []):LoopV L105_0 pG F K n [] Q:=by
 refine LoopV.of (λ r F K n' ms=>∃t x y,r=8 - t/\t<=8/\x=u / 2 ^ (8*t)/\F.get 3=some (.int .u64 (x:Int))/\F.get 4=some (.sl q 0 9 1)/\F.get 5=some (.int .i64 ((8 - t:Nat):Int))/\K.get q=some y/\OwnB y (byC (be8P u t))/\n'=n/\ms=[]) 8 ⟨0,u,y,by simp,by omega,by simp,f3,f4,by simpa using f5,hq,ho,rfl,rfl⟩ ?_;clear f3 f4 f5 hq ho F K y;rintro r F K n' ms ⟨t,x,y,rfl,ht,hx,f3,f4,f5,hq,ho,rfl,rfl⟩;have hxl:x<18446744073709551616:=by rw[hx];exact Nat.lt_of_le_of_lt (Nat.div_le_self _ _) hu
 by_cases h:t<8
 ·have s1:cArith .rem .u64 (x:Int) 256=.val (.int .u64 ((x % 256:Nat):Int)):=by
   simp only[cArith,vint_eq];rw[if_neg (by omega),Int.tmod_eq_emod_of_nonneg (by omega)];rfl
  have s2:cArith .quo .u64 (x:Int) 256=.val (.int .u64 ((x / 256:Nat):Int)):=by
   simp only[cArith,vint_eq];rw[if_neg (by omega),Int.tdiv_eq_ediv_of_nonneg (by omega),show (x:Int) / 256=((x / 256:Nat):Int) by omega,u64_sm (by omega)]
  have s3:cIxa 1 (.sl q 0 9 1) (.int .i64 ((8 - t:Nat):Int))=.val (.ptr q (8 - t)):=by rw[cIxa_sl (by omega)];simp
  have hx2:x / 256=u / 2 ^ (8*(t+1)):=by rw[hx,Nat.div_div_eq_div_mul,show 8*(t+1)=8*t+8 by omega,Nat.pow_add]
  have hset:=be8P_set u t h;rw[<-hx]at hset;obtain⟨y',hst,ho'⟩:=own_stU hq ho (i:=8 - t) (by rw[byC_len,be8P_len];omega) ((x % 256:Nat):Int);rw[<-byC_set,hset]at ho';have s4:=u8_sm (show x % 256<256 by omega);have w:IntKind.i64.wrap (((8 - t:Nat):Int) - 1)=((8 - (t+1):Nat):Int):=by rw[wrap_sm _ (by omega) (by omega)];omega
  have hpos:(0:Int)<((8 - t:Nat):Int):=by omega
  generalize x % 256=z at *;generalize x / 256=x' at *;generalize hc:8 - t=c at *;generalize hc2:8 - (t+1)=c' at *;simp[L105_0,R105_11,f5,hpos,show 0<c by omega,R105_12,f4,f3,s1,cToInt_int,s4,s3,hst,R105_13,s2,R105_14,w];exact⟨8 - (t+1),by omega,t+1,rfl,by omega,by rw[hx2];simp,hc2.symm,ho'⟩
 obtain rfl:t=8:=by omega
 simp[L105_0,R105_11,f5];refine k _ _ y ?_ hq (by rw[<-be8P_8];exact ho);simp[f4]
theorem One105b (s:List Nat)(hs:s.length<=64)(a b:AV)(F:Fr)(K:Hp)(n q:Nat)(v:AV)(l:List Nat)(hl:l.length<100000)(Q:QA)(f1:F.get 1=some (.ptr q 0))(f6:F.get 6=some v)(f7:F.get 7=some (.int .i64 0))(hq:K.get q=some (.cells 3 [] [a,b,.str s] .nil))(qn:q<n)(ne:∀k,v≠.sl q 0 k 1)(o:OwnS K n v (byC l) l.length 1)
  (k:∀(F':Fr)(K':Hp)(n':Nat)(v':AV),F'.get 6=some v'->OwnS K' n' v' (byC (l++escC s)) (l++escC s).length 1->Q (.exit 2) F' K' n' []):LoopV L105_1 pG F K n [] Q:=by
 refine LoopV.of (λ t F K n ms=>∃i v,t=s.length - i/\i<=s.length/\F.get 1=some (.ptr q 0)/\F.get 6=some v/\F.get 7=some (.int .i64 (i:Int))/\K.get q=some (.cells 3 [] [a,b,.str s] .nil)/\q<n/\(∀k,v≠.sl q 0 k 1)/\OwnS K n v (byC (l++escC (s.take i))) (l++escC (s.take i)).length 1/\ms=[]) s.length ⟨0,v,by simp,by omega,f1,f6,f7,hq,qn,ne,by simpa[escC]using o,rfl⟩ ?_;clear f1 f6 f7 hq qn ne o F K n v;rintro t F K n ms ⟨i,v,rfl,hi,f1,f6,f7,hq,qn,ne,o,rfl⟩
 by_cases h:i<s.length
 ·have hx:=cIxs_at (k:=.i64) h;have w:=wrap_nat i (by omega);have h1:=escC_snoc s i h;have h2:=escC_len (s.take i);have h3:(s.take i).length<=64:=by simp;omega
  generalize s[i]=c at *;simp[L105_1,R105_18,f1,f7,hq,h,R105_19,f6,hx];refine OwnS.appB o [c] (by simp) (by simp;omega) λ H' o' hf=>?_;have hq':=(hf q qn (ne _)).trans hq;simp[R105_20,f1,f7,hq',hx]
  by_cases h0:c=0
  ·subst h0;rw[if_pos rfl]at h1;simp[R105_21];refine OwnS.appB (l:=l++escC (s.take i)++[0]) (by simpa[Nat.add_assoc]using o') [255] (by simp) (by simp;omega) λ H2 o2 hf2=>?_;have hq2:=(hf2 q (by omega) (by intro e;injection e with e;omega)).trans hq';simp[R105_22,f1,f7,w,hq2];exact⟨_,by omega,i+1,rfl,by omega,rfl,by omega,by omega,by rw[h1];simpa[Nat.add_assoc]using o2⟩
  rw[if_neg h0]at h1;simp[h0,R105_22,f1,f7,w,hq'];exact⟨_,by omega,i+1,rfl,by omega,rfl,by omega,by omega,by rw[h1];simpa[Nat.add_assoc]using o'⟩
 obtain rfl:i=s.length:=by omega
 simp[L105_1,R105_18,f1,f7,hq];rw[take_of_length_le (Nat.le_refl _)]at o;refine k _ _ _ v ?_ o;simp[f6]
theorem One105 (v:Val)(hm:v.may=true)(hr:v.rng):FnPure pG 105 [v.av] (.str (keyV v)):=by
 refine pureV c105 (by simp) (by simp) (by simp[A105]) λ F hF=>?_;have hk:=Val.may_kind hm;have hby:=keyV_byte v hm hr;unfold keyV at hby ⊢
 by_cases k0:v.kind=0
 ·simp[A105,B105,R105_0,R105_1,R105_2,hF,Val.av,k0];exact .pure _ (by simp)
 by_cases k3:v.kind=3
 ·have hn:v.num=0∨v.num=1:=by
   have:=hm;unfold Val.may at this;simp[k3]at this;exact this.2
  rcases hn with hn | hn
  ·simp[A105,B105,R105_0,R105_1,R105_3,R105_4,hF,Val.av,k3,hn];exact .pure _ (by simp)
  simp[A105,B105,R105_0,R105_1,R105_3,R105_5,R105_6,hF,Val.av,k3,hn];exact .pure _ (by simp)
 rw[if_neg k3]at hby ⊢
 by_cases k1:v.kind=1
 ·have ha:cAdd (.int .u64 (IntKind.u64.wrap v.num)) (.int .u64 9223372036854775808)=.val (.int .u64 ((offs v.num:Nat):Int)):=by
   have:=hr.lo;have:=hr.hi;simp only[cAdd,if_true,vint_eq]
   congr 2
   unfold offs;simp[IntKind.wrap,IntKind.signed,IntKind.bits];omega
  rw[if_pos k1]at hby ⊢;simp[A105,B105,R105_0,R105_1,R105_3,R105_5,R105_7,R105_8,hF,Val.av,k1,cToInt_int,ha,R105_9,rep,R105_10];refine One105a (offs v.num) (by unfold offs;have:=hr.lo;have:=hr.hi;omega) _ _ _ 1 _ _ (by simp) (by simp) (by simp) (by simp;rfl) (by exact .list (by simp[be8P,byC])) λ F K y f4 hq ho=>?_;have O:OwnS K 2 (.sl 1 0 9 1) (byC (4::be8 (offs v.num))) (4::be8 (offs v.num)).length 1:=⟨by simp[be8],.inr ⟨1,y,by simp[be8],by omega,hq,ho⟩⟩;simp[R105_15,f4,eB2s,O.b2s hby];exact .pure _ (by simp)
 have k2:v.kind=2:=by omega
 rw[if_neg k1,if_pos k2]at hby ⊢;have h64:=Val.may_len hm k2;simp[A105,B105,R105_0,R105_1,R105_3,R105_5,R105_7,hF,Val.av,k2,R105_16,R105_17,rep];refine One105b v.s h64 (.int .i64 2) (.int .i64 v.num) _ _ _ 0 (.sl 1 0 1 1) [5] (by simp) _ (by simp) (by simp) (by simp) (by simp) (by omega) (λ k e=>by injection e with e;omega) ⟨by simp,.inr ⟨1,.cells 1 [] (byC [5]) .nil,rfl,by omega,by simp[byC],.list (by simp)⟩⟩ λ F K n v' f6 o=>?_;have hel:=escC_len v.s;simp[R105_23,f6,rep];refine OwnS.appB o [0,1] (by simp) (by simp;omega) λ H2 o3 _=>?_;have:=o3.b2s (by simpa using hby);simp at this;simp[eB2s,this];exact .pure _ (by simp)
theorem cAdd_str {a b:List Nat}(h:a.length+b.length<=big):cAdd (.str a) (.str b)=.val (.str (a++b)):=by simp[cAdd,lenAcc_zero,h]
theorem encK72 (row:List Val)(hr:∀v∈row,v.rng):FnPure pG 72 [rowAV row] (.tup [.str (encK row).1,.int .i64 (encK row).2]):=by
 refine pureV c72 (by simp) (by simp) (by simp[A72]) λ F hF=>?_;unfold encK
 by_cases h16:16<row.length
 ·simp[A72,B72,R72_0,R72_1,hF,rowAV,show (16:Int)<(row.length:Int) by omega,R72_2,h16];exact .pure _ (by simp)
 simp[A72,B72,R72_0,R72_1,hF,rowAV,show ¬(16:Int)<(row.length:Int) by omega,R72_3,R72_4,h16];refine LoopV.of (λ t F K n ms=>∃i,t=row.length - i/\i<=row.length/\F.get 0=some (rowAV row)/\F.get 4=some (.str (keyB (row.take i)))/\F.get 5=some (.int .i64 (i:Int))/\(∀v∈row.take i,v.may=true)/\ms=[]) row.length ⟨0,by simp,by omega,by simp[hF,rowAV],by simp[keyB],by simp,by simp,rfl⟩ ?_;clear hF F;rintro t F K n ms ⟨i,rfl,hi,f0,f4,f5,hm,rfl⟩;rw[rowAV]at f0
 by_cases h:i<row.length
 ·have hx:=ixa_val (k:=.i64) h;have w:=wrap_nat i (by omega);have hs:=keys_snoc row i h;have hl:=keys_len (row.take i) hm;have hl2:(row.take i).length<=16:=by simp;omega
  have hr1:=hr row[i] (getElem_mem h);have hms:∀v∈row.take (i+1),v∈row.take i∨v=row[i]:=λ v hv=>by rwa [take_snoc h,mem_append,mem_singleton]at hv
  have hin:row[i]∈row:=getElem_mem h;generalize row[i]=v at *;simp[L72_0,R72_5,f0,f5,h,R72_6,hx,ld_val];refine CalV.pure (may22 v) ?_
  by_cases h1:v.may=true
  ·have hvl:=keyV_len v h1;have ha:cAdd (.str (keyB (row.take i))) (.str (keyV v))=.val (.str (keyB (row.take i)++keyV v)):=cAdd_str (by unfold big;omega);simp[h1,R72_8,f0,f4,f5,hx,ld_val];refine CalV.pure (One105 v h1 hr1) ?_;simp[ha,R72_9,f0,f5,w];refine⟨_,by omega,i+1,rfl,by omega,by simp[rowAV],by rw[hs],by simp,λ x hx=>?_⟩
   rcases hms x hx with h2 | rfl
   ·exact hm x h2
   exact h1
  have:¬ ∀v∈row,v.may=true:=λ h2=>h1 (h2 v hin);simp[h1,R72_7];rw[if_neg this];exact .pure _ (by simp)
 obtain rfl:i=row.length:=by omega
 rw[take_of_length_le (Nat.le_refl _)]at f4 hm;rw[if_pos hm];generalize keyB row=B at *
 by_cases h140:B.length<=140
 ·simp[L72_0,R72_5,f0,f5,R72_10,f4,show ¬(140:Int)<(B.length:Int) by omega,R72_12,h140];exact .pure _ (by simp)
 simp[L72_0,R72_5,f0,f5,R72_10,f4,show (140:Int)<(B.length:Int) by omega,R72_11,h140];exact .pure _ (by simp)
end Go.Abs
namespace Go.Abs
open List
open Go.Proofs
open Classical
set_option maxRecDepth 100000
def eVal:Enc Val 3:=⟨Val.cells,λ _=>by simp,λ v=>by simp[Val.cells],λ v=>by simp[Val.cells,allOne,AV.one]⟩
theorem eVal_l (l:List Val):eVal.l l=valsC l:=by
 induction l with
 | nil=>rfl
 | cons a r ih=>rw[Enc.l_cons,ih];rfl
theorem eVal_ds (l:List Val):eVal.ds l=rowAV l:=by simp[Enc.ds,rowAV,eVal_l]
section
variable {P:Program}{F:Fr}{H:Hp}{n:Nat}{m:List Dm}{Q:QA}
theorem OwnS.put {v:AV}{l:List AV}{len sz:Nat}(h:OwnS H n v l len sz)(y:ABlk):OwnS (H.put n (some y)) (n+1) v l len sz:=by
 obtain⟨h0,⟨rfl,h1⟩ | ⟨b,k,rfl,hb,hk,ho⟩⟩:=h
 ·exact⟨h0,.inl ⟨rfl,h1⟩⟩
 exact⟨h0,.inr ⟨b,k,rfl,by omega,by rw[Tr.get_put,if_neg (by omega),hk],ho⟩⟩
theorem OwnS.put2 {v:AV}{l:List AV}{len sz:Nat}(h:OwnS H n v l len sz)(y z:ABlk):OwnS ((H.put n (some y)).put n (some z)) (n+1) v l len sz:=by
 obtain⟨h0,⟨rfl,h1⟩ | ⟨b,k,rfl,hb,hk,ho⟩⟩:=h
 ·exact⟨h0,.inl ⟨rfl,h1⟩⟩
 exact⟨h0,.inr ⟨b,k,rfl,by omega,by rw[Tr.get_put,if_neg (by omega),Tr.get_put,if_neg (by omega),hk],ho⟩⟩
theorem OwnS.put3 {v:AV}{l:List AV}{len sz:Nat}(h:OwnS H n v l len sz)(y z t:ABlk):OwnS (((H.put n (some y)).put n (some z)).put n (some t)) (n+1) v l len sz:=by
 obtain⟨h0,⟨rfl,h1⟩ | ⟨b,k,rfl,hb,hk,ho⟩⟩:=h
 ·exact⟨h0,.inl ⟨rfl,h1⟩⟩
 exact⟨h0,.inr ⟨b,k,rfl,by omega,by rw[Tr.get_put,if_neg (by omega),Tr.get_put,if_neg (by omega),Tr.get_put,if_neg (by omega),hk],ho⟩⟩
theorem OwnS.appE {α:Type}{k:Nat}{E:Enc α k}{v:AV}{L:List α}{by_:Nat}{pd:Pd}{r:List (Option GO)}(h:OwnS H n v (E.l L) L.length k)(x:α)(hk:0<k)(hby:by_<=4096)(hl:L.length<4000000)
  (hgo:∀H',OwnS H' (n+2) (.sl (n+1) 0 (L.length+1) k) (E.l (L++[x])) (L++[x]).length k->(∀c,c<n->v≠.sl c 0 L.length k->H'.get c=H.get c)->VCO P r (pd.f (.sl (n+1) 0 (L.length+1) k) F) H' (n+2) m Q):
  OpV (Go.Abs.cApp k by_ (n+1) v (.sl n 0 1 k) (H.put n (some (.cells k [] (E.cells x) .nil)))) pd r P F (H.put n (some (.cells k [] (E.cells x) .nil))) (n+1) m Q:=by
 have hs:sliceCells (H.put n (some (.cells k [] (E.cells x) .nil))) k (.sl n 0 1 k)=some (E.cells x):=by
  rw[sliceCells_sl (k:=.cells k [] (E.cells x) .nil) (by simp) (.list (by simp)) (by simp)];simp[take_of_length_le]
 refine OwnS.app (h.put _) hs (k:=1) (by simp) (by simp) hk (by omega) (by unfold big;omega) hby (E.one x) λ H' h1 h2=>hgo H' (by rw[E.l_append,E.l_one];simpa using h1) λ c hc hv=>?_;rw[h2 c (by omega) hv,Tr.get_put,if_neg (by omega)]
end
theorem ixdLd (x:Ixd)(t:Int)(u:Bool)(r:List AV)(H:Hp):cLoadN 6 (.dp (.int .u32 x.id::.int .u32 t::.str x.name::eInt.ds x.cols::.bool u::.int .u32 x.root::r)) H=.val (.agg [.int .u32 x.id,.int .u32 t,.str x.name,eInt.ds x.cols,.bool u,.int .u32 x.root] 6):=cLoadN_dp (k:=6) (l:=[.int .u32 x.id,.int .u32 t,.str x.name,eInt.ds x.cols,.bool u,.int .u32 x.root]) r rfl
def Sch.on (s:Sch)(id:Int):List Ixd:=s.indexes.filter λ x=>decide (x.table=id)
theorem filter_snoc {α:Type}{p:α->Bool}{l:List α}{i:Nat}(h:i<l.length):(l.take (i+1)).filter p=(l.take i).filter p++(if p l[i]=true then [l[i]]else []):=by
 rw[take_snoc h,filter_append]
 cases hp:p l[i]<;>simp[hp]
theorem cloneI (l:List Int)(hl:l.length<=lim):FnPure pG 123 [eInt.ds l] (eInt.ds l):=clone_ok (z:=[.int .i64 0]) (sz:=1) (by_:=8) c123 (by omega) (by omega) (by omega) _ _ hl (by simp) (by simp) (by simp)
theorem On90 (s:Sch)(hs:s.indexes.length<=lim)(hc:∀x∈s.indexes,x.cols.length<=lim)(id:Int):FnPure pG 90 [eSch.av s,.int .u32 id] (eIxd.ds (s.on id)):=by
 unfold lim at hs;refine pureV c90 (by simp) (by simp) (by simp[A90]) λ F hF=>?_;simp[A90,B90,R90_0,R90_1,R90_2,hF,Enc.av,eSch_c,Enc.len_ds];refine LoopV.of (λ t F K n ms=>∃i u,t=s.indexes.length - i/\i<=s.indexes.length/\F.get 1=some (.int .u32 id)/\F.get 5=some u/\F.get 9=some (eIxd.ds s.indexes)/\F.get 10=some (.int .i64 (s.indexes.length:Int))/\F.get 11=some (.int .i64 (i:Int))/\OwnS K n u (eIxd.l ((s.indexes.take i).filter λ x=>decide (x.table=id))) ((s.indexes.take i).filter λ x=>decide (x.table=id)).length 6/\ms=[]) s.indexes.length ⟨0,.cst (.slice none 0 0),by simp,by omega,by simp[hF],by simp,by simp,by simp,by simp,OwnS.nil _ _ _,rfl⟩ ?_;clear hF F;rintro t F K n ms ⟨i,u,rfl,hi,f1,f5,f9,f10,f11,O,rfl⟩
 by_cases h:i<s.indexes.length
 ·have hx:=eIxd.ix (ik:=.i64) h;have w:=wrap_nat i (by omega);have hsn:=filter_snoc (p:=λ x:Ixd=>decide (x.table=id)) h;have hfl:((s.indexes.take i).filter λ x=>decide (x.table=id)).length<=1048576:=Nat.le_trans (length_filter_le _ _) (by simp;omega);have hcl:=cloneI s.indexes[i].cols (hc _ (getElem_mem h));rw[eIxd_c]at hx;generalize s.indexes[i]=x at *;generalize (s.indexes.take i).filter (λ x=>decide (x.table=id))=L at *
  by_cases he:x.table=id
  ·subst he;rw[if_pos (by simp)]at hsn;simp[L90_0,R90_3,f10,f11,h,R90_4,f9,hx,ixdLd,R90_5,f1,R90_6];refine CalV.pure hcl ?_;simp[R90_7,f5,rep];refine OwnS.appE (E:=eIxd) (x:=x) (O.put3 _ _ _) (by omega) (by omega) (by omega) λ H' O' _=>?_;simp[R90_8,f11,w,f1,f9,f10];exact⟨_,by omega,i+1,rfl,by omega,rfl,by rw[hsn];simpa using O'⟩
  rw[if_neg (by simpa using he),append_nil]at hsn;simp[L90_0,R90_3,f10,f11,h,R90_4,f9,hx,ixdLd,R90_5,f1,he,R90_8,w,f5];exact⟨_,by omega,i+1,rfl,by omega,rfl,by rw[hsn];exact O.put2 _ _⟩
 obtain rfl:i=s.indexes.length:=by omega
 rw[take_of_length_le (Nat.le_refl _)]at O;simp[L90_0,R90_3,f10,f11,R90_9,f5];exact O.frz (.pure (by simp))
theorem On42 (s:Sch)(hs:s.indexes.length<=lim)(id:Int):FnPure pG 42 [eSch.av s,.int .u32 id] (eIxd.ds (s.on id)):=by
 unfold lim at hs;refine pureV c42 (by simp) (by simp) (by simp[A42]) λ F hF=>?_;simp[A42,B42,R42_0,R42_1,R42_2,hF,Enc.av,eSch_c];refine LoopV.of (λ t F K n ms=>∃i u,t=s.indexes.length - i/\i<=s.indexes.length/\F.get 1=some (.int .u32 id)/\F.get 2=some (.ptr 0 0)/\F.get 5=some u/\F.get 6=some (.int .i64 (i:Int))/\K.get 0=some (.cells 2 [] [eTbl.ds s.tables,eIxd.ds s.indexes] .nil)/\0<n/\(∀k,u≠.sl 0 0 k 6)/\OwnS K n u (eIxd.l ((s.indexes.take i).filter λ x=>decide (x.table=id))) ((s.indexes.take i).filter λ x=>decide (x.table=id)).length 6/\ms=[]) s.indexes.length ⟨0,.cst (.slice none 0 0),by simp,by omega,by simp[hF],by simp,by simp,by simp,by simp,by omega,by simp,OwnS.nil _ _ _,rfl⟩ ?_;clear hF F;rintro t F K n ms ⟨i,u,rfl,hi,f1,f2,f5,f6,k0,n0,ne,O,rfl⟩
 by_cases h:i<s.indexes.length
 ·have hx:=eIxd.ix (ik:=.i64) h;have w:=wrap_nat i (by omega);have hsn:=filter_snoc (p:=λ x:Ixd=>decide (x.table=id)) h;have hfl:((s.indexes.take i).filter λ x=>decide (x.table=id)).length<=1048576:=Nat.le_trans (length_filter_le _ _) (by simp;omega);rw[eIxd_c]at hx;generalize s.indexes[i]=x at *;generalize (s.indexes.take i).filter (λ x=>decide (x.table=id))=L at *
  by_cases he:x.table=id
  ·subst he;rw[if_pos (by simp)]at hsn;simp[L42_0,R42_3,f2,f6,k0,Enc.len_ds,h,R42_4,hx,f1,R42_5,f5,ixdLd,rep];refine OwnS.appE (E:=eIxd) (x:=x) O (by omega) (by omega) (by omega) λ H' O' hf=>?_;have k0':=(hf 0 n0 (ne _)).trans k0;simp[R42_6,f6,w,f1,f2,k0'];exact⟨_,by omega,i+1,rfl,by omega,rfl,by rw[hsn];simpa using O'⟩
  rw[if_neg (by simpa using he),append_nil]at hsn;simp[L42_0,R42_3,f2,f6,k0,Enc.len_ds,h,R42_4,hx,f1,he,R42_6,w,f5];exact⟨_,by omega,i+1,rfl,by omega,rfl,n0,ne,by rw[hsn];exact O⟩
 obtain rfl:i=s.indexes.length:=by omega
 rw[take_of_length_le (Nat.le_refl _)]at O;simp[L42_0,R42_3,f2,f6,k0,Enc.len_ds,R42_7,f5];exact O.frz (.pure (by simp))
end Go.Abs
namespace Go.Abs
open List
open Go.Proofs
open Classical
set_option maxRecDepth 100000
def valZ:Val:=⟨0,0,[]⟩
def sel (row:List Val)(cols:List Int):List Val:=cols.map λ c=>row.getD c.toNat valZ
def nulls (l:List Val):Bool:=l.any λ v=>decide (v.kind=0)
def ColsIn (cols:List Int)(row:List Val):Prop:=∀c∈cols,0<=c/\c<(row.length:Int)
theorem sel_snoc (row:List Val)(cols:List Int)(i k:Nat)(h:i<cols.length)(hk:k<row.length)(e:cols[i]=(k:Int)):sel row (cols.take (i+1))=sel row (cols.take i)++[row[k]]:=by
 unfold sel;rw[take_snoc h,map_append,List.map_singleton,e];simp[getD,getElem?_eq_getElem hk]
theorem nulls_snoc (l:List Val)(v:Val):nulls (l++[v])=(nulls l||decide (v.kind=0)):=by simp[nulls]
theorem sel_rng {row:List Val}{cols:List Int}(hr:∀v∈row,v.rng)(hc:ColsIn cols row):∀v∈sel row cols,v.rng:=by
 intro v hv;obtain⟨c,h1,rfl⟩:=mem_map.1 hv;obtain⟨h2,h3⟩:=hc c h1;have:c.toNat<row.length:=by omega
 simp only[getD,getElem?_eq_getElem this,Option.getD_some];exact hr _ (getElem_mem this)
@[simp] theorem sel_len (row:List Val)(cols:List Int):(sel row cols).length=cols.length:=by simp[sel]
theorem key91 (x:Ixd)(row:List Val)(hl:x.cols.length<=lim)(hr:∀v∈row,v.rng)(hc:ColsIn x.cols row):FnPure pG 91 [eIxd.av x,rowAV row] (.tup [.str (encK (sel row x.cols)).1,.bool (nulls (sel row x.cols)),.int .i64 (encK (sel row x.cols)).2]):=by
 unfold lim at hl;refine pureV c91 (by simp) (by simp) (by simp[A91]) λ F hF=>?_;have hK:=encK124 (sel row x.cols) (sel_rng hr hc);simp[A91,B91,R91_0,R91_1,R91_2,R91_3,hF,Enc.av,eIxd_c,Enc.len_ds];refine LoopV.of (λ t F K n ms=>∃i u,t=x.cols.length - i/\i<=x.cols.length/\F.get 1=some (rowAV row)/\F.get 7=some u/\F.get 8=some (.bool (nulls (sel row (x.cols.take i))))/\F.get 14=some (eInt.ds x.cols)/\F.get 15=some (.int .i64 (x.cols.length:Int))/\F.get 16=some (.int .i64 (i:Int))/\OwnS K n u (eVal.l (sel row (x.cols.take i))) (sel row (x.cols.take i)).length 3/\ms=[]) x.cols.length ⟨0,.cst (.slice none 0 0),by simp,by omega,by simp[hF],by simp,by simp[sel,nulls],by simp,by simp,by simp,OwnS.nil _ _ _,rfl⟩ ?_;clear hF F;rintro t F K n ms ⟨i,u,rfl,hi,f1,f7,f8,f14,f15,f16,O,rfl⟩;rw[rowAV]at f1
 by_cases h:i<x.cols.length
 ·have hx:=eInt.ix (ik:=.i64) h;have w:=wrap_nat i (by omega);obtain⟨h2,h3⟩:=hc x.cols[i] (getElem_mem h);obtain⟨k,hk⟩:=Int.eq_ofNat_of_zero_le h2;have hkl:k<row.length:=by omega
  have hy:=ixa_val (k:=.i64) hkl;have hs:=sel_snoc row x.cols i k h hkl hk;rw[eInt_c,hk]at hx;have hsl:(sel row (x.cols.take i)).length<4000000:=by simp;omega
  have hnn:=nulls_snoc (sel row (x.cols.take i)) row[k];rw[<-hs]at hnn;generalize row[k]=v at *;generalize sel row (x.cols.take i)=L at *;have hmin:min (i+1) x.cols.length=(sel row (x.cols.take (i+1))).length:=by simp
  generalize hL':sel row (x.cols.take (i+1))=L' at *;simp[L91_0,R91_4,f15,f16,h,R91_5,f14,hx,R91_6,f1,hy,f7,ld_val,rep,Val.av];refine OwnS.appE (E:=eVal) (x:=v) O (by omega) (by omega) hsl λ H' O' _=>?_;rw[<-hs]at O'
  cases hn:nulls L with
  | true =>
   rw[hn]at f8 hnn;simp[R91_7,f8,R91_8,w,f16,f1,f14,f15,rowAV];exact⟨_,by omega,i+1,rfl,by omega,by rw[hL',hnn];rfl,rfl,by rw[hL',hmin];simpa[hs]using O'⟩
  | false =>
   rw[hn]at f8 hnn;simp[R91_7,f8,R91_8,w,f16,f1,f14,f15,rowAV,hy,ld_kind];exact⟨_,by omega,i+1,rfl,by omega,by rw[hL',hnn];rfl,rfl,by rw[hL',hmin];simpa[hs]using O'⟩
 obtain rfl:i=x.cols.length:=by omega
 rw[take_of_length_le (Nat.le_refl _)]at O f8;simp[L91_0,R91_4,f15,f16,R91_9,f7]
 have hz:Frz K.get u (rowAV (sel row x.cols)):=by
  have:=O.frz (.pure (by simp));rw[eVal_l]at this;exact this
 refine CalV.frz hK (by simp) (.cons _ _ _ _ hz .nil) ?_;simp[R91_10,f8];exact .pure _ (by simp)
theorem Key43 (x:Ixd) (row:List Val) (hl:x.cols.length<=lim) (hr:∀v∈row,v.rng) (hc:ColsIn x.cols row):FnPure pG 43 [eIxd.av x,rowAV row] (.tup [.str (encK (sel row x.cols)).1,.bool (nulls (sel row x.cols)),.int .i64 (encK (sel row x.cols)).2]):=by
 unfold lim at hl;refine pureV c43 (by simp) (by simp) (by simp[A43]) λ F hF=>?_;have hK:=encK72 (sel row x.cols) (sel_rng hr hc);simp[A43,B43,R43_0,R43_1,R43_2,R43_3,hF,Enc.av,eIxd_c];refine LoopV.of (λ t F K n ms=>∃i u,t=x.cols.length - i/\i<=x.cols.length/\F.get 1=some (rowAV row)/\F.get 2=some (.ptr 0 0)/\F.get 7=some u/\F.get 8=some (.bool (nulls (sel row (x.cols.take i))))/\F.get 9=some (.int .i64 (i:Int))/\K.get 0=some (.cells 6 [] [.int .u32 x.id,.int .u32 x.table,.str x.name,eInt.ds x.cols,.bool x.uniq,.int .u32 x.root] .nil)/\0<n/\(∀k,u≠.sl 0 0 k 3)/\OwnS K n u (eVal.l (sel row (x.cols.take i))) (sel row (x.cols.take i)).length 3/\ms=[]) x.cols.length ⟨0,.cst (.slice none 0 0),by simp,by omega,by simp[hF],by simp,by simp,by simp[sel,nulls],by simp,by simp,by omega,by simp,OwnS.nil _ _ _,rfl⟩ ?_;clear hF F;rintro t F K n ms ⟨i,u,rfl,hi,f1,f2,f7,f8,f9,k0,n0,ne,O,rfl⟩;rw[rowAV]at f1
 by_cases h:i<x.cols.length
 ·have hx:=eInt.ix (ik:=.i64) h;have w:=wrap_nat i (by omega);obtain⟨h2,h3⟩:=hc x.cols[i] (getElem_mem h);obtain⟨k,hk⟩:=Int.eq_ofNat_of_zero_le h2;have hkl:k<row.length:=by omega
  have hy:=ixa_val (k:=.i64) hkl;have hs:=sel_snoc row x.cols i k h hkl hk;rw[eInt_c,hk]at hx;have hsl:(sel row (x.cols.take i)).length<4000000:=by simp;omega
  have hnn:=nulls_snoc (sel row (x.cols.take i)) row[k];rw[<-hs]at hnn;generalize row[k]=v at *;generalize sel row (x.cols.take i)=L at *;have hmin:min (i+1) x.cols.length=(sel row (x.cols.take (i+1))).length:=by simp
  generalize hL':sel row (x.cols.take (i+1))=L' at *;simp[L43_0,R43_4,f2,f9,k0,Enc.len_ds,h,R43_5,hx,R43_6,f1,hy,f7,ld_val,rep,Val.av];refine OwnS.appE (E:=eVal) (x:=v) (O.put2 _ _) (by omega) (by omega) hsl λ H' O' hf=>?_;rw[<-hs]at O'
  have k0':H'.get 0=some (.cells 6 [] [.int .u32 x.id,.int .u32 x.table,.str x.name,eInt.ds x.cols,.bool x.uniq,.int .u32 x.root] .nil):=by
   rw[hf 0 (by omega) (ne _),Tr.get_put,if_neg (by omega),Tr.get_put,if_neg (by omega),k0]
  have kn:H'.get n=some (.cells 3 [] [.int .i64 v.kind,.int .i64 v.num,.str v.s] .nil):=by
   rw[hf n (by omega) (λ e=>by
    subst e;obtain⟨_,⟨h,_⟩ | ⟨b,y,h,hb,_⟩⟩:=O
    ·cases h
    injection h with h;omega)]
   simp
  cases hn:nulls L with
  | true =>
   rw[hn]at f8 hnn;simp[R43_7,f8,R43_8,w,f9,f1,f2,rowAV];exact⟨_,by omega,i+1,rfl,by omega,by rw[hL',hnn];rfl,rfl,k0',by rw[hL',hmin];simpa[hs]using O'⟩
  | false =>
   rw[hn]at f8 hnn;simp[R43_7,f8,R43_8,w,f9,f1,f2,rowAV,kn];exact⟨_,by omega,i+1,rfl,by omega,by rw[hL',hnn];rfl,rfl,k0',by rw[hL',hmin];simpa[hs]using O'⟩
 obtain rfl:i=x.cols.length:=by omega
 rw[take_of_length_le (Nat.le_refl _)]at O f8;simp[L43_0,R43_4,f2,f9,k0,Enc.len_ds,R43_9,f7]
 have hz:Frz K.get u (rowAV (sel row x.cols)):=by
  have:=O.frz (.pure (by simp));rw[eVal_l]at this;exact this
 refine CalV.frz hK (by simp) (.cons _ _ _ _ hz .nil) ?_;simp[R43_10,f8];exact .pure _ (by simp)
theorem cmpL_cons (a b:Nat) (x y:List Nat):cmpL (a::x) (b::y)=if a=b then cmpL x y else if a<b then -1 else 1:=by
 simp only[cmpL]
 by_cases e:a=b
 ·subst e;simp
 rw[show Nat.beq a b=false by simpa using e,if_neg e];dsimp only
 by_cases h:a<b
 ·rw[show Nat.blt a b=true by rw[Nat.blt_eq];exact h,if_pos h]
 rw[show Nat.blt a b=false by cases q:Nat.blt a b with
  | false=>rfl
  | true=>rw[Nat.blt_eq]at q;exact absurd q h,if_neg h]
theorem cmpL_neg:∀a b:List Nat,cmpL b a = - cmpL a b
 | [],[]=>rfl
 | [],_::_=>rfl
 | _::_,[]=>rfl
 | a :: x,b::y=>by
  rw[cmpL_cons,cmpL_cons]
  by_cases e:a=b
  ·subst e;simp[cmpL_neg x y]
  rw[if_neg e,if_neg (Ne.symm e)]
  by_cases h:a<b
  ·rw[if_pos h,if_neg (by omega)];rfl
  rw[if_neg h,if_pos (by omega)]
theorem rk_inj {k q:Int}(hk:k=0∨k=1∨k=2∨k=3)(hq:q=0∨q=1∨q=2∨q=3):rk k=rk q↔k=q:=by
 rcases hk with rfl | rfl | rfl | rfl<;>rcases hq with rfl | rfl | rfl | rfl<;>decide
theorem ord_neg {a b:Val}(ha:a.may=true)(hb:b.may=true):b.ord a = - a.ord b:=by
 have hi:=rk_inj (Val.may_kind ha) (Val.may_kind hb);unfold Val.ord
 by_cases e:a.kind=b.kind
 ·rw[if_pos e,if_pos e.symm]
  by_cases e2:a.kind=2
  ·rw[if_pos e2,if_pos (by omega),cmpL_neg]
  rw[if_neg e2,if_neg (by omega)]
  repeat' split
  all_goals omega
 rw[if_neg e,if_neg (Ne.symm e)];have:rk a.kind≠rk b.kind:=λ h=>e (hi.1 h)
 repeat' split
 all_goals omega
def rMay (r:List Val):Prop:=∀v∈r,v.may=true
theorem cV_may {a b:Val}(ha:a.may=true)(hb:b.may=true):cV a b=a.ord b:=by simp[cV,ha,hb]
theorem rowO_neg:∀ {l m:List Val},rMay l->rMay m->rowO m l = - rowO l m
 | [],[],_,_=>by simp[rowO]
 | [],_::_,_,_=>by simp[rowO]
 | _::_,[],_,_=>by simp[rowO]
 | a::l,b::m,hl,hm=>by
  have ha:=hl a (by simp);have hb:=hm b (by simp);have ih:=rowO_neg (l:=l) (m:=m) (λ v hv=>hl v (by simp[hv])) (λ v hv=>hm v (by simp[hv]));rw[rowO,rowO,cV_may ha hb,cV_may hb ha,ord_neg ha hb,ih]
  by_cases e:a.ord b=0
  ·simp[e]
  simp[e]
theorem rowR_le:∀ {l m:List Val},rMay l->rMay m->(rowR l m<=0↔rowO l m<=0)
 | [],[],_,_=>by simp[rowR,rowO]
 | [],_::_,_,_=>by simp[rowR,rowO];omega
 | _::_,[],_,_=>by simp[rowR,rowO]
 | a::l,b::m,hl,hm=>by
  have ha:=hl a (by simp);have hb:=hm b (by simp);have ih:=rowR_le (l:=l) (m:=m) (λ v hv=>hl v (by simp[hv])) (λ v hv=>hm v (by simp[hv]));rw[rowR,rowO,cV_may ha hb]
  by_cases e:a.ord b=0
  ·simp[e,ih]
  simp[e]
def lst (a b:Int):Int:=if a=0 then b else if b=0 then a else min a b
theorem Least40 (a b:Int):FnPure pG 40 [.int .i64 a,.int .i64 b] (.int .i64 (lst a b)):=by
 refine pureV c40 (by simp) (by simp) (by simp[A40]) λ F hF=>?_;unfold lst
 by_cases h1:a=0
 ·simp[A40,B40,R40_0,R40_1,R40_2,hF,h1];exact .pure _ (by simp)
 by_cases h2:b=0
 ·simp[A40,B40,R40_0,R40_1,R40_3,R40_4,hF,h1,h2];exact .pure _ (by simp)
 have hm:minR .i64 a [.int .i64 b]=some (.int .i64 (min a b)):=by
  unfold minR;simp[minR];omega
 simp[A40,B40,R40_0,R40_1,R40_3,R40_5,hF,h1,h2,eMnx,minI,hm];exact .pure _ (by simp)
theorem first88 (H:Hp)(n:Nat):CallR pG 88 [] H n (λ u K k=>u=.fn (.func 117) [] [.ptr n 0]/\K=(H.put n (some (.cells 1 [] [.int .i64 0] .nil))).put n (some (.cells 1 [] [.int .i64 0] .nil))/\k=n+1):=by
 refine CallR.of c88 (by simp[A88]) λ F hF=>?_;simp[A88,B88,R88_0,R88_1,R88_2]
theorem first117 {H:Hp}{n p:Nat}(a b:Int)(hp:H.get p=some (.cells 1 [] [.int .i64 a] .nil)):CallR pG 117 [.int .i64 b,.ptr p 0] H n (λ u K k=>u=.int .i64 (lst a b)/\K.get p=some (.cells 1 [] [.int .i64 (lst a b)] .nil)/\k=n/\∀c,c≠p->K.get c=H.get c):=by
 refine CallR.of c117 (by simp[A117]) λ F hF=>?_;unfold lst
 by_cases h2:b=0
 ·simp[A117,B117,R117_0,R117_1,R117_3,hF,hp,h2]
 by_cases h1:a=0
 ·subst h1;simp[A117,B117,R117_0,R117_1,R117_2,R117_3,hF,hp,h2];intro c hc;simp[hc]
 by_cases h3:b<a
 ·simp[A117,B117,R117_0,R117_1,R117_2,R117_3,hF,hp,h1,h2,h3];have:min a b=b:=by omega
  simp[this];intro c hc;simp[hc]
 simp[A117,B117,R117_0,R117_1,R117_3,hF,hp,h1,h2,h3]
 try omega
def mpS:Nat->List (List Nat)->List (AV×AV×Nat)
 | _,[]=>[]
 | i,x::r=>(.str x,.int .i64 1,i)::mpS (i+1) r
theorem mpS_add (x:List Nat):∀(l:List (List Nat))(i:Nat),mpS i (l++[x])=mpS i l++[(.str x,.int .i64 1,i+l.length)]
 | [],i=>by simp[mpS]
 | y::r,i=>by simp[mpS,mpS_add x r (i+1)];omega
theorem eqLeaf_s (a b:List Nat):eqLeaf .s (.str a) (.str b)=some (decide (a=b)):=by
 simp only[eqLeaf,eqNats_eq]
 congr 1
 rw[Bool.eq_iff_iff];simp
theorem find_s (k:List Nat):∀(l:List (List Nat))(i:Nat),findKey .s (.str k) (mpS i l)=some (if k∈l then some (.int .i64 1)else none)
 | [],i=>rfl
 | y::r,i=>by
  simp only[mpS,findKey,eqLeaf_s]
  by_cases h:k=y
  ·simp[h]
  simp[h,find_s k r (i+1)]
theorem set_sn (k:List Nat)(v:AV):∀(l:List (List Nat))(i:Nat),k∉l->setKey .s (.str k) v (mpS i l)=some none
 | [],i,_=>rfl
 | y::r,i,h=>by
  simp only[mem_cons,not_or]at h;simp only[mpS,setKey,eqLeaf_s];simp[h.1,set_sn k v r (i+1) h.2]
theorem set_sy (k:List Nat)(v:AV):∀(l:List (List Nat))(i:Nat),k∈l->∃es,setKey .s (.str k) v (mpS i l)=some (some es)/\findKey .s (.str k) es=some (some v)
 | [],i,h=>by simp at h
 | y :: r,i,h=>by
  simp only[mpS,setKey,eqLeaf_s]
  by_cases e:k=y
  ·subst e;simp[findKey,eqLeaf_s]
  have h2:k∈r:=by simpa[e]using h
  obtain⟨es,h3,h4⟩:=set_sy k v r (i+1) h2;simp[e,h3,findKey,eqLeaf_s,h4]
theorem find_sa (k:List Nat)(l:List (List Nat))(i:Nat):findKey .s (.str k) (mpS i l++[(.str k,.int .i64 1,i+l.length)])=some (some (.int .i64 1)):=by
 rw[<-mpS_add,find_s];simp
def kOpt (cols:List Int)(r:List Val):List (List Nat):=if nulls (sel r cols)=true then []else [(encK (sel r cols)).1]
def kList (cols:List Int)(rows:List (List Val)):List (List Nat):=rows.flatMap (kOpt cols)
theorem kList_snoc (cols:List Int)(rows:List (List Val))(i:Nat)(h:i<rows.length):kList cols (rows.take (i+1))=kList cols (rows.take i)++kOpt cols rows[i]:=by
 unfold kList;rw[take_snoc h,flatMap_append];simp
theorem kList_len (cols:List Int)(rows:List (List Val)):(kList cols rows).length<=rows.length:=by
 induction rows with
 | nil=>simp[kList]
 | cons a r ih =>
  have e:kList cols (a::r)=kOpt cols a++kList cols r:=rfl;rw[e,length_append,length_cons];unfold kOpt;split<;>simp<;>omega
theorem kList_pre (cols:List Int)(rows:List (List Val))(i:Nat):∃l,kList cols rows=kList cols (rows.take i)++l:=⟨kList cols (rows.drop i),by
 unfold kList;rw[<-flatMap_append,take_append_drop]⟩
theorem twice92 (x:Ixd) (rows:List (List Val)) (hl:x.cols.length<=lim) (hrl:rows.length<=lim) (hr:∀r∈rows,(∀v∈r,v.rng)/\ColsIn x.cols r):FnPure pG 92 [eIxd.av x,.ds (rowsC rows) rows.length 1] (.bool (decide (¬(kList x.cols rows).Nodup))):=by
 unfold lim at hrl;refine pureV c92 (by simp) (by simp) (by simp[A92]) λ F hF=>?_;simp[A92,B92,R92_0,R92_1,R92_2,hF,Enc.av,eIxd_c,eMkmap];refine LoopV.of (λ t F K n ms=>∃i c,t=rows.length - i/\i<=rows.length/\F.get 2=some (.ptr 0 0)/\F.get 5=some (.map 1)/\F.get 12=some (.ds (rowsC rows) rows.length 1)/\F.get 13=some (.int .i64 (rows.length:Int))/\F.get 14=some (.int .i64 (i:Int))/\K.get 0=some (.cells 6 [] [.int .u32 x.id,.int .u32 x.table,.str x.name,eInt.ds x.cols,.bool x.uniq,.int .u32 x.root] .nil)/\K.get 1=some (.map (mpS 0 (kList x.cols (rows.take i))) c)/\c=(kList x.cols (rows.take i)).length/\(kList x.cols (rows.take i)).Nodup/\ms=[]) rows.length ⟨0,0,by simp,by omega,by simp,by simp,by simp,by simp,by simp,by simp,by simp[kList,mpS],by simp[kList],by simp[kList],rfl⟩ ?_;clear hF F;rintro t F K n ms ⟨i,c,rfl,hi,f2,f5,f12,f13,f14,k0,k1,rfl,nd,rfl⟩
 by_cases h:i<rows.length
 ·have hx:=ixa_row (k:=.i64) h;have w:=wrap_nat i (by omega);have hs:=kList_snoc x.cols rows i h;obtain⟨h1,h2⟩:=hr rows[i] (getElem_mem h);have hk:=key91 x rows[i] hl h1 h2;simp only[Enc.av,eIxd_c]at hk;obtain⟨rest,hpre⟩:=kList_pre x.cols rows (i+1);have hlen:=kList_len x.cols (rows.take i);generalize rows[i]=r at *;generalize kList x.cols (rows.take i)=l at *;simp[L92_0,R92_3,f13,f14,h,R92_4,f12,hx,R92_5,f2,k0];refine CalV.pure hk ?_
  cases hn:nulls (sel r x.cols)with
  | true =>
   have e:kOpt x.cols r=[]:=by unfold kOpt;rw[if_pos hn]
   rw[e,append_nil]at hs;simp[R92_6,R92_10,f14,w,f2,f5,f12,f13,k0,k1];exact⟨_,by omega,i+1,rfl,by omega,rfl,l.length,⟨by rw[hs],rfl⟩,by rw[hs],by rw[hs];exact nd⟩
  | false =>
   have e:kOpt x.cols r=[(encK (sel r x.cols)).1]:=by unfold kOpt;rw[hn];rfl
   rw[e]at hs;generalize (encK (sel r x.cols)).1=q at *
   by_cases hm:q∈l
   ·obtain⟨es,hs1,hs2⟩:=set_sy q (.int .i64 2) l 0 hm
    have:¬(kList x.cols rows).Nodup:=λ hd=>by
     rw[hpre,hs]at hd;have:=(nodup_append.1 (nodup_append.1 hd).1).2.2;exact this q hm q (by simp) rfl
    simp[R92_6,R92_7,f5,k1,cLookup,cMput,isKey,find_s,hm,hs1,hs2,R92_8,R92_9];exact .bool (by simp[this])
   have hs1:=set_sn q (.int .i64 1) l 0 hm;have hs2:=find_sa q l 0;simp only[Nat.zero_add]at hs2;simp[R92_6,R92_7,f5,k1,cLookup,cMput,isKey,find_s,hm,hs1,hs2,R92_8,R92_10,f14,w,f2,f12,f13,k0];refine⟨_,by omega,i+1,rfl,by omega,rfl,l.length+1,⟨by rw[hs,mpS_add];simp,rfl⟩,by rw[hs];simp,?_⟩;rw[hs];exact nodup_append.2 ⟨nd,by simp,by rintro a ha b hb rfl;simp at hb;subst hb;exact hm ha⟩
 obtain rfl:i=rows.length:=by omega
 rw[take_of_length_le (Nat.le_refl _)]at nd;simp[L92_0,R92_3,f13,f14,R92_11];exact .bool (by simp[nd])
theorem Unlike20a (x:Ixd) (xs:List Ixd) (j:Nat) (hj:j<xs.length) (hxj:xs[j]=x) (rows:List (List Val)) (hl:x.cols.length<=lim) (hrl:rows.length<=lim) (hr:∀r∈rows,(∀v∈r,v.rng)/\ColsIn x.cols r) (F:Fr) (K:Hp) (n q:Nat) (Q:QA) (f2:F.get 2=some (.ds (rowsC rows) rows.length 1)) (f7:F.get 7=some (eIxd.ds xs)) (f8:F.get 8=some (.int .i64 (j:Int))) (f9:F.get 9=some (.map q)) (f10:F.get 10=some (.int .i64 0)) (kq:K.get q=some (.map [] 0))
  (k1:¬(kList x.cols rows).Nodup->∀F' K',F'.get 6=some (.bool false)->Q .ret F' K' n [])
  (k2:(kList x.cols rows).Nodup->∀F' K',F'.get 2=F.get 2->F'.get 7=F.get 7->F'.get 8=F.get 8->(∀c,c≠q->K'.get c=K.get c)->Q (.exit 2) F' K' n []):LoopV L20_0 pG F K n [] Q:=by
 unfold lim at hrl;refine LoopV.of (λ t F' K' n' ms=>∃i c,t=rows.length - i/\i<=rows.length/\F'.get 2=F.get 2/\F'.get 7=F.get 7/\F'.get 8=F.get 8/\F'.get 9=some (.map q)/\F'.get 10=some (.int .i64 (i:Int))/\K'.get q=some (.map (mpS 0 (kList x.cols (rows.take i))) c)/\c=(kList x.cols (rows.take i)).length/\(kList x.cols (rows.take i)).Nodup/\(∀c,c≠q->K'.get c=K.get c)/\n'=n/\ms=[]) rows.length ⟨0,0,by simp,by omega,rfl,rfl,rfl,f9,f10,by simpa[kList,mpS]using kq,by simp[kList],by simp[kList],λ _ _=>rfl,rfl,rfl⟩ ?_;rintro t F' K' n' ms ⟨i,c,rfl,hi,g2,g7,g8,g9,g10,kq',rfl,nd,hk',rfl,rfl⟩;have g2':=g2.trans f2;have g7':=g7.trans f7;have g8':=g8.trans f8
 by_cases h:i<rows.length
 ·have hx:=ixa_row (k:=.i64) h;have hy:=eIxd.ix (ik:=.i64) hj;have w:=wrap_nat i (by omega);have hs:=kList_snoc x.cols rows i h;obtain⟨h1,h2⟩:=hr rows[i] (getElem_mem h);have hk:=Key43 x rows[i] hl h1 h2;simp only[Enc.av,eIxd_c]at hk;obtain⟨rest,hpre⟩:=kList_pre x.cols rows (i+1);have hlen:=kList_len x.cols (rows.take i);rw[hxj,eIxd_c]at hy;generalize rows[i]=r at *;generalize kList x.cols (rows.take i)=l at *;simp[L20_0,R20_7,g10,g2',h,R20_8];refine DrwV.of (ceT_ok (l:=[(43,[.agg [.int .u32 x.id,.int .u32 x.table,.str x.name,eInt.ds x.cols,.bool x.uniq,.int .u32 x.root] 6,rowAV r],λ H n=>.mk (.tup [.str (encK (sel r x.cols)).1,.bool (nulls (sel r x.cols)),.int .i64 (encK (sel r x.cols)).2]) H n)]) ?_) ?_
  ·simp only[mem_singleton];rintro y rfl;exact ceT_pure hk
  cases hn:nulls (sel r x.cols)with
  | true =>
   have e:kOpt x.cols r=[]:=by unfold kOpt;rw[if_pos hn]
   rw[e,append_nil]at hs;simp[clearF_get,g7',g8',hy,ixdLd,g2',g10,hx,ceT_hd,R20_9,R20_13,w,g9,kq',f2,f7,f8];exact⟨_,by omega,i+1,rfl,by omega,rfl,l.length,⟨by rw[hs],rfl⟩,by rw[hs],by rw[hs];exact nd,hk'⟩
  | false =>
   have e:kOpt x.cols r=[(encK (sel r x.cols)).1]:=by unfold kOpt;rw[hn];rfl
   rw[e]at hs;generalize (encK (sel r x.cols)).1=q0 at *
   by_cases hm:q0∈l
   ·obtain⟨es,hs1,hs2⟩:=set_sy q0 (.int .i64 2) l 0 hm
    have hnd:¬(kList x.cols rows).Nodup:=λ hd=>by
     rw[hpre,hs]at hd;have:=(nodup_append.1 (nodup_append.1 hd).1).2.2;exact this q0 hm q0 (by simp) rfl
    simp[clearF_get,g7',g8',hy,ixdLd,g2',g10,hx,ceT_hd,R20_9,R20_10,g9,kq',cLookup,cMput,isKey,find_s,hm,hs1,hs2,R20_11,R20_12];exact k1 hnd _ _ (by simp)
   have hs1:=set_sn q0 (.int .i64 1) l 0 hm;have hs2:=find_sa q0 l 0;simp only[Nat.zero_add]at hs2;simp[clearF_get,g7',g8',hy,ixdLd,g2',g10,hx,ceT_hd,R20_9,R20_10,g9,kq',cLookup,cMput,isKey,find_s,hm,hs1,hs2,R20_11,R20_13,w,f2,f7,f8];refine⟨_,by omega,i+1,rfl,by omega,rfl,l.length+1,⟨by rw[hs,mpS_add];simp,rfl⟩,by rw[hs];simp,?_,?_⟩
   ·rw[hs];exact nodup_append.2 ⟨nd,by simp,by rintro a ha b hb rfl;simp at hb;subst hb;exact hm ha⟩
   intro c hc;simp[hc];exact hk' c hc
 obtain rfl:i=rows.length:=by omega
 rw[take_of_length_le (Nat.le_refl _)]at nd;simp[L20_0,R20_7,g10,g2'];refine k2 nd _ _ ?_ ?_ ?_ hk'
 ·simp[g2',f2]
 ·simp[g7',f7]
 simp[g8',f8]
def UniqOk (s:Sch)(id:Int)(rows:List (List Val)):Prop:=∀x∈s.on id,x.uniq=true->(kList x.cols rows).Nodup
theorem Unlike20 (s:Sch) (t:Tbl) (hs:s.indexes.length<=lim) (hc:∀x∈s.indexes,x.cols.length<=lim) (rows:List (List Val)) (hrl:rows.length<=lim) (hr:∀r∈rows,∀v∈r,v.rng) (hin:∀x∈s.on t.id,∀r∈rows,ColsIn x.cols r):FnPure pG 20 [eSch.av s,eTbl.av t,.ds (rowsC rows) rows.length 1] (.bool (decide (UniqOk s t.id rows))):=by
 refine pureV c20 (by simp) (by simp) (by simp[A20]) λ F hF=>?_;have hon:=On42 s hs t.id;simp only[Enc.av,eSch_c]at hon;have hsub:∀x∈s.on t.id,x∈s.indexes:=λ x hx=>(mem_filter.1 hx).1;have hlen:(s.on t.id).length<=lim:=Nat.le_trans (length_filter_le _ _) hs;unfold lim at hlen;simp[A20,B20,R20_0,R20_1,hF,Enc.av,eSch_c,eTbl_c];refine CalV.pure hon ?_;unfold UniqOk;generalize s.on t.id=xs at *;simp[R20_2];refine LoopV.of (λ r F K n ms=>∃j,r=xs.length - j/\j<=xs.length/\F.get 2=some (.ds (rowsC rows) rows.length 1)/\F.get 7=some (eIxd.ds xs)/\F.get 8=some (.int .i64 (j:Int))/\(∀x∈xs.take j,x.uniq=true->(kList x.cols rows).Nodup)/\ms=[]) xs.length ⟨0,by simp,by omega,by simp[hF],by simp,by simp,by simp,rfl⟩ ?_;clear hF F;rintro r F K n ms ⟨j,rfl,hj,f2,f7,f8,hk,rfl⟩
 by_cases h:j<xs.length
 ·have hy:=eIxd.ix (ik:=.i64) h;have w:=wrap_nat j (by omega);have hxm:xs[j]∈xs:=getElem_mem h;have hms:∀x∈xs.take (j+1),x∈xs.take j∨x=xs[j]:=λ x hx=>by rwa [take_snoc h,mem_append,mem_singleton]at hx
  have key:=Unlike20a xs[j] xs j h rfl rows (hc _ (hsub _ hxm)) hrl (λ r hr'=>⟨hr r hr',hin _ hxm r hr'⟩);rw[eIxd_c]at hy;generalize xs[j]=x at *
  cases hu:x.uniq with
  | false =>
   simp[L20_1,R20_3,f7,f8,Enc.len_ds,h,R20_4,hy,hu,R20_14,w,f2];refine⟨_,by omega,j+1,rfl,by omega,rfl,λ y hy' hyu=>?_⟩
   rcases hms y hy' with h1 | rfl
   ·exact hk y h1 hyu
   rw[hu]at hyu;cases hyu
  | true =>
   simp[L20_1,R20_3,f7,f8,Enc.len_ds,h,R20_4,hy,hu,R20_5,eMkmap,R20_6];refine key _ _ _ n _ (by simp[f2]) (by simp[f7]) (by simp[f8]) (by simp) (by simp) (by simp) (λ hnd F' K' f6=>?_) λ hnd F' K' g2 g7 g8 _=>?_
   ·have:¬ ∀x∈xs,x.uniq=true->(kList x.cols rows).Nodup:=λ h1=>hnd (h1 x hxm hu);simp[f6];exact .bool (by symm;rw[decide_eq_false_iff_not];exact this)
   simp[f2,f7,f8]at g2 g7 g8;simp[R20_14,w,g2,g7,g8];refine⟨_,by omega,j+1,rfl,by omega,rfl,λ y hy' hyu=>?_⟩
   rcases hms y hy' with h1 | rfl
   ·exact hk y h1 hyu
   exact hnd
 obtain rfl:j=xs.length:=by omega
 rw[take_of_length_le (Nat.le_refl _)]at hk;simp[L20_1,R20_3,f7,f8,Enc.len_ds,R20_15];exact .bool (by symm;simpa using hk)
def kErr (row:List Val):List Ixd->Int
 | []=>0
 | x::xs=>if (encK (sel row x.cols)).2=0 then kErr row xs else (encK (sel row x.cols)).2
def wErr (s:Sch)(t:Tbl)(row:List Val):Int:=if (encE t.cols row).2=0 then kErr row (s.on t.id)else (encE t.cols row).2
def allW (s:Sch)(t:Tbl)(rows:List (List Val)):Int:=rows.foldl (λ a r=>lst a (wErr s t r)) 0
theorem kErr_drop {row:List Val}{xs:List Ixd}{j:Nat}(h:j<xs.length):kErr row (xs.drop j)=if (encK (sel row xs[j].cols)).2=0 then kErr row (xs.drop (j+1))else (encK (sel row xs[j].cols)).2:=by
 rw[drop_eq_getElem_cons h];rfl
theorem Written41 (s:Sch) (t:Tbl) (row:List Val) (hs:s.indexes.length<=lim) (hc:∀x∈s.indexes,x.cols.length<=lim) (hv:row.length<=lim) (hr:∀v∈row,v.rng) (hin:row.length=t.cols.length->∀x∈s.on t.id,ColsIn x.cols row):FnPure pG 41 [eSch.av s,eTbl.av t,rowAV row] (.int .i64 (wErr s t row)):=by
 refine pureV c41 (by simp) (by simp) (by simp[A41]) λ F hF=>?_;have hon:=On42 s hs t.id;have he:=enc71 t.cols row hv hr;simp only[Enc.av,eSch_c]at hon;have hsub:∀x∈s.on t.id,x∈s.indexes:=λ x hx=>(mem_filter.1 hx).1;have hlen:(s.on t.id).length<=lim:=Nat.le_trans (length_filter_le _ _) hs;unfold lim at hlen;unfold wErr;simp[A41,B41,R41_0,R41_1,hF,Enc.av,eSch_c,eTbl_c];refine CalV.pure he ?_
 by_cases h0:(encE t.cols row).2=0
 ·have hl:row.length=t.cols.length:=by
   unfold encE at h0
   split at h0
   ·rename_i h;exact(fitE_ok h).2.1
   rename_i h;exact absurd h0 h
  have hin:=hin hl;simp[R41_2,h0,R41_4];refine CalV.pure hon ?_;generalize s.on t.id=xs at *;simp[R41_5];refine LoopV.of (λ r F K n ms=>∃j,r=xs.length - j/\j<=xs.length/\F.get 2=some (rowAV row)/\F.get 9=some (eIxd.ds xs)/\F.get 10=some (.int .i64 (j:Int))/\kErr row xs=kErr row (xs.drop j)/\ms=[]) xs.length ⟨0,by simp,by omega,by simp[hF],by simp,by simp,rfl,rfl⟩ ?_;clear hF F;rintro r F K n ms ⟨j,rfl,hj,f2,f9,f10,hk,rfl⟩
  by_cases h:j<xs.length
  ·have hy:=eIxd.ix (ik:=.i64) h;have w:=wrap_nat j (by omega);have hxm:xs[j]∈xs:=getElem_mem h;have hkey:=Key43 xs[j] row (hc _ (hsub _ hxm)) hr (hin _ hxm);simp only[Enc.av,eIxd_c]at hkey;rw[kErr_drop h]at hk;rw[eIxd_c]at hy;rw[hk];generalize xs[j]=x at *;simp[L41_0,R41_6,f9,f10,Enc.len_ds,h,R41_7,hy,ixdLd,f2];refine CalV.pure hkey ?_
   by_cases h1:(encK (sel row x.cols)).2=0
   ·simp[R41_8,h1,R41_10,f10,w,f2,f9];exact⟨_,by omega,j+1,rfl,by omega,rfl,rfl⟩
   simp[R41_8,h1,R41_9];exact .pure _ (by simp)
  obtain rfl:j=xs.length:=by omega
  rw[hk];simp[L41_0,R41_6,f9,f10,Enc.len_ds,R41_11,kErr];exact .pure _ (by simp)
 simp[R41_2,h0,R41_3];exact .pure _ (by simp)
theorem AllWritten19 (s:Sch)(t:Tbl)(rows:List (List Val))(hs:s.indexes.length<=lim)(hc:∀x∈s.indexes,x.cols.length<=lim)(hrl:rows.length<=lim)(hv:∀r∈rows,r.length<=lim/\∀v∈r,v.rng)(hin:∀r∈rows,r.length=t.cols.length->∀x∈s.on t.id,ColsIn x.cols r):FnPure pG 19 [eSch.av s,eTbl.av t,.ds (rowsC rows) rows.length 1] (.int .i64 (allW s t rows)):=by
 unfold lim at hrl;refine pureV c19 (by simp) (by simp) (by simp[A19]) λ F hF=>?_;simp[A19,B19,R19_0,R19_1,R19_2,hF,Enc.av,eSch_c,eTbl_c];refine LoopV.of (λ q F K n ms=>∃i,q=rows.length - i/\i<=rows.length/\F.get 2=some (.ds (rowsC rows) rows.length 1)/\F.get 3=some (.ptr 0 0)/\F.get 4=some (.ptr 1 0)/\F.get 7=some (.int .i64 (allW s t (rows.take i)))/\F.get 8=some (.int .i64 (i:Int))/\K.get 0=some (.cells 2 [] [eTbl.ds s.tables,eIxd.ds s.indexes] .nil)/\K.get 1=some (.cells 4 [] [.int .u32 t.id,.str t.name,eCol.ds t.cols,.int .u32 t.head] .nil)/\ms=[]) rows.length ⟨0,by simp,by omega,by simp[hF],by simp,by simp,by simp[allW],by simp,by simp,by simp,rfl⟩ ?_;clear hF F;rintro q F K n ms ⟨i,rfl,hi,f2,f3,f4,f7,f8,k0,k1,rfl⟩
 by_cases h:i<rows.length
 ·have hx:=ixa_row (k:=.i64) h;have w:=wrap_nat i (by omega);obtain⟨h1,h2⟩:=hv rows[i] (getElem_mem h);have hw:=Written41 s t rows[i] hs hc h1 h2 (hin _ (getElem_mem h));have hls:=Least40 (allW s t (rows.take i)) (wErr s t rows[i]);have hsn:allW s t (rows.take (i+1))=lst (allW s t (rows.take i)) (wErr s t rows[i]):=by unfold allW;rw[take_snoc h,List.foldl_append];rfl
  simp only[Enc.av,eSch_c,eTbl_c]at hw;generalize allW s t (rows.take i)=a at *;generalize wErr s t rows[i]=b at *;generalize rows[i]=r at *;simp[L19_0,R19_3,f2,f8,h,R19_4];refine DrwV.of (ceT_ok (l:=[(41,[.agg [eTbl.ds s.tables,eIxd.ds s.indexes] 2,.agg [.int .u32 t.id,.str t.name,eCol.ds t.cols,.int .u32 t.head] 4,rowAV r],λ H n=>.mk (.int .i64 b) H n),(40,[.int .i64 a,.int .i64 b],λ H n=>.mk (.int .i64 (lst a b)) H n)]) ?_) ?_
  ·simp only[mem_cons,not_mem_nil,or_false];rintro y (rfl | rfl)
   ·exact ceT_pure hw
   exact ceT_pure hls
  have t1:∀(H:Hp) (n:Nat),(ceT [((41:Nat),[.agg [eTbl.ds s.tables,eIxd.ds s.indexes] 2,.agg [.int .u32 t.id,.str t.name,eCol.ds t.cols,.int .u32 t.head] 4,rowAV r],λ H n=>.mk (.int .i64 b) H n),(40,[.int .i64 a,.int .i64 b],λ H n=>.mk (.int .i64 (lst a b)) H n)]).call 40 [.int .i64 a,.int .i64 b] H n=noPan (.mk (.int .i64 (lst a b)) H n):=λ H n=>by
   rw[ceT_tl (λ e=>by cases e),ceT_hd]
  simp[clearF_get,f2,f3,f4,f7,f8,k0,k1,hx,ceT_hd,t1,R19_5,w];exact⟨_,by omega,i+1,rfl,by omega,by rw[hsn],rfl⟩
 obtain rfl:i=rows.length:=by omega
 rw[take_of_length_le (Nat.le_refl _)]at f7;simp[L19_0,R19_3,f2,f8,R19_6,f7];exact .pure _ (by simp)
end Go.Abs
