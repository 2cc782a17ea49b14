/- A part. -/
import Derived.Test.YtbdgioomddkglaaGreatBt2
noncomputable section
namespace Go.Abs
open List
open Go.Proofs
open Classical
set_option maxRecDepth 100000
theorem wrap_sm (i:Int)(h1 : -2147483648<=i)(h2:i<2147483648):IntKind.i64.wrap i=i:=by
 simp[IntKind.wrap,IntKind.signed,IntKind.bits];omega
theorem may22 (v:Val):FnPure pG 97 [v.av] (.bool v.may):=by
 obtain⟨k,i,s⟩:=v;refine pureV c97 (by simp) (by simp) (by simp[A97]) λ F hF=>?_;simp only[Val.may]
 by_cases h0:k=0
 ·subst h0
  by_cases hi:i=0
  ·simp[A97,B97,R97_0,R97_1,R97_2,hF,Val.av,hi];exact .bool (by simp)
  simp[A97,B97,R97_0,R97_1,R97_2,hF,Val.av,hi];exact .bool (by simp)
 by_cases h1:k=1
 ·subst h1;simp[A97,B97,R97_0,R97_1,R97_3,R97_4,hF,Val.av];exact .bool (by simp)
 by_cases h2:k=2
 ·subst h2
  by_cases hi:i=0
  ·simp[A97,B97,R97_0,R97_1,R97_3,R97_5,R97_6,hF,Val.av,hi];exact .bool (by simp;omega)
  simp[A97,B97,R97_0,R97_1,R97_3,R97_5,R97_6,hF,Val.av,hi];exact .bool (by simp)
 by_cases h3:k=3
 ·subst h3
  by_cases hs:s=[]
  ·by_cases hi:0<=i
   ·simp[A97,B97,R97_0,R97_1,R97_3,R97_5,R97_7,hF,Val.av,hi,hs];exact .bool (by rw[Bool.eq_iff_iff];simp;omega)
   simp[A97,B97,R97_0,R97_1,R97_3,R97_5,R97_7,hF,Val.av,hi,hs];exact .bool (by simp;omega)
  simp[A97,B97,R97_0,R97_1,R97_3,R97_5,R97_7,hF,Val.av,hs];exact .bool (by simp)
 simp[A97,B97,R97_0,R97_1,R97_3,R97_5,R97_7,hF,Val.av,h0,h1,h2,h3];exact .bool (by simp)
@[simp] theorem cCmpS_str (a b:List Nat):cCmpS (.str a) (.str b)=.val (.int .i64 (cmpL a b)):=Eq.trans rfl rfl
def rk (k:Int):Int:=if k=2 then 3 else if k=1 then 2 else if k=3 then 1 else 0
def pl (k:Int):Int:=if k=0 then 0 else if k=3 then 1 else if k=1 then 2 else 3
theorem rank42 (k:Int):FnPure pG 145 [.int .i64 k] (.int .i64 (rk k)):=by
 refine pureV c145 (by simp) (by simp) (by simp[A145]) λ F hF=>?_;unfold rk
 by_cases h2:k=2
 ·subst h2;simp[A145,B145,R145_0,R145_1,R145_2,R145_3,R145_6,R145_7,R145_8,R145_9,hF,wrap_sm];exact .pure _ (by simp)
 by_cases h1:k=1
 ·subst h1;simp[A145,B145,R145_0,R145_1,R145_2,R145_3,R145_4,R145_7,R145_8,R145_9,hF,wrap_sm];exact .pure _ (by simp)
 by_cases h3:k=3
 ·subst h3;simp[A145,B145,R145_0,R145_1,R145_2,R145_3,R145_4,R145_5,R145_8,R145_9,hF,wrap_sm];exact .pure _ (by simp)
 simp[A145,B145,R145_0,R145_1,R145_2,R145_3,R145_4,R145_5,R145_9,hF,h1,h2,h3];exact .pure _ (by simp)
theorem place44 (k:Int):FnPure pG 73 [.int .i64 k] (.int .i64 (pl k)):=by
 refine pureV c73 (by simp) (by simp) (by simp[A73]) λ F hF=>?_;unfold pl
 by_cases h0:k=0
 ·subst h0;simp[A73,B73,R73_0,R73_1,R73_2,hF];exact .pure _ (by simp)
 by_cases h3:k=3
 ·subst h3;simp[A73,B73,R73_0,R73_1,R73_3,R73_4,hF];exact .pure _ (by simp)
 by_cases h1:k=1
 ·subst h1;simp[A73,B73,R73_0,R73_1,R73_3,R73_5,R73_6,hF];exact .pure _ (by simp)
 simp[A73,B73,R73_0,R73_1,R73_3,R73_5,R73_7,hF,h0,h1,h3];exact .pure _ (by simp)
theorem cmps64 (a b:List Nat):FnPure pG 184 [.str a,.str b] (.int .i64 (cmpL a b)):=by
 refine pureV c184 (by simp) (by simp) (by simp[A184]) λ F hF=>?_;simp[A184,B184,R184_0,R184_1,hF];exact .pure _ (by simp)
theorem comp43 (a b:List Nat):FnPure pG 146 [.str a,.str b] (.int .i64 (cmpL a b)):=by
 refine pureV c146 (by simp) (by simp) (by simp[A146]) λ F hF=>?_;simp[A146,B146,R146_0,R146_1,hF];refine CalV.pure (cmps64 a b) ?_;simp;exact .pure _ (by simp)
theorem cmpL_drop {a b:List Nat}{i:Nat}(ha:i<a.length) (hb:i<b.length):cmpL (a.drop i) (b.drop i)=if a[i]<b[i]then -1 else if b[i]<a[i]then 1 else cmpL (a.drop (i+1)) (b.drop (i+1)):=by
 rw[drop_eq_getElem_cons ha,drop_eq_getElem_cons hb];simp only[cmpL]
 by_cases e:a[i]=b[i]
 ·simp[e]
 rw[show Nat.beq a[i] b[i]=false by simpa using e];dsimp only
 by_cases h:a[i]<b[i]
 ·rw[show Nat.blt a[i] b[i]=true by rw[Nat.blt_eq];exact h];simp[h]
 rw[show Nat.blt a[i] b[i]=false by cases q:Nat.blt a[i] b[i]with
  | false=>rfl
  | true=>rw[Nat.blt_eq]at q;exact absurd q h]
 rw[if_neg h,if_pos (by omega)]
theorem bytes45 (a b:List Nat) (ha:a.length<2147483648) (_hb:b.length<2147483648):FnPure pG 74 [.str a,.str b] (.int .i64 (cmpL a b)):=by
 refine pureV c74 (by simp) (by simp) (by simp[A74]) λ F hF=>?_;simp[A74,B74,R74_0,R74_1];refine LoopV.of (λ k F K m ms=>∃i,k=a.length - i/\i<=a.length/\i<=b.length/\F.get 0=some (.str a)/\F.get 1=some (.str b)/\F.get 5=some (.int .i64 (i:Int))/\K=.nil/\ms=[]/\cmpL a b=cmpL (a.drop i) (b.drop i)) a.length ⟨0,by simp[hF]⟩ ?_;rintro k F K m ms ⟨i,rfl,hi,hib,f0,f1,f5,rfl,rfl,he⟩
 by_cases hlt:i<a.length
 ·by_cases hltb:i<b.length
  ·have hx:=cIxs_at (k:=.i64) hlt;have hy:=cIxs_at (k:=.i64) hltb;rw[cmpL_drop hlt hltb]at he;simp[L74_0,R74_2,f0,f1,f5,hlt,hltb,R74_3];refine DrwV.of (ce0_ok (P:=pG)) ?_;simp[clearF_get,f0,f1,f5,hx,hy]
   by_cases h1:a[i]<b[i]
   ·rw[if_pos h1]at he;simp[h1,R74_4,he];exact .pure _ (by simp)
   rw[if_neg h1]at he;simp[h1,R74_5];refine DrwV.of (ce0_ok (P:=pG)) ?_;simp[clearF_get,f0,f1,f5,hx,hy]
   by_cases h2:b[i]<a[i]
   ·rw[if_pos h2]at he;simp[h2,R74_6,he];exact .pure _ (by simp)
   rw[if_neg h2]at he;simp[h2,R74_7,clearF_get,f0,f1,f5,wrap_nat i (by omega)];exact⟨a.length - (i+1),by omega,i+1,rfl,hlt,hltb,by omega,he⟩
  have:i=b.length:=by omega
  subst this
  have:cmpL a b=1:=by
   rw[he,drop_length,drop_eq_getElem_cons hlt];rfl
  simp[L74_0,R74_2,f0,f1,f5,hlt,R74_8,R74_10,R74_11,this,show ¬a.length<b.length by omega];exact .pure _ (by simp)
 have:i=a.length:=by omega
 subst this
 by_cases hltb:a.length<b.length
 ·have:cmpL a b = -1:=by
   rw[he,drop_length,drop_eq_getElem_cons hltb];rfl
  simp[L74_0,R74_2,f0,f1,f5,R74_8,R74_9,this,hltb];exact .pure _ (by simp)
 have hl:b.length=a.length:=by omega
 have:cmpL a b=0:=by
  rw[he,drop_length,<-hl,drop_length];rfl
 simp[L74_0,R74_2,f0,f1,f5,R74_8,R74_10,R74_12,this,hl];exact .pure _ (by simp)
def Val.ord (v u:Val):Int:=if v.kind=u.kind then (if v.kind=2 then cmpL v.s u.s else if v.num<u.num then -1 else if u.num<v.num then 1 else 0)else (if rk v.kind<rk u.kind then -1 else 1)
theorem order21 (v u:Val):FnPure pG 116 [v.av,u.av] (.int .i64 (v.ord u)):=by
 refine pureV c116 (by simp) (by simp) (by simp[A116]) λ F hF=>?_;obtain⟨k,a,s⟩:=v;obtain⟨q,b,t⟩:=u;simp only[Val.ord]
 by_cases hk:k=q
 ·subst hk
  by_cases h2:k=2
  ·subst h2;simp[A116,B116,R116_0,R116_1,R116_5,R116_6,hF,Val.av];refine CalV.pure (comp43 s t) ?_;simp;exact .pure _ (by simp)
  by_cases h3:a<b
  ·simp[A116,B116,R116_0,R116_1,R116_5,R116_7,R116_8,hF,Val.av,h2,h3];exact .pure _ (by simp)
  by_cases h4:b<a
  ·simp[A116,B116,R116_0,R116_1,R116_5,R116_7,R116_9,R116_10,hF,Val.av,h2,h3,h4];exact .pure _ (by simp)
  simp[A116,B116,R116_0,R116_1,R116_5,R116_7,R116_9,R116_11,hF,Val.av,h2,h3,h4];exact .pure _ (by simp)
 simp[A116,B116,R116_0,R116_1,R116_2,hF,Val.av,hk];refine DrwV.of (ceT_ok (l:=[(145,[.int .i64 k],λ H n=>.mk (.int .i64 (rk k)) H n),(145,[.int .i64 q],λ H n=>.mk (.int .i64 (rk q)) H n)]) ?_) ?_
 ·intro x hx;simp only[mem_cons,not_mem_nil,or_false]at hx
  rcases hx with rfl | rfl
  ·exact ceT_pure (rank42 k)
  exact ceT_pure (rank42 q)
 simp[clearF_get];rw[ceT_hd];simp[clearF_get];rw[ceT_tl (λ _ h=>by simp at h;exact absurd h.symm hk),ceT_hd];simp
 by_cases hr:rk k<rk q
 ·simp[hr,R116_3];exact .pure _ (by simp)
 simp[hr,R116_4];exact .pure _ (by simp)
theorem rk_pl {k:Int}(h:k=0∨k=1∨k=2∨k=3):rk k=pl k:=by
 rcases h with rfl | rfl | rfl | rfl<;>rfl
theorem Val.may_kind {v:Val}(h:v.may=true):v.kind=0∨v.kind=1∨v.kind=2∨v.kind=3:=by
 unfold Val.may at h
 by_cases h0:v.kind=0
 ·exact .inl h0
 by_cases h1:v.kind=1
 ·exact .inr (.inl h1)
 by_cases h2:v.kind=2
 ·exact .inr (.inr (.inl h2))
 by_cases h3:v.kind=3
 ·exact .inr (.inr (.inr h3))
 simp[h0,h1,h2,h3]at h
theorem Val.may_len {v:Val}(h:v.may=true)(h2:v.kind=2):v.s.length<=64:=by
 unfold Val.may at h;simp[h2]at h;exact h.2
theorem Order23 (v u:Val) (hv:v.may=true) (hu:u.may=true):FnPure pG 44 [v.av,u.av] (.int .i64 (v.ord u)):=by
 refine pureV c44 (by simp) (by simp) (by simp[A44]) λ F hF=>?_;have kv:=Val.may_kind hv;have ku:=Val.may_kind hu;have lv:=Val.may_len hv;have lu:=Val.may_len hu;clear hv hu;obtain⟨k,a,s⟩:=v;obtain⟨q,b,t⟩:=u;simp only at kv ku lv lu;simp only[Val.ord];have ev:=rk_pl kv;have eu:=rk_pl ku
 have inj:pl k=pl q↔k=q:=by
  rcases kv with rfl | rfl | rfl | rfl<;>rcases ku with rfl | rfl | rfl | rfl<;>decide
 rw[ev,eu]
 have fin:∀(F:Fr) (H:Hp) (m:Nat),F.get 2=some (.ptr 0 0)->F.get 3=some (.ptr 1 0)->F.get 5=some (.int .i64 (pl k))->F.get 6=some (.int .i64 (pl q)) ->
   H.get 0=some (.cells 3 [] [.int .i64 k,.int .i64 a,.str s] .nil)->H.get 1=some (.cells 3 [] [.int .i64 q,.int .i64 b,.str t] .nil) ->
   VC pG (.seq (.seq R44_2 (.cond (slotG 15) (.seq R44_3 .ret) .skip)) (.seq (.seq R44_4 (.cond (slotG 18) (.seq R44_5 .ret) .skip)) (.seq (.seq R44_6 (.cond (slotG 21) (.seq R44_7 .ret) .skip)) (.seq (.seq R44_8 (.cond (slotG 31) (.seq R44_9 .ret) .skip)) (.seq (.seq R44_10 (.cond (slotG 36) (.seq R44_11 .ret) .skip)) (.seq R44_12 .ret)))))) F H m []
    (RetQ [rTmp 4] λ v1 H' _=>Frz H'.get v1 (.int .i64 (if k=q then (if k=2 then cmpL s t else if a<b then -1 else if b<a then 1 else 0)else (if pl k<pl q then -1 else 1)))):=by
  intro F H m f2 f3 f5 f6 h0 h1
  by_cases hk:k=q
  ·subst hk
   by_cases h2:k=2
   ·subst h2;simp[R44_2,R44_4,R44_6,R44_7,f2,f3,f5,f6,h0,h1];have:=lv rfl;have:=lu rfl;refine CalV.pure (bytes45 s t (by omega) (by omega)) ?_;simp;exact .pure _ (by simp)
   by_cases h3:a<b
   ·simp[R44_2,R44_4,R44_6,R44_8,R44_9,f2,f3,f5,f6,h0,h1,h2,h3];exact .pure _ (by simp)
   by_cases h4:b<a
   ·simp[R44_2,R44_4,R44_6,R44_8,R44_10,R44_11,f2,f3,f5,f6,h0,h1,h2,h3,h4];exact .pure _ (by simp)
   simp[R44_2,R44_4,R44_6,R44_8,R44_10,R44_12,f2,f3,f5,f6,h0,h1,h2,h3,h4];exact .pure _ (by simp)
  by_cases hr:pl k<pl q
  ·simp[R44_2,R44_3,f5,f6,hr,hk];exact .pure _ (by simp)
  have:pl q<pl k:=by
   have:pl k≠pl q:=λ e=>hk (inj.1 e);omega
  simp[R44_2,R44_4,R44_5,f5,f6,hr,this,hk];exact .pure _ (by simp)
 simp[A44,B44,R44_0,R44_1,hF,Val.av];refine DrwV.of (ceT_ok (l:=[(73,[.int .i64 k],λ H n=>.mk (.int .i64 (pl k)) H n),(73,[.int .i64 q],λ H n=>.mk (.int .i64 (pl q)) H n)]) ?_) ?_
 ·intro x hx;simp only[mem_cons,not_mem_nil,or_false]at hx
  rcases hx with rfl | rfl
  ·exact ceT_pure (place44 k)
  exact ceT_pure (place44 q)
 simp[clearF_get];rw[ceT_hd];simp[clearF_get];rw[ceT_tl (λ _ h H n=>by simp at h;subst h;rw[ceT_hd]),ceT_hd];simp;refine fin _ _ _ ?_ ?_ ?_ ?_ ?_ ?_<;>simp[clearF_get]
def Val.cmp (v u:Val):Int×Int:=if v.may&&u.may then (v.ord u,0)else (0,5)
theorem compare13 (v u:Val):FnPure pG 87 [v.av,u.av] (.tup [.int .i64 (v.cmp u).1,.int .i64 (v.cmp u).2]):=by
 refine pureV c87 (by simp) (by simp) (by simp[A87]) λ F hF=>?_;unfold Val.cmp;simp[A87,B87,R87_0,R87_1,hF,Val.av];refine CalV.pure (may52 v) ?_;generalize hv:v.may=p
 cases p with
 | false =>
  simp[R87_2];exact .pure _ (by simp)
 | true =>
  simp;refine CalV.pure (may52 u) ?_;generalize hu:u.may=p
  cases p with
  | false =>
   simp[R87_2];exact .pure _ (by simp)
  | true =>
   simp[R87_3];refine CalV.pure (order21 v u) ?_;simp;exact .pure _ (by simp)
def intsC (l:List Int):List AV:=l.map (.int .i64)
@[simp] theorem intsC_len (l:List Int):(intsC l).length=l.length:=by simp[intsC]
@[simp] theorem intsC_pure (l:List Int):PureL (intsC l):=PureL.of_mem λ v hv=>by
 simp only[intsC,mem_map]at hv;obtain⟨i,_,rfl⟩:=hv;simp
theorem intsC_drop (l:List Int)(i:Nat)(h:i<l.length):(intsC l).drop i=.int .i64 l[i]::intsC (l.drop (i+1)):=by
 rw[intsC,<-map_drop,drop_eq_getElem_cons h];rfl
theorem ixa_int {l:List Int}{i:Nat}{k:IntKind}(h:i<l.length):cIxa 1 (.ds (intsC l) l.length 1) (.int k (i:Int))=.val (.dp (.int .i64 l[i]::intsC (l.drop (i+1)))):=by
 rw[cIxa_ds h,Nat.mul_one,intsC_drop l i h]
theorem ixa_intn {l:List Int}{i len:Nat}{k:IntKind}(hl:len=l.length)(h:i<l.length):cIxa 1 (.ds (intsC l) len 1) (.int k (i:Int))=.val (.dp (.int .i64 l[i]::intsC (l.drop (i+1)))):=by
 subst hl;exact ixa_int h
def valsC:List Val->List AV
 | []=>[]
 | v::r=>v.cells++valsC r
@[simp] theorem Val.cells_len (v:Val):v.cells.length=3:=by simp[Val.cells]
@[simp] theorem valsC_len (l:List Val):(valsC l).length=l.length*3:=by
 induction l with
 | nil=>simp[valsC]
 | cons e r ih=>simp[valsC,ih];omega
theorem valsC_drop (l:List Val)(i:Nat)(h:i<l.length):(valsC l).drop (i*3)=l[i].cells++valsC (l.drop (i+1)):=by
 induction l generalizing i with
 | nil=>simp at h
 | cons e r ih =>
  cases i with
  | zero=>simp[valsC]
  | succ i =>
   have:(i+1)*3=e.cells.length+i*3:=by simp;omega
   rw[valsC,this,<-drop_drop,drop_left' rfl];simpa using ih i (by simpa using h)
@[simp] theorem valsC_pure (l:List Val):PureL (valsC l):=by
 induction l with
 | nil=>simp[valsC]
 | cons e r ih=>simp[valsC,Val.cells,ih]
theorem ixa_val {l:List Val}{i:Nat}{k:IntKind}(h:i<l.length):cIxa 3 (.ds (valsC l) l.length 3) (.int k (i:Int))=.val (.dp (l[i].cells++valsC (l.drop (i+1)))):=by
 rw[cIxa_ds h,valsC_drop l i h]
theorem ld_val (v:Val)(r:List AV)(H:Hp):cLoadN 3 (.dp (v.cells++r)) H=.val v.av:=cLoadN_dp r v.cells_len
theorem ld_kind (v:Val)(r:List AV)(H:Hp):cLoad1 (.dp (v.cells++r)) H=.val (.int .i64 v.kind):=Eq.trans rfl rfl
theorem Val.ext_iff (v u:Val):v=u↔v.kind=u.kind/\v.num=u.num/\v.s=u.s:=by
 cases v;cases u;simp
theorem eqA_val (b:Bool) (v u:Val):cEqA b [.i,.i,.s] v.av u.av=.val (.bool (b != decide (v=u))):=by
 obtain⟨k,a,s⟩:=v;obtain⟨q,c,t⟩:=u
 have he:eqAtoms [.i,.i,.s] [.int .i64 k,.int .i64 a,.str s] [.int .i64 q,.int .i64 c,.str t]=some (decide ((Val.mk k a s)=Val.mk q c t)):=by
  simp only[eqAtoms,eqLeaf,eqNats_eq,if_true]
  by_cases h1:k=q
  ·subst h1;rw[show (k == k)=true by simp]
   by_cases h2:a=c
   ·subst h2;rw[show (a == a)=true by simp]
    by_cases h3:s=t
    ·subst h3;simp
    rw[show (s == t)=false by simpa using h3];simp[Val.ext_iff,h3]
   rw[show (a == c)=false by simpa using h2];simp[Val.ext_iff,h2]
  rw[show (k == q)=false by simpa using h1];simp[Val.ext_iff,h1]
 unfold cEqA Val.av;simp only[he];rfl
structure Idx where
 id:Int
 table:Int
 name:List Nat
 cols:List Int
 uniq:Bool
 root:Int
def Idx.cells (x:Idx):List AV:=[.int .u32 x.id,.int .u32 x.table,.str x.name,.ds (intsC x.cols) x.cols.length 1,.bool x.uniq,.int .u32 x.root]
def Idx.av (x:Idx):AV:=.agg x.cells 6
@[simp] theorem Idx.pure (x:Idx):Pure x.av:=by simp[Idx.av,Idx.cells]
structure Spn where
 eq:List Val
 hasLo:Bool
 lo:Val
 loIn:Bool
 hasHi:Bool
 hi:Val
 hiIn:Bool
def Spn.cells (s:Spn):List AV:=[.ds (valsC s.eq) s.eq.length 3,.bool s.hasLo,.int .i64 s.lo.kind,.int .i64 s.lo.num,.str s.lo.s,.bool s.loIn,.bool s.hasHi,.int .i64 s.hi.kind,.int .i64 s.hi.num,.str s.hi.s,.bool s.hiIn]
def Spn.av (s:Spn):AV:=.agg s.cells 11
@[simp] theorem Spn.pure (s:Spn):Pure s.av:=by simp[Spn.av,Spn.cells]
def rowAV (r:List Val):AV:=.ds (valsC r) r.length 3
@[simp] theorem rowAV_pure (r:List Val):Pure (rowAV r):=by simp[rowAV]
def okAt (cols:List Int)(eq row:List Val)(i:Nat):Prop:=∃(c:Nat)(hc:c<row.length),cols[i]?=some (c:Int)/\row[c].kind≠0/\∀h:i<eq.length,row[c]=eq[i]
def lowOk (v u:Val)(incl:Bool):Bool:=!(decide ((v.cmp u).2≠0)||decide (u.kind=0)||decide ((v.cmp u).1<0)||(decide ((v.cmp u).1=0)&&!incl))
def highOk (v u:Val)(incl:Bool):Bool:=!(decide ((v.cmp u).2≠0)||decide (u.kind=0)||decide (0<(v.cmp u).1)||(decide ((v.cmp u).1=0)&&!incl))
def Spn.n (s:Spn):Nat:=if (s.hasLo||s.hasHi)=true then s.eq.length+1 else s.eq.length
def inP (x:Idx)(s:Spn)(row:List Val):Prop:=s.n<=x.cols.length/\(∀i,i<s.n->okAt x.cols s.eq row i) /\
 ((s.hasLo||s.hasHi)=true->∃(c:Nat)(hc:c<row.length),x.cols[s.eq.length]?=some (c:Int)/\(s.hasLo=true->lowOk row[c] s.lo s.loIn=true)/\(s.hasHi=true->highOk row[c] s.hi s.hiIn=true))
def inB (x:Idx)(s:Spn)(row:List Val):Bool:=decide (inP x s row)
theorem inB_true {x:Idx}{s:Spn}{row:List Val}(h:inP x s row):inB x s row=true:=by simp[inB,h]
theorem inB_false {x:Idx}{s:Spn}{row:List Val}(h:¬inP x s row):inB x s row=false:=by simp[inB,h]
theorem cSlc_dst {cs:List AV}{len n:Nat}{k:IntKind}(h:n<=len):cSlc 1 none (some (.int k (n:Int))) none (.ds cs len 1)=.val (.ds (cs.take n) n 1):=by
 unfold cSlc
 have:bnds len none (some (.int k (n:Int))) none=some (0,n):=by
  simp[bnds,show bnd len (some (.int k (n:Int)))=some n from rfl,show bnd len none=some len from rfl,show bnd 0 none=some 0 from rfl,h]
 simp only[this];simp
set_option maxHeartbeats 2000000 in
theorem in5 (x : Idx) (s:Spn)(row:List Val)(h1:x.cols.length<=1048576)(h2:s.eq.length<=1048576)(_h3:row.length<=1048576):FnPure pG 232 [x.av,s.av,rowAV row] (.bool (inB x s row)):=by
 refine pureV c232 (by simp) (by simp) (by simp[A232]) λ F hF=>?_
 by_cases hn:s.n<=x.cols.length
 ·have g1 : ¬ x.cols.length<s.eq.length:=by unfold Spn.n at hn;split at hn<;>omega
  have contHi : ∀ (F:Fr)(H:Hp)(m:Nat),F.get 2=some (rowAV row)->F.get 3=some (.ptr 0 0)->F.get 4=some (.ptr 1 0)->F.get 7=some (.int .i64 (s.n:Int)) ->
    H.get 0=some (.cells 6 [] x.cells .nil)->H.get 1=some (.cells 11 [] s.cells .nil)->(∀i,i<s.n->okAt x.cols s.eq row i) ->
    (s.hasLo=true->∃(c:Nat)(hc:c<row.length),x.cols[s.eq.length]?=some (c:Int)/\lowOk row[c] s.lo s.loIn=true) ->
    VC pG (.seq (.seq R232_16 (.cond (slotG 130) (.seq R232_17 (.seq R232_18 (.cond (slotG 166) (.seq R232_19 .ret) .skip))) .skip)) (.seq R232_20 .ret)) F H m []
     (RetQ [rTmp 6] λ v1 H' _=>Frz H'.get v1 (.bool (inB x s row))):=by
   intro F H m f2 f3 f4 f7 k0 k1 hall hlow;have k0':=k0;have k1':=k1;simp only[Idx.cells]at k0';simp only[Spn.cells]at k1'
   cases hh:s.hasHi with
   | false =>
    rw[inB_true ⟨hn,hall,λ he=>by
     have hl:s.hasLo=true:=by simpa[hh]using he
     obtain⟨c,hc,e1,e2⟩:=hlow hl;exact⟨c,hc,e1,λ _=>e2,λ h=>by rw[hh]at h;cases h⟩⟩]
    simp[R232_16,R232_20,f4,k1',hh];exact .bool rfl
   | true =>
    have e:s.n=s.eq.length+1:=by simp[Spn.n,hh]
    obtain⟨c,hc,hcc,hck,_⟩:=hall s.eq.length (by omega);have hic:s.eq.length<x.cols.length:=by omega
    have hcg:x.cols[s.eq.length]=(c:Int):=by rw[getElem?_eq_getElem hic]at hcc;injection hcc
    have hx:=ixa_int (l:=x.cols) (k:=.i64) hic;rw[hcg]at hx;have hr:=ixa_val (k:=.i64) hc
    have hw:IntKind.i64.wrap ((s.n:Int) - 1)=(s.eq.length:Int):=by
     rw[e,wrap_sm _ (by omega) (by omega)];omega
    generalize hrv:row[c]=v at hr;simp[R232_16,R232_17,f4,k1',hh];refine DrwV.of (ceT_ok (l:=[(87,[v.av,s.hi.av],λ H n=>.mk (.tup [.int .i64 (v.cmp s.hi).1,.int .i64 (v.cmp s.hi).2]) H n)]) ?_) ?_
    ·simp only[mem_singleton];rintro y rfl;exact ceT_pure (compare13 v s.hi)
    simp[clearF_get,f2,f3,f4,f7,k0',k1',rowAV,hw,hx,hr,ld_val];rw[show [v.av,AV.agg [AV.int IntKind.i64 s.hi.kind,AV.int IntKind.i64 s.hi.num,AV.str s.hi.s] 3]=[v.av,s.hi.av]from rfl,ceT_hd]
    have hbad:highOk v s.hi s.hiIn=false->¬inP x s row:=λ hb h=>by
     obtain⟨c',hc',e1,_,e2⟩:=h.2.2 (by simp[hh]);rw[hcc]at e1;injection e1 with e1;have:c=c':=by omega
     subst this;rw[hrv,hb]at e2;exact absurd (e2 hh) (by simp)
    have hgood:highOk v s.hi s.hiIn=true->inP x s row:=λ hb=>⟨hn,hall,λ _=>⟨c,hc,hcc,λ hl=>by
     obtain⟨c',hc',e1,e2⟩:=hlow hl;rw[hcc]at e1;injection e1 with e1;have:c=c':=by omega
     subst this;exact e2,λ _=>by rw[hrv];exact hb⟩⟩
    generalize hq:v.cmp s.hi=q;obtain⟨q1,q2⟩:=q;simp only[highOk,hq]at hbad hgood
    by_cases a1:q2=0
    ·by_cases a2:s.hi.kind=0
     ·rw[inB_false (hbad (by simp[a2]))];simp[clearF_get,f4,k1',R232_18,R232_19,a1,a2];exact .bool rfl
     by_cases a3:0<q1
     ·rw[inB_false (hbad (by simp[a3]))];simp[clearF_get,f4,k1',R232_18,R232_19,a1,a2,a3];exact .bool rfl
     by_cases a4:q1=0
     ·cases a5:s.hiIn with
      | false =>
       rw[inB_false (hbad (by simp[a4,a5]))];simp[clearF_get,f4,k1',R232_18,R232_19,a1,a2,a4,a5];exact .bool rfl
      | true =>
       rw[inB_true (hgood (by simp[a1,a2,a4,a5]))];simp[clearF_get,f4,k1',R232_18,R232_20,a1,a2,a4,a5];exact .bool rfl
     rw[inB_true (hgood (by simp[a1,a2,a3,a4]))];simp[clearF_get,f4,k1',R232_18,R232_20,a1,a2,a3,a4];exact .bool rfl
    rw[inB_false (hbad (by simp[a1]))];simp[R232_18,R232_19,a1];exact .bool rfl
  have cont : ∀ (F:Fr)(H:Hp)(m:Nat),F.get 2=some (rowAV row)->F.get 3=some (.ptr 0 0)->F.get 4=some (.ptr 1 0)->F.get 7=some (.int .i64 (s.n:Int)) ->
    H.get 0=some (.cells 6 [] x.cells .nil)->H.get 1=some (.cells 11 [] s.cells .nil) ->
    VC pG (.seq (.seq R232_6 (.block 0 (.loop L232_0))) (.seq (.seq R232_12 (.cond (slotG 92) (.seq R232_13 (.seq R232_14 (.cond (slotG 128) (.seq R232_15 .ret) .skip))) .skip)) (.seq (.seq R232_16 (.cond (slotG 130) (.seq R232_17 (.seq R232_18 (.cond (slotG 166) (.seq R232_19 .ret) .skip))) .skip)) (.seq R232_20 .ret)))) F H m []
     (RetQ [rTmp 6] λ v1 H' _=>Frz H'.get v1 (.bool (inB x s row))):=by
   intro F H m f2 f3 f4 f7 k0 k1;have k0':=k0;have k1':=k1;simp only[Idx.cells]at k0';simp only[Spn.cells]at k1';have hsl:=cSlc_dst (cs:=intsC x.cols) (k:=.i64) hn;rw[show (intsC x.cols).take s.n=intsC (x.cols.take s.n) by simp[intsC,map_take]]at hsl;have hcl:(x.cols.take s.n).length=s.n:=by simp;omega
   have hnle:s.n<=1048577:=by omega
   simp[R232_6,f3,f7,k0',hsl]
   refine LoopV.of (λ k F K m ms=>∃i,k=s.n - i/\i<=s.n/\F.get 2=some (rowAV row)/\F.get 3=some (.ptr 0 0)/\F.get 4=some (.ptr 1 0)/\F.get 7=some (.int .i64 (s.n:Int)) /\
    F.get 48=some (.ds (intsC (x.cols.take s.n)) s.n 1)/\F.get 49=some (.int .i64 (s.n:Int))/\F.get 50=some (.int .i64 (i:Int)) /\
    K.get 0=some (.cells 6 [] x.cells .nil)/\K.get 1=some (.cells 11 [] s.cells .nil)/\ms=[]/\∀j,j<i->okAt x.cols s.eq row j) s.n ⟨0,by simp[f2,f3,f4,f7,k0,k1]⟩ ?_
   rintro k F K m ms ⟨i,rfl,hi,f2,f3,f4,f7,f48,f49,f50,k0,k1,rfl,hj⟩;have k0':=k0;have k1':=k1;simp only[Idx.cells]at k0';simp only[Spn.cells]at k1'
   by_cases hlt:i<s.n
   ·have hx := ixa_intn (l:=x.cols.take s.n) (len:=s.n) (k:=.i64) (i:=i) hcl.symm (by omega);have hic:i<x.cols.length:=by omega
    have hget:(x.cols.take s.n)[i]'(by omega)=x.cols[i]:=by simp
    rw[hget]at hx;have hcc:x.cols[i]?=some x.cols[i]:=getElem?_eq_getElem hic;simp[L232_0,R232_7,R232_8,f48,f49,f50,hlt,hx,R232_9];refine DrwV.of (ce0_ok (P:=pG)) ?_;generalize hcv:x.cols[i]=c at hcc
    by_cases c0:c<0
    ·rw[inB_false λ h=>by
      obtain⟨cn,_,h1,_⟩:=h.2.1 i hlt;rw[hcc]at h1;injection h1 with h1;omega]
     simp[clearF_get,c0,R232_10,rowAV];exact .bool rfl
    obtain⟨cn,rfl⟩:=Int.eq_ofNat_of_zero_le (show 0<=c by omega);have hneg:¬((cn:Int)<0):=by omega
    by_cases c1:cn<row.length
    ·have c1':¬row.length<=cn:=by omega
     have hr:=ixa_val (k:=.i64) c1;generalize hrv:row[cn]=v at hr
     by_cases c2:v.kind=0
     ·rw[inB_false λ h=>by
       obtain⟨cm,_,h1,h2,_⟩:=h.2.1 i hlt;rw[hcc]at h1;injection h1 with h1;have:cn=cm:=by omega
       subst this;rw[hrv]at h2;exact h2 c2]
      simp[clearF_get,f2,R232_10,rowAV,c1',hneg,hr,ld_kind,c2];exact .bool rfl
     by_cases hq:i<s.eq.length
     ·have he:=ixa_val (k:=.i64) hq;generalize hev:s.eq[i]=u at he
      by_cases c9003:v=u
      ·subst c9003;simp[clearF_get,f2,f3,f4,f7,f48,f49,f50,k1',rowAV,c1',hneg,hr,ld_kind,c2,hq,he,ld_val,eqA_val,R232_11,wrap_nat i (by omega)];refine⟨s.n - (i+1),by omega,i+1,rfl,hlt,by omega,k0,rfl,λ j hj'=>?_⟩
       by_cases e:j=i
       ·subst e;exact⟨cn,c1,hcc,by rw[hrv];exact c2,λ h=>by rw[hrv,hev]⟩
       exact hj j (by omega)
      rw[inB_false λ h=>by
       obtain⟨cm,_,h1,_,h2⟩:=h.2.1 i hlt;rw[hcc]at h1;injection h1 with h1;have:cn=cm:=by omega
       subst this;have h2:=h2 hq;rw[hrv,hev]at h2;exact c9003 h2]
      simp[clearF_get,f2,f4,k1',R232_10,rowAV,c1',hneg,hr,ld_kind,c2,hq,he,ld_val,eqA_val,c9003];exact .bool rfl
     simp[clearF_get,f2,f3,f4,f7,f48,f49,f50,k1',rowAV,c1',hneg,hr,ld_kind,c2,hq,R232_11,wrap_nat i (by omega)];refine⟨s.n - (i+1),by omega,i+1,rfl,hlt,by omega,k0,rfl,λ j hj'=>?_⟩
     by_cases e:j=i
     ·subst e;exact⟨cn,c1,hcc,by rw[hrv];exact c2,λ h=>absurd h hq⟩
     exact hj j (by omega)
    rw[inB_false λ h=>by
     obtain⟨cm,h0,h1,_⟩:=h.2.1 i hlt;rw[hcc]at h1;injection h1 with h1;omega]
    have:row.length<=cn:=by omega
    simp[clearF_get,f2,R232_10,rowAV,hneg,this];exact .bool rfl
   have:i=s.n:=by omega
   subst this;have hall:∀i,i<s.n->okAt x.cols s.eq row i:=hj;simp[L232_0,R232_7,f49,f50]
   cases hl:s.hasLo with
   | false =>
    simp[R232_12,f4,k1',hl];refine contHi _ _ _ ?_ ?_ ?_ ?_ ?_ ?_ hall (λ h=>by rw[hl]at h;cases h)<;>simp[f2,f3,f4,f7,k0,Spn.cells,hl,k1]
   | true =>
    have e:s.n=s.eq.length+1:=by simp[Spn.n,hl]
    obtain⟨c,hc,hcc,hck,_⟩:=hall s.eq.length (by omega);have hic:s.eq.length<x.cols.length:=by omega
    have hcg:x.cols[s.eq.length]=(c:Int):=by rw[getElem?_eq_getElem hic]at hcc;injection hcc
    have hx:=ixa_int (l:=x.cols) (k:=.i64) hic;rw[hcg]at hx;have hr:=ixa_val (k:=.i64) hc
    have hw:IntKind.i64.wrap ((s.n:Int) - 1)=(s.eq.length:Int):=by
     rw[e,wrap_sm _ (by omega) (by omega)];omega
    generalize hrv:row[c]=v at hr;simp[R232_12,R232_13,f4,k1',hl];refine DrwV.of (ceT_ok (l:=[(87,[v.av,s.lo.av],λ H n=>.mk (.tup [.int .i64 (v.cmp s.lo).1,.int .i64 (v.cmp s.lo).2]) H n)]) ?_) ?_
    ·simp only[mem_singleton];rintro y rfl;exact ceT_pure (compare13 v s.lo)
    simp[clearF_get,f2,f3,f4,f7,k0',k1',rowAV,hw,hx,hr,ld_val];rw[show [v.av,AV.agg [AV.int IntKind.i64 s.lo.kind,AV.int IntKind.i64 s.lo.num,AV.str s.lo.s] 3]=[v.av,s.lo.av]from rfl,ceT_hd]
    have hbad:lowOk v s.lo s.loIn=false->¬inP x s row:=λ hb h=>by
     obtain⟨c',hc',e1,e2,_⟩:=h.2.2 (by simp[hl]);rw[hcc]at e1;injection e1 with e1;have:c=c':=by omega
     subst this;rw[hrv,hb]at e2;exact absurd (e2 hl) (by simp)
    generalize hq:v.cmp s.lo=q;obtain⟨q1,q2⟩:=q;have hgood:lowOk v s.lo s.loIn=true->s.hasLo=true->∃(c:Nat) (hc:c<row.length),x.cols[s.eq.length]?=some (c:Int)/\lowOk row[c] s.lo s.loIn=true:=λ hb _=>⟨c,hc,hcc,by rw[hrv];exact hb⟩;have hlo:lowOk v s.lo s.loIn=(!(decide (q2≠0)||decide (s.lo.kind=0)||decide (q1<0)||(decide (q1=0)&&!s.loIn))):=by simp only[lowOk,hq]
    rw[hlo]at hbad hgood
    by_cases a1:q2=0
    ·by_cases a2:s.lo.kind=0
     ·rw[inB_false (hbad (by simp[a2]))];simp[clearF_get,f4,k1',R232_14,R232_15,a1,a2];exact .bool rfl
     by_cases a3:q1<0
     ·rw[inB_false (hbad (by simp[a3]))];simp[clearF_get,f4,k1',R232_14,R232_15,a1,a2,a3];exact .bool rfl
     by_cases a4:q1=0
     ·cases a5:s.loIn with
      | false =>
       rw[inB_false (hbad (by simp[a4,a5]))];simp[clearF_get,f4,k1',R232_14,R232_15,a1,a2,a4,a5];exact .bool rfl
      | true =>
       simp[clearF_get,f4,k1',R232_14,a1,a2,a4,a5];refine contHi _ _ _ ?_ ?_ ?_ ?_ ?_ ?_ hall (hgood (by simp[a1,a2,a4,a5]))<;>simp[clearF_get,f2,f3,f4,f7,k0,k1]
     simp[clearF_get,f4,k1',R232_14,a1,a2,a3,a4];refine contHi _ _ _ ?_ ?_ ?_ ?_ ?_ ?_ hall (hgood (by simp[a1,a2,a3,a4]))<;>simp[clearF_get,f2,f3,f4,f7,k0,k1]
    rw[inB_false (hbad (by simp[a1]))];simp[R232_14,R232_15,a1];exact .bool rfl
  cases hl:s.hasLo with
  | true =>
   have e:s.n=s.eq.length+1:=by simp[Spn.n,hl]
   have g2:¬s.eq.length=x.cols.length:=by omega
   simp[A232,B232,R232_0,R232_1,R232_2,R232_4,R232_5,hF,Idx.av,Idx.cells,Spn.av,Spn.cells,g1,g2,hl,wrap_nat _ (show s.eq.length<2147483648 by omega)];refine cont _ _ _ ?_ ?_ ?_ ?_ ?_ ?_<;>simp[hF,Idx.cells,Spn.cells,hl,e]
  | false =>
   cases hh:s.hasHi with
   | true =>
    have e:s.n=s.eq.length+1:=by simp[Spn.n,hh]
    have g2:¬s.eq.length=x.cols.length:=by omega
    simp[A232,B232,R232_0,R232_1,R232_2,R232_4,R232_5,hF,Idx.av,Idx.cells,Spn.av,Spn.cells,g1,g2,hl,hh,wrap_nat _ (show s.eq.length<2147483648 by omega)];refine cont _ _ _ ?_ ?_ ?_ ?_ ?_ ?_<;>simp[hF,Idx.cells,Spn.cells,hl,hh,e]
   | false =>
    have e:s.n=s.eq.length:=by simp[Spn.n,hl,hh]
    simp[A232,B232,R232_0,R232_1,R232_2,R232_4,R232_5,hF,Idx.av,Idx.cells,Spn.av,Spn.cells,g1,hl,hh];refine cont _ _ _ ?_ ?_ ?_ ?_ ?_ ?_<;>simp[hF,Idx.cells,Spn.cells,hl,hh,e]
 rw[inB_false λ h=>hn h.1]
 by_cases g1:x.cols.length<s.eq.length
 ·simp[A232,B232,R232_0,R232_1,R232_2,R232_3,hF,Idx.av,Idx.cells,Spn.av,Spn.cells,g1];exact .bool rfl
 simp only[Nat.not_lt]at g1;have g2:s.eq.length=x.cols.length:=by unfold Spn.n at hn;split at hn<;>omega
 have g3:(s.hasLo||s.hasHi)=true:=by
  unfold Spn.n at hn;split at hn
  ·assumption
  omega
 cases hl:s.hasLo with
 | true =>
  simp[A232,B232,R232_0,R232_1,R232_2,R232_3,hF,Idx.av,Idx.cells,Spn.av,Spn.cells,g2,hl];exact .bool rfl
 | false =>
  have hh:s.hasHi=true:=by simpa[hl]using g3
  simp[A232,B232,R232_0,R232_1,R232_2,R232_3,hF,Idx.av,Idx.cells,Spn.av,Spn.cells,g2,hl,hh];exact .bool rfl
set_option maxHeartbeats 2000000 in
structure Ins where
 op:Int
 a:Int
 b:Int
 c:Int
 n:Int
 j:Int
 ex:Int
 id:Int
 lo:Int
 hi:Int
 loIn:Bool
 hiIn:Bool
 v:Val
def Ins.cells (x:Ins):List AV:=[.int .i64 x.op,.int .i64 x.a,.int .i64 x.b,.int .i64 x.c,.int .i64 x.n,.int .i64 x.j,.int .i64 x.ex,.int .u32 x.id,.int .i64 x.lo,.int .i64 x.hi,.bool x.loIn,.bool x.hiIn,.int .i64 x.v.kind,.int .i64 x.v.num,.str x.v.s]
def Ins.av (x:Ins):AV:=.agg x.cells 15
def insC:List Ins->List AV
 | []=>[]
 | x::r=>x.cells++insC r
@[simp] theorem Ins.cells_len (x:Ins):x.cells.length=15:=by simp[Ins.cells]
@[simp] theorem insC_len (l:List Ins):(insC l).length=l.length*15:=by
 induction l with
 | nil=>simp[insC]
 | cons e r ih=>simp[insC,ih];omega
theorem insC_drop (l:List Ins)(i:Nat)(h:i<l.length):(insC l).drop (i*15)=l[i].cells++insC (l.drop (i+1)):=by
 induction l generalizing i with
 | nil=>simp at h
 | cons e r ih =>
  cases i with
  | zero=>simp[insC]
  | succ i =>
   have:(i+1)*15=e.cells.length+i*15:=by simp;omega
   rw[insC,this,<-drop_drop,drop_left' rfl];simpa using ih i (by simpa using h)
theorem insC_pure (l:List Ins):PureL (insC l):=by
 induction l with
 | nil=>simp[insC]
 | cons e r ih=>simp[insC,Ins.cells,ih]
structure Cod where
 regs:Int
 cur:Int
 l:List Ins
def Cod.cells (c:Cod):List AV:=[.int .i64 c.regs,.int .i64 c.cur,.ds (insC c.l) c.l.length 15]
def Cod.av (c:Cod):AV:=.agg c.cells 3
@[simp] theorem Cod.pure (c:Cod):Pure c.av:=by simp[Cod.av,Cod.cells,insC_pure]
@[simp] theorem Ins.pure (x:Ins):Pure x.av:=by simp[Ins.av,Ins.cells]
def Cod.reg (c:Cod)(n:Int):Bool:=decide (0<=n)&&decide (n<c.regs)
def Cod.rgs (c:Cod)(f n:Int):Bool:=decide (0<=n)&&(decide (n<=16)&&(decide (0<=f)&&decide (f<=c.regs - n)))
def Cod.cursor (c:Cod)(n:Int):Bool:=decide (0<=n)&&decide (n<c.cur)
def Cod.target (c:Cod)(n:Int):Bool:=decide (0<=n)&&decide (n<=(c.l.length:Int))
def Cod.ok (c:Cod)(x:Ins):Bool:=
 if x.op=1 then c.cursor x.a else
 if x.op=2 then c.cursor x.a&&(c.rgs x.b x.n&&((decide (x.lo = -1)||c.reg x.lo)&&(decide (x.hi = -1)||c.reg x.hi)))else
 if x.op=3 then c.cursor x.a&&c.target x.j else
 if x.op=4 then c.reg x.a&&(c.cursor x.b&&(decide (0<=x.c)&&decide (x.c<16)))else
 if x.op=5 then c.reg x.a&&x.v.may else
 if x.op=6 then c.reg x.a&&(c.reg x.b&&(decide (4<=x.ex)&&(decide (x.ex<=21)&&((decide (x.ex<8)||c.reg x.c)&&c.target x.j))))else
 if x.op=7 then c.reg x.a&&c.target x.j else
 if x.op=8 then c.rgs x.a x.n else
 if x.op=9 then c.cursor x.a&&c.rgs x.b x.n else
 if x.op=10 then c.target x.j else decide (x.op=11)
theorem reg11 {H:Hp}{m b:Nat}(c:Cod)(n:Int)(hb:H.get b=some (.cells 3 [] c.cells .nil)):CallR pG 45 [.int .i64 n,.ptr b 0] H m (λ u K j=>u=.bool (c.reg n)/\K=H/\j=m):=by
 refine CallR.of c45 (by simp[A45]) λ F hF=>?_;simp only[Cod.cells]at hb
 by_cases h0:0<=n
 ·simp[A45,B45,R45_0,R45_1,hF,hb,h0,Cod.reg]
 simp[A45,B45,R45_0,R45_1,hF,h0,Cod.reg]
theorem rgs12 {H:Hp}{m b:Nat}(c:Cod)(hc:0<=c.regs/\c.regs<=256)(f n:Int)(hb:H.get b=some (.cells 3 [] c.cells .nil)):CallR pG 46 [.int .i64 f,.int .i64 n,.ptr b 0] H m (λ u K j=>u=.bool (c.rgs f n)/\K=H/\j=m):=by
 refine CallR.of c46 (by simp[A46]) λ F hF=>?_;simp only[Cod.cells]at hb
 by_cases h0:0<=n
 ·by_cases h1:n<=16
  ·by_cases h2:0<=f
   ·simp[A46,B46,R46_0,R46_1,hF,hb,h0,h1,h2,Cod.rgs,wrap_sm (c.regs - n) (by omega) (by omega)]
   simp[A46,B46,R46_0,R46_1,hF,h0,h1,h2,Cod.rgs]
  simp[A46,B46,R46_0,R46_1,hF,h0,h1,Cod.rgs]
 simp[A46,B46,R46_0,R46_1,hF,h0,Cod.rgs]
theorem may7 (c : Cod) (hc:0<=c.regs/\c.regs<=256) (x:Ins):FnPure pG 26 [c.av,x.av] (.bool (c.ok x)):=by
 refine pureV c26 (by simp) (by simp) (by simp[A26]) λ F hF=>?_;obtain⟨op,a,b,cc,n,j,ex,id,lo,hi,li,hii,v⟩:=x
 have cont : ∀ (F:Fr)(H:Hp),F.get 2=some (.ptr 0 0)->F.get 3=some (.ptr 1 0)->F.get 4=some (.bool false)->F.get 5=some (.fn (.func 45) [] [.ptr 0 0])->F.get 6=some (.fn (.func 46) [] [.ptr 0 0])->F.get 7=some (.bool (c.cursor a))->F.get 8=some (.bool (c.target j)) ->
   H.get 0=some (.cells 3 [] c.cells .nil)->H.get 1=some (.cells 15 [] (Ins.mk op a b cc n j ex id lo hi li hii v).cells .nil) ->
   VC pG (.seq (.seq R26_5 (.block 0 (.seq R26_6 (.cond (slotG 34) (.seq R26_7 .ret) (.seq R26_8 (.cond (slotG 37) (.seq R26_9 .ret) (.seq R26_10 (.cond (slotG 70) (.seq R26_11 .ret) (.seq R26_12 (.cond (slotG 76) (.seq R26_13 .ret) (.seq R26_14 (.cond (slotG 104) (.seq R26_15 .ret) (.seq R26_16 (.cond (slotG 115) (.seq R26_17 .ret) (.seq R26_18 (.cond (slotG 151) (.seq R26_19 .ret) (.seq R26_20 (.cond (slotG 160) (.seq R26_21 .ret) (.seq R26_22 (.cond (slotG 168) (.seq R26_23 .ret) (.seq R26_24 (.cond (slotG 179) (.seq R26_25 .ret) .skip)))))))))))))))))))))) (.seq R26_26 .ret)) F H 2 [] (RetQ [rTmp 4] λ u H' _=>Frz H'.get u (.bool (c.ok (Ins.mk op a b cc n j ex id lo hi li hii v)))):=by
  intro F H f2 f3 f4 f5 f6 f7 f8 hb hx;have hb':=hb;simp only[Cod.cells]at hb';simp only[Ins.cells]at hx;simp only[Cod.ok]
  by_cases h1:op=1
  ·subst h1;simp[R26_5,R26_6,R26_7,f3,f7,hx];exact .bool (by simp)
  by_cases h2:op=2
  ·subst h2;generalize c.cursor a=cu at *
   cases cu with
   | false =>
    simp[R26_5,R26_6,R26_8,R26_9,f3,f7,hx];exact .bool (by simp)
   | true =>
    simp[R26_5,R26_6,R26_8,R26_9,f3,f6,f7,hx];refine CalV.same (rgs12 c hc b n hb) ?_;generalize c.rgs b n=q
    cases q with
    | false=>simp;exact .bool (by simp)
    | true =>
     by_cases hl:lo = -1
     ·by_cases hh:hi = -1
      ·simp[hx,hl,hh,f3];exact .bool (by simp)
      simp[hx,hl,hh,f3,f5];refine CalV.same (reg11 c hi hb) ?_;simp;exact .bool (by simp)
     simp[hx,hl,f3,f5];refine CalV.same (reg11 c lo hb) ?_;generalize c.reg lo=q
     cases q with
     | false=>simp;exact .bool (by simp)
     | true =>
      by_cases hh:hi = -1
      ·simp[hx,hh,f3];exact .bool (by simp)
      simp[hx,hh,f3,f5];refine CalV.same (reg11 c hi hb) ?_;simp;exact .bool (by simp)
  by_cases h3:op=3
  ·subst h3;generalize c.cursor a=cu at *
   cases cu with
   | false=>simp[R26_5,R26_6,R26_8,R26_10,R26_11,f3,f7,hx];exact .bool (by simp)
   | true=>simp[R26_5,R26_6,R26_8,R26_10,R26_11,f3,f7,f8,hx];exact .bool (by simp)
  by_cases h4:op=4
  ·subst h4;simp[R26_5,R26_6,R26_8,R26_10,R26_12,R26_13,f3,f5,hx];refine CalV.same (reg11 c a hb) ?_;generalize c.reg a=q
   cases q with
   | false=>simp;exact .bool (by simp)
   | true =>
    by_cases g1:0<=b
    ·by_cases g2:b<c.cur
     ·by_cases g3:0<=cc
      ·simp[hx,f2,f3,hb',g1,g2,g3];exact .bool (by simp[Cod.cursor,g1,g2])
      simp[hx,f2,f3,hb',g1,g2,g3];exact .bool (by simp)
     simp[hx,f2,f3,hb',g1,g2];exact .bool (by simp[Cod.cursor,g1,g2])
    simp[hx,f3,g1];exact .bool (by simp[Cod.cursor,g1])
  by_cases h5:op=5
  ·subst h5;simp[R26_5,R26_6,R26_8,R26_10,R26_12,R26_14,R26_15,f3,f5,hx];refine CalV.same (reg11 c a hb) ?_;generalize c.reg a=q
   cases q with
   | false=>simp;exact .bool (by simp)
   | true =>
    simp[hx,f3];refine CalV.pure (may52 v) ?_;simp;exact .bool (by simp)
  by_cases h6:op=6
  ·subst h6;simp[R26_5,R26_6,R26_8,R26_10,R26_12,R26_14,R26_16,R26_17,f3,f5,hx];refine CalV.same (reg11 c a hb) ?_;generalize c.reg a=q
   cases q with
   | false=>simp;exact .bool (by simp)
   | true =>
    simp[hx,f3,f5];refine CalV.same (reg11 c b hb) ?_;generalize c.reg b=q
    cases q with
    | false=>simp;exact .bool (by simp)
    | true =>
     by_cases g1:4<=ex
     ·by_cases g2:ex<=21
      ·by_cases g3:ex<8
       ·simp[hx,f3,f8,g1,g2,g3];exact .bool (by simp)
       simp[hx,f3,f5,g1,g2,g3];refine CalV.same (reg11 c cc hb) ?_;generalize c.reg cc=q
       cases q with
       | false=>simp;exact .bool (by simp)
       | true=>simp[f8];exact .bool (by simp)
      simp[hx,f3,g1,g2];exact .bool (by simp)
     simp[hx,f3,g1];exact .bool (by simp)
  by_cases h7:op=7
  ·subst h7;simp[R26_5,R26_6,R26_8,R26_10,R26_12,R26_14,R26_16,R26_18,R26_19,f3,f5,hx];refine CalV.same (reg11 c a hb) ?_;generalize c.reg a=q
   cases q with
   | false=>simp;exact .bool (by simp)
   | true=>simp[f8];exact .bool (by simp)
  by_cases h8:op=8
  ·subst h8;simp[R26_5,R26_6,R26_8,R26_10,R26_12,R26_14,R26_16,R26_18,R26_20,R26_21,f3,f6,hx];refine CalV.same (rgs12 c hc a n hb) ?_;simp;exact .bool (by simp)
  by_cases h9:op=9
  ·subst h9;generalize c.cursor a=cu at *
   cases cu with
   | false=>simp[R26_5,R26_6,R26_8,R26_10,R26_12,R26_14,R26_16,R26_18,R26_20,R26_22,R26_23,f3,f7,hx];exact .bool (by simp)
   | true =>
    simp[R26_5,R26_6,R26_8,R26_10,R26_12,R26_14,R26_16,R26_18,R26_20,R26_22,R26_23,f3,f6,f7,hx];refine CalV.same (rgs12 c hc b n hb) ?_;simp;exact .bool (by simp)
  by_cases h10:op=10
  ·subst h10;simp[R26_5,R26_6,R26_8,R26_10,R26_12,R26_14,R26_16,R26_18,R26_20,R26_22,R26_24,R26_25,f3,f8,hx];exact .bool (by simp)
  simp[R26_5,R26_6,R26_8,R26_10,R26_12,R26_14,R26_16,R26_18,R26_20,R26_22,R26_24,R26_26,f3,hx,h1,h2,h3,h4,h5,h6,h7,h8,h9,h10];exact .bool (by simp)
 have fin:∀(F:Fr) (H:Hp) (p q:Bool),F.get 2=some (.ptr 0 0)->F.get 3=some (.ptr 1 0)->F.get 4=some (.bool false)->F.get 5=some (.fn (.func 45) [] [.ptr 0 0])->F.get 6=some (.fn (.func 46) [] [.ptr 0 0])->F.get 7=some (.bool p)->p=c.cursor a->F.get 8=some (.bool q)->q=c.target j ->
   H.get 0=some (.cells 3 [] c.cells .nil)->H.get 1=some (.cells 15 [] (Ins.mk op a b cc n j ex id lo hi li hii v).cells .nil) ->
   VC pG (.seq (.seq R26_5 (.block 0 (.seq R26_6 (.cond (slotG 34) (.seq R26_7 .ret) (.seq R26_8 (.cond (slotG 37) (.seq R26_9 .ret) (.seq R26_10 (.cond (slotG 70) (.seq R26_11 .ret) (.seq R26_12 (.cond (slotG 76) (.seq R26_13 .ret) (.seq R26_14 (.cond (slotG 104) (.seq R26_15 .ret) (.seq R26_16 (.cond (slotG 115) (.seq R26_17 .ret) (.seq R26_18 (.cond (slotG 151) (.seq R26_19 .ret) (.seq R26_20 (.cond (slotG 160) (.seq R26_21 .ret) (.seq R26_22 (.cond (slotG 168) (.seq R26_23 .ret) (.seq R26_24 (.cond (slotG 179) (.seq R26_25 .ret) .skip)))))))))))))))))))))) (.seq R26_26 .ret)) F H 2 [] (RetQ [rTmp 4] λ u H' _=>Frz H'.get u (.bool (c.ok (Ins.mk op a b cc n j ex id lo hi li hii v)))):=by
  intro F H p q f2 f3 f4 f5 f6 f7 e1 f8 e2 hb hx;subst e1;subst e2;exact cont F H f2 f3 f4 f5 f6 f7 f8 hb hx
 clear cont
 by_cases g1:0<=a
 ·by_cases g2:0<=j
  ·simp[A26,B26,R26_0,R26_1,R26_2,R26_3,R26_4,hF,g1,g2,Cod.av,Cod.cells,Ins.av,Ins.cells];refine fin _ _ _ _ ?_ ?_ ?_ ?_ ?_ (by simp;rfl) ?_ (by simp;rfl) ?_ ?_ ?_<;>simp[Cod.cursor,Cod.target,g1,g2,Cod.cells,Ins.cells]
  simp[A26,B26,R26_0,R26_1,R26_2,R26_3,R26_4,hF,g1,g2,Cod.av,Cod.cells,Ins.av,Ins.cells];refine fin _ _ _ _ ?_ ?_ ?_ ?_ ?_ (by simp;rfl) ?_ (by simp;rfl) ?_ ?_ ?_<;>simp[Cod.cursor,Cod.target,g1,g2,Cod.cells,Ins.cells]
 by_cases g2:0<=j
 ·simp[A26,B26,R26_0,R26_1,R26_2,R26_3,R26_4,hF,g1,g2,Cod.av,Cod.cells,Ins.av,Ins.cells];refine fin _ _ _ _ ?_ ?_ ?_ ?_ ?_ (by simp;rfl) ?_ (by simp;rfl) ?_ ?_ ?_<;>simp[Cod.cursor,Cod.target,g1,g2,Cod.cells,Ins.cells]
 simp[A26,B26,R26_0,R26_1,R26_2,R26_3,R26_4,hF,g1,g2,Cod.av,Cod.cells,Ins.av,Ins.cells];refine fin _ _ _ _ ?_ ?_ ?_ ?_ ?_ (by simp;rfl) ?_ (by simp;rfl) ?_ ?_ ?_<;>simp[Cod.cursor,Cod.target,g1,g2,Cod.cells,Ins.cells]
set_option maxHeartbeats 1000000 in
def Cod.shape (c:Cod):Bool:=decide (0<=c.regs)&&(decide (c.regs<=256)&&(decide (0<=c.cur)&&(decide (c.cur<=4)&&decide (c.l.length<=8192))))
def Cod.chk (c:Cod):Int:=if c.shape then (if c.l.all c.ok then 0 else 1)else 1
theorem ixa_ins {l:List Ins}{i:Nat}{k:IntKind}(h:i<l.length):cIxa 15 (.ds (insC l) l.length 15) (.int k (i:Int))=.val (.dp (l[i].cells++insC (l.drop (i+1)))):=by
 rw[cIxa_ds h,insC_drop l i h]
theorem ld_ins (x:Ins)(r:List AV)(H:Hp):cLoadN 15 (.dp (x.cells++r)) H=.val x.av:=cLoadN_dp r (Ins.cells_len x)
theorem all_take {l:List Ins}{p:Ins->Bool}(h:∀j (hj:j<l.length),p l[j]=true):l.all p=true:=by
 rw[all_eq_true];intro x hx;obtain⟨j,hj,rfl⟩:=getElem_of_mem hx;exact h j hj
theorem all_not {l:List Ins}{p:Ins->Bool}{i:Nat}(hi:i<l.length)(h:p l[i]=false):l.all p=false:=by
 rw[all_eq_false];exact⟨l[i],getElem_mem hi,by simp[h]⟩
theorem chk4 (c:Cod):FnPure pG 11 [c.av] (.int .i64 c.chk):=by
 refine pureV c11 (by simp) (by simp) (by simp[A11]) λ F hF=>?_
 by_cases g1:c.regs<0
 ·have:c.chk=1:=by simp[Cod.chk,Cod.shape];omega
  simp[A11,B11,R11_0,R11_1,R11_2,hF,Cod.av,Cod.cells,g1,this];exact .pure _ (by simp)
 by_cases g2:256<c.regs
 ·have:c.chk=1:=by simp[Cod.chk,Cod.shape];omega
  simp[A11,B11,R11_0,R11_1,R11_2,hF,Cod.av,Cod.cells,g1,g2,this];exact .pure _ (by simp)
 by_cases g3:c.cur<0
 ·have:c.chk=1:=by simp[Cod.chk,Cod.shape];omega
  simp[A11,B11,R11_0,R11_1,R11_2,hF,Cod.av,Cod.cells,g1,g2,g3,this];exact .pure _ (by simp)
 by_cases g4:4<c.cur
 ·have:c.chk=1:=by simp[Cod.chk,Cod.shape];omega
  simp[A11,B11,R11_0,R11_1,R11_2,hF,Cod.av,Cod.cells,g1,g2,g3,g4,this];exact .pure _ (by simp)
 by_cases g5:(8192:Int)<(c.l.length:Int)
 ·have:c.chk=1:=by simp[Cod.chk,Cod.shape];omega
  simp[A11,B11,R11_0,R11_1,R11_2,hF,Cod.av,Cod.cells,g1,g2,g3,g4,g5,this];exact .pure _ (by simp)
 have hs:c.shape=true:=by simp[Cod.shape];omega
 simp[A11,B11,R11_0,R11_1,R11_3,hF,Cod.av,Cod.cells,g1,g2,g3,g4,g5]
 refine LoopV.of (λ k F K m ms=>∃i,k=c.l.length - i/\i<=c.l.length/\F.get 1=some (.ptr 0 0)/\F.get 30=some (.ds (insC c.l) c.l.length 15)/\F.get 31=some (.int .i64 (c.l.length:Int))/\F.get 32=some (.int .i64 (i:Int)) /\
  K.get 0=some (.cells 3 [] c.cells .nil)/\1<=m/\ms=[]/\∀j (hj:j<i) (h:j<c.l.length),c.ok c.l[j]=true) c.l.length ⟨0,by simp[Cod.cells]⟩ ?_
 rintro k F K m ms ⟨i,rfl,hi,f1,f30,f31,f32,hK,hm,rfl,hj⟩
 by_cases hlt:i<c.l.length
 ·have hx:=ixa_ins (k:=.i64) hlt;have hK':=hK;simp only[Cod.cells]at hK';have hm0:¬ 0=m:=by omega
  generalize hxe:c.l[i]=x at hx;simp[L11_0,R11_4,R11_5,R11_6,f30,f31,f32,hlt,hx,ld_ins];rw[show (decide (x.av.len=15)&&allOne x.av.cells)=true by simp[Ins.av,Ins.cells]];rw[show patch [AV.int IntKind.i64 0,AV.int IntKind.i64 0,AV.int IntKind.i64 0,AV.int IntKind.i64 0,AV.int IntKind.i64 0,AV.int IntKind.i64 0,AV.int IntKind.i64 0,AV.int IntKind.u32 0,AV.int IntKind.i64 0,AV.int IntKind.i64 0,AV.bool false,AV.bool false,AV.int IntKind.i64 0,AV.int IntKind.i64 0,AV.str []] 0 x.av.cells=some x.cells from rfl];simp[f1,hK',hm0];refine CalV.pure (may7 c (by omega) x) ?_;simp
  cases hok:c.ok x with
  | false =>
   have:c.chk=1:=by
    simp only[Cod.chk,hs,if_true];rw[all_not hlt (by rw[hxe];exact hok)];simp
   simp[R11_7,this];exact .pure _ (by simp)
  | true =>
   simp[R11_8,f32,wrap_nat i (by omega)];refine⟨c.l.length - (i+1),by omega,i+1,rfl,hlt,f1,f30,f31,by omega,by simp[hm0,hK],λ j hj' h=>?_⟩
   by_cases e:j=i
   ·subst e;rw[hxe];exact hok
   exact hj j (by omega) h
 simp[L11_0,R11_4,R11_9,f31,f32,hlt];have:i=c.l.length:=by omega
 subst this;have:c.chk=0:=by simp only[Cod.chk,hs,if_true];rw[all_take λ j h=>hj j h h];simp
 rw[this];exact .pure _ (by simp)
def cV (a b:Val):Int:=if a.may&&b.may then a.ord b else if a.may then -1 else if b.may then 1 else 0
def rowO:List Val->List Val->Int
 | a::l,b::m=>if cV a b≠0 then cV a b else rowO l m
 | l,m=>(l.length:Int) - (m.length:Int)
def rowR:List Val->List Val->Int
 | a::l,b::m=>if a.ord b≠0 then a.ord b else rowR l m
 | [],[]=>0
 | [],_::_ => -1
 | _::_,[]=>1
theorem rowO_drop {l m:List Val}{i:Nat}(hl:i<l.length)(hm:i<m.length):rowO (l.drop i) (m.drop i)=if cV l[i] m[i]≠0 then cV l[i] m[i]else rowO (l.drop (i+1)) (m.drop (i+1)):=by
 rw[drop_eq_getElem_cons hl,drop_eq_getElem_cons hm,rowO]
theorem rowR_drop {l m:List Val}{i:Nat}(hl:i<l.length)(hm:i<m.length):rowR (l.drop i) (m.drop i)=if l[i].ord m[i]≠0 then l[i].ord m[i]else rowR (l.drop (i+1)) (m.drop (i+1)):=by
 rw[drop_eq_getElem_cons hl,drop_eq_getElem_cons hm,rowR]
theorem rowO_end {l m:List Val}{i:Nat}(h1:i<=l.length)(h2:i<=m.length)(h:i=l.length∨i=m.length):rowO (l.drop i) (m.drop i)=(l.length:Int) - (m.length:Int):=by
 have:l.drop i=[]∨m.drop i=[]:=by
  rcases h with rfl | rfl
  ·exact .inl (drop_length ..)
  exact .inr (drop_length ..)
 rcases this with e | e
 ·have h':l.length - i=0:=by rw[<-length_drop,e];rfl
  rw[e,rowO.eq_2 _ _ (by rintro a l' b m' h;cases h)];simp;omega
 have h':m.length - i=0:=by rw[<-length_drop,e];rfl
 rw[e,rowO.eq_2 _ _ (by rintro a l' b m' _ h;cases h)];simp;omega
theorem rowR_end {l m:List Val}{i:Nat}(h1:i<=l.length)(h2:i<=m.length)(h:i=l.length∨i=m.length):rowR (l.drop i) (m.drop i)=if l.length<m.length then -1 else if m.length<l.length then 1 else 0:=by
 rcases Nat.lt_trichotomy l.length m.length with c | c | c
 ·obtain rfl:i=l.length:=by omega
  rw[drop_length,drop_eq_getElem_cons c,if_pos c];rfl
 ·have:i=l.length:=by omega
  subst this;rw[drop_length,c,drop_length,if_neg (by omega),if_neg (by omega)];rfl
 obtain rfl:i=m.length:=by omega
 rw[drop_length,drop_eq_getElem_cons c,if_neg (by omega),if_pos c];rfl
theorem order17 (l m:List Val) (hl:l.length<=1048576) (hm:m.length<=1048576):FnPure pG 62 [rowAV l,rowAV m] (.int .i64 (rowO l m)):=by
 refine pureV c62 (by simp) (by simp) (by simp[A62]) λ F hF=>?_
 have hmin:minR .i64 (l.length:Int) [.int .i64 (m.length:Int)]=some (.int .i64 ((min l.length m.length:Nat):Int)):=by
  unfold minR;simp[minR];omega
 obtain⟨M,hM⟩:∃M,M=min l.length m.length:=⟨_,rfl⟩;rw[<-hM]at hmin;simp[A62,B62,R62_0,R62_1,hF,rowAV,eMnx,minI,hmin];refine LoopV.of (λ k F K n ms=>∃i,k=M - i/\i<=l.length/\i<=m.length/\F.get 0=some (rowAV l)/\F.get 1=some (rowAV m)/\F.get 12=some (.int .i64 (M:Int))/\F.get 13=some (.int .i64 (i:Int))/\K=.nil/\ms=[]/\rowO l m=rowO (l.drop i) (m.drop i)) M ⟨0,by simp[hF,rowAV]⟩ ?_;rintro k F K n ms ⟨i,rfl,hi,hib,f0,f1,f12,f13,rfl,rfl,he⟩
 by_cases hlt:i<M
 ·have h1 : i<l.length:=by omega
  have h2:i<m.length:=by omega
  have hx:=ixa_val (k:=.i64) h1;have hy:=ixa_val (k:=.i64) h2;rw[rowO_drop h1 h2]at he;simp[L62_0,R62_2,f12,f13,hlt,R62_3,R62_4];refine DrwV.of (ceT_ok (l:=[(87,[l[i].av,m[i].av],λ H n=>.mk (.tup [.int .i64 (l[i].cmp m[i]).1,.int .i64 (l[i].cmp m[i]).2]) H n)]) ?_) ?_
  ·intro x hx;simp only[mem_cons,not_mem_nil,or_false]at hx;subst hx;exact ceT_pure (compare13 l[i] m[i])
  simp[clearF_get,f0,f1,rowAV,hx,hy,ld_val];rw[ceT_hd];have w:=wrap_nat i (by omega);unfold cV at he;unfold Val.cmp
  by_cases ha:l[i].may=true
  ·by_cases hb:m[i].may=true
   ·rw[ha,hb]at he ⊢;simp at he ⊢
    by_cases hc:l[i].ord m[i]=0
    ·rw[if_pos hc]at he;simp[R62_5,R62_11,hc,R62_13,clearF_get,f13,w,f0,f1,f12,rowAV];exact⟨M - (i+1),by omega,i+1,rfl,by omega,by omega,by omega,he⟩
    rw[if_neg hc]at he;simp[R62_5,R62_11,hc,R62_12,he];exact .pure _ (by simp)
   have hb:m[i].may=false:=by simpa using hb
   rw[ha,hb]at he ⊢;simp at he ⊢;simp[R62_5,R62_6,R62_7,clearF_get,f0,rowAV,hx,ld_val];refine CalV.pure (may52 l[i]) ?_;simp[ha,R62_8,R62_11,R62_12,he];exact .pure _ (by simp)
  have ha:l[i].may=false:=by simpa using ha
  rw[ha]at he ⊢;simp at he ⊢;simp[R62_5,R62_6,R62_7,clearF_get,f0,rowAV,hx,ld_val];refine CalV.pure (may52 l[i]) ?_;simp[ha,R62_9,clearF_get,f1,rowAV,hy,ld_val];refine CalV.pure (may52 m[i]) ?_
  by_cases hb:m[i].may=true
  ·rw[hb]at he ⊢;simp at he;simp[R62_10,R62_11,R62_12,he];exact .pure _ (by simp)
  have hb:m[i].may=false:=by simpa using hb
  rw[hb]at he ⊢;simp at he;simp[R62_11,R62_13,clearF_get,f13,w,f0,f1,f12,rowAV];exact⟨M - (i+1),by omega,i+1,rfl,by omega,by omega,by omega,he⟩
 have e:i=M:=by omega
 rw[rowO_end hi hib (by omega)]at he;simp[L62_0,R62_2,f12,f13,hlt,R62_14,f0,f1,rowAV,wrap_sm ((l.length:Int) - (m.length:Int)) (by omega) (by omega),he];exact .pure _ (by simp)
theorem Order31 (l m:List Val) (hl:l.length<=1048576) (_hm:m.length<=1048576) (al:∀v∈l,v.may=true) (am:∀v∈m,v.may=true):FnPure pG 21 [rowAV l,rowAV m] (.int .i64 (rowR l m)):=by
 refine pureV c21 (by simp) (by simp) (by simp[A21]) λ F hF=>?_;obtain⟨M,hM⟩:∃M,M=min l.length m.length:=⟨_,rfl⟩;simp[A21,B21,R21_0,R21_1];refine LoopV.of (λ k F K n ms=>∃i,k=M - i/\i<=l.length/\i<=m.length/\F.get 0=some (rowAV l)/\F.get 1=some (rowAV m)/\F.get 5=some (.int .i64 (i:Int))/\K=.nil/\ms=[]/\rowR l m=rowR (l.drop i) (m.drop i)) M ⟨0,by simp[hF,rowAV]⟩ ?_;rintro k F K n ms ⟨i,rfl,hi,hib,f0,f1,f5,rfl,rfl,he⟩
 by_cases hlt:i<M
 ·have h1:i<l.length:=by omega
  have h2:i<m.length:=by omega
  have hx:=ixa_val (k:=.i64) h1;have hy:=ixa_val (k:=.i64) h2;rw[rowR_drop h1 h2]at he;simp[L21_0,R21_2,f0,f1,f5,rowAV,h1,h2,R21_3];refine DrwV.of (ceT_ok (l:=[(44,[l[i].av,m[i].av],λ H n=>.mk (.int .i64 (l[i].ord m[i])) H n)]) ?_) ?_
  ·intro x hx;simp only[mem_cons,not_mem_nil,or_false]at hx;subst hx;exact ceT_pure (Order23 l[i] m[i] (al _ (getElem_mem _)) (am _ (getElem_mem _)))
  simp[clearF_get,f0,f1,f5,rowAV,hx,hy,ld_val];rw[ceT_hd];have w:=wrap_nat i (by omega);simp[R21_4]
  by_cases hc:l[i].ord m[i]=0
  ·rw[if_neg (by simp[hc])]at he;simp[hc,R21_6,clearF_get,f0,f1,f5,w,rowAV];exact⟨M - (i+1),by omega,i+1,rfl,by omega,by omega,by omega,he⟩
  rw[if_pos hc]at he;simp[hc,R21_5,he];exact .pure _ (by simp)
 rw[rowR_end hi hib (by omega)]at he
 by_cases c1:i<l.length
 ·have c2:¬i<m.length:=by omega
  have c9003:m.length<l.length:=by omega
  have c9004:¬l.length<m.length:=by omega
  simp[L21_0,R21_2,f0,f1,f5,rowAV,c1,c2,c9003,c9004,R21_7,R21_9,R21_10,he];exact .pure _ (by simp)
 by_cases c2:l.length<m.length
 ·simp[L21_0,R21_2,f0,f1,f5,rowAV,c1,c2,R21_7,R21_8,he];exact .pure _ (by simp)
 have c9003:¬m.length<l.length:=by omega
 simp[L21_0,R21_2,f0,f1,f5,rowAV,c1,c2,c9003,R21_7,R21_9,R21_11,he];exact .pure _ (by simp)
theorem Same18 (l m:List Val) (hl:l.length<=1048576):FnPure pG 31 [rowAV l,rowAV m] (.bool (decide (l=m))):=by
 refine pureV c31 (by simp) (by simp) (by simp[A31]) λ F hF=>?_;simp[A31,B31,R31_0,R31_1,hF,rowAV]
 by_cases hlm:l.length=m.length
 ·simp[hlm,R31_3];refine LoopV.of (λ k F K n ms=>∃i,k=l.length - i/\i<=l.length/\F.get 0=some (rowAV l)/\F.get 1=some (rowAV m)/\F.get 5=some (.int .i64 (i:Int))/\K=.nil/\ms=[]/\(l=m↔l.drop i=m.drop i)) l.length ⟨0,by simp[hF,rowAV]⟩ ?_;rintro k F K n ms ⟨i,rfl,hi,f0,f1,f5,rfl,rfl,he⟩
  by_cases hlt:i<l.length
  ·have h2:i<m.length:=by omega
   have hx:=ixa_val (k:=.i64) hlt;have hy:=ixa_val (k:=.i64) h2;rw[drop_eq_getElem_cons hlt,drop_eq_getElem_cons h2,List.cons.injEq]at he;simp[L31_0,R31_4,f0,f5,rowAV,hlt,R31_5];refine DrwV.of (ce0_ok (P:=pG)) ?_;simp[clearF_get,f0,f1,f5,rowAV,hx,hy,ld_val,eqA_val]
   by_cases hc:l[i]=m[i]
   ·have w:=wrap_nat i (by omega);simp[hc,R31_7,clearF_get,f0,f1,f5,w,rowAV];exact⟨l.length - (i+1),by omega,i+1,rfl,by omega,by omega,by rw[he];simp[hc]⟩
   have:¬l=m:=λ e=>hc (he.1 e).1;simp[hc,R31_6,this];exact .pure _ (by simp)
  have e:i=l.length:=by omega
  have:l=m:=he.2 (by rw[e,drop_length,hlm,drop_length]);subst this;simp[L31_0,R31_4,f0,f5,rowAV,hlt,R31_8];exact .pure _ (by simp)
 have:¬l=m:=λ e=>hlm (by rw[e]);simp[hlm,R31_2,this];exact .pure _ (by simp)
def rowsC (L:List (List Val)):List AV:=L.map rowAV
@[simp] theorem rowsC_len (L:List (List Val)):(rowsC L).length=L.length:=by simp[rowsC]
@[simp] theorem rowsC_pure (L:List (List Val)):PureL (rowsC L):=PureL.of_mem λ v hv=>by
 simp only[rowsC,mem_map]at hv;obtain⟨i,_,rfl⟩:=hv;simp
theorem rowsC_drop (l:List (List Val))(i:Nat)(h:i<l.length):(rowsC l).drop i=rowAV l[i]::rowsC (l.drop (i+1)):=by
 rw[rowsC,<-map_drop,drop_eq_getElem_cons h];rfl
theorem ixa_row {l:List (List Val)}{i:Nat}{k:IntKind}(h:i<l.length):cIxa 1 (.ds (rowsC l) l.length 1) (.int k (i:Int))=.val (.dp (rowAV l[i]::rowsC (l.drop (i+1)))):=by
 rw[cIxa_ds h,Nat.mul_one,rowsC_drop l i h]
theorem SameRows7 (L M:List (List Val)) (hL:L.length<=1048576) (hl:∀l∈L,l.length<=1048576):FnPure pG 30 [.ds (rowsC L) L.length 1,.ds (rowsC M) M.length 1] (.bool (decide (L=M))):=by
 refine pureV c30 (by simp) (by simp) (by simp[A30]) λ F hF=>?_;simp[A30,B30,R30_0,R30_1,hF]
 by_cases hlm:L.length=M.length
 ·simp[hlm,R30_3];refine LoopV.of (λ k F K n ms=>∃i,k=L.length - i/\i<=L.length/\F.get 0=some (.ds (rowsC L) L.length 1)/\F.get 1=some (.ds (rowsC M) M.length 1)/\F.get 5=some (.int .i64 (i:Int))/\K=.nil/\ms=[]/\(L=M↔L.drop i=M.drop i)) L.length ⟨0,by simp[hF]⟩ ?_;rintro k F K n ms ⟨i,rfl,hi,f0,f1,f5,rfl,rfl,he⟩
  by_cases hlt:i<L.length
  ·have h2:i<M.length:=by omega
   have hx:=ixa_row (k:=.i64) hlt;have hy:=ixa_row (k:=.i64) h2;rw[drop_eq_getElem_cons hlt,drop_eq_getElem_cons h2,List.cons.injEq]at he;simp[L30_0,R30_4,f0,f5,hlt,R30_5];refine DrwV.of (ceT_ok (l:=[(31,[rowAV L[i],rowAV M[i]],λ H n=>.mk (.bool (decide (L[i]=M[i]))) H n)]) ?_) ?_
   ·intro x hx;simp only[mem_cons,not_mem_nil,or_false]at hx;subst hx;exact ceT_pure (Same18 L[i] M[i] (hl _ (getElem_mem _)))
   simp[clearF_get,f0,f1,f5,hx,hy];rw[ceT_hd]
   by_cases hc:L[i]=M[i]
   ·have w:=wrap_nat i (by omega);simp[hc,R30_7,clearF_get,f0,f1,f5,w];exact⟨L.length - (i+1),by omega,i+1,rfl,by omega,by omega,by rw[he];simp[hc]⟩
   have:¬L=M:=λ e=>hc (he.1 e).1;simp[hc,R30_6,this];exact .pure _ (by simp)
  have e:i=L.length:=by omega
  have:L=M:=he.2 (by rw[e,drop_length,hlm,drop_length]);subst this;simp[L30_0,R30_4,f0,f5,hlt,R30_8];exact .pure _ (by simp)
 have:¬L=M:=λ e=>hlm (by rw[e]);simp[hlm,R30_2,this];exact .pure _ (by simp)
def fit1 (c:Col)(v:Val):Int:=if v.may=false then 5 else if v.kind≠0/\v.kind≠c.kind then 30 else if v.kind=0/\c.need=true then 50 else 0
def fitL:List Col->List Val->Int
 | c::cs,v::vs=>if fit1 c v=0 then fitL cs vs else fit1 c v
 | _,_=>0
theorem fitL_drop {c:List Col}{v:List Val}{i:Nat}(h1:i<c.length)(h2:i<v.length):fitL (c.drop i) (v.drop i)=if fit1 c[i] v[i]=0 then fitL (c.drop (i+1)) (v.drop (i+1))else fit1 c[i] v[i]:=by
 rw[drop_eq_getElem_cons h1,drop_eq_getElem_cons h2];rfl
def fitE (c:List Col)(v:List Val):Int:=if ColsOk c/\v.length=c.length then fitL c v else 1
theorem fits60 (c:List Col) (v:List Val) (hv:v.length<=lim):FnPure pG 60 [eCol.ds c,rowAV v] (.int .i64 (fitE c v)):=by
 unfold lim at hv;refine pureV c60 (by simp) (by simp) (by simp[A60]) λ F hF=>?_;unfold fitE;simp[A60,B60,R60_0,R60_1,hF];refine CalV.pure (may45 c) ?_
 by_cases hc:ColsOk c
 ·by_cases hl:v.length=c.length
  ·simp[hc,hF,rowAV,Enc.len_ds,hl,R60_3];refine LoopV.of (λ k F K n ms=>∃i,k=v.length - i/\i<=v.length/\F.get 0=some (eCol.ds c)/\F.get 17=some (rowAV v)/\F.get 18=some (.int .i64 (v.length:Int))/\F.get 19=some (.int .i64 (i:Int))/\ms=[]/\fitL c v=fitL (c.drop i) (v.drop i)) v.length ⟨0,by simp[hF,rowAV,hl]⟩ ?_;rintro k F K n ms ⟨i,rfl,hi,f0,f17,f18,f19,rfl,he⟩
   by_cases hlt:i<v.length
   ·have hx:=ixa_val (k:=.i64) hlt;have hy:=eCol.ix (ik:=.i64) (l:=c) (i:=i) (by omega);rw[eCol_c]at hy;rw[fitL_drop (by omega) hlt]at he;rw[rowAV]at f17;rw[he];generalize v[i]=u at *;generalize c[i]=d at *;have hm:=may52 u;simp only[Val.av]at hm;simp[L60_0,R60_4,f18,f19,hlt,R60_5,f17,hx,ld_val,R60_6,Val.av];refine CalV.pure hm ?_
    by_cases h1:u.may=true
    ·simp[h1,R60_8];refine DrwV.of (ce0_ok (P:=pG)) ?_
     by_cases h2:u.kind=0
     ·by_cases h3:d.need=true
      ·simp[clearF_get,f0,hy,h2,R60_10,h3,R60_11,fit1,h1];exact .pure _ (by simp)
      simp[clearF_get,f0,hy,h2,R60_10,h3,R60_12,fit1,h1,f17,f18,f19,wrap_nat i (by omega)];exact⟨_,by omega,i+1,rfl,hlt,by simp[rowAV],rfl,by simp⟩
     by_cases h3:u.kind=d.kind
     ·simp[clearF_get,f0,hy,h2,h3,R60_10,R60_12,fit1,h1,f17,f18,f19,wrap_nat i (by omega),show ¬d.kind=0 by omega];exact⟨_,by omega,i+1,rfl,hlt,by simp[rowAV],rfl,by simp⟩
     simp[clearF_get,f0,hy,h2,h3,R60_9,fit1,h1];exact .pure _ (by simp)
    simp[h1,R60_7,fit1];exact .pure _ (by simp)
   obtain rfl:i=v.length:=by omega
   rw[he];simp[L60_0,R60_4,f18,f19,R60_13,fitL];exact .pure _ (by simp)
  simp[hc,hF,rowAV,Enc.len_ds,hl,R60_2];exact .pure _ (by simp)
 simp[hc,hF,R60_2];exact .pure _ (by simp)
theorem fits103 (c:List Col) (v:List Val) (hv:v.length<=lim):FnPure pG 103 [eCol.ds c,rowAV v] (.int .i64 (fitE c v)):=by
 unfold lim at hv;refine pureV c103 (by simp) (by simp) (by simp[A103]) λ F hF=>?_;unfold fitE;simp[A103,B103,R103_0,R103_1,hF];refine CalV.pure (cols75 c) ?_
 by_cases hc:ColsOk c
 ·by_cases hl:v.length=c.length
  ·simp[hc,hF,rowAV,Enc.len_ds,hl,R103_3];refine LoopV.of (λ k F K n ms=>∃i,k=v.length - i/\i<=v.length/\F.get 0=some (eCol.ds c)/\F.get 1=some (rowAV v)/\F.get 5=some (.int .i64 (i:Int))/\ms=[]/\fitL c v=fitL (c.drop i) (v.drop i)) v.length ⟨0,by simp[hF,rowAV,hl]⟩ ?_;rintro k F K n ms ⟨i,rfl,hi,f0,f1,f5,rfl,he⟩
   by_cases hlt:i<v.length
   ·have hx:=ixa_val (k:=.i64) hlt;have hy:=eCol.ix (ik:=.i64) (l:=c) (i:=i) (by omega);rw[eCol_c]at hy;rw[fitL_drop (by omega) hlt]at he;rw[rowAV]at f1;rw[he];generalize v[i]=u at *;generalize c[i]=d at *;have hm:=may22 u;simp only[Val.av]at hm;simp[L103_0,R103_4,f1,f5,hlt,R103_5,hx,ld_val,Val.av];refine CalV.pure hm ?_
    by_cases h1:u.may=true
    ·simp[h1,R103_7];refine DrwV.of (ce0_ok (P:=pG)) ?_
     by_cases h2:u.kind=0
     ·by_cases h3:d.need=true
      ·simp[clearF_get,f0,f1,f5,hx,hy,ld_kind,h2,R103_9,h3,R103_10,fit1,h1];exact .pure _ (by simp)
      simp[clearF_get,f0,f1,f5,hx,hy,ld_kind,h2,R103_9,h3,R103_11,fit1,h1,wrap_nat i (by omega)];exact⟨_,by omega,i+1,rfl,hlt,by simp[rowAV],rfl,by simp⟩
     by_cases h3:u.kind=d.kind
     ·simp[clearF_get,f0,f1,f5,hx,hy,ld_kind,h2,h3,R103_9,R103_11,fit1,h1,wrap_nat i (by omega),show ¬d.kind=0 by omega];exact⟨_,by omega,i+1,rfl,hlt,by simp[rowAV],rfl,by simp⟩
     simp[clearF_get,f0,f1,f5,hx,hy,ld_kind,h2,h3,R103_8,fit1,h1];exact .pure _ (by simp)
    simp[h1,R103_6,fit1];exact .pure _ (by simp)
   obtain rfl:i=v.length:=by omega
   rw[he];simp[L103_0,R103_4,f1,f5,rowAV,R103_12,fitL];exact .pure _ (by simp)
  simp[hc,hF,rowAV,Enc.len_ds,hl,R103_2];exact .pure _ (by simp)
 simp[hc,hF,R103_2];exact .pure _ (by simp)
end Go.Abs
