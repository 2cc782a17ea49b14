/- A part. -/
import Derived.Test.YtbdgioomddkglaaGreatBt3
noncomputable section
namespace Go.Abs
open List
open Go.Proofs
open Classical
set_option maxRecDepth 100000
def goneH (H:Hp):List Nat->Hp
 | []=>H
 | b::r=>(goneH H r).put b none
def toldH (H:Hp):List (Nat×List AV)->Hp
 | []=>H
 | e::r=>(toldH H r).put e.1 (some (.cells e.2.length [] e.2 .nil))
theorem goneH_get (H:Hp)(L:List Nat)(c:Nat):(goneH H L).get c=if c∈L then none else H.get c:=by
 induction L with
 | nil=>simp[goneH]
 | cons b r ih =>
  simp only[goneH,Tr.get_put,ih,mem_cons]
  by_cases h:c=b
  ·simp[h]
  simp[h]
theorem toldH_out (H:Hp)(M:List (Nat×List AV))(c:Nat)(h:c∉M.map (·.1)):(toldH H M).get c=H.get c:=by
 induction M with
 | nil=>rfl
 | cons e r ih =>
  simp only[map_cons,mem_cons,not_or]at h;simp only[toldH,Tr.get_put,if_neg h.1,ih h.2]
theorem toldH_in (H:Hp)(M:List (Nat×List AV))(hd:(M.map (·.1)).Nodup):∀e∈M,(toldH H M).get e.1=some (.cells e.2.length [] e.2 .nil):=by
 induction M with
 | nil=>intro e h;simp at h
 | cons a r ih =>
  simp only[map_cons,nodup_cons]at hd;intro e h;simp only[toldH,Tr.get_put]
  rcases mem_cons.1 h with rfl | h
  ·simp
  have:e.1≠a.1:=λ e2=>hd.1 (e2▸mem_map_of_mem h);rw[if_neg this,ih hd.2 e h]
theorem CallR.okL {P:Program}{g:FuncId}{args:List AV}{H:Hp}{n n':Nat}{v0:AV}(L:List Nat) (M:List (Nat×List AV)) (ha:RLtL n args) (hL:∀b∈L,b<n) (hx:∀b∈L,H.get b≠none) (hb:∀b∈L,∀k,H.get b=some k->RLtB n k)
  (hn:n<=n')(hd:(M.map (·.1)).Nodup)(hM:∀e∈M,e.1∈L∨(n<=e.1/\e.1<n'))(h:CallR P g args (pick H L) n (λ v K k=>v=v0/\(∀e∈M,∃y,K.get e.1=some y/\OwnB y e.2)/\k<=n')):
  ∃H1,CallOk P g args H n v0 H1 n'/\(∀e∈M,H1.get e.1=some (.cells e.2.length [] e.2 .nil))/\(∀c,c∉L->c<n∨n'<=c->H1.get c=H.get c):=by
 have hout:∀c,c∉L->c<n∨n'<=c->c∉M.map (·.1):=λ c h1 h2 h3=>by
  obtain⟨e,h4,rfl⟩:=mem_map.1 h3
  rcases hM e h4 with h5 | h5
  ·exact h1 h5
  omega
 refine⟨toldH (goneH H (L++range' n (n' - n))) M,CallR.okS (S:=pick H L) (S':=toldH (goneH .nil (L++range' n (n' - n))) M) (h.mono λ v K k ⟨h1,h2,h3⟩=>⟨h1,λ b y hy=>?_,h3⟩) hn ha (λ b k hk=>?_) (λ b k hk=>?_) (λ b hb=>?_) (λ b hb1 hb2=>?_),toldH_in _ M hd,λ c h1 h2=>?_⟩
 ·by_cases h4:b∈M.map (·.1)
  ·obtain⟨e,h5,rfl⟩:=mem_map.1 h4;rw[toldH_in _ M hd e h5]at hy;injection hy with hy;obtain⟨y',h6,h7⟩:=h2 e h5;exact⟨y',h6,hy▸h7.ble rfl⟩
  rw[toldH_out _ _ _ h4,goneH_get]at hy
  split at hy<;>simp at hy
 ·rw[pick_get]at hk
  split at hk
  ·rename_i hm;exact⟨hL b hm,hb b hm k hk⟩
  cases hk
 ·rw[pick_get]at hk
  split at hk
  ·exact hk
  cases hk
 ·by_cases h4:b∈M.map (·.1)
  ·obtain⟨e,h5,rfl⟩:=mem_map.1 h4;rw[toldH_in _ M hd e h5,toldH_in _ M hd e h5]
  rw[toldH_out _ _ _ h4,toldH_out _ _ _ h4,goneH_get,goneH_get];rw[pick_get]at hb;rw[if_pos,if_pos]
  all_goals
   rw[mem_append,List.mem_range'_1]
   rcases hb with hb | hb
   ·split at hb
    ·rename_i hm;exact .inl hm
    exact absurd rfl hb
   exact .inr (by omega)
 ·by_cases hm:b∈L
  ·rw[pick_get,if_pos hm]at hb1;exact absurd hb1 (hx b hm)
  rw[toldH_out _ _ _ (hout b hm (by omega)),goneH_get,if_neg];rw[mem_append,List.mem_range'_1];rintro(h | h)
  ·exact hm h
  omega
 rw[toldH_out _ _ _ (hout c h1 h2),goneH_get,if_neg];rw[mem_append,List.mem_range'_1];rintro(h | h)
 ·exact h1 h
 omega
theorem cToInt_int (k j:IntKind)(a:Int):cToInt k (.int j a)=.val (.int k (k.wrap a)):=by
 simp only[cToInt,vint_eq]
def byC (l:List Nat):List AV:=l.map λ b:Nat=>.int .u8 (b:Int)
@[simp] theorem byC_len (l:List Nat):(byC l).length=l.length:=by simp[byC]
theorem byC_app (a b:List Nat):byC (a++b)=byC a++byC b:=by simp[byC]
theorem byC_flat (l:List Nat):FlatL (byC l):=by
 induction l with
 | nil=>simp[byC]
 | cons a r ih=>simpa[byC]using ih
theorem byC_pure (l:List Nat):PureL (byC l):=by
 induction l with
 | nil=>simp[byC]
 | cons a r ih=>simpa[byC]using ih
theorem byC_one (l:List Nat):allOne (byC l)=true:=by
 induction l with
 | nil=>rfl
 | cons a r ih=>simpa[byC]using ih
@[simp] theorem cEq_pn (c:Bool)(b o:Nat):cEq c .ptr (.ptr b o) (.cst (.pointer none))=.val (.bool c):=by cases c<;>exact Eq.trans rfl rfl
theorem cShr_ok (k j:IntKind)(a b:Int)(h:0<=b):cShift .shr (.int k a) (.int j b)=.val (.int k (a.fdiv (2 ^ (min b.toNat k.bits)))):=by
 obtain⟨b,rfl⟩:=Int.eq_ofNat_of_zero_le h;simp only[cShift,vint_eq];rfl
theorem cShl_ok (k j:IntKind)(a b:Int)(h:0<=b):cShift .shl (.int k a) (.int j b)=.val (.int k (k.wrap (a*2 ^ (min b.toNat k.bits)))):=by
 obtain⟨b,rfl⟩:=Int.eq_ofNat_of_zero_le h;simp only[cShift,vint_eq];rfl
theorem cArith_or (k:IntKind)(a b:Int):cArith .or k a b=.val (.int k (k.wrap (BitVec.ofInt k.bits a ||| BitVec.ofInt k.bits b).toNat)):=by simp[cArith]
theorem cArith_xor (k:IntKind)(a b:Int):cArith .xor k a b=.val (.int k (k.wrap (BitVec.ofInt k.bits a ^^^ BitVec.ofInt k.bits b).toNat)):=by simp[cArith]
@[simp] theorem cBin_or:cBin .or=int2 (cArith .or):=Eq.trans rfl rfl
@[simp] theorem cBin_xor:cBin .xor=int2 (cArith .xor):=Eq.trans rfl rfl
structure WrN (H:Hp)(n p:Nat)(v:AV)(l:List Nat):Prop where
 hp:H.get p=some (.cells 2 [] [.bool true,v] .nil)
 pn:p<n
 hv:(v=.cst (.slice none 0 0)/\l=[])∨∃b,v=.sl b 0 l.length 1/\b<n/\b≠p/\H.get b=some (.cells l.length [] (byC l) .nil)/\0<l.length
def wrL (p:Nat)(v:AV):List Nat:=p::(blk v).toList
theorem u8_sm {x:Nat}(h:x<256):IntKind.u8.wrap (x:Int)=(x:Int):=by simp[IntKind.wrap,IntKind.signed,IntKind.bits];omega
theorem u64_sm {x:Nat}(h:x<18446744073709551616):IntKind.u64.wrap (x:Int)=(x:Int):=by simp[IntKind.wrap,IntKind.signed,IntKind.bits];omega
theorem put147r {H:Hp}{n p:Nat}{v:AV}{l:List Nat}(ht:Top H n)(W:WrN H n p v l)(x:Nat)(hx:x<256)(hl:l.length<1048576):
  CallR pG 147 [.ptr p 0,.int .u8 (x:Int),.int .i64 1] H n (λ u K k=>u=.tup []/\K.get p=some (.cells 2 [] [.bool true,.sl (n+1) 0 (l.length+1) 1] .nil)/\(∃y,K.get (n+1)=some y/\OwnB y (byC (l++[x])))/\k=n+2):=by
 obtain⟨hp,pn,hv⟩:=W;have z:=ht.none;have e1:=neC pn;have e2:=neD pn;refine CallR.of c147 (by simp[A147]) λ F hF=>?_;simp[A147,B147,R147_0,hF,hp,R147_1];refine LoopV.ofU 1 (LoopU.step ?_);simp[L147_0,R147_2,R147_3,R147_4];refine DrwV.of (ce0_ok (P:=pG)) ?_;have s1:cShift .shr (.int .u64 (x:Int)) (.int .i64 0)=.val (.int .u64 (x:Int)):=by rw[cShr_ok _ _ _ _ (by omega)];simp
 simp[clearF_get,hF,hp,noneAt_cons,noneAt_nil,z,e1,u64_sm (show x<18446744073709551616 by omega),u8_sm hx,s1,wrap_sm,cToInt_int]
 rcases hv with⟨rfl,rfl⟩ | ⟨b,rfl,hbn,hbp,hb,hl0⟩
 ·rw[cApp_n (new:=byC [x]) (k:=1) (sliceCells_one (by simp[byC])) (by simp) (by omega) (by omega) (by unfold big;omega) (by omega) (byC_one _)];simp[clearF_get,hF,hp,e1,e2,R147_5,wrap_sm];refine LoopU.step ?_;simp[L147_0,R147_2,clearF_get,e2];exact .list (by simp)
 have hpb:¬p=b:=λ e=>hbp e.symm;have b1:=neC hbn;have b2:=neD hbn;rw[cApp_o (new:=byC [x]) (k:=1) (b:=b) (u:=l.length) (z:=[]) (bs:=byC l) (t:=.nil) (by simp[b1,hb]) (by omega) (sliceCells_one (by simp[byC])) (by simp) (by omega) (by omega) (by unfold big;omega) (by omega) (byC_one _)];simp[clearF_get,hF,hp,e1,e2,hpb,R147_5,wrap_sm];refine LoopU.step ?_;simp[L147_0,R147_2,byC_app,clearF_get,e2];have:=OwnB.app (u:=l.length) (z:=[]) (bs:=byC l) (l:=byC l) (new:=byC [x]) (t:=.nil) (OwnB.list (by simp)) (by simp[byC]);simpa using this
theorem wr_ok {g:FuncId}{args:List AV}{H:Hp}{n n' p b':Nat}{v:AV}{l new:List Nat}(W:WrN H n p v l) (ha:RLtL n args) (hn:n<=b'/\b'<n') (hl:0<(l++new).length)
  (h:∀S,Top S n->WrN S n p v l->CallR pG g args S n (λ u K k=>u=.tup []/\K.get p=some (.cells 2 [] [.bool true,.sl b' 0 (l++new).length 1] .nil)/\(∃y,K.get b'=some y/\OwnB y (byC (l++new)))/\k=n')):
  ∃H1,CallOk pG g args H n (.tup []) H1 n'/\WrN H1 n' p (.sl b' 0 (l++new).length 1) (l++new)/\∀c,c∉wrL p v->c<n∨n'<=c->H1.get c=H.get c:=by
 have W0:=W;obtain⟨hp,pn,hv⟩:=W
 have hL:∀c∈wrL p v,c<n/\H.get c≠none/\∀k,H.get c=some k->RLtB n k:=by
  intro c hc
  rcases mem_cons.1 hc with rfl | hc
  ·refine⟨pn,by rw[hp];simp,λ k hk=>?_⟩;rw[hp]at hk;injection hk with hk;subst hk;refine rLtB_list ?_
   rcases hv with⟨rfl,_⟩ | ⟨b,rfl,hb,_⟩
   ·simp
   simp[hb]
  rcases hv with⟨rfl,_⟩ | ⟨b,rfl,hb,_,hg,_⟩
  ·simp at hc
  simp at hc;subst hc;refine⟨hb,by rw[hg];simp,λ k hk=>?_⟩;rw[hg]at hk;injection hk with hk;subst hk;exact rLtB_list (byC_flat l).rlt
 have hS:WrN (pick H (wrL p v)) n p v l:=by
  refine⟨by rw[pick_in (by simp[wrL]),hp],pn,?_⟩
  rcases hv with h | ⟨b,rfl,h1,h2,h3,h4⟩
  ·exact .inl h
  exact .inr ⟨b,rfl,h1,h2,by rw[pick_in (by simp[wrL]),h3],h4⟩
 obtain⟨H1,h1,h2,h3⟩:=CallR.okL (n':=n') (wrL p v) [(p,[.bool true,.sl b' 0 (l++new).length 1]),(b',byC (l++new))] ha (λ c hc=>(hL c hc).1) (λ c hc=>(hL c hc).2.1) (λ c hc=>(hL c hc).2.2) (by omega) (by simp;omega) (by
  intro e he;simp at he
  rcases he with rfl | rfl
  ·exact .inl (by simp[wrL])
  exact .inr hn) ((h _ (pick_top λ c hc=>(hL c hc).1) hS).mono λ u K k ⟨a1,a2,a3,a4⟩=>⟨a1,λ e he=>by
  simp only[mem_cons,not_mem_nil,or_false]at he
  rcases he with rfl | rfl
  ·exact⟨_,a2,.list rfl⟩
  exact a3,by omega⟩)
 have q1:=h2 _ (mem_cons_self ..);have q2:=h2 _ (mem_cons_of_mem _ (mem_cons_self ..));exact⟨H1,h1,⟨by simpa using q1,by omega,.inr ⟨b',rfl,hn.2,by omega,by simpa using q2,hl⟩⟩,h3⟩
theorem put147 {H:Hp}{n p:Nat}{v:AV}{l:List Nat}(W:WrN H n p v l)(x:Nat)(hx:x<256)(hl:l.length<1048576):
  ∃H1,CallOk pG 147 [.ptr p 0,.int .u8 (x:Int),.int .i64 1] H n (.tup []) H1 (n+2)/\WrN H1 (n+2) p (.sl (n+1) 0 (l++[x]).length 1) (l++[x])/\∀c,c∉wrL p v->c<n∨n+2<=c->H1.get c=H.get c:=
 wr_ok W (by simp[W.pn]) (by omega) (by simp) λ S ht WS=>by simpa using put147r ht WS x hx hl
theorem u8_119 {H:Hp}{n p:Nat}{v:AV}{l:List Nat}(W:WrN H n p v l)(x:Nat)(hx:x<256)(hl:l.length<1048576):
  ∃H1,CallOk pG 119 [.ptr p 0,.int .u8 (x:Int)] H n (.tup []) H1 (n+2)/\WrN H1 (n+2) p (.sl (n+1) 0 (l++[x]).length 1) (l++[x])/\∀c,c∉wrL p v->c<n∨n+2<=c->H1.get c=H.get c:=
 wr_ok W (by simp[W.pn]) (by omega) (by simp) λ S _ WS=>by
  obtain⟨H1,h1,h2,_⟩:=put147 WS x hx hl;refine CallR.of c119 (by simp[A119]) λ F hF=>?_;simp[A119,B119,R119_0,hF];refine CalV.ok h1 ?_;simp
  rcases h2.hv with⟨h,_⟩ | ⟨b,h,_,_,h3,_⟩
  ·cases h
  injection h with h;subst h;exact⟨by simpa using h2.hp,_,h3,.list (by simp)⟩
def uvar (n:Nat):List Nat:=if n<=127 then [n]else (n % 128+128)::uvar (n / 128)
 termination_by n
 decreasing_by omega
theorem uvar_pos (n:Nat):0<(uvar n).length:=by unfold uvar;split<;>simp
theorem uvar_len (k n:Nat)(h:n<128 ^ (k+1)):(uvar n).length<=k+1:=by
 induction k generalizing n with
 | zero=>unfold uvar;rw[if_pos (by omega)];simp
 | succ k ih =>
  unfold uvar
  split
  ·simp
  have:=ih (n / 128) (by rw[Nat.div_lt_iff_lt_mul (by omega)];rwa [Nat.pow_succ]at h);simp;omega
theorem uvar_byte (n:Nat):∀b∈uvar n,b<256:=by
 induction n using uvar.induct with
 | case1 n h=>unfold uvar;rw[if_pos h];simp;omega
 | case2 n h ih=>unfold uvar;rw[if_neg h];simp only[mem_cons,forall_eq_or_imp];exact⟨by omega,ih⟩
theorem or128:∀x:Fin 256,(BitVec.ofInt 8 (x.val:Int) ||| BitVec.ofInt 8 128).toNat=x.val % 128+128:=by decide
theorem or_128 {x:Nat}:IntKind.u8.wrap (BitVec.ofInt IntKind.u8.bits (IntKind.u8.wrap (x:Int)) ||| BitVec.ofInt IntKind.u8.bits 128).toNat=((x % 128+128:Nat):Int):=by
 have h1:IntKind.u8.wrap (x:Int)=((x % 256:Nat):Int):=by simp[IntKind.wrap,IntKind.signed,IntKind.bits]
 have h2:=or128 ⟨x % 256,by omega⟩;rw[h1]
 have h3:(BitVec.ofInt IntKind.u8.bits ((x % 256:Nat):Int) ||| BitVec.ofInt IntKind.u8.bits 128).toNat=x % 128+128:=by
  refine Eq.trans h2 ?_;show x % 256 % 128+128=_;omega
 rw[h3,u8_sm (by omega)]
theorem or_c (x:Nat):cArith .or .u8 (IntKind.u8.wrap (x:Int)) 128=.val (.int .u8 ((x % 128+128:Nat):Int)):=by rw[cArith_or,or_128]
theorem uint185 {H:Hp}{n p:Nat}{v:AV}{l:List Nat}(W:WrN H n p v l) (x:Nat) (hx:x<18446744073709551616) (hl:l.length<1048000):
  ∃H1,CallOk pG 185 [.ptr p 0,.int .u64 (x:Int)] H n (.tup []) H1 (n+2*(uvar x).length)/\WrN H1 (n+2*(uvar x).length) p (.sl (n+2*(uvar x).length - 1) 0 (l++uvar x).length 1) (l++uvar x)/\∀c,c∉wrL p v->c<n∨n+2*(uvar x).length<=c->H1.get c=H.get c:=
 wr_ok W (by simp[W.pn]) (by have:=uvar_pos x;omega) (by have:=uvar_pos x;simp;omega) λ S ht WS=>by
  have hxl:(uvar x).length<=10:=uvar_len 9 x (by omega);refine CallR.of c185 (by simp[A185]) λ F hF=>?_;simp[A185,B185];refine LoopV.of (λ k F K m ms=>∃(y:Nat) (u:AV) (d:List Nat),k=y/\y<18446744073709551616/\F.get 0=some (.ptr p 0)/\F.get 1=some (.int .u64 (y:Int))/\ms=[]/\WrN K m p u (l++d)/\uvar x=d++uvar y/\m=n+2*d.length) x ⟨x,v,[],by simp[hF,hx,WS]⟩ ?_;clear hF F;rintro k F K m ms ⟨y,u,d,hk,hy,f0,f1,rfl,WK,hd,rfl⟩;have hdl:d.length<=10:=by have:=congrArg length hd;simp at this;omega
  by_cases h:y<=127
  ·simp[L185_0,R185_0,f1,show ¬(127:Int)<(y:Int) by omega];have e:uvar y=[y]:=by unfold uvar;rw[if_pos h]
   obtain⟨H1,h1,h2,_⟩:=u8_119 WK y (by omega) (by simp;omega);simp[R185_3,f0,f1,cToInt_int,u8_sm (show y<256 by omega)];refine CalV.ok h1 ?_;rw[e]at hd;have el:(uvar x).length=d.length+1:=by rw[hd];simp
   rw[hd,<-append_assoc];simp
   rcases h2.hv with⟨h,_⟩ | ⟨b,h,_,_,h3,_⟩
   ·cases h
   injection h with h;subst h;have hp':=h2.hp;simp only[append_assoc,length_append,List.length_singleton]at hp' h3;rw[show n+2*(d.length+1) - 1=n+2*d.length+1 by omega];exact⟨hp',⟨_,h3,.list (by simp)⟩,by omega⟩
  simp[L185_0,R185_0,f1,show (127:Int)<(y:Int) by omega];have e:uvar y=(y % 128+128)::uvar (y / 128):=by rw[uvar,if_neg h]
  obtain⟨H1,h1,h2,_⟩:=u8_119 WK (y % 128+128) (by omega) (by simp;omega);simp[R185_1,f0,f1,cToInt_int,or_c];refine CalV.ok h1 ?_
  have s7:cShift .shr (.int .u64 (y:Int)) (.int .u64 7)=.val (.int .u64 ((y / 128:Nat):Int)):=by
   rw[cShr_ok _ _ _ _ (by omega)];simp[IntKind.bits,Int.fdiv_eq_ediv_of_nonneg]
  simp[R185_2,f0,f1,s7];exact⟨y / 128,by omega,by omega,by omega,_,d++[y % 128+128],by simpa using h2,by rw[hd,e];simp,by simp;omega⟩
structure Val.rng (v:Val):Prop where
 lo : -9223372036854775808<=v.num
 hi:v.num<9223372036854775808
 b:∀c∈v.s,c<256
def zz (x:Int):Nat:=if 0<=x then (2*x).toNat else (-2*x - 1).toNat
theorem zz_lt {x:Int}(h1 : -9223372036854775808<=x)(h2:x<9223372036854775808):zz x<18446744073709551616:=by unfold zz;split<;>omega
theorem u8s_eq (s:List Nat):u8s s=byC s:=by
 induction s with
 | nil=>rfl
 | cons a r _=>simp[byC,u8s]
def cS2b (n:Nat):AV->ERes
 | .str l=>.new (.sl n 0 l.length 1) (.cells l.length [] (byC l) .nil)
 | _=>.fail
@[simp] theorem cS2b_str (n:Nat)(l:List Nat):cS2b n (.str l)=.new (.sl n 0 l.length 1) (.cells l.length [] (byC l) .nil):=Eq.trans rfl rfl
@[simp] theorem eS2b_f (x:G)(F:Fr)(H:Hp)(n:Nat):eS2b x F H n=oE (x.f F) (cS2b n):=by
 unfold eS2b oE
 cases x.f F with
 | none=>rfl
 | some v=>cases v<;>first | rfl | (dsimp only;rw[lenAcc_zero,u8s_eq];rfl)
theorem raw187 {H:Hp}{n p q b:Nat}{l s:List Nat}(W:WrN H n p (.sl b 0 l.length 1) l)(hq:H.get q=some (.cells s.length [] (byC s) .nil))(hl:l.length<1048000)(hs:s.length<=64):
  CallR pG 187 [.ptr p 0,.sl q 0 s.length 1] H n (λ u K k=>u=.tup []/\(s=[]->K.get p=H.get p/\K.get b=H.get b/\k=n)/\(s≠[]->K.get p=some (.cells 2 [] [.bool true,.sl n 0 (l++s).length 1] .nil)/\(∃y,K.get n=some y/\OwnB y (byC (l++s)))/\k=n+1)):=by
 obtain⟨hp,pn,hv⟩:=W
 obtain⟨hbn,hbp,hb⟩:b<n/\b≠p/\H.get b=some (.cells l.length [] (byC l) .nil):=by
  rcases hv with⟨h,_⟩ | ⟨b',h,h1,h2,h3,_⟩
  ·cases h
  injection h with h;subst h;exact⟨h1,h2,h3⟩
 refine CallR.of c187 (by simp[A187]) λ F hF=>?_;simp[A187,B187,R187_0,R187_1,hF,hp]
 have hsc:sliceCells H 1 (.sl q 0 s.length 1)=some (byC s):=by
  rw[sliceCells_sl hq (.list (by simp)) (by simp)];simp[take_of_length_le]
 by_cases hs0:s=[]
 ·subst hs0
  have e:cApp 1 1 n (.sl b 0 l.length 1) (.sl q 0 0 1) H=.val (.sl b 0 l.length 1):=by
   unfold cApp;simp only[length_nil]at hsc;rw[hsc];rfl
  simp[e,hp,hbp]
 have hs1:0<s.length:=length_pos_iff.2 hs0;have hO:OwnS H n (.sl b 0 l.length 1) (byC l) l.length 1:=⟨by simp,.inr ⟨b,_,rfl,hbn,hb,.list (by simp)⟩⟩;refine OwnS.app hO hsc (k:=s.length) (by simp) (by simp) (by omega) hs1 (by unfold big;omega) (by omega) (byC_one _) λ H' hO' hf=>?_
 have hp':H'.get p=some (.cells 2 [] [.bool true,.sl b 0 l.length 1] .nil):=by
  rw[hf p pn,hp];intro h;injection h with h;exact hbp h
 obtain⟨_,⟨h,_⟩ | ⟨b',k,h,hb,hk,ho⟩⟩:=hO'
 ·cases h
 injection h with h;subst h;have e2:=neD pn;simp[hp',hs0,hk,e2];rw[byC_app];exact ho
theorem text153r {H:Hp}{n p:Nat}{v:AV}{l:List Nat}(W:WrN H n p v l)(s:List Nat)(hl:l.length<1040000)(hs:s.length<=64):
  CallR pG 153 [.ptr p 0,.str s] H n (λ u K k=>u=.tup []/\k=(if s=[]then n+3 else n+4)/\K.get p=some (.cells 2 [] [.bool true,.sl (if s=[]then n+1 else n+3) 0 (l++(uvar s.length++s)).length 1] .nil)/\∃y,K.get (if s=[]then n+1 else n+3)=some y/\OwnB y (byC (l++(uvar s.length++s)))):=by
 have hu:(uvar s.length).length=1:=by unfold uvar;rw[if_pos (by omega)];rfl
 obtain⟨H1,h1,h2,_⟩:=uint185 W s.length (by omega) (by omega);rw[hu,show n+2*1=n+2 by omega]at h1 h2;rw[show n+2 - 1=n+1 by omega]at h2;have w:IntKind.u64.wrap (s.length:Int)=(s.length:Int):=u64_sm (by omega);refine CallR.of c153 (by simp[A153]) λ F hF=>?_;simp[A153,B153,R153_0,hF,cToInt_int,w];refine CalV.ok h1 ?_;simp[R153_1,hF,u8s_eq];generalize hK:Tr.put H1 _ _=K
 have h2':WrN K (n+3) p (.sl (n+1) 0 (l++uvar s.length).length 1) (l++uvar s.length):=by
  obtain⟨a,b,c⟩:=h2;refine⟨by rw[<-hK,Tr.get_put,if_neg (by omega),a],by omega,?_⟩
  rcases c with⟨h,_⟩ | ⟨b',h,h3,h4,h5,h6⟩
  ·cases h
  injection h with h;subst h;exact .inr ⟨_,rfl,by omega,h4,by rw[<-hK,Tr.get_put,if_neg (by omega),h5],h6⟩
 refine CalV.of (raw187 (q:=n+2) h2' (s:=s) (by rw[<-hK];simp) (by simp;omega) hs) λ u K' k' ⟨e1,e2,e3⟩=>?_;subst e1;simp
 by_cases h0:s=[]
 ·subst h0;obtain⟨a1,a2,a3⟩:=e2 rfl;obtain⟨b',h,h3,h4,h5,h6⟩:=h2'.hv.resolve_left (by rintro⟨h,_⟩;cases h);injection h with h;subst h;refine⟨by simp[a3],by rw[a1,h2'.hp];simp,_,by simp only[if_true];rw[a2,h5],by simpa using OwnB.list (l:=byC (l++uvar 0)) (by simp)⟩
 obtain⟨a1,a2,a3⟩:=e3 h0;simp only[if_neg h0];refine⟨by omega,by simpa[Nat.add_assoc]using a1,by simpa using a2⟩
def txB (s:List Nat)(n:Nat):Nat:=if s=[]then n+1 else n+3
def txN (s:List Nat)(n:Nat):Nat:=if s=[]then n+3 else n+4
theorem tx_lt (s:List Nat)(n:Nat):n<txB s n/\txB s n<txN s n:=by unfold txB txN;split<;>omega
theorem text153 {H:Hp}{n p:Nat}{v:AV}{l:List Nat}(W:WrN H n p v l)(s:List Nat)(hl:l.length<1040000)(hs:s.length<=64):
  ∃H1,CallOk pG 153 [.ptr p 0,.str s] H n (.tup []) H1 (txN s n)/\WrN H1 (txN s n) p (.sl (txB s n) 0 (l++(uvar s.length++s)).length 1) (l++(uvar s.length++s))/\∀c,c∉wrL p v->c<n∨txN s n<=c->H1.get c=H.get c:=by
 have hu:(uvar s.length).length=1:=by unfold uvar;rw[if_pos (by omega)];rfl
 have:=tx_lt s n;exact wr_ok W (by simp[W.pn]) (by omega) (by simp;omega) λ S _ WS=>(text153r WS s hl hs).mono λ u K k ⟨a,b,c,d⟩=>⟨a,c,d,b⟩
def one (v:Val):List Nat:=if v.kind=1 then uvar (zz v.num)else if v.kind=2 then uvar v.s.length++v.s else [v.num.toNat]
def wayF (k:Int):FuncId:=if k=1 then 148 else if k=2 then 152 else 156
theorem WrN.alloc {H:Hp}{n p:Nat}{v:AV}{l:List Nat}(W:WrN H n p v l)(y:ABlk):WrN (H.put n (some y)) (n+1) p v l:=by
 obtain⟨a,b,c⟩:=W;refine⟨by rw[Tr.get_put,if_neg (by omega),a],by omega,?_⟩
 rcases c with h | ⟨q,h1,h2,h3,h4,h5⟩
 ·exact .inl h
 exact .inr ⟨q,h1,by omega,h3,by rw[Tr.get_put,if_neg (by omega),h4],h5⟩
theorem WrN.fin {H:Hp}{n p b:Nat}{l:List Nat}(W:WrN H n p (.sl b 0 l.length 1) l):H.get p=some (.cells 2 [] [.bool true,.sl b 0 l.length 1] .nil)/\∃y,H.get b=some y/\OwnB y (byC l):=by
 rcases W.hv with⟨h,_⟩ | ⟨b',h,_,_,h3,_⟩
 ·cases h
 injection h with h;subst h;exact⟨W.hp,_,h3,.list (by simp)⟩
theorem bv64 (x:Int)(h:0<=x)(h2:x<18446744073709551616):(BitVec.ofInt 64 x).toNat=x.toNat:=by
 rw[BitVec.toNat_ofInt,Int.emod_eq_of_lt h (by omega)]
theorem xor_c (x:Int)(h1 : -9223372036854775808<=x)(h2:x<9223372036854775808):cArith .xor .u64 (IntKind.u64.wrap (IntKind.u64.wrap x*2)) (IntKind.u64.wrap (x.fdiv 9223372036854775808))=.val (.int .u64 ((zz x:Nat):Int)):=by
 have e:IntKind.u64.wrap (IntKind.u64.wrap x*2)=(2*x) % 18446744073709551616:=by simp[IntKind.wrap,IntKind.signed,IntKind.bits];omega
 rw[cArith_xor,e]
 congr 2
 by_cases h:0<=x
 ·have e2:x.fdiv 9223372036854775808=0:=by rw[Int.fdiv_eq_ediv_of_nonneg _ (by omega)];omega
  have e3:(2*x) % 18446744073709551616=2*x:=by omega
  rw[e2,e3,show IntKind.u64.wrap 0=0 from rfl];show IntKind.u64.wrap (((BitVec.ofInt 64 (2*x) ^^^ BitVec.ofInt 64 0).toNat:Nat):Int)=_;rw[show BitVec.ofInt 64 0=0#64 from rfl,BitVec.xor_zero,bv64 _ (by omega) (by omega),zz,if_pos h,u64_sm (by omega)]
 have e2:x.fdiv 9223372036854775808 = -1:=by rw[Int.fdiv_eq_ediv_of_nonneg _ (by omega)];omega
 rw[e2,show IntKind.u64.wrap (-1)=18446744073709551615 from rfl];show IntKind.u64.wrap (((BitVec.ofInt 64 ((2*x) % 18446744073709551616) ^^^ BitVec.ofInt 64 18446744073709551615).toNat:Nat):Int)=_;rw[show BitVec.ofInt 64 18446744073709551615=BitVec.allOnes 64 from rfl,BitVec.xor_allOnes,BitVec.toNat_not,bv64 _ (by omega) (by omega),zz,if_neg h];have:2 ^ 64 - 1 - (2*x % 18446744073709551616).toNat=(-2*x - 1).toNat:=by omega
 rw[this,u64_sm (by omega)]
theorem int149 {H:Hp}{n p:Nat}{v:AV}{l:List Nat}(W:WrN H n p v l)(x:Int)(h1 : -9223372036854775808<=x)(h2:x<9223372036854775808)(hl:l.length<1048000):
  ∃H1,CallOk pG 149 [.ptr p 0,.int .i64 x] H n (.tup []) H1 (n+2*(uvar (zz x)).length)/\WrN H1 (n+2*(uvar (zz x)).length) p (.sl (n+2*(uvar (zz x)).length - 1) 0 (l++uvar (zz x)).length 1) (l++uvar (zz x))/\∀c,c∉wrL p v->c<n∨n+2*(uvar (zz x)).length<=c->H1.get c=H.get c:=
 wr_ok W (by simp[W.pn]) (by have:=uvar_pos (zz x);omega) (by have:=uvar_pos (zz x);simp;omega) λ S _ WS=>by
  obtain⟨H1,a,b,_⟩:=uint185 WS (zz x) (zz_lt h1 h2) hl;have s1:cShift .shl (.int .u64 (IntKind.u64.wrap x)) (.int .u64 1)=.val (.int .u64 (IntKind.u64.wrap (IntKind.u64.wrap x*2))):=by rw[cShl_ok _ _ _ _ (by omega)];rfl
  have s2:cShift .shr (.int .i64 x) (.int .u64 63)=.val (.int .i64 (x.fdiv 9223372036854775808)):=by rw[cShr_ok _ _ _ _ (by omega)];rfl
  refine CallR.of c149 (by simp[A149]) λ F hF=>?_;simp[A149,B149,R149_0,hF,cToInt_int,s1,s2,xor_c x h1 h2];refine CalV.ok a ?_;simp;have:=b.fin;simpa using this
theorem way_ok {H:Hp}{n p:Nat}{v:AV}{l:List Nat}(W:WrN H n p v l) (u:Val) (hr:u.rng) (hm:u.may=true) (h0:u.kind≠0) (hl:l.length<1040000):
  ∃b' n',n<n'/\∃H1,CallOk pG (wayF u.kind) [.ptr p 0,u.av] H n (.tup []) H1 n'/\WrN H1 n' p (.sl b' 0 (l++one u).length 1) (l++one u)/\∀c,c∉wrL p v->c<n∨n'<=c->H1.get c=H.get c:=by
 have hk:=Val.may_kind hm;unfold one wayF
 by_cases k1:u.kind=1
 ·refine⟨n+2*(uvar (zz u.num)).length,n+1+2*(uvar (zz u.num)).length,by omega,?_⟩;simp only[if_pos k1];refine wr_ok W (by simp[W.pn,Val.av]) (by omega) (by have:=uvar_pos (zz u.num);simp;omega) λ S _ WS=>?_;obtain⟨H1,a,b,_⟩:=int149 (WS.alloc (.cells 3 [] u.cells .nil)) u.num hr.lo hr.hi (by omega);refine CallR.of c148 (by simp[A148]) λ F hF=>?_;simp[Val.cells]at a;simp[A148,B148,R148_0,R148_1,hF,Val.av];refine CalV.ok a ?_;simp;have:=b.fin;have e:n+1+2*(uvar (zz u.num)).length - 1=n+2*(uvar (zz u.num)).length:=by omega
  rw[e]at this;simpa using this
 by_cases k2:u.kind=2
 ·have hs:=Val.may_len hm k2;simp only[if_neg k1,if_pos k2];have ht:=tx_lt u.s (n+1);refine⟨txB u.s (n+1),txN u.s (n+1),by omega,wr_ok W (by simp[W.pn,Val.av]) (by omega) (by have:=uvar_pos u.s.length;simp;omega) λ S _ WS=>?_⟩;obtain⟨H1,a,b,_⟩:=text153 (WS.alloc (.cells 3 [] u.cells .nil)) u.s (by omega) hs;refine CallR.of c152 (by simp[A152]) λ F hF=>?_;simp[Val.cells]at a;simp[A152,B152,R152_0,R152_1,hF,Val.av];refine CalV.ok a ?_;simp;simpa using b.fin
 obtain k3:u.kind=3:=by omega
 have hn:u.num=0∨u.num=1:=by
  have:=hm;unfold Val.may at this;simp[k1,k2,k3]at this;exact this.2
 simp only[if_neg k1,if_neg k2];refine⟨n+2,n+3,by omega,wr_ok W (by simp[W.pn,Val.av]) (by omega) (by simp) λ S _ WS=>?_⟩;obtain⟨H1,a,b,_⟩:=u8_119 (WS.alloc (.cells 3 [] u.cells .nil)) u.num.toNat (by omega) (by omega);have w:IntKind.u8.wrap u.num=((u.num.toNat:Nat):Int):=by rcases hn with h | h<;>rw[h]<;>rfl
 refine CallR.of c156 (by simp[A156]) λ F hF=>?_;simp only[Val.cells]at a;simp[A156,B156,R156_0,R156_1,hF,Val.av,cToInt_int,w];refine CalV.ok (by simpa using a) ?_;simp;simpa using b.fin
def nulB:List Val->Nat
 | []=>0
 | v::r=>(if v.kind=0 then 1 else 0)+2*nulB r
theorem nulB_snoc (l:List Val)(v:Val):nulB (l++[v])=nulB l+2 ^ l.length*(if v.kind=0 then 1 else 0):=by
 induction l with
 | nil=>simp[nulB]
 | cons a r ih =>
  simp only[cons_append,nulB,ih,length_cons,Nat.pow_succ,Nat.mul_add];rw[Nat.mul_comm (2 ^ r.length) 2,Nat.mul_assoc];omega
theorem nulB_lt (l:List Val):nulB l<2 ^ l.length:=by
 induction l with
 | nil=>simp[nulB]
 | cons a r ih=>simp only[nulB,length_cons,Nat.pow_succ];split<;>omega
def bitsN (row:List Val)(m:Nat):List Nat:=(List.range m).map λ j=>nulB ((row.drop (8*j)).take 8)
theorem bitsN_succ (row:List Val)(m:Nat):bitsN row (m+1)=bitsN row m++[nulB ((row.drop (8*m)).take 8)]:=by simp[bitsN,range_succ]
@[simp] theorem bitsN_len (row:List Val)(m:Nat):(bitsN row m).length=m:=by simp[bitsN]
def valB (row:List Val):List Nat:=row.flatMap λ v=>if v.kind=0 then []else one v
def encR (row:List Val):List Nat:=bitsN row ((row.length+7) / 8)++valB row
def encE (c:List Col)(row:List Val):List Nat×Int:=if fitE c row=0 then (if (encR row).length<=160 then (encR row,0)else ([],51))else ([],fitE c row)
theorem or_bit:∀j:Fin 8,∀x:Fin 256,x.val<2 ^ j.val->(BitVec.ofInt 8 (x.val:Int) ||| BitVec.ofInt 8 ((2 ^ j.val:Nat):Int)).toNat=x.val+2 ^ j.val:=by decide
theorem or_b {j x:Nat}(hj:j<8)(hx:x<2 ^ j):cArith .or .u8 (x:Int) ((2 ^ j:Nat):Int)=.val (.int .u8 ((x+2 ^ j:Nat):Int)):=by
 have h1:2 ^ j<=2 ^ 7:=Nat.pow_le_pow_right (by omega) (by omega);have h2:=or_bit ⟨j,hj⟩ ⟨x,by omega⟩ hx;rw[cArith_or];rw[show (BitVec.ofInt IntKind.u8.bits (x:Int) ||| BitVec.ofInt IntKind.u8.bits ((2 ^ j:Nat):Int)).toNat=x+2 ^ j from h2,u8_sm (by omega)]
theorem shl_b {j:Nat}(hj:j<8):cShift .shl (.int .u8 1) (.int .i64 (j:Int))=.val (.int .u8 ((2 ^ j:Nat):Int)):=by
 have h1:2 ^ j<=2 ^ 7:=Nat.pow_le_pow_right (by omega) (by omega);rw[cShl_ok _ _ _ _ (by omega)];have:min (j:Int).toNat IntKind.u8.bits=j:=by simp[IntKind.bits];omega
 rw[this];have:=u8_sm (show 2 ^ j<256 by omega);simpa using this
theorem new118 (H:Hp)(n:Nat):CallR pG 118 [] H n (λ u K k=>u=.ptr n 0/\K=H.put n (some (.cells 2 [] [.bool true,.cst (.slice none 0 0)] .nil))/\k=n+1):=by
 refine CallR.of c118 (by simp[A118]) λ F hF=>?_;simp[A118,B118,R118_0,R118_1]
def waysC:List AV:=[.int .i64 1,.fn (.func 148) [] [],.fn (.func 150) [] [],.int .i64 2,.fn (.func 152) [] [],.fn (.func 154) [] [],.int .i64 3,.fn (.func 156) [] [],.fn (.func 157) [] []]
theorem ways120:FnPure pG 120 [] (.agg waysC 9):=by
 refine pureV c120 (by simp) (by simp[waysC]) (by simp[A120]) λ F hF=>?_;simp[A120,B120,R120_0,R120_1];exact .pure _ (by simp[waysC])
theorem enc89a (row:List Val) (hl:row.length<=16) (b:Nat) (hm:b<row.length) (F:Fr) (K:Hp) (n:Nat) (Q:QA) (f1:F.get 1=some (rowAV row)) (f8:F.get 8=some (.int .i64 (b:Int))) (f9:F.get 9=some (.int .u8 0)) (f10:F.get 10=some (.int .i64 (b:Int)))
  (k:∀F':Fr,F'.get 1=F.get 1->F'.get 7=F.get 7->F'.get 8=F.get 8->F'.get 9=some (.int .u8 (nulB ((row.drop b).take 8):Int))->Q (.exit 2) F' K n []):LoopV L89_0 pG F K n [] Q:=by
 refine LoopV.of (λ t F' K' n' ms=>∃i a,t=8 - i/\i<=8/\a=b+i/\a<=row.length/\F'.get 1=F.get 1/\F'.get 7=F.get 7/\F'.get 8=F.get 8/\F'.get 9=some (.int .u8 (nulB ((row.drop b).take i):Int))/\F'.get 10=some (.int .i64 (a:Int))/\K'=K/\n'=n/\ms=[]) 8 ⟨0,b,by simp[f9,f10,nulB];omega⟩ ?_;rintro t F' K' n' ms ⟨i,a,rfl,hi,ha,hle,g1,g7,g8,g9,g10,rfl,rfl,rfl⟩
 have fin:(i=8∨a=row.length)->∀F2:Fr,F2.get 1=F.get 1->F2.get 7=F.get 7->F2.get 8=F.get 8->F2.get 9=F'.get 9->Q (.exit 2) F2 K' n' []:=λ h F2 x y z f=>by
  refine k F2 x y z (f.trans (g9.trans ?_))
  congr 3
  rcases h with rfl | h
  ·rfl
  rw[take_of_length_le (by simp;omega),take_of_length_le (by simp;omega)]
 have h1':=g1.trans f1;have h8':=g8.trans f8;rw[rowAV]at h1';have w1:IntKind.i64.wrap ((b:Int)+8)=(b:Int)+8:=wrap_sm _ (by omega) (by omega)
 by_cases h1:a<row.length
 ·by_cases h2:i<8
  ·have hx:=ixa_val (k:=.i64) h1;have w2:IntKind.i64.wrap ((a:Int) - (b:Int))=(i:Int):=by rw[wrap_sm _ (by omega) (by omega)];omega
   have w3:=wrap_nat a (by omega);have hlen:((row.drop b).take i).length=i:=by simp;omega
   have hs:(row.drop b).take (i+1)=(row.drop b).take i++[row[a]]:=by
    rw[take_add_one,getElem?_drop,<-ha,getElem?_eq_getElem h1];rfl
   have hb:=nulB_snoc ((row.drop b).take i) row[a];have hlt:=nulB_lt ((row.drop b).take i);rw[hlen]at hb hlt;rw[<-hs]at hb;simp[L89_0,R89_9,h1',h8',g10,h1,w1,show (a:Int)<(b:Int)+8 by omega,R89_10,hx,ld_kind]
   by_cases h0:row[a].kind=0
   ·have s1:=shl_b h2;have s2:=or_b h2 hlt;rw[h0,if_pos rfl,Nat.mul_one]at hb;rw[<-hb]at s2;simp only[Int.natCast_pow,Int.cast_ofNat_Int]at s1 s2;simp[h0,R89_11,g9,g10,h8',w2,s1,s2,R89_12,w3];exact⟨_,by omega,i+1,rfl,by omega,by omega,g1,g7,f8.symm,rfl,by omega⟩
   rw[if_neg h0]at hb;simp[h0,R89_12,g10,w3];exact⟨_,by omega,i+1,rfl,by omega,by omega,g1,g7,g8,by simp[hb,g9],by omega⟩
  obtain rfl:i=8:=by omega
  simp[L89_0,R89_9,h1',h8',g10,h1,w1,show ¬(a:Int)<(b:Int)+8 by omega];exact fin (.inl rfl) _ (by simp[g1]) (by simp[g7]) (by simp[g8]) (by simp)
 simp[L89_0,R89_9,h1',h8',g10,h1];exact fin (.inr (by omega)) _ (by simp[g1]) (by simp[g7]) (by simp[g8]) (by simp)
theorem nulB_256 (l:List Val)(h:l.length<=8):nulB l<256:=by
 have h1:=nulB_lt l;have h2:2 ^ l.length<=2 ^ 8:=Nat.pow_le_pow_right (by omega) h;omega
theorem enc89b (row:List Val)(hl:row.length<=16)(h0:row≠[])(F:Fr)(K:Hp)(n p:Nat)(Q:QA)(W:WrN K n p (.cst (.slice none 0 0)) [])(f1:F.get 1=some (rowAV row))(f7:F.get 7=some (.ptr p 0))(f8:F.get 8=some (.int .i64 0))
  (k:∀(F':Fr)(K':Hp)(n' b:Nat),F'.get 1=some (rowAV row)->F'.get 7=some (.ptr p 0)->WrN K' n' p (.sl b 0 ((row.length+7) / 8) 1) (bitsN row ((row.length+7) / 8))->Q (.exit 0) F' K' n' []):LoopV L89_1 pG F K n [] Q:=by
 refine LoopV.of (λ t F K n ms=>∃m v,t=3 - m/\8*m<row.length+8/\F.get 1=some (rowAV row)/\F.get 7=some (.ptr p 0)/\F.get 8=some (.int .i64 ((8*m:Nat):Int))/\WrN K n p v (bitsN row m)/\ms=[]) 3 ⟨0,_,by simp,by omega,f1,f7,f8,by simpa[bitsN]using W,rfl⟩ ?_;clear f1 f7 f8 W F K n;rintro t F K n ms ⟨m,v,rfl,hm,f1,f7,f8,W,rfl⟩;rw[rowAV]at f1;generalize hB:8*m=B at *
 by_cases h:B<row.length
 ·obtain⟨H1,a,b,_⟩:=u8_119 W (nulB ((row.drop (8*m)).take 8)) (nulB_256 _ (by simp;omega)) (by simp;omega);have w:IntKind.i64.wrap ((B:Int)+8)=(B:Int)+8:=wrap_sm _ (by omega) (by omega);rw[<-bitsN_succ]at b;rw[hB]at a;simp[L89_1,R89_6,f1,f8,h,R89_7,R89_8];refine enc89a row hl B h _ _ _ _ (by simp[f1,rowAV]) (by simp[f8]) (by simp) (by simp) λ F' g1 g7 g8 g9=>?_;simp[f1,f7,f8]at g1 g7 g8;simp[R89_13,g7,g9];refine CalV.ok a ?_;simp[R89_14,g8,w];exact⟨_,by omega,m+1,rfl,by omega,g1,g7,by omega,_,b⟩
 obtain rfl:m=(row.length+7) / 8:=by omega
 simp[L89_1,R89_6,f1,f8,h]
 rcases W.hv with⟨_,h1⟩ | ⟨b,rfl,_⟩
 ·have h1:=congrArg length h1;have:=length_pos_iff.2 h0;simp at h1;omega
 refine k _ _ _ b ?_ ?_ (by simpa using W)
 ·simp[f1,rowAV]
 simp[f7]
theorem valB_snoc (row:List Val)(i:Nat)(h:i<row.length):valB (row.take (i+1))=valB (row.take i)++(if row[i].kind=0 then []else one row[i]):=by
 unfold valB;rw[take_snoc h,flatMap_append];simp
theorem one_len (v:Val)(hm:v.may=true)(hr:v.rng):(one v).length<=70:=by
 unfold one
 split
 ·have:=uvar_len 9 (zz v.num) (by have:=zz_lt hr.lo hr.hi;omega);omega
 split
 ·rename_i h;have:=Val.may_len hm h;have:=uvar_len 0 v.s.length (by omega);simp;omega
 simp
theorem valB_len (row:List Val)(hm:∀v∈row,v.may=true)(hr:∀v∈row,v.rng):(valB row).length<=row.length*70:=by
 induction row with
 | nil=>simp[valB]
 | cons a r ih =>
  have:=ih (λ v hv=>hm v (by simp[hv])) (λ v hv=>hr v (by simp[hv]));have h1:=one_len a (hm a (by simp)) (hr a (by simp));simp only[valB,flatMap_cons,length_append,length_cons]at this ⊢
  split<;>simp at *<;>omega
theorem WrN.alloc2 {H:Hp}{n p:Nat}{v:AV}{l:List Nat}(W:WrN H n p v l)(y z:ABlk):WrN ((H.put n (some y)).put n (some z)) (n+1) p v l:=by
 obtain⟨a,b,c⟩:=W;have e:∀c,c<n->((H.put n (some y)).put n (some z)).get c=H.get c:=λ c hc=>by rw[Tr.get_put,if_neg (by omega),Tr.get_put,if_neg (by omega)]
 refine⟨by rw[e _ b,a],by omega,?_⟩
 rcases c with h | ⟨q,h1,h2,h3,h4,h5⟩
 ·exact .inl h
 exact .inr ⟨q,h1,by omega,h3,by rw[e _ h2,h4],h5⟩
theorem ixw (q:Nat):cIxarr 3 3 (.ptr q 0) (.int .i64 0)=.val (.ptr q 0)/\cIxarr 3 3 (.ptr q 0) (.int .i64 1)=.val (.ptr q 3)/\cIxarr 3 3 (.ptr q 0) (.int .i64 2)=.val (.ptr q 6):=⟨rfl,rfl,rfl⟩
theorem enc89c (row:List Val) (hl:row.length<=16) (hm:∀v∈row,v.may=true) (hr:∀v∈row,v.rng) (B:List Nat) (hB:0<B.length/\B.length<=2) (F:Fr) (K:Hp) (n p q b:Nat) (Q:QA) (W:WrN K n p (.sl b 0 B.length 1) B) (hq:K.get q=some (.cells 9 [] waysC .nil)) (qn:q<n) (f7:F.get 7=some (.ptr p 0)) (f11:F.get 11=some (.ptr q 0)) (f56:F.get 56=some (rowAV row)) (f57:F.get 57=some (.int .i64 (row.length:Int))) (f58:F.get 58=some (.int .i64 0))
  (k:∀(F':Fr)(K':Hp)(n' b:Nat),F'.get 7=some (.ptr p 0)->WrN K' n' p (.sl b 0 (B++valB row).length 1) (B++valB row)->Q (.exit 4) F' K' n' []):LoopV L89_2 pG F K n [] Q:=by
 refine LoopV.of (λ t F K n ms=>∃i b,t=row.length - i/\i<=row.length/\F.get 7=some (.ptr p 0)/\F.get 11=some (.ptr q 0)/\F.get 56=some (rowAV row)/\F.get 57=some (.int .i64 (row.length:Int))/\F.get 58=some (.int .i64 (i:Int))/\WrN K n p (.sl b 0 (B++valB (row.take i)).length 1) (B++valB (row.take i))/\K.get q=some (.cells 9 [] waysC .nil)/\q<n/\ms=[]) row.length ⟨0,b,by simp,by omega,f7,f11,f56,f57,f58,by simpa[valB]using W,hq,qn,rfl⟩ ?_;clear f7 f11 f56 f57 f58 W F K n hq qn b;rintro t F K n ms ⟨i,b,rfl,hi,f7,f11,f56,f57,f58,W,hq,qn,rfl⟩;rw[rowAV]at f56
 by_cases h:i<row.length
 ·have hx:=ixa_val (k:=.i64) h;have hs:=valB_snoc row i h;have hvl:=valB_len (row.take i) (λ v hv=>hm v (mem_of_mem_take hv)) (λ v hv=>hr v (mem_of_mem_take hv));have hm1:=hm row[i] (getElem_mem h);have hr1:=hr row[i] (getElem_mem h);have hk:=Val.may_kind hm1
  have hvl2:(valB (row.take i)).length<=1120:=by
   have:(row.take i).length<=16:=by simp;omega
   omega
  generalize row[i]=u at *
  obtain⟨hbn,hbp,hbk⟩:b<n/\b≠p/\K.get b=some (.cells (B++valB (row.take i)).length [] (byC (B++valB (row.take i))) .nil):=by
   rcases W.hv with⟨h,_⟩ | ⟨b',h,h1,h2,h3,_⟩
   ·cases h
   injection h with h;subst h;exact⟨h1,h2,h3⟩
  have hqb:q≠b:=by
   rintro rfl;rw[hq]at hbk;injection hbk with e;injection e with e1 e2 e3;have e4:=congrArg (λ l=>l[0]?) e3
   cases hB':B with
   | nil=>rw[hB']at hB;simp at hB
   | cons x y=>rw[hB']at e4;simp[waysC,byC]at e4
  have hqp:q≠p:=by
   rintro rfl;rw[W.hp]at hq;injection hq with e;injection e with e1;cases e1
  have w:=wrap_nat i (by omega);simp[L89_2,R89_17,f57,f58,h,R89_18,f56,hx,ld_val,Val.av,R89_19]
  by_cases h0:u.kind=0
  ·simp[h0,R89_21,f58,w];refine⟨_,by omega,i+1,rfl,by omega,by simp[f7],by simp[f11],by simp[f56,rowAV],by simp[f57],by simp,⟨b,?_⟩,?_,by omega⟩
   ·rw[hs,if_pos h0];simpa using W.alloc2 _ _
   rw[if_neg (by omega),if_neg (by omega),hq]
  generalize hK:Tr.put (Tr.put K n _) n _=K2;have W2:WrN K2 (n+1) p (.sl b 0 (B++valB (row.take i)).length 1) (B++valB (row.take i)):=hK▸W.alloc2 _ _;have k2:K2.get n=some (.cells 3 [] [.int .i64 u.kind,.int .i64 u.num,.str u.s] .nil):=by rw[<-hK];simp
  have kq:K2.get q=some (.cells 9 [] waysC .nil):=by rw[<-hK,Tr.get_put,if_neg (by omega),Tr.get_put,if_neg (by omega),hq]
  obtain⟨b',n',hn,H1,c1,c2,c3⟩:=way_ok W2 u hr1 hm1 h0 (by simp;omega);have c4:=c3 q (by simp[wrL];exact⟨hqp,hqb⟩) (.inl (by omega));rw[kq]at c4;simp only[waysC]at kq;have e:(B++valB (row.take i))++one u=B++valB (row.take (i+1)):=by rw[hs,if_neg h0,append_assoc]
  rw[e]at c2;simp[h0,R89_20];refine DrwV.of (ceL_ok (l:=[⟨wayF u.kind,[.ptr p 0,u.av],K2,n+1,.tup [],H1,n'⟩]) ?_) ?_
  ·simp only[mem_singleton];rintro x rfl;exact c1
  rcases hk.resolve_left h0 with h1 | h1 | h1
  ·rw[h1]at k2;simp[clearF_get,k2,kq,f7,f11,h1,wayF,wrap_sm,Val.av,ceL_hd,R89_21,f56,f57,f58,w,ixw];exact⟨_,by omega,i+1,rfl,by omega,by simp[rowAV],by omega,⟨b',by simpa using c2⟩,c4,by omega⟩
  ·rw[h1]at k2;simp[clearF_get,k2,kq,f7,f11,h1,wayF,wrap_sm,Val.av,ceL_hd,R89_21,f56,f57,f58,w,ixw];exact⟨_,by omega,i+1,rfl,by omega,by simp[rowAV],by omega,⟨b',by simpa using c2⟩,c4,by omega⟩
  rw[h1]at k2;simp[clearF_get,k2,kq,f7,f11,h1,wayF,wrap_sm,Val.av,ceL_hd,R89_21,f56,f57,f58,w,ixw];exact⟨_,by omega,i+1,rfl,by omega,by simp[rowAV],by omega,⟨b',by simpa using c2⟩,c4,by omega⟩
 obtain rfl:i=row.length:=by omega
 simp[L89_2,R89_17,f57,f58];rw[take_of_length_le (Nat.le_refl _)]at W;refine k _ _ _ b ?_ W;simp[f7]
theorem fitL_may:∀(c:List Col) (row:List Val),row.length<=c.length->fitL c row=0->∀v∈row,v.may=true
 | _,[],_,_,v,hv=>by simp at hv
 | [],_::_,h,_,_,_=>by simp at h
 | c :: cs,a::r,h,h0,v,hv=>by
  simp only[fitL]at h0
  split at h0
  ·rename_i h1
   rcases mem_cons.1 hv with rfl | hv
   ·unfold fit1 at h1
    split at h1
    ·omega
    rename_i h2;simpa using h2
   exact fitL_may cs r (by simpa using h) h0 v hv
  rename_i h1;exact absurd h0 h1
theorem fitE_ok {c:List Col}{row:List Val}(h:fitE c row=0):ColsOk c/\row.length=c.length/\row≠[]/\row.length<=16/\∀v∈row,v.may=true:=by
 unfold fitE at h
 split at h
 ·rename_i h1;obtain⟨h2,h3⟩:=h1;exact⟨h2,h3,λ e=>h2.1 (eq_nil_of_length_eq_zero (by rw[<-h3,e];rfl)),h3▸h2.2.1,fitL_may c row (by omega) h⟩
 omega
theorem bytesOf_byC (l:List Nat)(h:∀b∈l,b<256):bytesOf (byC l)=some l:=by
 induction l with
 | nil=>rfl
 | cons a r ih =>
  have:=ih λ b hb=>h b (by simp[hb]);have ha:=h a (by simp);simp only[byC,map_cons]at this ⊢;simp only[bytesOf,this];simp;omega
theorem one_byte (v:Val)(hm:v.may=true)(h0:v.kind≠0)(hr:v.rng):∀b∈one v,b<256:=by
 unfold one
 split
 ·exact uvar_byte _
 split
 ·intro b hb
  rcases mem_append.1 hb with h | h
  ·exact uvar_byte _ b h
  exact hr.b b h
 rename_i k1 k2;have k3:v.kind=3:=by have:=Val.may_kind hm;omega
 have:=hm;unfold Val.may at this;simp[k3]at this;intro b hb;simp at hb;omega
theorem encR_byte (row:List Val)(hm:∀v∈row,v.may=true)(hr:∀v∈row,v.rng):∀b∈encR row,b<256:=by
 intro b hb
 rcases mem_append.1 hb with h | h
 ·simp only[bitsN,mem_map]at h;obtain⟨j,_,rfl⟩:=h;exact nulB_256 _ (by simp;omega)
 simp only[valB,mem_flatMap]at h;obtain⟨v,hv,h⟩:=h
 split at h
 ·simp at h
 rename_i h0;exact one_byte v (hm v hv) h0 (hr v hv) b h
theorem len121 {H:Hp}{n p b:Nat}{l:List Nat}(W:WrN H n p (.sl b 0 l.length 1) l):CallR pG 121 [.ptr p 0] H n (λ u K k=>u=.int .i64 (l.length:Int)/\K=H/\k=n):=by
 have:=W.hp;refine CallR.of c121 (by simp[A121]) λ F hF=>?_;simp[A121,B121,R121_0,R121_1,R121_3,hF,this]
theorem bytes122 {H:Hp}{n p b:Nat}{l:List Nat}(W:WrN H n p (.sl b 0 l.length 1) l)(hl:0<l.length/\l.length<4000):CallR pG 122 [.ptr p 0] H n (λ u K k=>u=.sl n 0 l.length 1/\∃y,K.get n=some y/\OwnB y (byC l)):=by
 have hp:=W.hp;obtain⟨b',h,hbn,_,hb,_⟩:=W.hv.resolve_left (by rintro⟨h,_⟩;cases h);injection h with h;subst h;refine CallR.of c122 (by simp[A122]) λ F hF=>?_;simp[A122,B122,R122_0,R122_1,R122_3,hF,hp]
 have hsc:sliceCells H 1 (.sl b 0 l.length 1)=some (byC l):=by
  rw[sliceCells_sl hb (.list (by simp)) (by simp)];simp[take_of_length_le]
 rw[cApp_n (new:=byC l) (k:=l.length) hsc (by simp) (by omega) (by omega) (by unfold big;omega) (by omega) (byC_one _)];simp;exact .list (by simp)
theorem enc89 (c:List Col) (row:List Val) (hv:row.length<=lim) (hr:∀v∈row,v.rng):FnPure pG 89 [eCol.ds c,rowAV row] (.tup [.str (encE c row).1,.int .i64 (encE c row).2]):=by
 refine pureV c89 (by simp) (by simp) (by simp[A89]) λ F hF=>?_;simp[A89,B89,R89_0,R89_1,hF];refine CalV.pure (fits60 c row hv) ?_
 by_cases h0:fitE c row=0
 ·obtain⟨_,hlen,hne,h16,hmay⟩:=fitE_ok h0;have hpos:=length_pos_iff.2 hne;simp[R89_2,h0,R89_4];refine CalV.of (new118 _ _) λ v K n ⟨e1,e2,e3⟩=>?_;subst e1 e2 e3;simp[R89_5];have W:WrN ((Tr.nil:Hp).put 0 (some (.cells 2 [] [.bool true,.cst (.slice none 0 0)] .nil))) 1 0 (.cst (.slice none 0 0)) []:=⟨by simp,by omega,.inl ⟨rfl,rfl⟩⟩;refine enc89b row h16 hne _ _ _ 0 _ W (by simp[hF]) (by simp) (by simp) λ F K n b f1 f7 W=>?_;clear hF;simp[R89_15,f1];refine CalV.pure ways120 ?_;simp[waysC,R89_16,f1,rowAV];have hB:0<(row.length+7) / 8/\(row.length+7) / 8<=2:=by omega
  have eB:=bitsN_len row ((row.length+7) / 8);refine enc89c row h16 hmay hr (bitsN row ((row.length+7) / 8)) (by rw[eB];exact hB) _ _ (n+1) 0 n b _ (by rw[eB];exact W.alloc2 _ _) (by simp[waysC]) (by omega) (by simp[f7]) (by simp) (by simp[f1,rowAV]) (by simp) (by simp) λ F K n b f7 W=>?_;have W':WrN K n 0 (.sl b 0 (encR row).length 1) (encR row):=W;have hl:=valB_len row hmay hr;have hel:(encR row).length=(row.length+7) / 8+(valB row).length:=by simp[encR]
  simp[R89_22,f7];refine CalV.same (len121 W') ?_;unfold encE;rw[if_pos h0]
  by_cases h:(encR row).length<=160
  ·simp[show ¬(160:Int)<((encR row).length:Int) by omega,R89_24,f7,h];refine CalV.of (bytes122 W' (by omega)) λ v K' n' ⟨e1,y,e2,e3⟩=>?_;subst e1
   have:cB2s (.sl n 0 (encR row).length 1) K'=.val (.str (encR row)):=by
    unfold cB2s;dsimp only;rw[sliceCells_sl e2 e3 (by simp)];simp[bytesOf_byC _ (encR_byte row hmay hr),take_of_length_le]
   simp[eB2s,this];exact .pure _ (by simp)
  simp[show (160:Int)<((encR row).length:Int) by omega,R89_23,h];exact .pure _ (by simp)
 simp[R89_2,h0,R89_3,encE];exact .pure _ (by simp)
end Go.Abs
namespace Go.Abs
open List
open Go.Proofs
open Classical
set_option maxRecDepth 100000
section
variable {P:Program}{F:Fr}{H:Hp}{n:Nat}{m:List Dm}{Q:QA}
theorem OwnS.upd {v:AV}{l:List Nat}(h:OwnS H n v (byC l) l.length 1)(y:ABlk):OwnS (H.put n (some y)) (n+1) v (byC l) l.length 1:=by
 obtain⟨h0,⟨rfl,h1⟩ | ⟨b,k,rfl,hb,hk,ho⟩⟩:=h
 ·exact⟨h0,.inl ⟨rfl,h1⟩⟩
 exact⟨h0,.inr ⟨b,k,rfl,by omega,by rw[Tr.get_put,if_neg (by omega),hk],ho⟩⟩
theorem OwnS.appB {v:AV}{l:List Nat}{pd:Pd}{r:List (Option GO)}(h:OwnS H n v (byC l) l.length 1)(x:List Nat)(hx:0<x.length)(hl:l.length+x.length<1048576)
  (hgo:∀H',OwnS H' (n+2) (.sl (n+1) 0 (l.length+x.length) 1) (byC (l++x)) (l++x).length 1->(∀c,c<n->v≠.sl c 0 l.length 1->H'.get c=H.get c)->VCO P r (pd.f (.sl (n+1) 0 (l.length+x.length) 1) F) H' (n+2) m Q):
  OpV (Go.Abs.cApp 1 1 (n+1) v (.sl n 0 x.length 1) (H.put n (some (.cells x.length [] (byC x) .nil)))) pd r P F (H.put n (some (.cells x.length [] (byC x) .nil))) (n+1) m Q:=by
 have hs:sliceCells (H.put n (some (.cells x.length [] (byC x) .nil))) 1 (.sl n 0 x.length 1)=some (byC x):=by
  rw[sliceCells_sl (k:=.cells x.length [] (byC x) .nil) (by simp) (.list (by simp)) (by simp)];simp[take_of_length_le]
 refine OwnS.app (h.upd _) hs (k:=x.length) (by simp) (by simp) (by omega) hx (by unfold big;omega) (by omega) (byC_one _) λ H' h1 h2=>hgo H' (by rw[byC_app];simpa using h1) λ c hc hv=>?_;rw[h2 c (by omega) hv,Tr.get_put,if_neg (by omega)]
theorem OwnS.appS {v:AV}{l:List Nat}{pd:Pd}{r:List (Option GO)}(h:OwnS H n v (byC l) l.length 1)(x:List Nat)(hl:l.length+x.length<1048576)(h0:0<l.length)
  (hgo:∀H' n' u,OwnS H' n' u (byC (l++x)) (l++x).length 1->VCO P r (pd.f u F) H' n' m Q):OpV (Go.Abs.cApp 1 1 n v (.str x) H) pd r P F H n m Q:=by
 have hs:sliceCells H 1 (.str x)=some (byC x):=by rw[<-u8s_eq];rfl
 have hk:sliceLen (.str x)=some x.length:=by show some (lenAcc x 0)=_;rw[lenAcc_zero]
 rcases Nat.eq_zero_or_pos x.length with e | e
 ·have e1:x=[]:=eq_nil_of_length_eq_zero e;subst e1
  have:Go.Abs.cApp 1 1 n v (.str []) H=.val v:=by
   obtain⟨_,⟨rfl,h1⟩ | ⟨b,k,rfl,_⟩⟩:=h
   ·omega
   unfold Go.Abs.cApp;rw[hs,hk];rfl
  rw[this];exact hgo H n v (by simpa using h)
 exact OwnS.app h hs hk (by simp) (by omega) e (by unfold big;omega) (by omega) (byC_one _) λ H' h1 _=>hgo H' (n+1) _ (by rw[byC_app];simpa using h1)
theorem OwnS.b2s {v:AV}{l:List Nat}(h:OwnS H n v (byC l) l.length 1)(hb:∀b∈l,b<256):cB2s v H=.val (.str l):=by
 obtain⟨h0,⟨rfl,h1⟩ | ⟨b,k,rfl,hbn,hk,ho⟩⟩:=h
 ·have:l=[]:=eq_nil_of_length_eq_zero h1;subst this;rfl
 unfold cB2s;dsimp only;rw[sliceCells_sl hk ho (by simp)];simp[bytesOf_byC _ hb,take_of_length_le]
end
theorem add_u8 (x:Nat):cAdd (.int .u8 (IntKind.u8.wrap (x % 128:Nat))) (.int .u8 128)=.val (.int .u8 ((x % 128+128:Nat):Int)):=by
 simp only[cAdd,if_true,vint_eq];rw[u8_sm (by omega),show ((x % 128:Nat):Int)+128=((x % 128+128:Nat):Int) by omega,u8_sm (by omega)]
theorem small133 (x:Nat)(hx:x<18446744073709551616):FnOwn pG 133 [.int .u64 (x:Int)] (byC (uvar x)) (uvar x).length 1:=by
 have hxl:(uvar x).length<=10:=uvar_len 9 x (by omega);refine FnOwn.of (by simp) (byC_pure _) (uvar_pos x) (CallR.of c133 (by simp[A133]) λ F hF=>?_);simp[A133,B133,R133_0,R133_1];refine LoopV.of (λ k F K m ms=>∃(y:Nat) (u:AV) (d:List Nat),k=y/\y<18446744073709551616/\F.get 0=some (.int .u64 (y:Int))/\F.get 3=some u/\ms=[]/\OwnS K m u (byC d) d.length 1/\uvar x=d++uvar y) x ⟨x,_,[],by simp[hF,hx];exact⟨rfl,OwnS.nil _ _ _⟩⟩ ?_;clear hF F;rintro k F K m ms ⟨y,u,d,hk,hy,f0,f3,rfl,O,hd⟩;have hdl:d.length<=10:=by have:=congrArg length hd;simp at this;omega
 by_cases h:y<=127
 ·have e:uvar y=[y]:=by unfold uvar;rw[if_pos h]
  simp[L133_0,R133_2,f0,show ¬(127:Int)<(y:Int) by omega,R133_5,f3,cToInt_int,u8_sm (show y<256 by omega)];refine OwnS.appB O [y] (by simp) (by simp;omega) λ H' O' _=>?_;simp;rw[e]at hd;rw[hd];simpa using O'
 have e0:uvar y=(y % 128+128)::uvar (y / 128):=by rw[uvar,if_neg h]
 have r1:cArith .rem .u64 (y:Int) 128=.val (.int .u64 ((y % 128:Nat):Int)):=by simp only[cArith,vint_eq];rw[if_neg (by omega),Int.tmod_eq_emod_of_nonneg (by omega)];rfl
 have r2:cArith .quo .u64 (y:Int) 128=.val (.int .u64 ((y / 128:Nat):Int)):=by
  simp only[cArith,vint_eq];rw[if_neg (by omega),Int.tdiv_eq_ediv_of_nonneg (by omega),show (y:Int) / 128=((y / 128:Nat):Int) by omega,u64_sm (by omega)]
 have r3:=add_u8 y;rw[e0]at hd;clear e0;generalize y % 128=w at *;generalize w+128=z at *;generalize hq:y / 128=q at *;simp[L133_0,R133_2,f0,show (127:Int)<(y:Int) by omega,R133_3,f3,cToInt_int,r1,r3];refine OwnS.appB O [z] (by simp) (by simp;omega) λ H' O' _=>?_;simp[R133_4,f0,r2];exact⟨q,by omega,by omega,rfl,d++[z],by simpa using O',by rw[hd];simp⟩
theorem one_pos (v:Val):0<(one v).length:=by
 unfold one
 split
 ·exact uvar_pos _
 split
 ·have:=uvar_pos v.s.length;simp;omega
 simp
theorem One104 (u:Val) (hm:u.may=true) (h0:u.kind≠0) (hr:u.rng):FnOwn pG 104 [u.av] (byC (one u)) (one u).length 1:=by
 refine FnOwn.of (by simp) (byC_pure _) (one_pos u) (CallR.of c104 (by simp[A104]) λ F hF=>?_);have hk:=Val.may_kind hm;unfold one
 by_cases k1:u.kind=1
 ·obtain⟨h1,h2,_⟩:=hr;have hs:=small133 (zz u.num) (zz_lt h1 h2)
  by_cases hn:u.num<0
  ·have a0:IntKind.i64.wrap (u.num+1)=u.num+1:=by simp[IntKind.wrap,IntKind.signed,IntKind.bits];omega
   have a1:IntKind.i64.wrap (0 - (u.num+1)) = -(u.num+1):=by simp[IntKind.wrap,IntKind.signed,IntKind.bits];omega
   have a2:IntKind.u64.wrap (-(u.num+1)) = -(u.num+1):=by simp[IntKind.wrap,IntKind.signed,IntKind.bits];omega
   have a3:IntKind.u64.wrap (2 * -(u.num+1))=2 * -(u.num+1):=by simp[IntKind.wrap,IntKind.signed,IntKind.bits];omega
   have a4:IntKind.u64.wrap (2 * -(u.num+1)+1)=((zz u.num:Nat):Int):=by unfold zz;rw[if_neg (by omega)];simp[IntKind.wrap,IntKind.signed,IntKind.bits];omega
   have n1:cUn .neg (.int .i64 (u.num+1))=.val (.int .i64 (-(u.num+1))):=by simp only[cUn,vint_eq,a1]
   generalize -(u.num+1)=w at *;simp[A104,B104,R104_0,R104_1,R104_3,R104_6,R104_7,hF,Val.av,k1,hn,cToInt_int,a0,n1,a2,a3,a4];refine CalV.own hs ?_;simp;exact⟨by simp,.inr ⟨1,_,rfl,by omega,by simp;rfl,.list (by simp)⟩⟩
  have a2:IntKind.u64.wrap u.num=u.num:=by simp[IntKind.wrap,IntKind.signed,IntKind.bits];omega
  have a3:IntKind.u64.wrap (2*u.num)=((zz u.num:Nat):Int):=by unfold zz;rw[if_pos (by omega)];simp[IntKind.wrap,IntKind.signed,IntKind.bits];omega
  simp[A104,B104,R104_0,R104_1,R104_3,R104_6,R104_8,hF,Val.av,k1,hn,cToInt_int,a2,a3];refine CalV.own hs ?_;simp;exact⟨by simp,.inr ⟨1,_,rfl,by omega,by simp;rfl,.list (by simp)⟩⟩
 by_cases k2:u.kind=2
 ·have h64:=Val.may_len hm k2;have hs:=small133 u.s.length (by omega);simp[A104,B104,R104_0,R104_1,R104_3,R104_4,R104_5,hF,Val.av,k2,cToInt_int,u64_sm (show u.s.length<18446744073709551616 by omega)];refine CalV.own hs ?_;simp;refine OwnS.appS (l:=uvar u.s.length) ⟨by simp,.inr ⟨1,_,rfl,by omega,by simp;rfl,.list (by simp)⟩⟩ u.s (by have:=uvar_len 0 u.s.length (by omega);omega) (uvar_pos _) λ H' n' w O=>?_;simp;simpa using O
 have k3:u.kind=3:=by omega
 have hn:u.num=0∨u.num=1:=by
  have:=hm;unfold Val.may at this;simp[k3]at this;exact this.2
 have w:IntKind.u8.wrap u.num=((u.num.toNat:Nat):Int):=by rcases hn with h | h<;>rw[h]<;>rfl
 generalize u.num.toNat=x at *;simp[A104,B104,R104_0,R104_1,R104_2,hF,Val.av,k3,cToInt_int,w];exact⟨by simp[byC],.inr ⟨1,.cells 1 [] (byC [x]) .nil,rfl,by omega,by simp[byC],.list (by simp[byC])⟩⟩
end Go.Abs
namespace Go.Abs
open List
open Go.Proofs
open Classical
set_option maxRecDepth 100000
theorem chunk (row:List Val)(i j:Nat)(h:i<row.length):((row.take (i+1)).drop (8*j)).take 8=if j=i / 8 then ((row.take i).drop (8*j)).take 8++[row[i]]else ((row.take i).drop (8*j)).take 8:=by
 rw[drop_take,drop_take,take_take,take_take]
 by_cases e:j=i / 8
 ·rw[if_pos e,show min 8 (i+1 - 8*j)=(i - 8*j)+1 by omega,show min 8 (i - 8*j)=i - 8*j by omega,take_add_one,getElem?_drop,show 8*j+(i - 8*j)=i by omega,getElem?_eq_getElem h];rfl
 rw[if_neg e]
 congr 1
 omega
theorem bitsN_step (row:List Val)(m i:Nat)(h:i<row.length)(hm:i / 8<m):bitsN (row.take (i+1)) m=(bitsN (row.take i) m).set (i / 8) (nulB (((row.take i).drop (8*(i / 8))).take 8)+2 ^ (i % 8)*(if row[i].kind=0 then 1 else 0)):=by
 apply ext_getElem
 ·simp
 intro j h1 h2;simp only[bitsN_len]at h1;rw[getElem_set];simp only[bitsN,List.getElem_map,List.getElem_range];rw[chunk row i j h]
 by_cases e:i / 8=j
 ·subst e;rw[if_pos rfl,if_pos rfl,nulB_snoc]
  congr 3
  simp;omega
 rw[if_neg (λ h=>e h.symm),if_neg e]
theorem bitsN_at (row:List Val)(m j:Nat)(h:j<(bitsN row m).length):(bitsN row m)[j]=nulB ((row.drop (8*j)).take 8):=by simp[bitsN]
theorem own_stU {H:Hp}{b i:Nat}{k:ABlk}{L:List AV}(hb:H.get b=some k)(ho:OwnB k L)(hi:i<L.length)(a:Int):∃y,cStore 1 (.ptr b i) (.int .u8 a) H=.upd (.tup []) b y/\OwnB y (L.set i (.int .u8 a)):=by
 have ho':=ho;obtain⟨u,z,bs,t,rfl,h3,h4,_⟩:=ho;refine⟨stBlk u z bs t [.int .u8 a] i,?_,ho'.st hi _⟩;have hu:i+1<=u:=by omega
 simp[cStore,hb,hu,AV.len,AV.cells]
theorem byC_set (l:List Nat)(i x:Nat):byC (l.set i x)=(byC l).set i (.int .u8 (x:Int)):=by simp[byC,List.map_set]
theorem rep_len (z:List AV)(c:Nat):(rep z c).length=c*z.length:=by
 induction c with
 | zero=>simp[rep]
 | succ c ih=>simp only[rep,length_append,ih,Nat.add_mul];omega
theorem rep_at (z:List AV)(c i:Nat)(h:i<c*z.length):(rep z c)[i]?=z[i % z.length]?:=by
 induction c generalizing i with
 | zero=>omega
 | succ c ih =>
  simp only[rep]
  by_cases hl:i<z.length
  ·rw[getElem?_append_left hl,Nat.mod_eq_of_lt hl]
  rw[getElem?_append_right (by omega),ih (i - z.length) (by rw[Nat.add_mul]at h;omega),<-Nat.mod_eq_sub_mod (by omega)]
theorem OwnB.zero {z:List AV}(hz:z≠[])(c:Nat):OwnB (.cells (c*z.length) z [] .nil) (rep z c):=by
 refine⟨_,z,[],.nil,rfl,(rep_len z c).symm,λ i=>?_,λ _ h=>absurd h hz⟩;rw[getc_eq]
 by_cases h:i<c*z.length
 ·rw[if_pos h,rep_at z c i h];simp only[Ov.get_nil,List.getElem?_nil]
  cases z with
  | nil=>exact absurd rfl hz
  | cons a r =>
   cases r with
   | nil=>show some a=_;simp[Nat.mod_one]
   | cons b r=>rfl
 rw[if_neg h,getElem?_eq_none (by rw[rep_len];omega)]
theorem rep1 (a:AV)(c:Nat):rep [a] c=replicate c a:=by
 induction c with
 | zero=>rfl
 | succ c ih=>simp[rep,ih,List.replicate_succ]
@[simp] theorem eMksl_f (z:List AV)(sz by_:Nat)(x y:G)(F:Fr)(H:Hp)(n:Nat):eMksl z sz by_ x y F H n=oE (x.f F) λ a=>oE (y.f F) λ b=>cMksl z sz by_ n a b:=by
 unfold eMksl oE
 cases x.f F with
 | none=>rfl
 | some a=>cases y.f F<;>rfl
theorem cMksl_ok {z:List AV}{sz by_ n:Nat}{k j:IntKind}(c:Nat)(h1:c<=big)(h2:by_*c<=281474976710656):cMksl z sz by_ n (.int k (c:Int)) (.int j (c:Int))=.new (.sl n 0 c sz) (.cells (c*sz) z [] .nil):=by
 show (match Nat.ble c c&&Nat.ble c big&&Nat.ble (by_*c) 281474976710656 with | true=>_ | false=>_)=_;rw[Nat.ble_eq_true_of_le (Nat.le_refl _),Nat.ble_eq_true_of_le h1,Nat.ble_eq_true_of_le h2];rfl
theorem bitsN_0 (m:Nat):byC (bitsN [] m)=rep [.int .u8 0] m:=by
 rw[rep1];simp[bitsN,byC,nulB,List.map_const']
theorem enc71a (row:List Val) (hl:row.length<=16) (m:Nat) (hm:m=(row.length+7) / 8) (F:Fr) (K:Hp) (n q:Nat) (y:ABlk) (Q:QA) (f1:F.get 1=some (rowAV row)) (f7:F.get 7=some (.sl q 0 m 1)) (f8:F.get 8=some (.int .i64 0)) (hq:K.get q=some y) (ho:OwnB y (byC (bitsN [] m)))
  (k:∀(F':Fr)(K':Hp)(y:ABlk),F'.get 1=some (rowAV row)->F'.get 7=some (.sl q 0 m 1)->K'.get q=some y->OwnB y (byC (bitsN row m))->Q (.exit 0) F' K' n []):LoopV L71_0 pG F K n [] Q:=by
 refine LoopV.of (λ t F K n' ms=>∃i y,t=row.length - i/\i<=row.length/\F.get 1=some (rowAV row)/\F.get 7=some (.sl q 0 m 1)/\F.get 8=some (.int .i64 (i:Int))/\K.get q=some y/\OwnB y (byC (bitsN (row.take i) m))/\n'=n/\ms=[]) row.length ⟨0,y,by simp,by omega,f1,f7,f8,hq,by simpa using ho,rfl,rfl⟩ ?_;clear f1 f7 f8 hq ho F K y;rintro t F K n' ms ⟨i,y,rfl,hi,f1,f7,f8,hq,ho,rfl,rfl⟩;rw[rowAV]at f1
 by_cases h:i<row.length
 ·have hx:=ixa_val (k:=.i64) h;have w:=wrap_nat i (by omega);have hs:=bitsN_step row m i h (by omega)
  by_cases h0:row[i].kind=0
  ·have hj:i / 8<(byC (bitsN (row.take i) m)).length:=by simp;omega
   have hsl:cIxa 1 (.sl q 0 m 1) (.int .i64 ((i / 8:Nat):Int))=.val (.ptr q (i / 8)):=by rw[cIxa_sl (by omega)];simp
   have hld:=own_ld hq ho hj;have e1:(byC (bitsN (row.take i) m))[i / 8]=.int .u8 ((nulB (((row.take i).drop (8*(i / 8))).take 8):Nat):Int):=by simp[byC,bitsN]
   have hlt:=nulB_lt (((row.take i).drop (8*(i / 8))).take 8);have hlen:(((row.take i).drop (8*(i / 8))).take 8).length=i % 8:=by simp;omega
   rw[hlen]at hlt;rw[e1]at hld;rw[if_pos h0,Nat.mul_one]at hs;generalize hx0:nulB (((row.take i).drop (8*(i / 8))).take 8)=x at *;have hp:2 ^ (i % 8)<=2 ^ 7:=Nat.pow_le_pow_right (by omega) (by omega);obtain⟨y',hst,ho'⟩:=own_stU hq ho hj ((x+2 ^ (i % 8):Nat):Int)
   have q1:cArith .quo .i64 (i:Int) 8=.val (.int .i64 ((i / 8:Nat):Int)):=by
    simp only[cArith,vint_eq];rw[if_neg (by omega),Int.tdiv_eq_ediv_of_nonneg (by omega),show (i:Int) / 8=((i / 8:Nat):Int) by omega,wrap_sm _ (by omega) (by omega)]
   have q2:cArith .rem .i64 (i:Int) 8=.val (.int .i64 ((i % 8:Nat):Int)):=by
    simp only[cArith,vint_eq];rw[if_neg (by omega),Int.tmod_eq_emod_of_nonneg (by omega)];rfl
   have q3:=shl_b (j:=i % 8) (by omega)
   have q4:cAdd (.int .u8 (x:Int)) (.int .u8 ((2 ^ (i % 8):Nat):Int))=.val (.int .u8 ((x+2 ^ (i % 8):Nat):Int)):=by
    simp only[cAdd,if_true,vint_eq];rw[show (x:Int)+((2 ^ (i % 8):Nat):Int)=((x+2 ^ (i % 8):Nat):Int) by omega,u8_sm (by omega)]
   rw[<-byC_set]at ho';rw[<-hs]at ho';clear hs;generalize x+2 ^ (i % 8)=z at *;generalize 2 ^ (i % 8)=pw at *;generalize i % 8=rm at *;generalize i / 8=qu at *;simp[L71_0,R71_6,f1,f8,h,R71_7,hx,ld_kind,h0,R71_8];refine DrwV.of (ce0_ok (P:=pG)) ?_;simp[clearF_get,f7,f8,q1,q2,q3,hsl,hld,q4,hst,R71_9,w,f1];exact⟨_,by omega,i+1,rfl,by omega,by simp[rowAV],rfl,ho'⟩
  simp only[if_neg h0,Nat.mul_zero,Nat.add_zero]at hs
  have e:(bitsN (row.take i) m).set (i / 8) (nulB (((row.take i).drop (8*(i / 8))).take 8))=bitsN (row.take i) m:=by
   apply ext_getElem
   ·simp
   intro j h1 h2;rw[getElem_set]
   split
   ·rename_i e;subst e;rw[bitsN_at]
   rfl
  rw[e]at hs;simp[L71_0,R71_6,f1,f8,h,R71_7,hx,ld_kind,h0,R71_9,w,f7,hq];exact⟨_,by omega,i+1,rfl,by omega,by simp[rowAV],rfl,by rw[hs];exact ho⟩
 obtain rfl:i=row.length:=by omega
 simp[L71_0,R71_6,f1,f8];rw[take_of_length_le (Nat.le_refl _)]at ho;refine k _ _ _ ?_ ?_ hq ho
 ·simp[f1,rowAV]
 simp[f7]
theorem enc71b (row:List Val)(hl:row.length<=16)(hm:∀v∈row,v.may=true)(hr:∀v∈row,v.rng)(B:List Nat)(hB:0<B.length/\B.length<=2)(F:Fr)(K:Hp)(n:Nat)(u:AV)(Q:QA)(f1:F.get 1=some (rowAV row))(f7:F.get 7=some u)(f9:F.get 9=some (.int .i64 0))(O:OwnS K n u (byC B) B.length 1)
  (k:∀(F':Fr)(K':Hp)(n':Nat)(u:AV),F'.get 7=some u->OwnS K' n' u (byC (B++valB row)) (B++valB row).length 1->Q (.exit 2) F' K' n' []):LoopV L71_1 pG F K n [] Q:=by
 refine LoopV.of (λ t F K n ms=>∃i u,t=row.length - i/\i<=row.length/\F.get 1=some (rowAV row)/\F.get 7=some u/\F.get 9=some (.int .i64 (i:Int))/\OwnS K n u (byC (B++valB (row.take i))) (B++valB (row.take i)).length 1/\ms=[]) row.length ⟨0,u,by simp,by omega,f1,f7,f9,by simpa[valB]using O,rfl⟩ ?_;clear f1 f7 f9 O F K n u;rintro t F K n ms ⟨i,u,rfl,hi,f1,f7,f9,O,rfl⟩;rw[rowAV]at f1
 by_cases h:i<row.length
 ·have hx:=ixa_val (k:=.i64) h;have w:=wrap_nat i (by omega);have hs:=valB_snoc row i h;have hm1:=hm row[i] (getElem_mem h);have hr1:=hr row[i] (getElem_mem h);have hvl:=valB_len (row.take i) (λ v hv=>hm v (mem_of_mem_take hv)) (λ v hv=>hr v (mem_of_mem_take hv));have hvl2:(row.take i).length<=16:=by simp;omega
  by_cases h0:row[i].kind=0
  ·rw[if_pos h0,append_nil]at hs;simp[L71_1,R71_11,f1,f9,h,R71_12,hx,ld_kind,h0,R71_14,w,f7];exact⟨_,by omega,i+1,rfl,by omega,by simp[rowAV],rfl,by rw[hs];simpa using O⟩
  rw[if_neg h0]at hs;have ho:=One104 row[i] hm1 h0 hr1;have h70:=one_len row[i] hm1 hr1;simp[L71_1,R71_11,f1,f9,h,R71_12,hx,ld_kind,h0,R71_13,f7,ld_val];refine CalV.own ho ?_;simp;refine OwnS.appB O (one row[i]) (one_pos _) (by simp;omega) λ H' O' _=>?_;simp[R71_14,f9,w,f1];exact⟨_,by omega,i+1,rfl,by omega,by simp[rowAV],by rw[hs,<-append_assoc];simpa using O'⟩
 obtain rfl:i=row.length:=by omega
 simp[L71_1,R71_11,f1,f9];rw[take_of_length_le (Nat.le_refl _)]at O;refine k _ _ _ u ?_ O;simp[f7]
theorem enc71 (c:List Col)(row:List Val)(hv:row.length<=lim)(hr:∀v∈row,v.rng):FnPure pG 71 [eCol.ds c,rowAV row] (.tup [.str (encE c row).1,.int .i64 (encE c row).2]):=by
 refine pureV c71 (by simp) (by simp) (by simp[A71]) λ F hF=>?_;simp[A71,B71,R71_0,R71_1,hF];refine CalV.pure (fits103 c row hv) ?_
 by_cases h0:fitE c row=0
 ·obtain⟨_,hlen,hne,h16,hmay⟩:=fitE_ok h0;have hpos:=length_pos_iff.2 hne
  have q1:cArith .quo .i64 (IntKind.i64.wrap ((row.length:Int)+7)) 8=.val (.int .i64 (((row.length+7) / 8:Nat):Int)):=by
   rw[wrap_sm _ (by omega) (by omega)];simp only[cArith,vint_eq];rw[if_neg (by omega),Int.tdiv_eq_ediv_of_nonneg (by omega),show ((row.length:Int)+7) / 8=(((row.length+7) / 8:Nat):Int) by omega,wrap_sm _ (by omega) (by omega)]
  have q2:=cMksl_ok (z:=[.int .u8 0]) (sz:=1) (by_:=1) (n:=0) (k:=.i64) (j:=.i64) ((row.length+7) / 8) (by unfold big;omega) (by omega);have hB:0<(row.length+7) / 8/\(row.length+7) / 8<=2:=by omega
  generalize hm:(row.length+7) / 8=m at *;simp[R71_2,h0,R71_4,hF,rowAV,q1,q2,R71_5];refine enc71a row h16 m hm.symm _ _ _ 0 _ _ (by simp[hF,rowAV]) (by simp) (by simp) (by simp;rfl) (by rw[bitsN_0];simpa using OwnB.zero (z:=[.int .u8 0]) (by simp) m) λ F K y f1 f7 hq ho=>?_;clear hF;simp[R71_10];refine enc71b row h16 hmay hr (bitsN row m) (by simp;exact hB) _ _ _ (.sl 0 0 m 1) _ (by simp[f1]) (by simp[f7]) (by simp) ⟨by simp,.inr ⟨0,y,by simp,by omega,hq,ho⟩⟩ λ F K n u f7 O=>?_;have O':OwnS K n u (byC (encR row)) (encR row).length 1:=by unfold encR;rw[hm];exact O
  have hl:cLenL u=.val (.int .i64 ((encR row).length:Int)):=by
   obtain⟨_,⟨rfl,h⟩ | ⟨b,_,rfl,_⟩⟩:=O'
   ·rw[h];simp
   simp
  have hb:=O'.b2s (encR_byte row hmay hr);unfold encE;rw[if_pos h0]
  by_cases h:(encR row).length<=160
  ·simp[R71_15,f7,hl,show ¬(160:Int)<((encR row).length:Int) by omega,R71_17,h,eB2s,hb];exact .pure _ (by simp)
  simp[R71_15,f7,hl,show (160:Int)<((encR row).length:Int) by omega,R71_16,h];exact .pure _ (by simp)
 simp[R71_2,h0,R71_3,encE];exact .pure _ (by simp)
end Go.Abs
