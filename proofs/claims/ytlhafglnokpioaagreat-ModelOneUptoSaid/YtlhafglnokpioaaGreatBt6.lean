/- A part. -/
import Derived.Test.YtlhafglnokpioaaGreatBt5
noncomputable section
namespace Go.Abs
open List
open Go.Proofs
open Classical
set_option maxRecDepth 100000
theorem dW (k j:IntKind)(a:Int):cw k (.int j a)=.val (.int k (k.wrap a)):=by
 simp only[cw,kN]
def gC (l:List Nat):List AV:=l.map λ b:Nat=>.int .u8 (b:Int)
@[simp] theorem aqm (l:List Nat):(gC l).length=l.length:=by simp[gC]
theorem Bq (a b:List Nat):gC (a++b)=gC a++gC b:=by simp[gC]
theorem UT (l:List Nat):fo (gC l):=by
 induction l with
 |nil=>simp[gC]
 |cons a r ih=>simpa[gC]using ih
theorem rO (l:List Nat):aY (gC l)=true:=by
 induction l with
 |nil=>rfl
 |cons a r ih=>simpa[gC]using ih
@[simp] theorem asY (c:Bool)(b o:Nat):js c .ptr (.ptr b o) (.al (.pointer none))=.val (.bool c):=by cases c<;>exact Eq.trans rfl rfl
theorem uW (k j:IntKind)(a b:Int)(h:0<=b):fH .shr (.int k a) (.int j b)=.val (.int k (a.fdiv (2 ^ (min b.toNat k.bits)))):=by
 obtain⟨b,rfl⟩:=Int.eq_ofNat_of_zero_le h;simp only[fH,kN];rfl
theorem LP (k j:IntKind)(a b:Int)(h:0<=b):fH .shl (.int k a) (.int j b)=.val (.int k (k.wrap (a*2 ^ (min b.toNat k.bits)))):=by
 obtain⟨b,rfl⟩:=Int.eq_ofNat_of_zero_le h;simp only[fH,kN];rfl
theorem zJ (k:IntKind)(a b:Int):dw .or k a b=.val (.int k (k.wrap (BitVec.ofInt k.bits a ||| BitVec.ofInt k.bits b).toNat)):=by simp[dw]
theorem xm (k:IntKind)(a b:Int):dw .xor k a b=.val (.int k (k.wrap (BitVec.ofInt k.bits a ^^^ BitVec.ofInt k.bits b).toNat)):=by simp[dw]
@[simp] theorem aql:dq .or=uz (dw .or):=Eq.trans rfl rfl
@[simp] theorem anV:dq .xor=uz (dw .xor):=Eq.trans rfl rfl
structure mh (H:Hp)(n p:Nat)(v:AV)(l:List Nat):Prop where
 hp:H.get p=aG 2 [.bool true,v]
 pn:p<n
 hv:(v=.al (.slice none 0 0)/\l=[])∨∃b,v=.sl b 0 l.length 1/\b<n/\b≠p/\H.get b=some (.cells l.length [] (gC l) .nil)/\0<l.length
def J8 (p:Nat)(v:AV):List Nat:=p::(blk v).toList
theorem DL {x:Nat}(h:x<256):IntKind.u8.wrap (x:Int)=(x:Int):=by simp[IntKind.wrap,IntKind.signed,IntKind.bits];omega
theorem vp {x:Nat}(h:x<18446744073709551616):IntKind.u64.wrap (x:Int)=(x:Int):=by simp[IntKind.wrap,IntKind.signed,IntKind.bits];omega
theorem aaJ {H:Hp}{n p:Nat}{v:AV}{l:List Nat}(ht:cA H n)(W:mh H n p v l)(x:Nat)(hx:x<256)(hl:l.length<1048576):
  aj pG 229 [.ptr p 0,.int .u8 (x:Int),zI 1] H n (λ u K k=>u=.aX []/\K.get p=aG 2 [.bool true,.sl (n+1) 0 (l.length+1) 1]/\(∃y,K.get (n+1)=some y/\OwnB y (gC (l++[x])))/\k=n+2):=by
 obtain⟨hp,pn,hv⟩:=W;have z:=ht.none;have e1:=ga pn;have e2:=KT pn;refine aj.of c229 (by simp[A229]) λ F hF=>?_;simp[A229,hF,hp];refine aE.Py 1 (eE.step ?_);simp[ZJ];refine cj.of (cN (P:=pG)) ?_;have s1:fH .shr (.int .u64 (x:Int)) (zI 0)=.val (.int .u64 (x:Int)):=by rw[uW _ _ _ _ (by omega)];simp
 simp[ab,hF,hp,cG,dj,z,vp (show x<18446744073709551616 by omega),DL hx,s1,dY,dW]
 rcases hv with⟨rfl,rfl⟩|⟨b,rfl,hbn,hbp,hb,hl0⟩
 ·rw[UQ (new:=gC [x]) (k:=1) (aR (by simp[gC])) (by simp) (by omega) (by omega) (by unfold big;omega) (by omega) (rO _)];simp[ab,hF,hp,e1,Jy,dY];refine eE.step ?_;simp[ab,e2];exact .list (by simp)
 have hpb:¬p=b:=λ e=>hbp e.symm;have b1:=ga hbn;have b2:=KT hbn;rw[aim (new:=gC [x]) (k:=1) (b:=b) (u:=l.length) (z:=[]) (bs:=gC l) (t:=.nil) (by simp[b1,hb]) (by omega) (aR (by simp[gC])) (by simp) (by omega) (by omega) (by unfold big;omega) (by omega) (rO _)];simp[ab,hF,hp,e1,hpb,Jy,dY];refine eE.step ?_;simp[Bq,ab,e2];have:=OwnB.app (u:=l.length) (z:=[]) (bs:=gC l) (l:=gC l) (new:=gC [x]) (t:=.nil) (OwnB.list (by simp)) (by simp[gC]);simpa using this
theorem tI {g:FuncId}{args:List AV}{H:Hp}{n n' p b':Nat}{v:AV}{l new:List Nat}(W:mh H n p v l) (ha:cT n args) (hn:n<=b'/\b'<n') (hl:0<(l++new).length)
  (h:∀S,cA S n->mh S n p v l->aj pG g args S n (λ u K k=>u=.aX []/\K.get p=aG 2 [.bool true,.sl b' 0 (l++new).length 1]/\(∃y,K.get b'=some y/\OwnB y (gC (l++new)))/\k=n')):
  ∃H1,bc pG g args H n (.aX []) H1 n'/\mh H1 n' p (.sl b' 0 (l++new).length 1) (l++new)/\∀c,c∉J8 p v->c<n∨n'<=c->H1.get c=H.get c:=by
 have W0:=W;obtain⟨hp,pn,hv⟩:=W
 have hL:∀c∈J8 p v,c<n/\H.get c≠none/\∀k,H.get c=some k->tu n k:=by
  intro c hc
  rcases mem_cons.1 hc with rfl|hc
  ·refine⟨pn,by rw[hp];simp,λ k hk=>?_⟩;rw[hp]at hk;injection hk with hk;subst hk;refine bT ?_
   rcases hv with⟨rfl,_⟩|⟨b,rfl,hb,_⟩
   ·simp
   simp[hb]
  rcases hv with⟨rfl,_⟩|⟨b,rfl,hb,_,hg,_⟩
  ·simp at hc
  simp at hc;subst hc;refine⟨hb,by rw[hg];simp,λ k hk=>?_⟩;rw[hg]at hk;injection hk with hk;subst hk;exact bT (UT l).jI
 have hS:mh (pick H (J8 p v)) n p v l:=by
  refine⟨by rw[eF (by simp[J8]),hp],pn,?_⟩
  rcases hv with h|⟨b,rfl,h1,h2,h3,h4⟩
  ·exact .inl h
  exact .inr ⟨b,rfl,h1,h2,by rw[eF (by simp[J8]),h3],h4⟩
 obtain⟨H1,h1,h2,h3⟩:=aj.GG (n':=n') (J8 p v) [(p,[.bool true,.sl b' 0 (l++new).length 1]),(b',gC (l++new))] ha (λ c hc=>(hL c hc).1) (λ c hc=>(hL c hc).2.1) (λ c hc=>(hL c hc).2.2) (by omega) (by simp;omega) (by
  intro e he;simp at he
  rcases he with rfl|rfl
  ·exact .inl (by simp[J8])
  exact .inr hn) ((h _ (ku λ c hc=>(hL c hc).1) hS).mono λ u K k ⟨a1,a2,a3,a4⟩=>⟨a1,λ e he=>by
  simp only[mem_cons,not_mem_nil,or_false]at he
  rcases he with rfl|rfl
  ·exact⟨_,a2,.list rfl⟩
  exact a3,by omega⟩)
 have q1:=h2 _ (mem_cons_self ..);have q2:=h2 _ (mem_cons_of_mem _ (mem_cons_self ..));exact⟨H1,h1,⟨by simpa using q1,by omega,.inr ⟨b',rfl,hn.2,by omega,by simpa using q2,hl⟩⟩,h3⟩
theorem agb {H:Hp}{n p:Nat}{v:AV}{l:List Nat}(W:mh H n p v l)(x:Nat)(hx:x<256)(hl:l.length<1048576):
  ∃H1,bc pG 229 [.ptr p 0,.int .u8 (x:Int),zI 1] H n (.aX []) H1 (n+2)/\mh H1 (n+2) p (.sl (n+1) 0 (l++[x]).length 1) (l++[x])/\∀c,c∉J8 p v->c<n∨n+2<=c->H1.get c=H.get c:=
 tI W (by simp[W.pn]) (by omega) (by simp) λ S ht WS=>by simpa using aaJ ht WS x hx hl
theorem zT {H:Hp}{n p:Nat}{v:AV}{l:List Nat}(W:mh H n p v l)(x:Nat)(hx:x<256)(hl:l.length<1048576):
  ∃H1,bc pG 167 [.ptr p 0,.int .u8 (x:Int)] H n (.aX []) H1 (n+2)/\mh H1 (n+2) p (.sl (n+1) 0 (l++[x]).length 1) (l++[x])/\∀c,c∉J8 p v->c<n∨n+2<=c->H1.get c=H.get c:=
 tI W (by simp[W.pn]) (by omega) (by simp) λ S _ WS=>by
  obtain⟨H1,h1,h2,_⟩:=agb WS x hx hl;refine aj.of c167 (by simp[A167]) λ F hF=>?_;simp[A167,hF];refine aw.ok h1 ?_;simp
  rcases h2.hv with⟨h,_⟩|⟨b,h,_,_,h3,_⟩
  ·cases h
  injection h with h;subst h;exact⟨by simpa using h2.hp,_,h3,.list (by simp)⟩
def dS (n:Nat):List Nat:=if n<=127 then [n]else (n % 128+128)::dS (n / 128)
 termination_by n
 decreasing_by omega
theorem lG (n:Nat):0<(dS n).length:=by unfold dS;split<;>simp
theorem vm (k n:Nat)(h:n<128 ^ (k+1)):(dS n).length<=k+1:=by
 induction k generalizing n with
 |zero=>unfold dS;rw[ao (by omega)];simp
 |succ k ih =>
  unfold dS
  split
  ·simp
  have:=ih (n / 128) (by rw[Nat.div_lt_iff_lt_mul (by omega)];rwa [Nat.pow_succ]at h);simp;omega
theorem yE (n:Nat):∀b∈dS n,b<256:=by
 induction n using dS.induct with
 |case1 n h=>unfold dS;rw[ao h];simp;omega
 |case2 n h ih=>unfold dS;rw[ah h];simp only[mem_cons,forall_eq_or_imp];exact⟨by omega,ih⟩
theorem alm:∀x:Fin 256,(BitVec.ofInt 8 (x.val:Int) ||| BitVec.ofInt 8 128).toNat=x.val % 128+128:=by decide
theorem agp {x:Nat}:IntKind.u8.wrap (BitVec.ofInt IntKind.u8.bits (IntKind.u8.wrap (x:Int)) ||| BitVec.ofInt IntKind.u8.bits 128).toNat=((x % 128+128:Nat):Int):=by
 have h1:IntKind.u8.wrap (x:Int)=((x % 256:Nat):Int):=by simp[IntKind.wrap,IntKind.signed,IntKind.bits]
 have h2:=alm ⟨x % 256,by omega⟩;rw[h1]
 have h3:(BitVec.ofInt IntKind.u8.bits ((x % 256:Nat):Int) ||| BitVec.ofInt IntKind.u8.bits 128).toNat=x % 128+128:=by
  refine Eq.trans h2 ?_;show x % 256 % 128+128=_;omega
 rw[h3,DL (by omega)]
theorem aq7 (x:Nat):dw .or .u8 (IntKind.u8.wrap (x:Int)) 128=.val (.int .u8 ((x % 128+128:Nat):Int)):=by rw[zJ,agp]
theorem Kp {H:Hp}{n p:Nat}{v:AV}{l:List Nat}(W:mh H n p v l) (x:Nat) (hx:x<18446744073709551616) (hl:l.length<1048000):
  ∃H1,bc pG 286 [.ptr p 0,.int .u64 (x:Int)] H n (.aX []) H1 (n+2*(dS x).length)/\mh H1 (n+2*(dS x).length) p (.sl (n+2*(dS x).length - 1) 0 (l++dS x).length 1) (l++dS x)/\∀c,c∉J8 p v->c<n∨n+2*(dS x).length<=c->H1.get c=H.get c:=
 tI W (by simp[W.pn]) (by have:=lG x;omega) (by have:=lG x;simp;omega) λ S ht WS=>by
  have hxl:(dS x).length<=10:=vm 9 x (by omega);refine aj.of c286 (by simp[A286]) λ F hF=>?_;simp[A286];refine aE.of (λ k F K m ms=>∃(y:Nat) (u:AV) (d:List Nat),k=y/\y<18446744073709551616/\F.get 0=some (.ptr p 0)/\F.get 1=some (.int .u64 (y:Int))/\ms=[]/\mh K m p u (l++d)/\dS x=d++dS y/\m=n+2*d.length) x ⟨x,v,[],by simp[hF,hx,WS]⟩ ?_;clear hF F;rintro k F K m ms ⟨y,u,d,hk,hy,f0,f1,rfl,WK,hd,rfl⟩;have hdl:d.length<=10:=by have:=congrArg length hd;simp at this;omega
  by_cases h:y<=127
  ·simp[JR,f1,show ¬(127:Int)<(y:Int) by omega];have e:dS y=[y]:=by unfold dS;rw[ao h]
   obtain⟨H1,h1,h2,_⟩:=zT WK y (by omega) (by simp;omega);simp[XO,f0,f1,dW,DL (show y<256 by omega)];refine aw.ok h1 ?_;rw[e]at hd;have el:(dS x).length=d.length+1:=by rw[hd];simp
   rw[hd,<-append_assoc];simp
   rcases h2.hv with⟨h,_⟩|⟨b,h,_,_,h3,_⟩
   ·cases h
   injection h with h;subst h;have hp':=h2.hp;simp only[append_assoc,length_append,List.length_singleton]at hp' h3;rw[show n+2*(d.length+1) - 1=n+2*d.length+1 by omega];exact⟨hp',⟨_,h3,.list (by simp)⟩,by omega⟩
  simp[JR,f1,show (127:Int)<(y:Int) by omega];have e:dS y=(y % 128+128)::dS (y / 128):=by rw[dS,ah h]
  obtain⟨H1,h1,h2,_⟩:=zT WK (y % 128+128) (by omega) (by simp;omega);simp[XQ,f0,f1,dW,aq7];refine aw.ok h1 ?_
  have s7:fH .shr (.int .u64 (y:Int)) (.int .u64 7)=.val (.int .u64 ((y / 128:Nat):Int)):=by
   rw[uW _ _ _ _ (by omega)];simp[IntKind.bits,Int.fdiv_eq_ediv_of_nonneg]
  simp[XP,f0,f1,s7];exact⟨y / 128,by omega,by omega,by omega,_,d++[y % 128+128],by simpa using h2,by rw[hd,e];simp,by simp;omega⟩
structure Val.eA (v:Val):Prop where
 lo : -9223372036854775808<=v.num
 hi:v.num<9223372036854775808
 b:∀c∈v.s,c<256
def zz (x:Int):Nat:=if 0<=x then (2*x).toNat else (-2*x - 1).toNat
theorem acJ {x:Int}(h1 : -9223372036854775808<=x)(h2:x<9223372036854775808):zz x<18446744073709551616:=by unfold zz;split<;>omega
theorem afP (s:List Nat):QW s=gC s:=by
 induction s with
 |nil=>rfl
 |cons a r _=>simp[gC,QW]
def anJ (n:Nat):AV->bb
 |.str l=>.new (.sl n 0 l.length 1) (.cells l.length [] (gC l) .nil)
 |_=>.fail
@[simp] theorem anI (n:Nat)(l:List Nat):anJ n (.str l)=.new (.sl n 0 l.length 1) (.cells l.length [] (gC l) .nil):=Eq.trans rfl rfl
@[simp] theorem asM (x:G)(F:Fr)(H:Hp)(n:Nat):Qb x F H n=oE (x.f F) (anJ n):=by
 unfold Qb oE
 cases x.f F with
 |none=>rfl
 |some v=>cases v<;>first|rfl|(dsimp only;rw[bI,afP];rfl)
theorem af7 {H:Hp}{n p q b:Nat}{l s:List Nat}(W:mh H n p (.sl b 0 l.length 1) l)(hq:H.get q=some (.cells s.length [] (gC s) .nil))(hl:l.length<1048000)(hs:s.length<=64):
  aj pG 288 [.ptr p 0,.sl q 0 s.length 1] H n (λ u K k=>u=.aX []/\(s=[]->K.get p=H.get p/\K.get b=H.get b/\k=n)/\(s≠[]->K.get p=aG 2 [.bool true,.sl n 0 (l++s).length 1]/\(∃y,K.get n=some y/\OwnB y (gC (l++s)))/\k=n+1)):=by
 obtain⟨hp,pn,hv⟩:=W
 obtain⟨hbn,hbp,hb⟩:b<n/\b≠p/\H.get b=some (.cells l.length [] (gC l) .nil):=by
  rcases hv with⟨h,_⟩|⟨b',h,h1,h2,h3,_⟩
  ·cases h
  injection h with h;subst h;exact⟨h1,h2,h3⟩
 refine aj.of c288 (by simp[A288]) λ F hF=>?_;simp[A288,hF,hp]
 have hsc:aV H 1 (.sl q 0 s.length 1)=some (gC s):=by
  rw[dy hq (.list (by simp)) (by simp)];simp[eZ]
 by_cases hs0:s=[]
 ·subst hs0
  have e:iM 1 1 n (.sl b 0 l.length 1) (.sl q 0 0 1) H=.val (.sl b 0 l.length 1):=by
   unfold iM;simp only[length_nil]at hsc;rw[hsc];rfl
  simp[e,hp,hbp]
 have hs1:0<s.length:=length_pos_iff.2 hs0;have hO:au H n (.sl b 0 l.length 1) (gC l) l.length 1:=⟨by simp,.inr ⟨b,_,rfl,hbn,hb,.list (by simp)⟩⟩;refine au.app hO hsc (k:=s.length) (by simp) (by simp) (by omega) hs1 (by unfold big;omega) (by omega) (rO _) λ H' hO' hf=>?_
 have hp':H'.get p=aG 2 [.bool true,.sl b 0 l.length 1]:=by
  rw[hf p pn,hp];intro h;injection h with h;exact hbp h
 obtain⟨_,⟨h,_⟩|⟨b',k,h,hb,hk,ho⟩⟩:=hO'
 ·cases h
 injection h with h;subst h;have e2:=KT pn;simp[hp',hs0,hk,e2];rw[Bq];exact ho
theorem QY {H:Hp}{n p:Nat}{v:AV}{l:List Nat}(W:mh H n p v l)(s:List Nat)(hl:l.length<1040000)(hs:s.length<=64):
  aj pG 235 [.ptr p 0,.str s] H n (λ u K k=>u=.aX []/\k=(if s=[]then n+3 else n+4)/\K.get p=aG 2 [.bool true,.sl (if s=[]then n+1 else n+3) 0 (l++(dS s.length++s)).length 1]/\∃y,K.get (if s=[]then n+1 else n+3)=some y/\OwnB y (gC (l++(dS s.length++s)))):=by
 have hu:(dS s.length).length=1:=by unfold dS;rw[ao (by omega)];rfl
 obtain⟨H1,h1,h2,_⟩:=Kp W s.length (by omega) (by omega);rw[hu,show n+2*1=n+2 by omega]at h1 h2;rw[show n+2 - 1=n+1 by omega]at h2;have w:IntKind.u64.wrap (s.length:Int)=(s.length:Int):=vp (by omega);refine aj.of c235 (by simp[A235]) λ F hF=>?_;simp[A235,hF,dW,w];refine aw.ok h1 ?_;simp[Yd,hF];generalize hK:Tr.put H1 _ _=K
 have h2':mh K (n+3) p (.sl (n+1) 0 (l++dS s.length).length 1) (l++dS s.length):=by
  obtain⟨a,b,c⟩:=h2;refine⟨by rw[<-hK,Tr.get_put,ah (by omega),a],by omega,?_⟩
  rcases c with⟨h,_⟩|⟨b',h,h3,h4,h5,h6⟩
  ·cases h
  injection h with h;subst h;exact .inr ⟨_,rfl,by omega,h4,by rw[<-hK,Tr.get_put,ah (by omega),h5],h6⟩
 refine aw.of (af7 (q:=n+2) h2' (s:=s) (by rw[<-hK];simp) (by simp;omega) hs) λ u K' k' ⟨e1,e2,e3⟩=>?_;subst e1;simp
 by_cases h0:s=[]
 ·subst h0;obtain⟨a1,a2,a3⟩:=e2 rfl;obtain⟨b',h,h3,h4,h5,h6⟩:=h2'.hv.resolve_left (by rintro⟨h,_⟩;cases h);injection h with h;subst h;refine⟨by simp[a3],by rw[a1,h2'.hp];simp,_,by simp only[if_true];rw[a2,h5],by simpa using OwnB.list (l:=gC (l++dS 0)) (by simp)⟩
 obtain⟨a1,a2,a3⟩:=e3 h0;simp only[ah h0];refine⟨by omega,by simpa[Nat.add_assoc]using a1,by simpa using a2⟩
def txB (s:List Nat)(n:Nat):Nat:=if s=[]then n+1 else n+3
def txN (s:List Nat)(n:Nat):Nat:=if s=[]then n+3 else n+4
theorem acL (s:List Nat)(n:Nat):n<txB s n/\txB s n<txN s n:=by unfold txB txN;split<;>omega
theorem aah {H:Hp}{n p:Nat}{v:AV}{l:List Nat}(W:mh H n p v l)(s:List Nat)(hl:l.length<1040000)(hs:s.length<=64):
  ∃H1,bc pG 235 [.ptr p 0,.str s] H n (.aX []) H1 (txN s n)/\mh H1 (txN s n) p (.sl (txB s n) 0 (l++(dS s.length++s)).length 1) (l++(dS s.length++s))/\∀c,c∉J8 p v->c<n∨txN s n<=c->H1.get c=H.get c:=by
 have hu:(dS s.length).length=1:=by unfold dS;rw[ao (by omega)];rfl
 have:=acL s n;exact tI W (by simp[W.pn]) (by omega) (by simp;omega) λ S _ WS=>(QY WS s hl hs).mono λ u K k ⟨a,b,c,d⟩=>⟨a,c,d,b⟩
def one (v:Val):List Nat:=if v.kind=1 then dS (zz v.num)else if v.kind=2 then dS v.s.length++v.s else [v.num.toNat]
def OI (k:Int):FuncId:=if k=1 then 230 else if k=2 then 234 else 238
theorem mh.alloc {H:Hp}{n p:Nat}{v:AV}{l:List Nat}(W:mh H n p v l)(y:br):mh (H.put n (some y)) (n+1) p v l:=by
 obtain⟨a,b,c⟩:=W;refine⟨by rw[Tr.get_put,ah (by omega),a],by omega,?_⟩
 rcases c with h|⟨q,h1,h2,h3,h4,h5⟩
 ·exact .inl h
 exact .inr ⟨q,h1,by omega,h3,by rw[Tr.get_put,ah (by omega),h4],h5⟩
theorem mh.fin {H:Hp}{n p b:Nat}{l:List Nat}(W:mh H n p (.sl b 0 l.length 1) l):H.get p=aG 2 [.bool true,.sl b 0 l.length 1]/\∃y,H.get b=some y/\OwnB y (gC l):=by
 rcases W.hv with⟨h,_⟩|⟨b',h,_,_,h3,_⟩
 ·cases h
 injection h with h;subst h;exact⟨W.hp,_,h3,.list (by simp)⟩
theorem ain (x:Int)(h:0<=x)(h2:x<18446744073709551616):(BitVec.ofInt 64 x).toNat=x.toNat:=by
 rw[BitVec.toNat_ofInt,Int.emod_eq_of_lt h (by omega)]
theorem akw (x:Int)(h1 : -9223372036854775808<=x)(h2:x<9223372036854775808):dw .xor .u64 (IntKind.u64.wrap (IntKind.u64.wrap x*2)) (IntKind.u64.wrap (x.fdiv 9223372036854775808))=.val (.int .u64 ((zz x:Nat):Int)):=by
 have e:IntKind.u64.wrap (IntKind.u64.wrap x*2)=(2*x) % 18446744073709551616:=by simp[IntKind.wrap,IntKind.signed,IntKind.bits];omega
 rw[xm,e]
 congr 2
 by_cases h:0<=x
 ·have e2:x.fdiv 9223372036854775808=0:=by rw[Int.fdiv_eq_ediv_of_nonneg _ (by omega)];omega
  have e3:(2*x) % 18446744073709551616=2*x:=by omega
  rw[e2,e3,show IntKind.u64.wrap 0=0 from rfl];show IntKind.u64.wrap (((BitVec.ofInt 64 (2*x) ^^^ BitVec.ofInt 64 0).toNat:Nat):Int)=_;rw[show BitVec.ofInt 64 0=0#64 from rfl,BitVec.xor_zero,ain _ (by omega) (by omega),zz,ao h,vp (by omega)]
 have e2:x.fdiv 9223372036854775808 = -1:=by rw[Int.fdiv_eq_ediv_of_nonneg _ (by omega)];omega
 rw[e2,show IntKind.u64.wrap (-1)=18446744073709551615 from rfl];show IntKind.u64.wrap (((BitVec.ofInt 64 ((2*x) % 18446744073709551616) ^^^ BitVec.ofInt 64 18446744073709551615).toNat:Nat):Int)=_;rw[show BitVec.ofInt 64 18446744073709551615=BitVec.allOnes 64 from rfl,BitVec.xor_allOnes,BitVec.toNat_not,ain _ (by omega) (by omega),zz,ah h];have:2 ^ 64 - 1 - (2*x % 18446744073709551616).toNat=(-2*x - 1).toNat:=by omega
 rw[this,vp (by omega)]
theorem ag8 {H:Hp}{n p:Nat}{v:AV}{l:List Nat}(W:mh H n p v l)(x:Int)(h1 : -9223372036854775808<=x)(h2:x<9223372036854775808)(hl:l.length<1048000):
  ∃H1,bc pG 231 [.ptr p 0,zI x] H n (.aX []) H1 (n+2*(dS (zz x)).length)/\mh H1 (n+2*(dS (zz x)).length) p (.sl (n+2*(dS (zz x)).length - 1) 0 (l++dS (zz x)).length 1) (l++dS (zz x))/\∀c,c∉J8 p v->c<n∨n+2*(dS (zz x)).length<=c->H1.get c=H.get c:=
 tI W (by simp[W.pn]) (by have:=lG (zz x);omega) (by have:=lG (zz x);simp;omega) λ S _ WS=>by
  obtain⟨H1,a,b,_⟩:=Kp WS (zz x) (acJ h1 h2) hl;have s1:fH .shl (.int .u64 (IntKind.u64.wrap x)) (.int .u64 1)=.val (.int .u64 (IntKind.u64.wrap (IntKind.u64.wrap x*2))):=by rw[LP _ _ _ _ (by omega)];rfl
  have s2:fH .shr (zI x) (.int .u64 63)=.val (zI (x.fdiv 9223372036854775808)):=by rw[uW _ _ _ _ (by omega)];rfl
  refine aj.of c231 (by simp[A231]) λ F hF=>?_;simp[A231,hF,dW,s1,s2,akw x h1 h2];refine aw.ok a ?_;simp;have:=b.fin;simpa using this
theorem afF {H:Hp}{n p:Nat}{v:AV}{l:List Nat}(W:mh H n p v l) (u:Val) (hr:u.eA) (hm:u.may=true) (h0:u.kind≠0) (hl:l.length<1040000):
  ∃b' n',n<n'/\∃H1,bc pG (OI u.kind) [.ptr p 0,u.av] H n (.aX []) H1 n'/\mh H1 n' p (.sl b' 0 (l++one u).length 1) (l++one u)/\∀c,c∉J8 p v->c<n∨n'<=c->H1.get c=H.get c:=by
 have hk:=Val.lN hm;unfold one OI
 by_cases k1:u.kind=1
 ·refine⟨n+2*(dS (zz u.num)).length,n+1+2*(dS (zz u.num)).length,by omega,?_⟩;simp only[ao k1];refine tI W (by simp[W.pn,Val.av]) (by omega) (by have:=lG (zz u.num);simp;omega) λ S _ WS=>?_;obtain⟨H1,a,b,_⟩:=ag8 (WS.alloc (.cells 3 [] u.cells .nil)) u.num hr.lo hr.hi (by omega);refine aj.of c230 (by simp[A230]) λ F hF=>?_;simp[Val.cells]at a;simp[A230,hF,Val.av];refine aw.ok a ?_;simp;have:=b.fin;have e:n+1+2*(dS (zz u.num)).length - 1=n+2*(dS (zz u.num)).length:=by omega
  rw[e]at this;simpa using this
 by_cases k2:u.kind=2
 ·have hs:=Val.oZ hm k2;simp only[ah k1,ao k2];have ht:=acL u.s (n+1);refine⟨txB u.s (n+1),txN u.s (n+1),by omega,tI W (by simp[W.pn,Val.av]) (by omega) (by have:=lG u.s.length;simp;omega) λ S _ WS=>?_⟩;obtain⟨H1,a,b,_⟩:=aah (WS.alloc (.cells 3 [] u.cells .nil)) u.s (by omega) hs;refine aj.of c234 (by simp[A234]) λ F hF=>?_;simp[Val.cells]at a;simp[A234,hF,Val.av];refine aw.ok a ?_;simp;simpa using b.fin
 obtain k3:u.kind=3:=by omega
 have hn:u.num=0∨u.num=1:=by
  have:=hm;unfold Val.may at this;simp[k3]at this;exact this.2
 simp only[ah k1,ah k2];refine⟨n+2,n+3,by omega,tI W (by simp[W.pn,Val.av]) (by omega) (by simp) λ S _ WS=>?_⟩;obtain⟨H1,a,b,_⟩:=zT (WS.alloc (.cells 3 [] u.cells .nil)) u.num.toNat (by omega) (by omega);have w:IntKind.u8.wrap u.num=((u.num.toNat:Nat):Int):=by rcases hn with h|h<;>rw[h]<;>rfl
 refine aj.of c238 (by simp[A238]) λ F hF=>?_;simp only[Val.cells]at a;simp[A238,hF,Val.av,dW,w];refine aw.ok (by simpa using a) ?_;simp;simpa using b.fin
def qB:List Val->Nat
 |[]=>0
 |v::r=>(if v.kind=0 then 1 else 0)+2*qB r
theorem PE (l:List Val)(v:Val):qB (l++[v])=qB l+2 ^ l.length*(if v.kind=0 then 1 else 0):=by
 induction l with
 |nil=>simp[qB]
 |cons a r ih =>
  simp only[cons_append,qB,ih,length_cons,Nat.pow_succ,Nat.mul_add];rw[Nat.mul_comm (2 ^ r.length) 2,Nat.mul_assoc];omega
theorem KP (l:List Val):qB l<2 ^ l.length:=by
 induction l with
 |nil=>simp[qB]
 |cons a r ih=>simp only[qB,length_cons,Nat.pow_succ];split<;>omega
def oz (row:List Val)(m:Nat):List Nat:=(List.range m).map λ j=>qB ((row.drop (8*j)).take 8)
theorem Io (row:List Val)(m:Nat):oz row (m+1)=oz row m++[qB ((row.drop (8*m)).take 8)]:=by simp[oz,range_succ]
@[simp] theorem Qi (row:List Val)(m:Nat):(oz row m).length=m:=by simp[oz]
def k_ (row:List Val):List Nat:=row.flatMap λ v=>if v.kind=0 then []else one v
def encR (row:List Val):List Nat:=oz row ((row.length+7) / 8)++k_ row
def uC (c:List ny)(row:List Val):List Nat×Int:=if qM c row=0 then (if (encR row).length<=160 then (encR row,0)else ([],51))else ([],qM c row)
theorem or_bit:∀j:Fin 8,∀x:Fin 256,x.val<2 ^ j.val->(BitVec.ofInt 8 (x.val:Int) ||| BitVec.ofInt 8 ((2 ^ j.val:Nat):Int)).toNat=x.val+2 ^ j.val:=by decide
theorem aq8 {j x:Nat}(hj:j<8)(hx:x<2 ^ j):dw .or .u8 (x:Int) ((2 ^ j:Nat):Int)=.val (.int .u8 ((x+2 ^ j:Nat):Int)):=by
 have h1:2 ^ j<=2 ^ 7:=Nat.pow_le_pow_right (by omega) (by omega);have h2:=or_bit ⟨j,hj⟩ ⟨x,by omega⟩ hx;rw[zJ];rw[show (BitVec.ofInt IntKind.u8.bits (x:Int) ||| BitVec.ofInt IntKind.u8.bits ((2 ^ j:Nat):Int)).toNat=x+2 ^ j from h2,DL (by omega)]
theorem akP {j:Nat}(hj:j<8):fH .shl (.int .u8 1) (zI (j:Int))=.val (.int .u8 ((2 ^ j:Nat):Int)):=by
 have h1:2 ^ j<=2 ^ 7:=Nat.pow_le_pow_right (by omega) (by omega);rw[LP _ _ _ _ (by omega)];have:min (j:Int).toNat IntKind.u8.bits=j:=by simp[IntKind.bits];omega
 rw[this];have:=DL (show 2 ^ j<256 by omega);simpa using this
theorem agH (H:Hp)(n:Nat):aj pG 166 [] H n (λ u K k=>u=.ptr n 0/\K=H.put n (aG 2 [.bool true,.al (.slice none 0 0)])/\k=n+1):=by
 refine aj.of c166 (by simp[A166]) λ F hF=>?_;simp[A166]
def qZ:List AV:=[zI 1,.fn (.func 230) [] [],.fn (.func 232) [] [],zI 2,.fn (.func 234) [] [],.fn (.func 236) [] [],zI 3,.fn (.func 238) [] [],.fn (.func 239) [] []]
theorem aac:ae pG 168 [] (.agg qZ 9):=by
 refine hU c168 (by simp) (by simp[qZ]) (by simp[A168]) λ F hF=>?_;simp[A168];exact .pure _ (by simp)
theorem ahO (row:List Val) (hl:row.length<=16) (b:Nat) (hm:b<row.length) (F:Fr) (K:Hp) (n:Nat) (Q:QA) (f1:F.get 1=some (aF row)) (f8:F.get 8=some (zI (b:Int))) (f9:F.get 9=some (.int .u8 0)) (f10:F.get 10=some (zI (b:Int)))
  (k:∀F':Fr,F'.get 1=F.get 1->F'.get 7=F.get 7->F'.get 8=F.get 8->F'.get 9=some (.int .u8 (qB ((row.drop b).take 8):Int))->Q (.exit 2) F' K n []):aE Gs pG F K n [] Q:=by
 refine aE.of (λ t F' K' n' ms=>∃i a,t=8 - i/\i<=8/\a=b+i/\a<=row.length/\F'.get 1=F.get 1/\F'.get 7=F.get 7/\F'.get 8=F.get 8/\F'.get 9=some (.int .u8 (qB ((row.drop b).take i):Int))/\F'.get 10=some (zI (a:Int))/\K'=K/\n'=n/\ms=[]) 8 ⟨0,b,by simp[f9,f10,qB];omega⟩ ?_;rintro t F' K' n' ms ⟨i,a,rfl,hi,ha,hle,g1,g7,g8,g9,g10,rfl,rfl,rfl⟩
 have fin:(i=8∨a=row.length)->∀F2:Fr,F2.get 1=F.get 1->F2.get 7=F.get 7->F2.get 8=F.get 8->F2.get 9=F'.get 9->Q (.exit 2) F2 K' n' []:=λ h F2 x y z f=>by
  refine k F2 x y z (f.trans (g9.trans ?_))
  congr 3
  rcases h with rfl|h
  ·rfl
  rw[eZ (by simp;omega),eZ (by simp;omega)]
 have h1':=g1.trans f1;have h8':=g8.trans f8;rw[aF]at h1';have w1:IntKind.i64.wrap ((b:Int)+8)=(b:Int)+8:=dY _ (by omega) (by omega)
 by_cases h1:a<row.length
 ·by_cases h2:i<8
  ·have hx:=gB (k:=.i64) h1;have w2:IntKind.i64.wrap ((a:Int) - (b:Int))=(i:Int):=by rw[dY _ (by omega) (by omega)];omega
   have w3:=aC a (by omega);have hlen:((row.drop b).take i).length=i:=by simp;omega
   have hs:(row.drop b).take (i+1)=(row.drop b).take i++[row[a]]:=by
    rw[take_add_one,iV,<-ha,cE h1];rfl
   have hb:=PE ((row.drop b).take i) row[a];have hlt:=KP ((row.drop b).take i);rw[hlen]at hb hlt;rw[<-hs]at hb;simp[Gs,h1',h8',g10,h1,w1,show (a:Int)<(b:Int)+8 by omega,hx,Ld]
   by_cases h0:row[a].kind=0
   ·have s1:=akP h2;have s2:=aq8 h2 hlt;rw[h0,ao rfl,Nat.mul_one]at hb;rw[<-hb]at s2;simp only[Int.natCast_pow,Int.cast_ofNat_Int]at s1 s2;simp[h0,Vy,g9,g10,h8',w2,s1,s2,ID,w3];exact⟨_,by omega,i+1,rfl,by omega,by omega,g1,g7,f8.symm,rfl,by omega⟩
   rw[ah h0]at hb;simp[h0,ID,g10,w3];exact⟨_,by omega,i+1,rfl,by omega,by omega,g1,g7,g8,by simp[hb,g9],by omega⟩
  obtain rfl:i=8:=by omega
  simp[Gs,h1',h8',g10,h1,w1,show ¬(a:Int)<(b:Int)+8 by omega];exact fin (.inl rfl) _ (by simp[g1]) (by simp[g7]) (by simp[g8]) (by simp)
 simp[Gs,h1',g10,h1];exact fin (.inr (by omega)) _ (by simp[g1]) (by simp[g7]) (by simp[g8]) (by simp)
theorem En (l:List Val)(h:l.length<=8):qB l<256:=by
 have h1:=KP l;have h2:2 ^ l.length<=2 ^ 8:=Nat.pow_le_pow_right (by omega) h;omega
theorem ahN (row:List Val)(hl:row.length<=16)(h0:row≠[])(F:Fr)(K:Hp)(n p:Nat)(Q:QA)(W:mh K n p (.al (.slice none 0 0)) [])(f1:F.get 1=some (aF row))(f7:F.get 7=some (.ptr p 0))(f8:F.get 8=some (zI 0))
  (k:∀(F':Fr)(K':Hp)(n' b:Nat),F'.get 1=some (aF row)->F'.get 7=some (.ptr p 0)->mh K' n' p (.sl b 0 ((row.length+7) / 8) 1) (oz row ((row.length+7) / 8))->Q (.exit 0) F' K' n' []):aE Ol pG F K n [] Q:=by
 refine aE.of (λ t F K n ms=>∃m v,t=3 - m/\8*m<row.length+8/\F.get 1=some (aF row)/\F.get 7=some (.ptr p 0)/\F.get 8=some (zI ((8*m:Nat):Int))/\mh K n p v (oz row m)/\ms=[]) 3 ⟨0,_,by simp,by omega,f1,f7,f8,by simpa[oz]using W,rfl⟩ ?_;clear f1 f7 f8 W F K n;rintro t F K n ms ⟨m,v,rfl,hm,f1,f7,f8,W,rfl⟩;rw[aF]at f1;generalize hB:8*m=B at *
 by_cases h:B<row.length
 ·obtain⟨H1,a,b,_⟩:=zT W (qB ((row.drop (8*m)).take 8)) (En _ (by simp;omega)) (by simp;omega);have w:IntKind.i64.wrap ((B:Int)+8)=(B:Int)+8:=dY _ (by omega) (by omega);rw[<-Io]at b;rw[hB]at a;simp[Ol,f1,f8,h];refine ahO row hl B h _ _ _ _ (by simp[f1,aF]) (by simp[f8]) (by simp) (by simp) λ F' g1 g7 g8 g9=>?_;simp[f1,f7,f8]at g1 g7 g8;simp[Vx,g7,g9];refine aw.ok a ?_;simp[Vw,g8,w];exact⟨_,by omega,m+1,rfl,by omega,g1,g7,by omega,_,b⟩
 obtain rfl:m=(row.length+7) / 8:=by omega
 simp[Ol,f1,f8,h]
 rcases W.hv with⟨_,h1⟩|⟨b,rfl,_⟩
 ·have h1:=congrArg length h1;have:=length_pos_iff.2 h0;simp at h1;omega
 refine k _ _ _ b ?_ ?_ (by simpa using W)
 ·simp[f1,aF]
 simp[f7]
theorem OM (row:List Val)(i:Nat)(h:i<row.length):k_ (row.take (i+1))=k_ (row.take i)++(if row[i].kind=0 then []else one row[i]):=by
 unfold k_;rw[take_snoc h,flatMap_append];simp
theorem aaX (v:Val)(hm:v.may=true)(hr:v.eA):(one v).length<=70:=by
 unfold one
 split
 ·have:=vm 9 (zz v.num) (by have:=acJ hr.lo hr.hi;omega);omega
 split
 ·rename_i h;have:=Val.oZ hm h;have:=vm 0 v.s.length (by omega);simp;omega
 simp
theorem DK (row:List Val)(hm:∀v∈row,v.may=true)(hr:∀v∈row,v.eA):(k_ row).length<=row.length*70:=by
 induction row with
 |nil=>simp[k_]
 |cons a r ih =>
  have:=ih (λ v hv=>hm v (by simp[hv])) (λ v hv=>hr v (by simp[hv]));have h1:=aaX a (hm a (by simp)) (hr a (by simp));simp only[k_,flatMap_cons,length_append,length_cons]at this ⊢
  split<;>simp at *<;>omega
theorem mh.alloc2 {H:Hp}{n p:Nat}{v:AV}{l:List Nat}(W:mh H n p v l)(y z:br):mh ((H.put n (some y)).put n (some z)) (n+1) p v l:=by
 obtain⟨a,b,c⟩:=W;have e:∀c,c<n->((H.put n (some y)).put n (some z)).get c=H.get c:=λ c hc=>by rw[Tr.get_put,ah (by omega),Tr.get_put,ah (by omega)]
 refine⟨by rw[e _ b,a],by omega,?_⟩
 rcases c with h|⟨q,h1,h2,h3,h4,h5⟩
 ·exact .inl h
 exact .inr ⟨q,h1,by omega,h3,by rw[e _ h2,h4],h5⟩
theorem ixw (q:Nat):f_ 3 3 (.ptr q 0) (zI 0)=.val (.ptr q 0)/\f_ 3 3 (.ptr q 0) (zI 1)=.val (.ptr q 3)/\f_ 3 3 (.ptr q 0) (zI 2)=.val (.ptr q 6):=⟨rfl,rfl,rfl⟩
theorem ahM (row:List Val) (hl:row.length<=16) (hm:∀v∈row,v.may=true) (hr:∀v∈row,v.eA) (B:List Nat) (hB:0<B.length/\B.length<=2) (F:Fr) (K:Hp) (n p q b:Nat) (Q:QA) (W:mh K n p (.sl b 0 B.length 1) B) (hq:K.get q=aG 9 qZ) (qn:q<n) (f7:F.get 7=some (.ptr p 0)) (f11:F.get 11=some (.ptr q 0)) (f56:F.get 56=some (aF row)) (f57:F.get 57=some (zI (row.length:Int))) (f58:F.get 58=some (zI 0))
  (k:∀(F':Fr)(K':Hp)(n' b:Nat),F'.get 7=some (.ptr p 0)->mh K' n' p (.sl b 0 (B++k_ row).length 1) (B++k_ row)->Q (.exit 4) F' K' n' []):aE N9 pG F K n [] Q:=by
 refine aE.of (λ t F K n ms=>∃i b,t=row.length - i/\i<=row.length/\F.get 7=some (.ptr p 0)/\F.get 11=some (.ptr q 0)/\F.get 56=some (aF row)/\F.get 57=some (zI (row.length:Int))/\F.get 58=some (zI (i:Int))/\mh K n p (.sl b 0 (B++k_ (row.take i)).length 1) (B++k_ (row.take i))/\K.get q=aG 9 qZ/\q<n/\ms=[]) row.length ⟨0,b,by simp,by omega,f7,f11,f56,f57,f58,by simpa[k_]using W,hq,qn,rfl⟩ ?_;clear f7 f11 f56 f57 f58 W F K n hq qn b;rintro t F K n ms ⟨i,b,rfl,hi,f7,f11,f56,f57,f58,W,hq,qn,rfl⟩;rw[aF]at f56
 by_cases h:i<row.length
 ·have hx:=gB (k:=.i64) h;have hs:=OM row i h;have hvl:=DK (row.take i) (λ v hv=>hm v (mem_of_mem_take hv)) (λ v hv=>hr v (mem_of_mem_take hv));have hm1:=hm row[i] (b6 h);have hr1:=hr row[i] (b6 h);have hk:=Val.lN hm1
  have hvl2:(k_ (row.take i)).length<=1120:=by
   have:(row.take i).length<=16:=by simp;omega
   omega
  generalize row[i]=u at *
  obtain⟨hbn,hbp,hbk⟩:b<n/\b≠p/\K.get b=some (.cells (B++k_ (row.take i)).length [] (gC (B++k_ (row.take i))) .nil):=by
   rcases W.hv with⟨h,_⟩|⟨b',h,h1,h2,h3,_⟩
   ·cases h
   injection h with h;subst h;exact⟨h1,h2,h3⟩
  have hqb:q≠b:=by
   rintro rfl;rw[hq]at hbk;injection hbk with e;injection e with e1 e2 e3;have e4:=congrArg (λ l=>l[0]?) e3
   cases hB':B with
   |nil=>rw[hB']at hB;simp at hB
   |cons x y=>rw[hB']at e4;simp[qZ,gC]at e4
  have hqp:q≠p:=by
   rintro rfl;rw[W.hp]at hq;injection hq with e;injection e with e1;cases e1
  have w:=aC i (by omega);simp[N9,f57,f58,h,f56,hx,gK,Val.av]
  by_cases h0:u.kind=0
  ·simp[h0,xF,f58,w];refine⟨_,by omega,i+1,rfl,by omega,by simp[f7],by simp[f11],by simp[f56,aF],by simp[f57],by simp,⟨b,?_⟩,?_,by omega⟩
   ·rw[hs,ao h0];simpa using W.alloc2 _ _
   rw[ah (by omega),ah (by omega),hq]
  generalize hK:Tr.put (Tr.put K n _) n _=K2;have W2:mh K2 (n+1) p (.sl b 0 (B++k_ (row.take i)).length 1) (B++k_ (row.take i)):=hK▸W.alloc2 _ _;have k2:K2.get n=aG 3 [zI u.kind,zI u.num,.str u.s]:=by rw[<-hK];simp
  have kq:K2.get q=aG 9 qZ:=by rw[<-hK,Tr.get_put,ah (by omega),Tr.get_put,ah (by omega),hq]
  obtain⟨b',n',hn,H1,c1,c2,c9003⟩:=afF W2 u hr1 hm1 h0 (by simp;omega);have c9004:=c9003 q (by simp[J8];exact⟨hqp,hqb⟩) (.inl (by omega));rw[kq]at c9004;simp only[qZ]at kq;have e:(B++k_ (row.take i))++one u=B++k_ (row.take (i+1)):=by rw[hs,ah h0,append_assoc]
  rw[e]at c2;simp[h0,Vs];refine cj.of (xe (l:=[⟨OI u.kind,[.ptr p 0,u.av],K2,n+1,.aX [],H1,n'⟩]) ?_) ?_
  ·simp only[gp];rintro x rfl;exact c1
  rcases hk.resolve_left h0 with h1|h1|h1
  ·rw[h1]at k2;simp[ab,k2,kq,f7,f11,h1,OI,dY,Val.av,qT,xF,f56,f57,f58,w,ixw];exact⟨_,by omega,i+1,rfl,by omega,by simp[aF],by omega,⟨b',by simpa using c2⟩,c9004,by omega⟩
  ·rw[h1]at k2;simp[ab,k2,kq,f7,f11,h1,OI,dY,Val.av,qT,xF,f56,f57,f58,w,ixw];exact⟨_,by omega,i+1,rfl,by omega,by simp[aF],by omega,⟨b',by simpa using c2⟩,c9004,by omega⟩
  rw[h1]at k2;simp[ab,k2,kq,f7,f11,h1,OI,dY,Val.av,qT,xF,f56,f57,f58,w,ixw];exact⟨_,by omega,i+1,rfl,by omega,by simp[aF],by omega,⟨b',by simpa using c2⟩,c9004,by omega⟩
 obtain rfl:i=row.length:=by omega
 simp[N9,f57,f58];rw[eZ (aP _)]at W;refine k _ _ _ b ?_ W;simp[f7]
theorem E3:∀(c:List ny) (row:List Val),row.length<=c.length->AW c row=0->∀v∈row,v.may=true
 |_,[],_,_,v,hv=>by simp at hv
 |[],_::_,h,_,_,_=>by simp at h
 |c :: cs,a::r,h,h0,v,hv=>by
  simp only[AW]at h0
  split at h0
  ·rename_i h1
   rcases mem_cons.1 hv with rfl|hv
   ·unfold yj at h1
    split at h1
    ·omega
    rename_i h2;simpa using h2
   exact E3 cs r (by simpa using h) h0 v hv
  rename_i h1;exact ai h0 h1
theorem rF {c:List ny}{row:List Val}(h:qM c row=0):jQ c/\row.length=c.length/\row≠[]/\row.length<=16/\∀v∈row,v.may=true:=by
 unfold qM at h
 split at h
 ·rename_i h1;obtain⟨h2,h3⟩:=h1;exact⟨h2,h3,λ e=>h2.1 (eq_nil_of_length_eq_zero (by rw[<-h3,e];rfl)),h3▸h2.2.1,E3 c row (by omega) h⟩
 omega
theorem ud (l:List Nat)(h:∀b∈l,b<256):bytesOf (gC l)=some l:=by
 induction l with
 |nil=>rfl
 |cons a r ih =>
  have:=ih λ b hb=>h b (by simp[hb]);have ha:=h a (by simp);simp only[gC,map_cons]at this ⊢;simp only[bytesOf,this];simp;omega
theorem one_byte (v:Val)(hm:v.may=true)(h0:v.kind≠0)(hr:v.eA):∀b∈one v,b<256:=by
 unfold one
 split
 ·exact yE _
 split
 ·intro b hb
  rcases mem_append.1 hb with h|h
  ·exact yE _ b h
  exact hr.b b h
 rename_i k1 k2;have k3:v.kind=3:=by have:=Val.lN hm;omega
 have:=hm;unfold Val.may at this;simp[k3]at this;intro b hb;simp at hb;omega
theorem P9 (row:List Val)(hm:∀v∈row,v.may=true)(hr:∀v∈row,v.eA):∀b∈encR row,b<256:=by
 intro b hb
 rcases mem_append.1 hb with h|h
 ·simp only[oz,mem_map]at h;obtain⟨j,_,rfl⟩:=h;exact En _ (by simp;omega)
 simp only[k_,mem_flatMap]at h;obtain⟨v,hv,h⟩:=h
 split at h
 ·simp at h
 rename_i h0;exact one_byte v (hm v hv) h0 (hr v hv) b h
theorem agY {H:Hp}{n p b:Nat}{l:List Nat}(W:mh H n p (.sl b 0 l.length 1) l):aj pG 169 [.ptr p 0] H n (λ u K k=>u=zI (l.length:Int)/\K=H/\k=n):=by
 have:=W.hp;refine aj.of c169 (by simp[A169]) λ F hF=>?_;simp[A169,hF,this]
theorem US {H:Hp}{n p b:Nat}{l:List Nat}(W:mh H n p (.sl b 0 l.length 1) l)(hl:0<l.length/\l.length<4000):aj pG 170 [.ptr p 0] H n (λ u K _k=>u=.sl n 0 l.length 1/\∃y,K.get n=some y/\OwnB y (gC l)):=by
 have hp:=W.hp;obtain⟨b',h,hbn,_,hb,_⟩:=W.hv.resolve_left (by rintro⟨h,_⟩;cases h);injection h with h;subst h;refine aj.of c170 (by simp[A170]) λ F hF=>?_;simp[A170,hF,hp]
 have hsc:aV H 1 (.sl b 0 l.length 1)=some (gC l):=by
  rw[dy hb (.list (by simp)) (by simp)];simp[eZ]
 rw[UQ (new:=gC l) (k:=l.length) hsc (by simp) (by omega) (by omega) (by unfold big;omega) (by omega) (rO _)];simp;exact .list (by simp)
theorem ane (c:List ny) (row:List Val) (hv:row.length<=aM) (hr:∀v∈row,v.eA):ae pG 91 [bL.ds c,aF row] (.aX [.str (uC c row).1,zI (uC c row).2]):=by
 refine pv c91 λ F hF=>?_;simp[A91,hF];refine aw.pure (T0 c row hv) ?_
 by_cases h0:qM c row=0
 ·obtain⟨_,hlen,hne,lR,hmay⟩:=rF h0;have hpos:=length_pos_iff.2 hne;simp[Vt,h0,adV];refine aw.of (agH _ _) λ v K n ⟨e1,e2,e3⟩=>?_;subst e1 e2 e3;simp[adU];have W:mh ((Tr.nil:Hp).put 0 (aG 2 [.bool true,.al (.slice none 0 0)])) 1 0 (.al (.slice none 0 0)) []:=⟨by simp,by omega,.inl ⟨rfl,rfl⟩⟩;refine ahN row lR hne _ _ _ 0 _ W (by simp[hF]) (by simp) (by simp) λ F K n b f1 f7 W=>?_;clear hF;simp[Vv];refine aw.pure aac ?_;simp[qZ,Vu,f1,aF];have hB:0<(row.length+7) / 8/\(row.length+7) / 8<=2:=by omega
  have eB:=Qi row ((row.length+7) / 8);refine ahM row lR hmay hr (oz row ((row.length+7) / 8)) (by rw[eB];exact hB) _ _ (n+1) 0 n b _ (by rw[eB];exact W.alloc2 _ _) (by simp[qZ]) (by omega) (by simp[f7]) (by simp) (by simp[aF]) (by simp) (by simp) λ F K n b f7 W=>?_;have W':mh K n 0 (.sl b 0 (encR row).length 1) (encR row):=W;have hl:=DK row hmay hr;have hel:(encR row).length=(row.length+7) / 8+(k_ row).length:=by simp[encR]
  simp[Vr,f7];refine aw.same (agY W') ?_;unfold uC;rw[ao h0]
  by_cases h:(encR row).length<=160
  ·simp[show ¬(160:Int)<((encR row).length:Int) by omega,Vp,f7,h];refine aw.of (US W' (by omega)) λ v K' n' ⟨e1,y,e2,e3⟩=>?_;subst e1
   have:Ik (.sl n 0 (encR row).length 1) K'=.val (.str (encR row)):=by
    unfold Ik;dsimp only;rw[dy e2 e3 (by simp)];simp[ud _ (P9 row hmay hr),eZ]
   simp[HS,this];exact fp
  simp[show (160:Int)<((encR row).length:Int) by omega,Vq,h];exact fp
 simp[Vt,h0,adW,uC];exact fp
end Go.Abs
namespace Go.Abs
open List
open Go.Proofs
open Classical
set_option maxRecDepth 100000
section
variable {P:Program}{F:Fr}{H:Hp}{n:Nat}{m:List Dm}{Q:QA}
theorem au.upd {v:AV}{l:List Nat}(h:au H n v (gC l) l.length 1)(y:br):au (H.put n (some y)) (n+1) v (gC l) l.length 1:=by
 obtain⟨h0,⟨rfl,h1⟩|⟨b,k,rfl,hb,hk,ho⟩⟩:=h
 ·exact⟨h0,.inl ⟨rfl,h1⟩⟩
 exact⟨h0,.inr ⟨b,k,rfl,by omega,by rw[Tr.get_put,ah (by omega),hk],ho⟩⟩
theorem au.F6 {v:AV}{l:List Nat}{pd:Pd}{r:List (Option GO)}(h:au H n v (gC l) l.length 1)(x:List Nat)(hx:0<x.length)(hl:l.length+x.length<1048576)
  (hgo:∀H',au H' (n+2) (.sl (n+1) 0 (l.length+x.length) 1) (gC (l++x)) (l++x).length 1->(∀c,c<n->v≠.sl c 0 l.length 1->H'.get c=H.get c)->fj P r (pd.f (.sl (n+1) 0 (l.length+x.length) 1) F) H' (n+2) m Q):
  Dy (Go.Abs.iM 1 1 (n+1) v (.sl n 0 x.length 1) (H.put n (some (.cells x.length [] (gC x) .nil)))) pd r P F (H.put n (some (.cells x.length [] (gC x) .nil))) (n+1) m Q:=by
 have hs:aV (H.put n (some (.cells x.length [] (gC x) .nil))) 1 (.sl n 0 x.length 1)=some (gC x):=by
  rw[dy (k:=.cells x.length [] (gC x) .nil) (by simp) (.list (by simp)) (by simp)];simp[eZ]
 refine au.app (h.upd _) hs (k:=x.length) (by simp) (by simp) (by omega) hx (by unfold big;omega) (by omega) (rO _) λ H' h1 h2=>hgo H' (by rw[Bq];simpa using h1) λ c hc hv=>?_;rw[h2 c (by omega) hv,Tr.get_put,ah (by omega)]
theorem au.b2s {v:AV}{l:List Nat}(h:au H n v (gC l) l.length 1)(hb:∀b∈l,b<256):Ik v H=.val (.str l):=by
 obtain⟨h0,⟨rfl,h1⟩|⟨b,k,rfl,hbn,hk,ho⟩⟩:=h
 ·have:l=[]:=eq_nil_of_length_eq_zero h1;subst this;rfl
 unfold Ik;dsimp only;rw[dy hk ho (by simp)];simp[ud _ hb,eZ]
end
end Go.Abs
namespace Go.Abs
open List
open Go.Proofs
open Classical
set_option maxRecDepth 100000
@[simp] theorem aqa (z:List AV)(sz fP:Nat)(x y:G)(F:Fr)(H:Hp)(n:Nat):zy z sz fP x y F H n=oE (x.f F) λ a=>oE (y.f F) λ b=>LQ z sz fP n a b:=by
 unfold zy oE
 cases x.f F with
 |none=>rfl
 |some a=>cases y.f F<;>rfl
def FP (u:Nat):List Nat:=(List.range 8).map λ j=>u / 2 ^ (56 - 8*j) % 256
def qQ (s:List Nat):List Nat:=s.flatMap λ c=>if c=0 then [c,255]else [c]
def Ha (x:Int):Nat:=(x+9223372036854775808).toNat
def AB (v:Val):List Nat:=if v.kind=3 then [(2+v.num).toNat]else if v.kind=1 then 4::FP (Ha v.num)else if v.kind=2 then 5::(qQ v.s++[0,1])else [1]
theorem au.ne {H:Hp}{n:Nat}{u:AV}{l:List AV}{len sz:Nat}(O:au H n u l len sz):∀k,u≠.sl n 0 k 1:=by
 rintro k rfl;obtain⟨_,⟨h,_⟩|⟨b,y,h,hb,_⟩⟩:=O
 ·cases h
 injection h with h;omega
theorem au.box {H:Hp}{n:Nat}{u:AV}{l:List Nat}(O:au H n u (gC l) l.length 1)(y z:br):au ((H.put n (some y)).put n (some z)) (n+1) u (gC l) l.length 1:=by
 obtain⟨h0,⟨rfl,h1⟩|⟨b,k,rfl,hb,hk,ho⟩⟩:=O
 ·exact⟨h0,.inl ⟨rfl,h1⟩⟩
 exact⟨h0,.inr ⟨b,k,rfl,by omega,by rw[Tr.get_put,ah (by omega),Tr.get_put,ah (by omega),hk],ho⟩⟩
theorem J6 {c:Nat}(h:c<2 ^ 63):c ^^^ 2 ^ 63=2 ^ 63+c:=by
 apply Nat.eq_of_testBit_eq;intro j;rw[Nat.testBit_xor,Nat.testBit_two_pow]
 rcases Nat.lt_trichotomy j 63 with h1|rfl|h1
 ·rw[Nat.testBit_two_pow_add_gt h1];simp[show ¬ 63=j by omega]
 ·rw[Nat.testBit_two_pow_add_eq];simp
 have h2:2 ^ 64<=2 ^ j:=Nat.pow_le_pow_right (by omega) (by omega);rw[Nat.testBit_lt_two_pow (show 2 ^ 63+c<2 ^ j by omega),Nat.testBit_lt_two_pow (show c<2 ^ j by omega)];simp;omega
theorem akx (x:Int)(h1 : -9223372036854775808<=x)(h2:x<9223372036854775808):dw .xor .u64 (IntKind.u64.wrap x) 9223372036854775808=.val (.int .u64 ((Ha x:Nat):Int)):=by
 have key:∀a:Nat,a<18446744073709551616->(BitVec.ofInt 64 (a:Int) ^^^ BitVec.ofInt 64 9223372036854775808).toNat=if a<9223372036854775808 then 9223372036854775808+a else a - 9223372036854775808:=by
  intro a ha;have e1:(BitVec.ofInt 64 (a:Int)).toNat=a:=by rw[ain _ (by omega) (by omega)];simp
  have e2:(BitVec.ofInt 64 9223372036854775808).toNat=2 ^ 63:=rfl;rw[BitVec.toNat_xor,e1,e2]
  split
  ·rename_i h;exact J6 h
  rename_i h;have h3:=J6 (c:=a - 9223372036854775808) (by omega);have h4:2 ^ 63+(a - 9223372036854775808)=a:=by omega
  rw[h4]at h3;rw[<-h3,Nat.xor_assoc,Nat.xor_self,Nat.xor_zero];omega
 have e0:IntKind.u64.wrap x=(((x % 18446744073709551616).toNat:Nat):Int):=by simp[IntKind.wrap,IntKind.signed,IntKind.bits];omega
 rw[xm,e0];have e1:=key (x % 18446744073709551616).toNat (by omega);refine Eq.trans (congrArg (λ k:Nat=>bb.val (.int .u64 (IntKind.u64.wrap (k:Int)))) e1) ?_;have e2:(if (x % 18446744073709551616).toNat<9223372036854775808 then 9223372036854775808+(x % 18446744073709551616).toNat else (x % 18446744073709551616).toNat - 9223372036854775808)=Ha x:=by unfold Ha;split<;>omega
 simp only[e2];rw[vp (by unfold Ha;omega)]
theorem aaI (u:Nat)(_hu:u<18446744073709551616)(F:Fr)(K:Hp)(n:Nat)(v:AV)(l:List Nat)(hl:l.length<100000)(Q:QA)(f0:F.get 0=some v)(f5:F.get 5=some (.int .u64 (u:Int)))(f6:F.get 6=some (zI 56))(o:au K n v (gC l) l.length 1)
  (k:∀(F':Fr)(K':Hp)(n':Nat)(v':AV),F'.get 0=some v'->au K' n' v' (gC (l++FP u)) (l++FP u).length 1->Q (.exit 1) F' K' n' []):aE Dh pG F K n [] Q:=by
 refine aE.of (λ t F K n ms=>∃j v,t=8 - j/\j<=8/\F.get 0=some v/\F.get 5=some (.int .u64 (u:Int))/\F.get 6=some (zI (56 - 8*(j:Int)))/\au K n v (gC (l++(FP u).take j)) (l++(FP u).take j).length 1/\ms=[]) 8 ⟨0,v,by simp,by omega,f0,f5,by simpa using f6,by simpa using o,rfl⟩ ?_;clear f0 f5 f6 o F K n v;rintro t F K n ms ⟨j,v,rfl,hj,f0,f5,f6,o,rfl⟩;have bl:(FP u).length=8:=by simp[FP]
 by_cases h:j<8
 ·have s1:fH .shr (.int .u64 (u:Int)) (zI (56 - 8*(j:Int)))=.val (.int .u64 ((u / 2 ^ (56 - 8*j):Nat):Int)):=by
   rw[uW _ _ _ _ (by omega)];have:min (56 - 8*(j:Int)).toNat IntKind.u64.bits=56 - 8*j:=by simp[IntKind.bits];omega
   rw[this,Int.fdiv_eq_ediv_of_nonneg _ (by exact Int.le_of_lt (Int.pow_pos (by omega)))];simp
  have s2:IntKind.u8.wrap ((u / 2 ^ (56 - 8*j):Nat):Int)=(((FP u)[j]'(by omega):Nat):Int):=by simp[FP,IntKind.wrap,IntKind.signed,IntKind.bits]
  have s3:(FP u).take (j+1)=(FP u).take j++[(FP u)[j]'(by omega)]:=take_snoc (by omega);generalize (FP u)[j]'(by omega)=z at *;generalize u / 2 ^ (56 - 8*j)=d at *;have w:IntKind.i64.wrap (56 - 8*(j:Int) - 8)=56 - 8*((j+1:Nat):Int):=by rw[dY _ (by omega) (by omega)];omega
  simp[Dh,f6,show 8*(j:Int)<=56 by omega,f0,f5,s1,dW,s2];refine au.F6 o [z] (by simp) (by simp;omega) λ H' o' _=>?_;simp[MO,f6,w,f5];exact⟨_,by omega,j+1,rfl,by omega,by omega,by rw[show l.length+min (j+1) (FP u).length=l.length+(min j (FP u).length+1) by omega,s3];simpa using o'⟩
 obtain rfl:j=8:=by omega
 simp[Dh,f6];rw[eZ (by omega)]at o;refine k _ _ _ v ?_ o;simp[f0]
theorem P5 (s:List Nat)(i:Nat)(h:i<s.length):qQ (s.take (i+1))=qQ (s.take i)++(if s[i]=0 then [s[i],255]else [s[i]]):=by
 unfold qQ;rw[take_snoc h,flatMap_append];simp
theorem wS (s:List Nat):(qQ s).length<=2*s.length:=by
 induction s with
 |nil=>simp[qQ]
 |cons a r ih =>
  have e:qQ (a::r)=(if a=0 then [a,255]else [a])++qQ r:=rfl;rw[e,length_append,length_cons]
  split<;>simp<;>omega
theorem aaH (s:List Nat)(hs:s.length<=64)(a b:AV)(F:Fr)(K:Hp)(n q:Nat)(v:AV)(l:List Nat)(hl:l.length<100000)(Q:QA)(f0:F.get 0=some v)(f3:F.get 3=some (.ptr q 0))(f47:F.get 47=some (zI (s.length:Int)))(f48:F.get 48=some (zI 0))(hq:K.get q=aG 3 [a,b,.str s])(qn:q<n)(ne:∀k,v≠.sl q 0 k 1)(o:au K n v (gC l) l.length 1)
  (k:∀(F':Fr)(K':Hp)(n':Nat)(v':AV),F'.get 0=some v'->au K' n' v' (gC (l++qQ s)) (l++qQ s).length 1->Q (.exit 3) F' K' n' []):aE Df pG F K n [] Q:=by
 refine aE.of (λ t F K n ms=>∃i v,t=s.length - i/\i<=s.length/\F.get 0=some v/\F.get 3=some (.ptr q 0)/\F.get 47=some (zI (s.length:Int))/\F.get 48=some (zI (i:Int))/\K.get q=aG 3 [a,b,.str s]/\q<n/\(∀k,v≠.sl q 0 k 1)/\au K n v (gC (l++qQ (s.take i))) (l++qQ (s.take i)).length 1/\ms=[]) s.length ⟨0,v,by simp,by omega,f0,f3,f47,f48,hq,qn,ne,by simpa[qQ]using o,rfl⟩ ?_;clear f0 f3 f47 f48 hq qn ne o F K n v;rintro t F K n ms ⟨i,v,rfl,hi,f0,f3,f47,f48,hq,qn,ne,o,rfl⟩
 by_cases h:i<s.length
 ·have hx:=LR (k:=.i64) h;have w:=aC i (by omega);have h1:=P5 s i h;have h2:=wS (s.take i);have h3:(s.take i).length<=64:=by simp;omega
  generalize s[i]=c at *;simp[Df,f47,f48,h,f0,f3,hq,hx];refine au.F6 o [c] (by simp) (by simp;omega) λ H' o' hf=>?_;have hq':=(hf q qn (ne _)).trans hq;simp[ML,f3,hq',hx]
  by_cases h0:c=0
  ·subst h0;rw[ao rfl]at h1;simp[MK];refine au.F6 (l:=l++qQ (s.take i)++[0]) (by simpa[Nat.add_assoc]using o') [255] (by simp) (by simp;omega) λ H2 o2 hf2=>?_;have hq2:=(hf2 q (by omega) (by intro e;injection e with e;omega)).trans hq';simp[BV,f3,f47,f48,w,hq2];exact⟨_,by omega,i+1,rfl,by omega,rfl,by omega,by omega,by rw[h1];simpa[Nat.add_assoc]using o2⟩
  rw[ah h0]at h1;simp[h0,BV,f3,f47,f48,w,hq'];exact⟨_,by omega,i+1,rfl,by omega,rfl,by omega,by omega,by rw[h1];simpa[Nat.add_assoc]using o'⟩
 obtain rfl:i=s.length:=by omega
 simp[Df,f47,f48];rw[eZ (aP _)]at o;refine k _ _ _ v ?_ o;simp[f0]
theorem aga {H:Hp}{n:Nat}{u:AV}{l:List Nat}(O:au H n u (gC l) l.length 1)(hl:l.length<90000)(v:Val)(hm:v.may=true)(hr:v.eA):
  aj pG 241 [u,v.av] H n (λ w K k=>au K k w (gC (l++AB v)) (l++AB v).length 1):=by
 refine aj.of c241 (by simp[A241]) λ F hF=>?_;have hk:=Val.lN hm;have hO:=O.box (.cells 3 [] [zI 0,zI 0,.str []] .nil) (.cells 3 [] v.cells .nil);have hO1:=O.upd (.cells 3 [] v.cells .nil);have hne:=O.ne;unfold AB
 by_cases k3:v.kind=3
 ·have hn:v.num=0∨v.num=1:=by
   have:=hm;unfold Val.may at this;simp[k3]at this;exact this.2
  have w:IntKind.u8.wrap (IntKind.i64.wrap (2+v.num))=(((2+v.num).toNat:Nat):Int):=by rcases hn with h|h<;>rw[h]<;>rfl
  generalize (2+v.num).toNat=z at *;simp[A241,hF,Val.av,k3,dW,w];simp only[Val.cells,k3]at hO1;refine au.F6 hO1 [z] (by simp) (by simp;omega) λ H' o' _=>?_;simp;simpa using o'
 by_cases k1:v.kind=1
 ·have hx:=akx v.num hr.lo hr.hi;simp[A241,hF,Val.av,k1];simp only[Val.cells,k1]at hO1;refine au.F6 hO1 [4] (by simp) (by simp;omega) λ H' o' hf=>?_;have hq:=hf n (by omega) (hne _);simp at hq;simp[X3,hq,dW,hx,X0];refine aaI (Ha v.num) (by unfold Ha;have:=hr.lo;have:=hr.hi;omega) _ _ _ _ (l++[4]) (by simp;omega) _ (by simp;rfl) (by simp) (by simp) (by simpa using o') λ F K n' v' f0 o2=>?_;simp[MN,f0];simpa[Nat.add_assoc]using o2
 by_cases k2:v.kind=2
 ·have h64:=Val.oZ hm k2;simp[A241,hF,Val.av,k2];simp only[Val.cells,k2]at hO1;refine au.F6 hO1 [5] (by simp) (by simp;omega) λ H' o' hf=>?_;have hq:=hf n (by omega) (hne _);simp at hq;simp[MM,hq];refine aaH v.s h64 _ _ _ _ _ n _ (l++[5]) (by simp;omega) _ (by simp;rfl) (by simp) (by simp) (by simp) (by rw[hq]) (by omega) (λ k e=>by injection e with e;omega) (by simpa using o') λ F K n' v' f0 o2=>?_;have:=wS v.s;simp[MJ,f0,rep];refine au.F6 o2 [0,1] (by simp) (by simp;omega) λ H2 o3 _=>?_;simp;simpa[Nat.add_assoc]using o3
 have k0:v.kind=0:=by omega
 simp[A241,hF,Val.av,k0];simp only[Val.cells,k0]at hO1;refine au.F6 hO1 [1] (by simp) (by simp;omega) λ H' o' _=>?_;simp;simpa using o'
def sC (row:List Val):List Nat:=row.flatMap AB
def ng (row:List Val):List Nat×Int:=if 16<row.length then ([],1)else if ∀v∈row,v.may=true then (if (sC row).length<=140 then (sC row,0)else ([],51))else ([],5)
theorem Tf (v:Val) (hm:v.may=true):(AB v).length<=131:=by
 unfold AB
 split
 ·simp
 split
 ·simp[FP]
 split
 ·rename_i h;have:=Val.oZ hm h;have:=wS v.s;simp;omega
 simp
theorem PQ (row:List Val)(i:Nat)(h:i<row.length):sC (row.take (i+1))=sC (row.take i)++AB row[i]:=by
 unfold sC;rw[take_snoc h,flatMap_append];simp
theorem Td (row:List Val)(hm:∀v∈row,v.may=true):(sC row).length<=row.length*131:=by
 induction row with
 |nil=>simp[sC]
 |cons a r ih =>
  have:=ih λ v hv=>hm v (by simp[hv]);have h1:=Tf a (hm a (by simp));simp only[sC,flatMap_cons,length_append,length_cons]at this ⊢;omega
theorem PS (v:Val) (hm:v.may=true) (hr:v.eA):∀b∈AB v,b<256:=by
 unfold AB
 split
 ·rename_i k3;have:=hm;unfold Val.may at this;simp[k3]at this;intro b hb;simp at hb;omega
 split
 ·intro b hb
  rcases mem_cons.1 hb with rfl|hb
  ·omega
  simp only[FP,mem_map]at hb;obtain⟨j,_,rfl⟩:=hb;exact Nat.mod_lt _ (by omega)
 split
 ·intro b hb;simp only[mem_cons,mem_append,not_mem_nil,or_false,qQ,mem_flatMap]at hb
  rcases hb with rfl|⟨c,hc,hb⟩|rfl|rfl
  ·omega
  ·have:=hr.b c hc
   split at hb<;>simp at hb<;>omega
  ·omega
  omega
 simp
theorem PR (row:List Val)(hm:∀v∈row,v.may=true)(hr:∀v∈row,v.eA):∀b∈sC row,b<256:=by
 intro b hb;obtain⟨v,hv,h⟩:=mem_flatMap.1 hb;exact PS v (hm v hv) (hr v hv) b h
theorem ab4 (row:List Val)(hr:∀v∈row,v.eA):ae pG 171 [aF row] (.aX [.str (ng row).1,zI (ng row).2]):=by
 refine pv c171 λ F hF=>?_;unfold ng
 by_cases lR:16<row.length
 ·simp[A171,hF,aF,show (16:Int)<(row.length:Int) by omega,lR];exact fp
 simp[A171,hF,aF,show ¬(16:Int)<(row.length:Int) by omega,lR];refine aE.of (λ t F K n ms=>∃i u,t=row.length - i/\i<=row.length/\F.get 4=some u/\F.get 10=some (aF row)/\F.get 11=some (zI (row.length:Int))/\F.get 12=some (zI (i:Int))/\au K n u (gC (sC (row.take i))) (sC (row.take i)).length 1/\(∀v∈row.take i,v.may=true)/\ms=[]) row.length ⟨0,.al (.slice none 0 0),by simp,by omega,by simp,by simp[aF],by simp,by simp,au.nil _ _ _,by simp,rfl⟩ ?_;clear hF F;rintro t F K n ms ⟨i,u,rfl,hi,f4,f10,f11,f12,O,hm,rfl⟩;rw[aF]at f10
 by_cases h:i<row.length
 ·have hx:=gB (k:=.i64) h;have w:=aC i (by omega);have hs:=PQ row i h;have hl:=Td (row.take i) hm;have hl2:(row.take i).length<=16:=by simp;omega
  have hr1:=hr row[i] (b6 h);have hms:∀v∈row.take (i+1),v∈row.take i∨v=row[i]:=λ v hv=>by rwa [take_snoc h,mem_append,gp]at hv
  have ja:row[i]∈row:=b6 h;generalize row[i]=v at *;have hmv:=lO v;simp only[Val.av]at hmv;simp[Dl,f11,f12,h,f10,hx,gK,Val.av];refine aw.pure hmv ?_
  by_cases h1:v.may=true
  ·simp[h1,YH,f4];have O2:=O.box (.cells 3 [] [zI 0,zI 0,.str []] .nil) (.cells 3 [] [zI v.kind,zI v.num,.str v.s] .nil);have hp:=aga O2 (by omega) v h1 hr1;simp only[Val.av]at hp;refine aw.of hp λ u' K' n' o'=>?_;simp[NK,f12,w,f10,f11];refine⟨_,by omega,i+1,rfl,by omega,by simp[aF],rfl,by rw[hs];simpa using o',λ x hx=>?_⟩
   rcases hms x hx with h2|rfl
   ·exact hm x h2
   exact h1
  have:¬ ∀v∈row,v.may=true:=λ h2=>h1 (h2 v ja);simp[h1,YI];rw[ah this];exact fp
 obtain rfl:i=row.length:=by omega
 rw[eZ (aP _)]at O hm
 have hl:aZ u=.val (zI ((sC row).length:Int)):=by
  obtain⟨_,⟨rfl,h⟩|⟨b,_,rfl,_⟩⟩:=O
  ·rw[h];simp
  simp
 have hb:=O.b2s (PR row hm hr);rw[ao hm];generalize sC row=B at *
 by_cases amx:B.length<=140
 ·simp[Dl,f11,f12,CH,f4,hl,show ¬(140:Int)<(B.length:Int) by omega,NI,HS,hb,amx];exact fp
 simp[Dl,f11,f12,CH,f4,hl,show (140:Int)<(B.length:Int) by omega,NJ,amx];exact fp
theorem UR {a b:List Nat}(h:a.length+b.length<=big):yq (.str a) (.str b)=.val (.str (a++b)):=by simp[yq,bI,h]
end Go.Abs
namespace Go.Abs
open List
open Go.Proofs
open Classical
set_option maxRecDepth 100000
def sO:aL Val 3:=⟨Val.cells,λ _=>by simp,λ v=>by simp[Val.cells],λ v=>by simp[Val.cells,aY,AV.one]⟩
theorem Bc (l:List Val):sO.l l=dL l:=by
 induction l with
 |nil=>rfl
 |cons a r ih=>rw[aL.kz,ih];rfl
theorem LF (l:List Val):sO.ds l=aF l:=by simp[aL.ds,aF,Bc]
section
variable {P:Program}{F:Fr}{H:Hp}{n:Nat}{m:List Dm}{Q:QA}
theorem au.put {v:AV}{l:List AV}{len sz:Nat}(h:au H n v l len sz)(y:br):au (H.put n (some y)) (n+1) v l len sz:=by
 obtain⟨h0,⟨rfl,h1⟩|⟨b,k,rfl,hb,hk,ho⟩⟩:=h
 ·exact⟨h0,.inl ⟨rfl,h1⟩⟩
 exact⟨h0,.inr ⟨b,k,rfl,by omega,by rw[Tr.get_put,ah (by omega),hk],ho⟩⟩
theorem au.aq1 {v:AV}{l:List AV}{len sz:Nat}(h:au H n v l len sz)(y z:br):au ((H.put n (some y)).put n (some z)) (n+1) v l len sz:=by
 obtain⟨h0,⟨rfl,h1⟩|⟨b,k,rfl,hb,hk,ho⟩⟩:=h
 ·exact⟨h0,.inl ⟨rfl,h1⟩⟩
 exact⟨h0,.inr ⟨b,k,rfl,by omega,by rw[Tr.get_put,ah (by omega),Tr.get_put,ah (by omega),hk],ho⟩⟩
theorem au.aq0 {v:AV}{l:List AV}{len sz:Nat}(h:au H n v l len sz)(y z t:br):au (((H.put n (some y)).put n (some z)).put n (some t)) (n+1) v l len sz:=by
 obtain⟨h0,⟨rfl,h1⟩|⟨b,k,rfl,hb,hk,ho⟩⟩:=h
 ·exact⟨h0,.inl ⟨rfl,h1⟩⟩
 exact⟨h0,.inr ⟨b,k,rfl,by omega,by rw[Tr.get_put,ah (by omega),Tr.get_put,ah (by omega),Tr.get_put,ah (by omega),hk],ho⟩⟩
theorem au.aoh {α:Type}{k:Nat}{E:aL α k}{v:AV}{L:List α}{fP:Nat}{pd:Pd}{r:List (Option GO)}(h:au H n v (E.l L) L.length k)(x:α)(hk:0<k)(hby:fP<=4096)(hl:L.length<4000000)
  (hgo:∀H',au H' (n+2) (.sl (n+1) 0 (L.length+1) k) (E.l (L++[x])) (L++[x]).length k->(∀c,c<n->v≠.sl c 0 L.length k->H'.get c=H.get c)->fj P r (pd.f (.sl (n+1) 0 (L.length+1) k) F) H' (n+2) m Q):
  Dy (Go.Abs.iM k fP (n+1) v (.sl n 0 1 k) (H.put n (aG k (E.cells x)))) pd r P F (H.put n (aG k (E.cells x))) (n+1) m Q:=by
 have hs:aV (H.put n (aG k (E.cells x))) k (.sl n 0 1 k)=some (E.cells x):=by
  rw[dy (k:=.cells k [] (E.cells x) .nil) (by simp) (.list (by simp)) (by simp)];simp[eZ]
 refine au.app (h.put _) hs (k:=1) (by simp) (by simp) hk (by omega) (by unfold big;omega) hby (E.one x) λ H' h1 h2=>hgo H' (by rw[E.dV,E.lP];simpa using h1) λ c hc hv=>?_;rw[h2 c (by omega) hv,Tr.get_put,ah (by omega)]
end
theorem zg (x:mb)(t:Int)(u:Bool)(r:List AV)(H:Hp):cZ 6 (.dp (.int .u32 x.id::.int .u32 t::.str x.name::cQ.ds x.cols::.bool u::.int .u32 x.root::r)) H=.val (.agg [.int .u32 x.id,.int .u32 t,.str x.name,cQ.ds x.cols,.bool u,.int .u32 x.root] 6):=pI (k:=6) (l:=[.int .u32 x.id,.int .u32 t,.str x.name,cQ.ds x.cols,.bool u,.int .u32 x.root]) r rfl
def bB.on (s:bB)(id:Int):List mb:=s.indexes.filter λ x=>decide (x.table=id)
theorem E6 {α:Type}{p:α->Bool}{l:List α}{i:Nat}(h:i<l.length):(l.take (i+1)).filter p=(l.take i).filter p++(if p l[i]=true then [l[i]]else []):=by
 rw[take_snoc h,filter_append]
 cases hp:p l[i]<;>simp[hp]
theorem ah' (l:List Int)(hl:l.length<=aM):ae pG 59 [cQ.ds l] (cQ.ds l):=rL (z:=[zI 0]) (sz:=1) (fP:=8) c59 (by omega) (by omega) (by omega) _ _ hl (by simp) (by simp) (by simp)
theorem atb (s:bB)(hs:s.indexes.length<=aM)(hc:∀x∈s.indexes,x.cols.length<=aM)(id:Int):ae pG 92 [fe.av s,.int .u32 id] (aQ.ds (s.on id)):=by
 unfold aM at hs;refine pv c92 λ F hF=>?_;simp[A92,hF,aL.av,dI,aL.aD];refine aE.of (λ t F K n ms=>∃i u,t=s.indexes.length - i/\i<=s.indexes.length/\F.get 1=some (.int .u32 id)/\F.get 5=some u/\F.get 9=some (aQ.ds s.indexes)/\F.get 10=some (zI (s.indexes.length:Int))/\F.get 11=some (zI (i:Int))/\au K n u (aQ.l ((s.indexes.take i).filter λ x=>decide (x.table=id))) ((s.indexes.take i).filter λ x=>decide (x.table=id)).length 6/\ms=[]) s.indexes.length ⟨0,.al (.slice none 0 0),by simp,by omega,by simp[hF],by simp,by simp,by simp,by simp,au.nil _ _ _,rfl⟩ ?_;clear hF F;rintro t F K n ms ⟨i,u,rfl,hi,f1,f5,f9,f10,f11,O,rfl⟩
 by_cases h:i<s.indexes.length
 ·have hx:=aQ.ix (ik:=.i64) h;have w:=aC i (by omega);have hsn:=E6 (p:=λ x:mb=>decide (x.table=id)) h;have hfl:((s.indexes.take i).filter λ x=>decide (x.table=id)).length<=1048576:=uo (length_filter_le _ _) (by simp;omega);have hcl:=ah' s.indexes[i].cols (hc _ (b6 h));rw[eC]at hx;generalize s.indexes[i]=x at *;generalize (s.indexes.take i).filter (λ x=>decide (x.table=id))=L at *
  by_cases he:x.table=id
  ·subst he;rw[ao (by simp)]at hsn;simp[N8,f10,f11,h,f9,hx,zg,f1];refine aw.pure hcl ?_;simp[adT,f5,rep];refine au.aoh (E:=aQ) (x:=x) (O.aq0 _ _ _) (by omega) (by omega) (by omega) λ H' O' _=>?_;simp[Vo,f11,w,f1,f9,f10];exact⟨_,by omega,i+1,rfl,by omega,rfl,by rw[hsn];simpa using O'⟩
  rw[ah (by simpa using he),append_nil]at hsn;simp[N8,f10,f11,h,f9,hx,zg,f1,he,Vo,w,f5];exact⟨_,by omega,i+1,rfl,by omega,rfl,by rw[hsn];exact O.aq1 _ _⟩
 obtain rfl:i=s.indexes.length:=by omega
 rw[eZ (aP _)]at O;simp[N8,f10,f11,adS,f5];exact O.nf (.pure (by simp))
end Go.Abs
namespace Go.Abs
open List
open Go.Proofs
open Classical
set_option maxRecDepth 100000
def iw:Val:=⟨0,0,[]⟩
def m6 (row:List Val)(cols:List Int):List Val:=cols.map λ c=>row.getD c.toNat iw
def ru (l:List Val):Bool:=l.any λ v=>decide (v.kind=0)
def mV (cols:List Int)(row:List Val):Prop:=∀c∈cols,0<=c/\c<(row.length:Int)
theorem Rl (row:List Val)(cols:List Int)(i k:Nat)(h:i<cols.length)(hk:k<row.length)(e:cols[i]=(k:Int)):m6 row (cols.take (i+1))=m6 row (cols.take i)++[row[k]]:=by
 unfold m6;rw[take_snoc h,map_append,List.map_singleton,e];simp[getD,cE hk]
theorem Hg (l:List Val)(v:Val):ru (l++[v])=(ru l||decide (v.kind=0)):=by simp[ru]
theorem aaq {row:List Val}{cols:List Int}(hr:∀v∈row,v.eA)(hc:mV cols row):∀v∈m6 row cols,v.eA:=by
 intro v hv;obtain⟨c,h1,rfl⟩:=mem_map.1 hv;obtain⟨h2,h3⟩:=hc c h1;have:c.toNat<row.length:=by omega
 simp only[getD,cE this,Option.getD_some];exact hr _ (b6 this)
@[simp] theorem aoU (row:List Val)(cols:List Int):(m6 row cols).length=cols.length:=by simp[m6]
theorem ac9 (x:mb)(row:List Val)(hl:x.cols.length<=aM)(hr:∀v∈row,v.eA)(hc:mV x.cols row):ae pG 93 [aQ.av x,aF row] (.aX [.str (ng (m6 row x.cols)).1,.bool (ru (m6 row x.cols)),zI (ng (m6 row x.cols)).2]):=by
 unfold aM at hl;refine pv c93 λ F hF=>?_;have hK:=ab4 (m6 row x.cols) (aaq hr hc);simp[A93,hF,aL.av,eC,aL.aD];refine aE.of (λ t F K n ms=>∃i u,t=x.cols.length - i/\i<=x.cols.length/\F.get 1=some (aF row)/\F.get 7=some u/\F.get 8=some (.bool (ru (m6 row (x.cols.take i))))/\F.get 14=some (cQ.ds x.cols)/\F.get 15=some (zI (x.cols.length:Int))/\F.get 16=some (zI (i:Int))/\au K n u (sO.l (m6 row (x.cols.take i))) (m6 row (x.cols.take i)).length 3/\ms=[]) x.cols.length ⟨0,.al (.slice none 0 0),by simp,by omega,by simp[hF],by simp,by simp[m6,ru],by simp,by simp,by simp,au.nil _ _ _,rfl⟩ ?_;clear hF F;rintro t F K n ms ⟨i,u,rfl,hi,f1,f7,f8,f14,f15,f16,O,rfl⟩;rw[aF]at f1
 by_cases h:i<x.cols.length
 ·have hx:=cQ.ix (ik:=.i64) h;have w:=aC i (by omega);obtain⟨h2,h3⟩:=hc x.cols[i] (b6 h);obtain⟨k,hk⟩:=Int.eq_ofNat_of_zero_le h2;have qb:k<row.length:=by omega
  have hy:=gB (k:=.i64) qb;have hs:=Rl row x.cols i k h qb hk;rw[HQ,hk]at hx;have hsl:(m6 row (x.cols.take i)).length<4000000:=by simp;omega
  have hnn:=Hg (m6 row (x.cols.take i)) row[k];rw[<-hs]at hnn;generalize row[k]=v at *;generalize m6 row (x.cols.take i)=L at *;have hmin:min (i+1) x.cols.length=(m6 row (x.cols.take (i+1))).length:=by simp
  generalize hL':m6 row (x.cols.take (i+1))=L' at *;simp[Zr,f15,f16,h,f14,hx,f1,hy,f7,gK,rep,Val.av];refine au.aoh (E:=sO) (x:=v) O (by omega) (by omega) hsl λ H' O' _=>?_;rw[<-hs]at O'
  cases hn:ru L with
  |true =>
   rw[hn]at f8 hnn;simp[Vm,f8,Vl,w,f16,f1,f14,f15,aF];exact⟨_,by omega,i+1,rfl,by omega,by rw[hL',hnn];rfl,rfl,by rw[hL',hmin];simpa[hs]using O'⟩
  |false =>
   rw[hn]at f8 hnn;simp[Vm,f8,Vl,w,f16,f1,f14,f15,aF,hy,Ld];exact⟨_,by omega,i+1,rfl,by omega,by rw[hL',hnn];rfl,rfl,by rw[hL',hmin];simpa[hs]using O'⟩
 obtain rfl:i=x.cols.length:=by omega
 rw[eZ (aP _)]at O f8;simp[Zr,f15,f16,adR,f7]
 have hz:eY K.get u (aF (m6 row x.cols)):=by
  have:=O.nf (.pure (by simp));rw[Bc]at this;exact this
 refine aw.nf hK (by simp) (.cons _ _ _ _ hz .nil) ?_;simp[Vn,f8];exact fp
end Go.Abs
