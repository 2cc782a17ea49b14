/- A part. -/
import Derived.Test.YtlhafglnokpioaaGreatVmC
noncomputable section
namespace Go.Abs
open List
set_option maxRecDepth 100000
theorem fp {h:Hf}{v:AV}(k:Pure v:=by simp):fj h v v:=.pure v k
theorem pv {P:Program}{g:FuncId}{c:CF}{args:List AV}{v:AV}(hc:KE P g=some c)(h:∀F:Fr,(∀i,F.get i=args[i]?)->VC P c.code F .nil 0 [] (kH c.res λ v1 H' _=>fj H'.get v1 v))(hp:aS args:=by simp)(hv:Pure v:=by simp)(hl:args.length<=c.nt:=by exact eH rfl):aj P g args v:=gf hc hp hv hl h
abbrev zI (n:Int):AV:=.int .i64 n
abbrev aN (n:Nat)(l:List AV):Option bJ:=some (.cells n [] l .nil)
structure bf (α:Type)(k:Nat) where
 cells:α->List AV
 len:∀a,(cells a).length=k
 Vv:∀a,aS (cells a)
 one:∀a,bo (cells a)=true
variable {α:Type}{k:Nat}
def bf.l (E:bf α k)(l:List α):List AV:=l.flatMap E.cells
def bf.ds (E:bf α k)(l:List α):AV:=.ds (E.l l) l.length k
def bf.av (E:bf α k)(a:α):AV:=.agg (E.cells a) k
@[simp] theorem bf.bm (E:bf α k)(a:α):(E.cells a).length=k:=E.len a
@[simp] theorem bf.amc (E:bf α k)(a:α):aS (E.cells a):=E.Vv a
@[simp] theorem bf.cells_one (E:bf α k)(a:α):bo (E.cells a)=true:=E.one a
@[simp] theorem bf.ay9 (E:bf α k):E.l []=[]:=rfl
theorem bf.nT (E:bf α k)(a:α)(r:List α):E.l (a::r)=E.cells a++E.l r:=rfl
theorem bf.fu (E:bf α k)(a b:List α):E.l (a++b)=E.l a++E.l b:=by simp[bf.l]
theorem bf.tM (E:bf α k)(a:α):E.l [a]=E.cells a:=by simp[bf.l]
@[simp] theorem bf.ay_ (E:bf α k)(l:List α):(E.l l).length=l.length*k:=by
 induction l with
 |nil=>simp
 |cons a r ih=>simp[bf.nT,ih,Nat.add_mul];omega
@[simp] theorem bf.rX (E:bf α k)(l:List α):aS (E.l l):=aS.rT λ v hv=>by
 obtain⟨a,_,ha⟩:=mem_flatMap.1 hv;exact(E.Vv a).mem v ha
@[simp] theorem bf.apU (E:bf α k)(l:List α):bo (E.l l)=true:=by
 induction l with
 |nil=>rfl
 |cons a r ih=>simp[bf.nT,ih]
@[simp] theorem bf.auR (E:bf α k)(l:List α):Pure (E.ds l):=by simp[bf.ds]
@[simp] theorem bf.au5 (E:bf α k)(a:α):Pure (E.av a):=by simp[bf.av]
theorem bf.akU (E:bf α k){l:List α}{i:Nat}(h:i<l.length):(E.l l).drop (i*k)=E.cells l[i]++E.l (l.drop (i+1)):=by
 induction l generalizing i with
 |nil=>simp at h
 |cons a r ih =>
  cases i with
  |zero=>simp[bf.nT]
  |succ i =>
   have e1:(i+1)*k=k+i*k:=by rw[Nat.add_mul];omega
   rw[bf.nT,e1,<-drop_drop,drop_left' (E.len a)];simpa using ih (by simpa using h)
theorem bf.akS (E:bf α k)(l:List α)(i:Nat):(E.l l).take (i*k)=E.l (l.take i):=by
 induction l generalizing i with
 |nil=>simp
 |cons a r ih =>
  cases i with
  |zero=>simp
  |succ i =>
   have e1:(i+1)*k=k+i*k:=by rw[Nat.add_mul];omega
   rw[bf.nT,e1,take_add,take_left' (E.len a),drop_left' (E.len a),ih];rfl
theorem bf.ix (E:bf α k){l:List α}{i:Nat}{ik:IntKind}(h:i<l.length):bW k (E.ds l) (.int ik (i:Int))=.val (.dp (E.cells l[i]++E.l (l.drop (i+1)))):=by
 rw[bf.ds,tY h,E.akU h]
theorem bf.pT (E:bf α k)(a:α)(r:List AV)(H:Hp):eE k (.dp (E.cells a++r)) H=.val (E.av a):=qS r (E.len a)
theorem bf.aT (E:bf α k)(l:List α):bg (E.ds l)=.val (zI (l.length:Int)):=by simp[bf.ds]
theorem bf.TV (E:bf α k){l:List α}{i:Nat}(h:i<=l.length):jW k none (some (zI (i:Int))) none (E.ds l)=.val (E.ds (l.take i)):=by
 unfold jW bf.ds
 have:zp l.length none (some (zI (i:Int))) none=some (0,i):=by
  simp[zp,show bnd l.length (some (zI (i:Int)))=some i from rfl,show bnd l.length none=some l.length from rfl,show bnd 0 none=some 0 from rfl,h]
 simp only[this];simp[E.akS,Nat.min_eq_left h]
end Go.Abs
namespace Go.Abs
open List
open Go.Proofs
set_option maxRecDepth 100000
structure Want where
 n:Int
 part:Int
 kind:Int
 any:Bool
 alike:Bool
def Want.av (w:Want):AV:=.agg [zI w.n,zI w.part,zI w.kind,.bool w.any,.bool w.alike] 5
def mH (op:Int):Want×Bool:=
 if op=4 then (⟨1,1,1,false,false⟩,true)else if op=5 then (⟨1,3,3,false,false⟩,true)else if op=6∨op=7 then (⟨1,0,3,true,false⟩,true)
 else if 8<=op/\op<=12 then (⟨2,1,1,false,false⟩,true)else if op=13 then (⟨2,2,2,false,false⟩,true)else if op=20∨op=21 then (⟨2,3,3,false,false⟩,true)
 else if 14<=op/\op<=19 then (⟨2,0,3,true,true⟩,true)else (⟨0,0,0,false,false⟩,false)
@[simp] theorem Want.pure (w:Want):Pure w.av:=by simp[Want.av]
theorem GL (op:Int):aj pG 199 [zI op] (.br [(mH op).1.av,.bool (mH op).2]):=by
 by_cases h:4<=op/\op<=21
 ·obtain⟨h1,h2⟩:=h;have:op=4∨op=5∨op=6∨op=7∨op=8∨op=9∨op=10∨op=11∨op=12∨op=13∨op=14∨op=15∨op=16∨op=17∨op=18∨op=19∨op=20∨op=21:=ah
  rcases this with h|h|h|h|h|h|h|h|h|h|h|h|h|h|h|h|h|h<;>subst h<;>exact .lit ai ai (by kernel_rfl)
 have hw:mH op=(⟨0,0,0,false,false⟩,false):=by unfold mH;repeat (rw[ak ah])
 rw[hw];refine pv c199 λ F hF=>?_;have hk:∀k:Int,4<=k/\k<=21->¬op=k:=λ k hk e=>h (e▸hk);simp[A199,hF,hk];exact fp
structure Val where
 kind:Int
 num:Int
 s:List Nat
def Val.cells (v:Val):List AV:=[zI v.kind,zI v.num,.str v.s]
def Val.av (v:Val):AV:=.agg [zI v.kind,zI v.num,.str v.s] 3
inductive Ex where
 |mk (op:Int) (v:Val) (t m:List Nat) (cD:Int) (args:List Ex)
mutual
def Ex.cells:Ex->List AV
 |.mk op v t m cD args=>[zI op,zI v.kind,zI v.num,.str v.s,.str t,.str m,zI cD,.ds (Ex.aK args) args.length 8]
def Ex.aK:List Ex->List AV
 |[]=>[]
 |e::r=>e.cells++Ex.aK r
end
def Ex.av (e:Ex):AV:=.agg e.cells 8
@[simp] theorem Ex.asn (e:Ex):e.av.cells=e.cells:=Eq.trans rfl rfl
@[simp] theorem Ex.ax4 (e:Ex):e.av.len=8:=Eq.trans rfl rfl
@[simp] theorem Ex.bm (e:Ex):e.cells.length=8:=by cases e;simp[Ex.cells]
@[simp] theorem Ex.ame (l:List Ex):(Ex.aK l).length=l.length*8:=by
 induction l with
 |nil=>simp[Ex.aK]
 |cons e r ih=>simp[Ex.aK,ih];omega
@[simp] theorem Ex.take8 (e:Ex):e.cells.take 8=e.cells:=fZ ai
@[simp] theorem Ex.bo (e:Ex):Go.Abs.bo e.cells=true:=by cases e;simp[Ex.cells]
@[simp] theorem Ex.au7 (l:List Ex):Go.Abs.bo (Ex.aK l)=true:=by
 induction l with
 |nil=>simp[Ex.aK]
 |cons e r ih=>simp[Ex.aK,ih]
mutual
theorem Ex.rC:∀e:Ex,aS e.cells
 |.mk op v t m cD args=>by simp[Ex.cells,Ex.yh args]
theorem Ex.yh:∀l:List Ex,aS (Ex.aK l)
 |[]=>by simp[Ex.aK]
 |e::r=>by simp[Ex.aK,Ex.rC e,Ex.yh r]
end
@[simp] theorem Ex.pure (e:Ex):Pure e.av:=by simp[Ex.av,Ex.rC]
@[simp] theorem Ex.avU (l:List Ex):aS (Ex.aK l):=Ex.yh l
@[simp] theorem Ex.avV (e:Ex):aS e.cells:=Ex.rC e
theorem Ex.drop (l:List Ex)(i:Nat)(h:i<l.length):(Ex.aK l).drop (i*8)=l[i].cells++Ex.aK (l.drop (i+1)):=by
 induction l generalizing i with
 |nil=>simp at h
 |cons e r ih =>
  cases i with
  |zero=>simp[Ex.aK]
  |succ i =>
   have e1:(i+1)*8=8+i*8:=ah;rw[Ex.aK,e1,<-drop_drop,drop_left' (Ex.bm e)];simpa using ih i (by simpa using h)
theorem nV {l:List Ex}{i:Nat}{k:IntKind}(h:i<l.length):bW 8 (.ds (Ex.aK l) l.length 8) (.int k (i:Int))=.val (.dp (l[i].cells++Ex.aK (l.drop (i+1)))):=by
 rw[tY h,Ex.drop l i h]
@[simp] theorem ay8 (e:Ex)(r:List AV)(H:Hp):eE 8 (.dp (e.cells++r)) H=.val e.av:=qS r (Ex.bm e)
def Val.may (v:Val):Bool:=
 if v.kind=0 then decide (v.num=0)&&decide (v.s=[])else if v.kind=1 then decide (v.s=[])else if v.kind=2 then decide (v.num=0)&&decide (v.s.length<=64)
 else if v.kind=3 then decide (v.s=[])&&(decide (v.num=0)||decide (v.num=1))else false
@[simp] theorem Val.pure (v:Val):Pure v.av:=by simp[Val.av]
theorem mT (v:Val):aj pG 88 [v.av] (.bool v.may):=by
 obtain⟨k,i,s⟩:=v;refine pv c88 λ F hF=>?_;simp only[Val.may]
 by_cases h0:k=0
 ·subst h0;simp[A88,hF,Val.av];exact .bool (by simp;try omega)
 by_cases h1:k=1
 ·subst h1;simp[A88,hF,Val.av];exact .bool (by simp;try omega)
 by_cases h2:k=2
 ·subst h2
  by_cases hi:i=0
  ·simp[A88,hF,Val.av,hi];exact .bool (by simp;try omega)
  simp[A88,hF,Val.av,hi];exact .bool (by simp;try omega)
 by_cases h3:k=3
 ·subst h3
  by_cases hs:s=[]
  ·by_cases hi:i=0
   ·simp[A88,hF,Val.av,hi,hs];exact .bool (by simp;try omega)
   simp[A88,hF,Val.av,hi,hs];exact .bool (by simp;try omega)
  simp[A88,hF,Val.av,hs];exact .bool (by simp;try omega)
 simp[A88,hF,Val.av,h0,h1,h2,h3];exact .bool (by simp;try omega)
mutual
theorem Ex.inj:∀(a b:Ex),a.cells=b.cells->a=b
 |.mk op v t m cD args,.mk op' v' t' m' col' args',h=>by
  simp only[Ex.cells,List.cons.injEq,AV.int.injEq,AV.str.injEq,AV.ds.injEq,true_and,and_true]at h;obtain⟨h1,h2,h3,h4,h5,h6,h7,h8,_⟩:=h;have:=Ex.aqb args args' h8;obtain⟨k,i,s⟩:=v;obtain⟨k',i',s'⟩:=v';simp_all
theorem Ex.aqb:∀(l l':List Ex),Ex.aK l=Ex.aK l'->l=l'
 |[],[],_=>rfl
 |[],e::r,h=>by have:=congrArg length h;simp at this
 |e::r,[],h=>by have:=congrArg length h;simp at this
 |e::r,e'::r',h=>by
  simp only[Ex.aK]at h;obtain⟨h1,h2⟩:=append_inj h ai;rw[Ex.inj e e' h1,Ex.aqb r r' h2]
end
theorem Ex.amy {a b:Ex}(h:a.av=b.av):a=b:=Ex.inj a b (by simpa[Ex.av]using h)
mutual
def Ex.sz:Ex->Nat
 |.mk _ _ _ _ _ args=>1+Ex.ri args
def Ex.ri:List Ex->Nat
 |[]=>0
 |e::r=>e.sz+Ex.ri r
end
theorem Ex.kQ (e:Ex):0<e.sz:=by cases e;simp[Ex.sz];omega
theorem Ex.rJ (l:List Ex):l.length<=Ex.ri l:=by
 induction l with
 |nil=>simp[Ex.ri]
 |cons e r ih=>have:=Ex.kQ e;simp[Ex.ri];omega
theorem Ex.rI {l:List Ex}{e:Ex}(h:e∈l):e.sz<=Ex.ri l:=by
 induction l with
 |nil=>cases h
 |cons a r ih =>
  cases h with
  |head=>simp[Ex.ri]
  |tail _ hm=>have:=ih hm;simp[Ex.ri];omega
def aU:Nat:=1048576
open Classical in
theorem aE (i:Nat)(h:i<2147483648):IntKind.i64.wrap ((i:Int)+1)=((i+1:Nat):Int):=by
 simp[IntKind.wrap,IntKind.signed,IntKind.bits];omega
end Go.Abs
namespace Go.Abs
open List
open Go.Proofs
set_option maxRecDepth 100000
open Classical in
theorem Ex.mz (a b:List Ex):Ex.aK (a++b)=Ex.aK a++Ex.aK b:=by
 induction a with
 |nil=>simp[Ex.aK]
 |cons e r ih=>simp[Ex.aK,ih]
theorem aD.step {H H':Hp}{n n':Nat}{v:AV}{l:List AV}{len sz:Nat}(h:aD H n v l len sz)(hn:n<=n')(hk:∀c,c<n->v=.sl c 0 len sz->H'.get c=H.get c):aD H' n' v l len sz:=by
 obtain⟨h0,h|⟨b,k,rfl,hb,hkb,ho⟩⟩:=h
 ·exact⟨h0,.inl h⟩
 exact⟨h0,.inr ⟨b,k,rfl,ah,by rw[hk b hb rfl,hkb],ho⟩⟩
theorem bp.app {h:Hf}{a a' b b':List AV}(x:bp h a a')(y:bp h b b'):bp h (a++b) (a'++b'):=by
 induction a generalizing a' with
 |nil=>cases x;exact y
 |cons v r ih=>cases x with
  |cons _ _ _ _ x1 x2=>exact .cons _ _ _ _ x1 (ih x2)
theorem bp.snoc {h:Hf}(a:List AV){v v':AV}(ha:aS a)(hv:fj h v v'):bp h (a++[v]) (a++[v']):=(bp.pure ha).app (.cons _ _ _ _ hv .nil)
theorem Xy:∀(N:Nat) (e:Ex),e.sz<=N->N<=aU->aj pG 201 [e.av] e.av
 |0,e,h,_=>by have:=Ex.kQ e;omega
 |N + 1,.mk op v t m cD args,ha,hN=>by
  simp only[Ex.sz]at ha;have hla:=Ex.rJ args
  have ih:∀(i:Nat) (h1:i<args.length),aj pG 201 [args[i].av] args[i].av:=λ i h1=>by
   have m1:=Ex.rI (dy h1);exact Xy N args[i] ah ah
  unfold aU at hN;refine pv c201 λ F hF=>?_;simp[A201,hF,Ex.av,Ex.cells]
  refine aF.of (λ k F H n m_=>∃i x,k=args.length - i/\i<=args.length/\F.get 1=some (.ptr 0 0)/\F.get 2=some (.ptr 1 0)/\F.get 7=some (.ds (Ex.aK args) args.length 8)/\F.get 8=some (zI (args.length:Int))/\F.get 9=some (zI (i:Int))/\F.get 3=some x /\
   aD H n x (Ex.aK (args.take i)) i 8/\2<=n/\x≠.sl 0 0 i 8/\x≠.sl 1 0 i 8/\H.get 0=some (.cells 8 [] (Ex.mk op v t m cD args).cells .nil)/\(∃c,H.get 1=aN 8 c/\c.length=8)/\m_=[]) args.length
   ⟨0,.aV (.slice none 0 0),by simp[Ex.cells,aD.nil,Ex.aK]⟩ ?_
  rintro k F H n m_ ⟨i,x,rfl,hi,f1,f2,f7,f8,f9,f3,ho,hn,hx0,hx1,h0,⟨c,h1,hcl⟩,rfl⟩
  by_cases hlt:i<args.length
  ·have hx:=nV (k:=.i64) hlt;simp[Gy,f7,f8,f9,f3,hlt,hx];refine aB.pure (ih i hlt) ?_;simp;refine aD.app (k:=1) (new:=args[i].cells) (len:=i) (l:=Ex.aK (args.take i)) (aD.step ho ah λ c hc _=>by simp[show ¬c=n+1 by omega,show ¬c=n by omega]) ?_ ai ai ah ah (by unfold big;omega) ah ai λ H' ho' hk=>?_
   ·rw[bU (l:=args[i].cells) (k:=.cells 8 [] args[i].cells .nil) ai (OwnB.list ai) ai];simp
   simp[f1,f2,f7,f8,f9,acJ,aE i ah];refine⟨args.length - (i+1),ah,i+1,rfl,hlt,ah,?_,?_,c,?_,hcl⟩
   ·rw[take_succ_eq_append_getElem hlt,Ex.mz];simpa[Ex.aK]using ho'
   ·rw[hk 0 ah hx0];simp[show ¬ 0=n by omega,h0]
   rw[hk 1 ah hx1];simp[show ¬ 1=n by omega,h1];omega
  have hi':i=args.length:=ah;subst hi';have ho2:=ho;rw[take_length]at ho2;obtain⟨_,⟨rfl,hl0⟩|⟨b,kb,rfl,hb,hkb,hob⟩⟩:=ho
  ·have:args=[]:=by simpa using hl0
   subst this;simp[Gy,f1,f2,f8,f9,f3,NH,NG,h0,h1,Ex.cells,hcl];refine .agg _ _ _ (bp.snoc [_,_,_,_,_,_,_] ai (.nil 7))
  have hb0:¬b=0:=λ e=>hx0 (by rw[e]);have hb1:¬b=1:=λ e=>hx1 (by rw[e]);simp[Gy,f1,f2,f8,f9,f3,NH,NG,h0,h1,Ex.cells,hcl];refine .agg _ _ _ (bp.snoc [_,_,_,_,_,_,_] ai ?_);refine(aD.step ho2 (aL _) λ c hc e=>?_).nz (.pure ai);injection e with e;subst e;simp[hb0,hb1]
theorem apm (e:Ex)(h:e.sz<=aU):aj pG 201 [e.av] e.av:=Xy aU e h (aL _)
end Go.Abs
namespace Go.Abs
open List
open Go.Proofs
set_option maxRecDepth 100000
theorem Ex.VM {args:List Ex}{i:Nat}(h:i<args.length):args[i].sz<=Ex.ri args:=Ex.rI (dy h)
def Ex.split (e:Ex):List Ex:=match e with
 |.mk op v t m cD args=>if h:op=20/\args.length=2 then (args[0]'ah).split++(args[1]'ah).split else [.mk op v t m cD args]
 termination_by e.sz
 decreasing_by
 ·have:=Ex.VM (args:=args) (i:=0) ah;simp[Ex.sz];omega
 have:=Ex.VM (args:=args) (i:=1) ah;simp[Ex.sz];omega
theorem Ex.uA {v t m cD}(a b:Ex):(Ex.mk 20 v t m cD [a,b]).split=a.split++b.split:=by
 rw[Ex.split];simp
theorem Ex.qw {op v t m cD}{args:List Ex}(h:¬(op=20/\args.length=2)):(Ex.mk op v t m cD args).split=[.mk op v t m cD args]:=by
 rw[Ex.split];rw[dif_neg h]
theorem Ex.Js (a b:List Ex):Ex.ri (a++b)=Ex.ri a+Ex.ri b:=by
 induction a with
 |nil=>simp[Ex.ri]
 |cons e r ih=>simp[Ex.ri,ih];omega
theorem Ex.mN:∀(N:Nat) (e:Ex),e.sz<=N->Ex.ri e.split<=e.sz/\0<e.split.length
 |0,e,h=>by have:=Ex.kQ e;omega
 |N + 1,.mk op v t m cD args,h=>by
  by_cases hc:op=20/\args.length=2
  ·obtain⟨rfl,hl⟩:=hc
   match args,hl with
   |[a,b],_ =>
    simp[Ex.sz,Ex.ri]at h;have h1:=Ex.mN N a ah;have h2:=Ex.mN N b ah;rw[Ex.uA,Ex.Js];simp[Ex.sz,Ex.ri];omega
  rw[Ex.qw hc];simp[Ex.ri]
theorem O8 {H:Hp}(e:Ex)(h:H.get 1=aN 8 e.cells):aD H 2 (.sl 1 0 1 8) (Ex.aK [e]) 1 8:=
 ⟨ai,.inr ⟨1,_,rfl,ah,h,by simpa[Ex.aK]using OwnB.list (l:=e.cells) (u:=8) ai⟩⟩
theorem Ef:∀(N:Nat) (e:Ex),e.sz<=N->N<=aU->CP pG 129 [e.av] (Ex.aK e.split) e.split.length 8
 |0,e,h,_=>by have:=Ex.kQ e;omega
 |N + 1,.mk op v t m cD args,ha,hN=>by
  have hs:=Ex.mN (N+1) (.mk op v t m cD args) ha;refine CP.of ai ai hs.2 (ao.of c129 (by simp[A129]) λ F hF=>?_)
  by_cases hc:op=20/\args.length=2
  ·obtain⟨rfl,hl⟩:=hc
   match args,hl with
   |[a, b],_ =>
    simp only[Ex.sz,Ex.ri]at ha;have ia:=Ef N a ah ah;have ib:=Ef N b ah ah;have sa:=Ex.mN N a ah;have sb:=Ex.mN N b ah;have la:=Ex.rJ a.split;have lb:=Ex.rJ b.split;unfold aU at hN
    have x0:bW 8 (.ds (Ex.aK [a,b]) 2 8) (zI 0)=.val (.dp (a.cells++Ex.aK [b])):=by
     have:=nV (l:=[a,b]) (i:=0) (k:=.i64) ai;simpa using this
    have x1:bW 8 (.ds (Ex.aK [a,b]) 2 8) (zI 1)=.val (.dp (b.cells++Ex.aK [])):=by
     have:=nV (l:=[a,b]) (i:=1) (k:=.i64) ai;simpa using this
    rw[Ex.uA];simp[A129,hF,Ex.av,Ex.cells];refine bF.of (dX (l:=[(129,[a.av],λ H n=>.mk (.sl n 0 a.split.length 8) (H.put n (some (.cells (a.split.length*8) [] (Ex.aK a.split) .nil))) (n+1)),(129,[b.av],λ H n=>.mk (.sl n 0 b.split.length 8) (H.put n (some (.cells (b.split.length*8) [] (Ex.aK b.split) .nil))) (n+1))]) ?_) ?_
    ·simp only[mem_cons,not_mem_nil,or_false];rintro x (rfl|rfl)
     ·exact Qs ia
     exact Qs ib
    have hb:∀H n,(ceT [((129:Nat),[a.av],λ(H:Hp) (n:Nat)=>hU.mk (.sl n 0 a.split.length 8) (H.put n (some (.cells (a.split.length*8) [] (Ex.aK a.split) .nil))) (n+1)),(129,[b.av],λ H n=>.mk (.sl n 0 b.split.length 8) (H.put n (some (.cells (b.split.length*8) [] (Ex.aK b.split) .nil))) (n+1))]).call 129 [b.av] H n=.mk (.sl n 0 b.split.length 8) (H.put n (some (.cells (b.split.length*8) [] (Ex.aK b.split) .nil))) (n+1):=by
     intro H n;rw[sP,bY]
     ·simp
     intro _ e H n;have e:b=a:=Ex.amy (by simpa using e);subst e;rw[bY]
    simp[ae,x0,x1,bY,hb];refine aD.ax5 (k:=b.split.length) (new:=Ex.aK b.split) (len:=a.split.length) (l:=Ex.aK a.split) ⟨ai,.inr ⟨1,_,rfl,ah,by simp;rfl,.list ai⟩⟩ ?_ ai ai ah ah (by unfold big;omega) ah ai λ H' ho' hk=>?_
    ·rw[bU (l:=Ex.aK b.split) (k:=.cells (b.split.length*8) [] (Ex.aK b.split) .nil) ai (OwnB.list ai) ai];simp[fZ]
    simp;rw[Ex.mz];exact ho'
  rw[Ex.qw hc];have ho:=apm (.mk op v t m cD args) ah
  by_cases h20:op=20
  ·have hl:¬args.length=2:=λ e=>hc ⟨h20,e⟩;have hl':¬(args.length:Int)=2:=ah;simp[A129,hF,Ex.av,Ex.cells,h20,hl'];subst h20;refine aB.pure ho ?_;simp;exact O8 _ (by simp[Ex.cells])
  simp[A129,hF,Ex.av,Ex.cells,h20];refine aB.pure ho ?_;simp;exact O8 _ (by simp[Ex.cells])
theorem alX (e:Ex)(h:e.sz<=aU):CP pG 129 [e.av] (Ex.aK e.split) e.split.length 8:=Ef aU e h (aL _)
def lJ {α:Type}(p:α->Bool)(l:List α):Int:=match l.findIdx? p with
 |some i=>(i:Int)
 |none => -1
def ak8 (s:Nat) (ld:Eff):CF:={res:=[aH 4],code:=.seq (.nw [oP (bc 4) (eJ (aO (zI 0)))]) (.seq (.seq (.nw [oP (bc 6) (eJ (aA 0)),oP (bc 7) (e1 bg (aA 6)),oP (bc 8) (eJ (aO (zI 0)))]) (.block 0 (.loop
 (.seq (.nw [oP (bc 9) (e2 (bQ .lss) (aA 8) (aA 7))]) (.seq (.cond (aA 9) .skip (.exit 0)) (.seq (.block 1 (.seq (.nw [oP (bc 10) (eJ (aA 8)),oP (bc 5) (eJ (aA 10))]) (.seq (.nw [oP (bc 11) (eJ (aA 1)),oP (bc 12) (eJ (aA 0)),oP (bc 13) (eJ (aA 5)),oP (bc 14) (e2 (bW s) (aA 12) (aA 13)),oP (bc 15) ld,vP (bc 16) (aA 11) [(aA 15)]])
  (.cond (aA 16) (.seq (.nw [oP (bc 17) (eJ (aA 5)),oP (bc 4) (eJ (aA 17))]) .ret) .skip)))) (.nw [oP (bc 18) (e2 (bQ .add) (aA 8) (aO (zI 1))),oP (bc 8) (eJ (aA 18))])))))))
 (.seq (.nw [oP (bc 4) (eJ (aO (zI (-1))))]) .ret)),nt:=19}
theorem uK {α:Type}{p:α->Bool}{l:List α}{i:Nat}(h:i<l.length)(hp:p l[i]=true)(hn:∀j (hj:j<i),p (l[j]'ah)=false):lJ p l=(i:Int):=by
 have:l.findIdx? p=some i:=by
  rw[findIdx?_eq_some_iff_getElem];exact⟨h,hp,λ j hj=>by simpa using hn j hj⟩
 simp[lJ,this]
theorem BF {α:Type}{p:α->Bool}{l:List α}(hn:∀j (hj:j<l.length),p l[j]=false):lJ p l = -1:=by
 have:l.findIdx? p=none:=by
  rw[findIdx?_eq_none_iff];intro x hx;obtain⟨j,hj,rfl⟩:=getElem_of_mem hx;simpa using hn j hj
 simp[lJ,this]
theorem rZ {α:Type}{P:Program}{g:FuncId}{s:Nat}{ld:Eff}{v:AV}{el:α->AV}{xs:List α}{f:FuncId}{first cap:List AV}{p:α->Bool}{H:Hp}{n:Nat}(hc:KE P g=some (ak8 s ld))(hl:xs.length<=aU)(hlen:bg v=.val (zI (xs.length:Int)))
  (hx:∀i (h:i<xs.length),∃q,bW s v (zI (i:Int))=.val q/\∀(F:Fr) H n,F.get 14=some q->ld F H n=.val (el xs[i]))
  (hp:∀x∈xs,ao P f (first++([el x]++cap)) H n (λ u K k=>u=.bool (p x)/\K=H/\k=n)):
  ao P g [v,.fn (.func f) first cap] H n (λ u K k=>u=zI (lJ p xs)/\K=H/\k=n):=by
 refine ao.of hc (by simp[ak8]) λ F hF=>?_;unfold aU at hl;simp[ak8,hF,hlen]
 refine aF.of (λ k F K m m_=>∃i,k=xs.length - i/\i<=xs.length/\F.get 0=some v/\F.get 1=some (.fn (.func f) first cap)/\F.get 7=some (zI (xs.length:Int))/\F.get 8=some (zI (i:Int)) /\
  K=H/\m=n/\m_=[]/\∀j (hj:j<i) (h:j<xs.length),p xs[j]=false) xs.length ⟨0,by simp[hF]⟩ ?_
 rintro k F K m m_ ⟨i,rfl,hi,f0,f1,f7,f8,rfl,rfl,rfl,hj⟩
 by_cases hlt:i<xs.length
 ·obtain⟨q,hq,hld⟩:=hx i hlt;simp[f0,f1,f7,f8,hlt,hq];rw[hld _ _ _ ai];simp;refine aB.same (hp xs[i] (dy hlt)) ?_;simp;refine zY.ofB (λ hb=>?_) λ hb=>?_
  ·simp;exact(uK hlt hb λ j hj'=>hj j hj' ah).symm
  simp[f0,f1,f7,f8,aE i ah];refine⟨xs.length - (i+1),ah,i+1,rfl,hlt,ah,λ j hj' h=>?_⟩
  by_cases e:j=i
  ·subst e;exact hb
  exact hj j ah h
 simp[f7,f8,hlt];exact(BF λ j h=>hj j ah h).symm
def al4 (g:FuncId):CF:={res:=[aH 4],code:=.seq (.nw [oP (bc 4) (eJ (aO (.bool false)))]) (.seq (.nw [oP (bc 5) (eJ (aA 0)),oP (bc 6) (eJ (aA 1)),cP (bc 7) g [(aA 5),(aA 6)],oP (bc 8) (e2 (bQ .geq) (aA 7) (aO (zI 0))),oP (bc 4) (eJ (aA 8))]) .ret),nt:=9}
theorem yF {α:Type}(p:α->Bool)(l:List α):decide (0<=lJ p l)=l.any p:=by
 unfold lJ
 cases h:l.findIdx? p with
 |none =>
  rw[findIdx?_eq_none_iff]at h
  have:l.any p=false:=by
   rw[any_eq_false];intro x hx;simpa using h x hx
  simp[this]
 |some i =>
  rw[findIdx?_eq_some_iff_getElem]at h;obtain⟨h1,h2,_⟩:=h;have:l.any p=true:=by rw[any_eq_true];exact⟨_,dy h1,h2⟩
  simp[this]
theorem zd {α:Type}{P:Program}{g c:FuncId}{v fv:AV}{xs:List α}{p:α->Bool}{H:Hp}{n:Nat}(hc:KE P c=some (al4 g))(h:ao P g [v,fv] H n (λ u K k=>u=zI (lJ p xs)/\K=H/\k=n)):
  ao P c [v,fv] H n (λ u K k=>u=.bool (xs.any p)/\K=H/\k=n):=by
 refine ao.of hc (by simp[al4]) λ F hF=>?_;simp[al4,hF];refine aB.same h ?_;simp[yF]
def cU (l:List Int):List AV:=l.map (.int .i64)
@[simp] theorem anG (l:List Int):(cU l).length=l.length:=by simp[cU]
@[simp] theorem akY (l:List Int):aS (cU l):=aS.rT λ v hv=>by
 simp only[cU,mem_map]at hv;obtain⟨i,_,rfl⟩:=hv;simp
@[simp] theorem anF (l:List Int):bo (cU l)=true:=by
 induction l with
 |nil=>rfl
 |cons a r ih=>simp only[cU,map_cons,vT,afa,Bool.true_and];exact ih
theorem tO (a b:List Int):cU (a++b)=cU a++cU b:=by simp[cU]
theorem J5 (l:List Int)(i:Nat)(h:i<l.length):(cU l).drop i=zI l[i]::cU (l.drop (i+1)):=by
 unfold cU;rw[<-map_drop,gu h];rfl
theorem wO {l:List Int}{i:Nat}{k:IntKind}(h:i<l.length):bW 1 (.ds (cU l) l.length 1) (.int k (i:Int))=.val (.dp (zI l[i]::cU (l.drop (i+1)))):=by
 rw[tY h,Nat.mul_one,J5 l i h]
def Want.fits (w:Want)(l:List Int):Bool:=
 if w.any=true then !w.alike||(decide (l.getD 0 0=l.getD 1 0)||(decide (l.getD 0 0=0)||decide (l.getD 1 0=0)))else !(l.any λ k=>decide (k≠0)&&decide (k≠w.part))
theorem alB {H:Hp}{n b:Nat}(w:Want)(k:Int)(hb:H.get b=aN 5 [zI w.n,zI w.part,zI w.kind,.bool w.any,.bool w.alike]):
  ao pG 264 [zI k,.ptr b 0] H n (λ u K j=>u=.bool (decide (k≠0)&&decide (k≠w.part))/\K=H/\j=n):=by
 refine ao.of c264 (by simp[A264]) λ F hF=>?_
 by_cases h0:k=0
 ·simp[A264,hF,h0]
 simp[A264,hF,hb,h0]
theorem alD (w:Want)(l:List Int)(hl:l.length<=aU)(h2:w.any=true->w.alike=true->2<=l.length):aj pG 200 [w.av,.ds (cU l) l.length 1] (.bool (w.fits l)):=by
 obtain⟨wn,wp,wk,wa,wl⟩:=w;refine pv c200 λ F hF=>?_;simp only[Want.fits]
 cases wa with
 |false =>
  simp[A200,hF,Want.av];refine aB.same (zd (xs:=l) (p:=λ k=>decide (k≠0)&&decide (k≠wp)) c263 (rZ (el:=λ k=>zI k) (first:=[]) (cap:=[.ptr 0 0]) c301 hl ai (λ i h=>⟨_,wO h,λ F H n rq=>by simp[rq]⟩) λ x hx=>alB ⟨wn,wp,wk,false,wl⟩ x ai)) ?_;simp;exact .bool ai
 |true =>
  cases wl with
  |false =>
   simp[A200,hF,Want.av];refine bF.of (bq (P:=pG)) ?_;simp[ae];exact .bool ai
  |true =>
   have h2:=h2 rfl rfl
   match l,h2 with
   |a :: b::r,_ =>
    have x0:bW 1 (.ds (cU (a::b::r)) (r.length+1+1) 1) (zI 0)=.val (.dp (zI a::cU (b::r))):=by
     have:=wO (l:=a::b::r) (i:=0) (k:=.i64) ai;simpa using this
    have x1:bW 1 (.ds (cU (a::b::r)) (r.length+1+1) 1) (zI 1)=.val (.dp (zI b::cU r)):=by
     have:=wO (l:=a::b::r) (i:=1) (k:=.i64) ai;simpa using this
    simp[A200,hF,Want.av];refine bF.of (bq (P:=pG)) ?_
    by_cases e1:a=b
    ·subst e1;simp[ae,hF,x0,x1];exact .bool ai
    by_cases e2:a=0
    ·subst e2;simp[ae,hF,x0,x1,e1];exact .bool ai
    simp[ae,hF,x0,x1,e1,e2];exact .bool ai
end Go.Abs
namespace Go.Abs
open List
open Go.Proofs
open Classical
set_option maxRecDepth 100000
structure q7 where
 name:List Nat
 kind:Int
 need:Bool
structure bR where
 id:Int
 name:List Nat
 cols:List q7
 head:Int
structure pz where
 id:Int
 table:Int
 name:List Nat
 cols:List Int
 uniq:Bool
 root:Int
structure cG where
 tables:List bR
 indexes:List pz
def dz:bf (List Nat) 1:=⟨λ s=>[.str s],λ _=>rfl,λ _=>ai,λ _=>by simp[bo,AV.one]⟩
def dA:bf Int 1:=⟨λ i=>[zI i],λ _=>rfl,λ _=>ai,λ _=>by simp[bo,AV.one]⟩
def dV:bf q7 3:=⟨λ c=>[.str c.name,zI c.kind,.bool c.need],λ _=>rfl,λ _=>ai,λ _=>by simp[bo,AV.one]⟩
def aM:bf bR 4:=⟨λ t=>[.int .u32 t.id,.str t.name,dV.ds t.cols,.int .u32 t.head],λ _=>rfl,λ _=>ai,λ _=>by simp[bo,AV.one,bf.ds]⟩
def bw:bf pz 6:=⟨λ x=>[.int .u32 x.id,.int .u32 x.table,.str x.name,dA.ds x.cols,.bool x.uniq,.int .u32 x.root],λ _=>rfl,λ _=>ai,λ _=>by simp[bo,AV.one,bf.ds]⟩
def lj:bf cG 2:=⟨λ s=>[aM.ds s.tables,bw.ds s.indexes],λ _=>rfl,λ _=>ai,λ _=>by simp[bo,AV.one,bf.ds]⟩
theorem Y3 (s:List Nat):dz.cells s=[.str s]:=rfl
theorem KC (i:Int):dA.cells i=[zI i]:=rfl
theorem uS (c:q7):dV.cells c=[.str c.name,zI c.kind,.bool c.need]:=rfl
theorem fc (t:bR):aM.cells t=[.int .u32 t.id,.str t.name,dV.ds t.cols,.int .u32 t.head]:=rfl
theorem iQ (x:pz):bw.cells x=[.int .u32 x.id,.int .u32 x.table,.str x.name,dA.ds x.cols,.bool x.uniq,.int .u32 x.root]:=rfl
theorem fe (s:cG):lj.cells s=[aM.ds s.tables,bw.ds s.indexes]:=rfl
def KQ (c:Nat):Prop:=97<=c/\c<=122
def KP (c:Nat):Prop:=(48<=c/\c<=57)∨c=95
def fH (s:List Nat):Prop:=s≠[]/\s.length<=24/\∀j (h:j<s.length),KQ s[j]∨(0<j/\KP s[j])
theorem wR {l:List Nat}{i:Nat}{k:IntKind}(h:i<l.length):pj (.str l) (.int k (i:Int))=.val (.int .u8 (l[i]:Int)):=by
 unfold pj;simp[nQ,cY h]
theorem name44 (s:List Nat):aj pG 81 [.str s] (.bool (decide (fH s))):=by
 refine pv c81 λ F hF=>?_;simp[A81,hF]
 by_cases h0:s=[]
 ·have:¬fH s:=λ h=>h.1 h0;simp[h0,aab];exact .bool (by subst h0;simp[this])
 by_cases HN:s.length<=24
 ·simp[h0,show ¬(24:Int)<(s.length:Int) by omega,aia,hF];refine aF.of (λ t F K n ms=>∃i,t=s.length - i/\i<=s.length/\F.get 0=some (.str s)/\F.get 13=some (zI (s.length:Int))/\F.get 14=some (zI (i:Int))/\K=.nil/\ms=[]/\∀j (h:j<s.length),j<i->KQ s[j]∨(0<j/\KP s[j])) s.length ⟨0,by simp[hF]⟩ ?_;rintro t F K n ms ⟨i,rfl,hi,f0,f13,f14,rfl,rfl,hj⟩
  by_cases hlt:i<s.length
  ·have hx:=wR (k:=.i64) hlt;have w:=aE i ah
   have stay:∀F':Fr,F'.get 0=some (.str s)->F'.get 13=some (zI (s.length:Int))->F'.get 14=some (zI (i:Int))->(KQ s[i]∨(0<i/\KP s[i]))->VC pG Ls F' .nil n [] (zE (λ t F K n ms=>∃i,t=s.length - i/\i<=s.length/\F.get 0=some (.str s)/\F.get 13=some (zI (s.length:Int))/\F.get 14=some (zI (i:Int))/\K=.nil/\ms=[]/\∀j (h:j<s.length),j<i->KQ s[j]∨(0<j/\KP s[j])) (s.length - i) (ig 0 (nj pG (Lr.seq CT.ret) (kH [aH 2] λ v1 H' _=>fj H'.get v1 (.bool (decide (fH s))))))):=by
    intro F' g0 g13 g14 hc;simp[Ls,g0,g13,g14,w];refine⟨s.length - (i+1),ah,i+1,rfl,hlt,rfl,λ j h hji=>?_⟩
    by_cases e:j=i
    ·subst e;exact hc
    exact hj j h ah
   have no:∀(F':Fr),¬(KQ s[i]∨(0<i/\KP s[i]))->fj (Tr.nil:Hp).get (.bool false) (.bool (decide (fH s))):=λ F' hc=>by
    have:¬fH s:=λ h=>hc (h.2.2 i hlt);exact .bool (by simp[this])
   simp[adL,f13,f14,hlt,f0,hx];generalize hcc:s[i]=c at stay no
   by_cases a1:(97:Int)<=(c:Int)<;>by_cases a2:(c:Int)<=122<;>by_cases z:0<i<;>by_cases b1:(48:Int)<=(c:Int)<;>by_cases b2:(c:Int)<=57<;>by_cases d:c=95 <;>
    first
    |(exfalso;omega)
    |(simp[a1,a2,z,b1,b2,d,show ((c:Int)=95)=(c=95) by simp;omega,ah',ah_]
      first
      |simpa using stay _ (by simp[f0]) (by simp[f13]) (by simp[f14]) (by unfold KQ KP;omega)
      |exact no F (by unfold KQ KP;omega))
  obtain rfl:i=s.length:=ah;have:fH s:=⟨h0,HN,λ j h=>hj j h h⟩;simp[adL,f13,f14,Lr];exact .bool (by simp[this])
 have:¬fH s:=λ h=>HN h.2.1;simp[h0,hF,show (24:Int)<(s.length:Int) by omega,aab];exact .bool (by simp[this])
end Go.Abs
namespace Go.Abs
open List
def ny:List (List Nat):=[[97,110,100],[97,115],[98,101,103,105,110],[98,111,111,108],[98,121],[99,111,109,109,105,116],[99,114,101,97,116,101],[100,101,108,101,116,101],[100,101,115,99],[100,105,115,116,105,110,99,116],[100,114,111,112],[102,97,108,115,101],[102,114,111,109],[105,110,100,101,120],[105,110,115,101,114,116],[105,110,116],[105,110,116,111],[105,115],[106,111,105,110],[108,105,109,105,116],[110,111,116],[110,117,108,108],[111,110],[111,114],[111,114,100,101,114],[114,111,108,108,98,97,99,107],[115,101,108,101,99,116],[115,101,116],[116,97,98,108,101],[116,101,120,116],[116,114,117,101],[117,110,105,113,117,101],[117,112,100,97,116,101],[118,97,108,117,101,115],[119,104,101,114,101]]
end Go.Abs
namespace Go.Abs
open List
open Go.Proofs
set_option maxRecDepth 100000
theorem aeo (s:List Nat)(h:s∈ny):aj pG 192 [.str s] (.bool true):=by
 simp only[ny,mem_cons,not_mem_nil,or_false]at h
 rcases h with h|h|h|h|h|h|h|h|h|h|h|h|h|h|h|h|h|h|h|h|h|h|h|h|h|h|h|h|h|h|h|h|h|h|h<;>subst h<;>exact .lit ai ai (by kernel_rfl)
end Go.Abs
namespace Go.Abs
open List
open Go.Proofs
open Classical
set_option maxRecDepth 100000
theorem ajz (s:List Nat):aj pG 192 [.str s] (.bool (decide (s∈ny))):=by
 by_cases h:s∈ny
 ·simpa[h]using aeo s h
 refine pv c192 λ F hF=>?_;have h0:¬s=[97,110,100]:=λ e=>h (by simp[ny,e]);have h1:¬s=[97,115]:=λ e=>h (by simp[ny,e]);have h2:¬s=[98,101,103,105,110]:=λ e=>h (by simp[ny,e]);have h3:¬s=[98,111,111,108]:=λ e=>h (by simp[ny,e]);have h4:¬s=[98,121]:=λ e=>h (by simp[ny,e]);have h5:¬s=[99,111,109,109,105,116]:=λ e=>h (by simp[ny,e]);have h6:¬s=[99,114,101,97,116,101]:=λ e=>h (by simp[ny,e]);have h7:¬s=[100,101,108,101,116,101]:=λ e=>h (by simp[ny,e]);have h8:¬s=[100,101,115,99]:=λ e=>h (by simp[ny,e]);have h9:¬s=[100,105,115,116,105,110,99,116]:=λ e=>h (by simp[ny,e]);have h10:¬s=[100,114,111,112]:=λ e=>h (by simp[ny,e]);have h11:¬s=[102,97,108,115,101]:=λ e=>h (by simp[ny,e]);have h12:¬s=[102,114,111,109]:=λ e=>h (by simp[ny,e]);have h13:¬s=[105,110,100,101,120]:=λ e=>h (by simp[ny,e]);have rq:¬s=[105,110,115,101,114,116]:=λ e=>h (by simp[ny,e]);have h15:¬s=[105,110,116]:=λ e=>h (by simp[ny,e]);have kK:¬s=[105,110,116,111]:=λ e=>h (by simp[ny,e]);have h17:¬s=[105,115]:=λ e=>h (by simp[ny,e]);have h18:¬s=[106,111,105,110]:=λ e=>h (by simp[ny,e]);have h19:¬s=[108,105,109,105,116]:=λ e=>h (by simp[ny,e]);have h20:¬s=[110,111,116]:=λ e=>h (by simp[ny,e]);have h21:¬s=[110,117,108,108]:=λ e=>h (by simp[ny,e]);have h22:¬s=[111,110]:=λ e=>h (by simp[ny,e]);have h23:¬s=[111,114]:=λ e=>h (by simp[ny,e]);have HN:¬s=[111,114,100,101,114]:=λ e=>h (by simp[ny,e]);have h25:¬s=[114,111,108,108,98,97,99,107]:=λ e=>h (by simp[ny,e]);have h26:¬s=[115,101,108,101,99,116]:=λ e=>h (by simp[ny,e]);have h27:¬s=[115,101,116]:=λ e=>h (by simp[ny,e]);have h28:¬s=[116,97,98,108,101]:=λ e=>h (by simp[ny,e]);have h29:¬s=[116,101,120,116]:=λ e=>h (by simp[ny,e]);have h30:¬s=[116,114,117,101]:=λ e=>h (by simp[ny,e]);have h31:¬s=[117,110,105,113,117,101]:=λ e=>h (by simp[ny,e]);have h32:¬s=[117,112,100,97,116,101]:=λ e=>h (by simp[ny,e]);have h33:¬s=[118,97,108,117,101,115]:=λ e=>h (by simp[ny,e]);have h34:¬s=[119,104,101,114,101]:=λ e=>h (by simp[ny,e]);simp[A192,hF,h0,h1,h2,h3,h4,h5,h6,h7,h8,h9,h10,h11,h12,h13,rq,h15,kK,h17,h18,h19,h20,h21,h22,h23,HN,h25,h26,h27,h28,h29,h30,h31,h32,h33,h34];exact .bool (by simp[h])
def cO (s:List Nat):Prop:=fH s/\s∉ny
theorem qD (s:List Nat):aj pG 109 [.str s] (.bool (decide (cO s))):=by
 refine pv c109 λ F hF=>?_;unfold cO;simp[A109,hF];refine aB.pure (name44 s) ?_
 by_cases h:fH s
 ·simp[h,hF];refine aB.pure (ajz s) ?_;simp;exact .bool ai
 simp[h];exact .bool ai
theorem ajH (a b:Int):aj pG 110 [zI a,zI b] (.bool (decide (1<=a/\a<=b))):=by
 refine pv c110 λ F hF=>?_
 by_cases h:1<=a
 ·simp[A110,hF,h];exact .bool ai
 simp[A110,hF,h];exact .bool ai
def jX (l:List q7):Prop:=l≠[]/\l.length<=16/\∀i (h:i<l.length),fH l[i].name/\(1<=l[i].kind/\l[i].kind<=3)/\∀j (hj:j<i),(l[j]'ah).name≠l[i].name
theorem ag6 (l:List q7):aj pG 82 [dV.ds l] (.bool (decide (jX l))):=by
 refine pv c82 λ F hF=>?_
 by_cases h0:l=[]
 ·have:¬jX l:=λ h=>h.1 h0;simp[A82,hF,bf.aT,h0];exact .bool (by subst h0;simp[this])
 by_cases kK:l.length<=16
 ·simp[A82,hF,bf.aT,h0,show ¬(16:Int)<(l.length:Int) by omega];refine aF.of (λ t F K n ms=>∃i,t=l.length - i/\i<=l.length/\F.get 0=some (dV.ds l)/\F.get 15=some (dV.ds l)/\F.get 16=some (zI (l.length:Int))/\F.get 17=some (zI (i:Int))/\ms=[]/\∀k (h:k<l.length),k<i->fH l[k].name/\(1<=l[k].kind/\l[k].kind<=3)/\∀j (hj:j<k),(l[j]'ah).name≠l[k].name) l.length ⟨0,by simp[hF]⟩ ?_;rintro t F K n ms ⟨i,rfl,hi,f0,f15,f16,f17,rfl,hk⟩
  by_cases hlt:i<l.length
  ·have hx := dV.ix (ik:=.i64) hlt;have hld:=dV.pT l[i] (dV.l (l.drop (i+1))) K;simp only[uS,bf.av,cons_append,nil_append]at hx hld;have hsl:=dV.TV (l:=l) (i:=i) hi;simp[adJ,f16,f17,hlt,f15,hx,hld];refine aB.pure (name44 l[i].name) ?_;have no:¬(fH l[i].name/\(1<=l[i].kind/\l[i].kind<=3))->¬jX l:=λ h h2=>h ⟨(h2.2.2 i hlt).1,(h2.2.2 i hlt).2.1⟩
   by_cases hn:fH l[i].name
   ·by_cases h1:l[i].kind<1
    ·have:=no λ h=>ah;simp[hn,h1,QO];exact .bool (by simp[this])
    by_cases h3:3<l[i].kind
    ·have:=no λ h=>ah;simp[hn,h1,h3,QO];exact .bool (by simp[this])
    simp[hn,h1,h3,ah9,f0,wq,vB,hsl,bf.aT,Nat.min_eq_left hi];refine aF.of (λ t F K' n' ms=>∃j,t=i - j/\j<=i/\F.get 0=some (dV.ds l)/\F.get 15=some (dV.ds l)/\F.get 16=some (zI (l.length:Int))/\F.get 17=some (zI (i:Int))/\F.get 4=some (.ptr n 0)/\F.get 38=some (dV.ds (l.take i))/\F.get 39=some (zI (i:Int))/\F.get 40=some (zI (j:Int))/\n<n'/\K'.get n=aN 3 [.str l[i].name,zI l[i].kind,.bool l[i].need]/\ms=[]/\∀q (h:q<j) (h2:q<l.length),l[q].name≠l[i].name) i ⟨0,by simp[f0,f15,f16,f17]⟩ ?_;clear f0 f15 f16 f17 F;rintro t F K' n' ms ⟨j,rfl,hj,f0,f15,f16,f17,f4,f38,f39,f40,hn',hb,rfl,hq⟩
    by_cases hji:j<i
    ·have hjt:j<(l.take i).length:=by simp;omega
     have hx:=dV.ix (ik:=.i64) hjt;have hld:=dV.pT (l.take i)[j] (dV.l ((l.take i).drop (j+1))) K';have hjl:(l.take i)[j]=l[j]:=by rw[getElem_take]
     rw[hjl]at hx hld;simp only[uS,bf.av,cons_append,nil_append]at hx hld;have hne:¬n=n':=ah;simp[adK,f39,f40,hji,f38,hx,hld,f4,hb,hne]
     by_cases he:l[j].name=l[i].name
     ·have:¬jX l:=λ h=>(h.2.2 i hlt).2.2 j hji he;simp[he,aaa];exact .bool (by simp[this])
     simp[he,Z',f0,f15,f16,f17,f4,f38,f39,f40,hb,hne,aE j ah];refine⟨i - (j+1),ah,j+1,rfl,hji,rfl,ah,λ q h h2=>?_⟩
     by_cases e:q=j
     ·subst e;exact he
     exact hq q ah h2
    obtain rfl:j=i:=ah;simp[adK,f39,f40,Z_,f0,f15,f16,f17,aE j ah];refine⟨l.length - (j+1),ah,j+1,rfl,hlt,rfl,λ k h hkj=>?_⟩
    by_cases e:k=j
    ·subst e;exact⟨hn,⟨ah,ah⟩,λ q hq'=>hq q hq' ah⟩
    exact hk k h ah
   have:=no λ h=>hn h.1;simp[hn,QO];exact .bool (by simp[this])
  obtain rfl:i=l.length:=ah;have:jX l:=⟨h0,kK,λ k h=>hk k h h⟩;simp[adJ,f16,f17,Z9];exact .bool (by simp[this])
 have:¬jX l:=λ h=>kK h.2.1;simp[A82,hF,bf.aT,h0,show (16:Int)<(l.length:Int) by omega];exact .bool (by simp[this])
theorem Yi {α:Type} [DecidableEq α] {g:FuncId}(E:bf α 1)(el:α->AV)(hE:∀a,E.cells a=[el a])(heq:∀a b,kG false .num (el a) (el b)=.val (.bool (decide (a=b))))(hel:∀a,Pure (el a))(hc:KE pG g=some A134)(l:List α)(x:α)(hl:l.length<=aU):aj pG g [E.ds l,el x] (zI (lJ (λ y=>decide (x=y)) l)):=by
 refine gf hc (by simp[hel]) ai (by simp[A134]) λ F hF=>?_;unfold aU at hl;simp[A134,hF,bf.aT];refine aF.of (λ t F K n ms=>∃i,t=l.length - i/\i<=l.length/\F.get 0=some (E.ds l)/\F.get 1=some (el x)/\F.get 7=some (zI (l.length:Int))/\F.get 8=some (zI (i:Int))/\ms=[]/\∀j (hj:j<i) (h:j<l.length),decide (x=l[j])=false) l.length ⟨0,by simp[hF]⟩ ?_;rintro t F K n ms ⟨i,rfl,hi,f0,f1,f7,f8,rfl,hj⟩
 by_cases hlt:i<l.length
 ·have hx:=E.ix (ik:=.i64) hlt;rw[hE]at hx;have hld:∀r H,cN (.dp ([el l[i]]++r)) H=.val (el l[i]):=λ r H=>rfl;simp[OD,f7,f8,hlt,f0,f1,hx];simp only[cons_append,nil_append]at hld;simp[heq]
  by_cases he:x=l[i]
  ·simp[he,adt];refine .eq ai ?_
   congr 1
   exact(uK hlt ai λ j hj'=>by have:=hj j hj' ah;rw[he]at this;exact this).symm
  simp[he,ads,f0,f1,f7,f8,aE i ah];refine⟨l.length - (i+1),ah,i+1,rfl,hlt,rfl,λ j hj' h=>?_⟩
  by_cases e:j=i
  ·subst e;exact he
  simpa using hj j ah h
 obtain rfl:i=l.length:=ah;simp[OD,f7,f8,adr];refine .eq ai ?_
 congr 1
 exact(BF λ j h=>hj j h h).symm
theorem afJ (l:List (List Nat))(x:List Nat)(hl:l.length<=aU):aj pG 134 [dz.ds l,.str x] (zI (lJ (λ y=>decide (x=y)) l)):=Yi dz .str (λ _=>rfl) (λ a b=>ai) (λ _=>ai) c134 l x hl
theorem Ys (l:List Int)(x:Int)(hl:l.length<=aU):aj pG 226 [dA.ds l,zI x] (zI (lJ (λ y=>decide (x=y)) l)):=Yi dA (.int .i64) (λ _=>rfl) (λ a b=>ai) (λ _=>ai) c226 l x hl
theorem KH (l:List (List Nat))(x:List Nat)(hl:l.length<=aU):aj pG 120 [dz.ds l,.str x] (.bool (decide (x∈l))):=by
 refine pv c120 λ F hF=>?_;simp[A120,hF];refine aB.pure (afJ l x hl) ?_;simp;refine .bool ?_;rw[yF,Bool.eq_iff_iff];simp
theorem KG (l:List Int)(x:Int)(hl:l.length<=aU):aj pG 162 [dA.ds l,zI x] (.bool (decide (x∈l))):=by
 refine pv c162 λ F hF=>?_;simp[A162,hF];refine aB.pure (Ys l x hl) ?_;simp;refine .bool ?_;rw[yF,Bool.eq_iff_iff];simp
def Ex.bare (op:Int):Ex->Prop
 |.mk o v t m cD args=>o=op/\(v.kind=0/\v.num=0/\v.s=[])/\t=[]/\m=[]/\cD=0/\args=[]
theorem Lc (e:Ex) (op:Int):aj pG 193 [e.av,zI op] (.bool (decide (e.bare op))):=by
 obtain⟨o,⟨k,a,s⟩,t,m,cD,args⟩:=e;refine pv c193 λ F hF=>?_;simp only[Ex.bare]
 by_cases h1:o=op
 ·by_cases h2:k=0/\a=0/\s=[]
  ·by_cases h3:t=[]
   ·by_cases h4:m=[]
    ·by_cases h5:cD=0
     ·simp[A193,hF,Ex.av,Ex.cells,h1,h2,h3,h4,h5];exact .bool ai
     simp[A193,hF,Ex.av,Ex.cells,h1,h2,h3,h4,h5];exact .bool ai
    simp[A193,hF,Ex.av,Ex.cells,h1,h2,h3,h4];exact .bool ai
   simp[A193,hF,Ex.av,Ex.cells,h1,h2,h3];exact .bool ai
  have h2':(decide (k=0)&&(decide (a=0)&&decide (s=[])))=false:=by simpa using λ a b c=>h2 ⟨a,b,c⟩
  simp[A193,hF,Ex.av,Ex.cells,h1,h2'];exact .bool ai
 simp[A193,hF,Ex.av,Ex.cells,h1];exact .bool ai
theorem wK (e:Ex):aj pG 194 [e.av] (.bool (decide (e.bare 0))):=by
 refine pv c194 λ F hF=>?_;simp[A194,hF];refine aB.pure (Lc e 0) ?_;simp;exact .bool ai
mutual
def Ex.may:Ex->Bool
 |.mk op v t m cD args=>if op=1 then decide (t=[]/\m=[]/\cD=0/\args=[])&&(v.may&&(decide (v.kind≠1)||decide (0<=v.num)))
  else if op=2 then decide (cO m)&&((decide (t=[])||decide (cO t))&&decide ((v.kind=0/\v.num=0/\v.s=[])/\cD=0/\args=[]))
  else decide (4<=op/\op<=21)&&(decide ((args.length:Int)=if op<=7 then 1 else 2)&&(decide ((v.kind=0/\v.num=0/\v.s=[])/\t=[]/\m=[]/\cD=0)&&Ex.wc args))
def Ex.wc:List Ex->Bool
 |[]=>true
 |e::r=>e.may&&Ex.wc r
end
theorem Ex.Hu {l:List Ex}(h:Ex.wc l=true):∀i (hi:i<l.length),l[i].may=true:=by
 induction l with
 |nil=>intro i hi;simp at hi
 |cons e r ih =>
  simp[Ex.wc]at h;intro i hi
  cases i with
  |zero=>exact h.1
  |succ i=>exact ih h.2 i (by simpa using hi)
theorem Ex.aft {l:List Ex}(h:∀i (hi:i<l.length),l[i].may=true):Ex.wc l=true:=by
 induction l with
 |nil=>rfl
 |cons e r ih =>
  simp only[Ex.wc,dU];exact⟨h 0 ai,ih λ i hi=>h (i+1) (by simpa using hi)⟩
theorem Ex.X3 {l:List Ex}{i:Nat}(hi:i<l.length)(h:l[i].may=false):Ex.wc l=false:=by
 cases hr:Ex.wc l with
 |false=>rfl
 |true=>rw[Ex.Hu hr i hi]at h;cases h
theorem X4 : ∀ (N : Nat) (e:Ex),e.sz<=N->N<=aU->aj pG 111 [e.av] (.bool e.may)
 |0,e,h,_=>by have:=Ex.kQ e;omega
 |N + 1, .mk op v t m cD args,ha,hN=>by
  simp only[Ex.sz]at ha;have hla:=Ex.rJ args;refine pv c111 λ F hF=>?_;simp only[Ex.may]
  by_cases h1:op=1
  ·subst h1;obtain⟨k,a,s⟩:=v;rw[ay rfl];generalize hR:(decide (t=[]/\m=[]/\cD=0/\args=[])&&((Val.mk k a s).may&&(decide (k≠1)||decide (0<=a))))=R;simp[A111,hF,Ex.av,Ex.cells];refine aB.pure (Lc (.mk 1 ⟨0,0,[]⟩ t m cD args) 1) ?_;simp only[Ex.bare]
   by_cases hb:t=[]/\m=[]/\cD=0/\args=[]
   ·simp[hb];refine aB.pure (mT ⟨k,a,s⟩) ?_
    cases hm:(Val.mk k a s).may with
    |false =>
     simp;exact .bool (by rw[<-hR,hm];simp)
    |true =>
     by_cases hk:k=1
     ·simp[hk];exact .bool (by rw[<-hR,hm];simp[hk,hb])
     simp[hk];exact .bool (by rw[<-hR,hm];simp[hk,hb])
   simp[hb];exact .bool (by rw[<-hR,decide_eq_false hb,Bool.false_and])
  by_cases h2:op=2
  ·subst h2;rw[ak ah,ay rfl];generalize hR:(decide (cO m)&&((decide (t=[])||decide (cO t))&&decide ((v.kind=0/\v.num=0/\v.s=[])/\cD=0/\args=[])))=R;simp[A111,hF,Ex.av,Ex.cells];refine aB.pure (qD m) ?_
   have tail:∀(b:Bool),b=(decide (cO m)&&(decide (t=[])||decide (cO t)))->∀(F':Fr) (K:Hp) (n:Nat) (Q:QA),F'.get 5=some (.bool b)->F'.get 1=some (.ptr 0 0)->K.get 0=some (.cells 8 [] (Ex.mk 2 v t m cD args).cells .nil)->(∀F2 K2 n2,F2.get 2=some (.bool R)->Q .ret F2 K2 n2 [])->VC pG F9 F' K n [] (nj pG (.seq F8 .ret) Q):=by
    intro b hb F' K n Q g5 g1 hK hQ;obtain⟨k,a,s⟩:=v;rw[<-Bool.and_assoc,<-hb]at hR;simp only[Ex.cells]at hK
    cases b with
    |false =>
     simp[F9,F8,g5,g1,hK];exact hQ _ _ _ (by rw[<-hR];simp)
    |true =>
     simp[F9,F8,g5,g1,hK];refine aB.pure (Lc (.mk 2 ⟨k,a,s⟩ [] [] cD args) 2) ?_;simp;exact hQ _ _ _ (by rw[<-hR];simp[Ex.bare])
   have fin:∀F2 (K2:Hp) (n2:Nat),F2.get 2=some (.bool R)->ig 0 (nj pG (.seq (.seq kJ (.cond (aA 109) (.seq lZ .ret) .skip)) (.seq (.seq xd (.block 1 (.loop zW))) (.seq xb .ret))) (kH [aH 2] λ v1 H' _=>fj H'.get v1 (.bool R))) .ret F2 K2 n2 []:=by
    intro F2 K2 n2 h;simp[h];exact .bool rfl
   by_cases hm:cO m
   ·by_cases ht:t=[]
    ·simp[hm,ht];refine tail true (by simp[hm,ht]) _ _ _ _ ai ai (by simp[Ex.cells,ht]) fin
    simp[hm,ht];refine aB.pure (qD t) ?_;simp;exact tail (decide (cO t)) (by simp[hm,ht]) _ _ _ _ ai ai (by simp[Ex.cells]) fin
   simp[hm];exact tail false (by simp[hm]) _ _ _ _ ai ai (by simp[Ex.cells]) fin
  rw[ak h1,ak h2];generalize hR:(decide (4<=op/\op<=21)&&(decide ((args.length:Int)=if op<=7 then 1 else 2)&&(decide ((v.kind=0/\v.num=0/\v.s=[])/\t=[]/\m=[]/\cD=0)&&Ex.wc args)))=R
  have body : ∀ (wn:Int),wn=(if op<=7 then 1 else 2)->(4<=op/\op<=21)->∀F':Fr,F'.get 1=some (.ptr 0 0)->F'.get 3=some (zI wn)->∀K:Hp,K.get 0=some (.cells 8 [] (Ex.mk op v t m cD args).cells .nil)->∀n,0<n ->
    VC pG (.seq (.seq kJ (.cond (aA 109) (.seq lZ .ret) .skip)) (.seq (.seq xd (.block 1 (.loop zW))) (.seq xb .ret))) F' K n [] (kH [aH 2] λ v1 H' _=>fj H'.get v1 (.bool R)):=by
   intro wn hw hr F' g1 g3 K hK n hn;rw[<-hw,decide_eq_true hr,Bool.true_and]at hR;obtain⟨k,a,s⟩:=v;simp only[Ex.cells]at hK
   by_cases hlen:(args.length:Int)=wn
   ·by_cases hv : k=0/\a=0/\s=[]
    ·by_cases ht:t=[]
     ·by_cases hm:m=[]
      ·by_cases hc:cD=0
       ·simp[kJ,g1,g3,hK,hlen,hv,ht,hm,hc,xd];obtain⟨rfl,rfl,rfl⟩:=hv;subst ht hm hc;have hR':Ex.wc args=R:=by rw[<-hR];simp[hlen]
        unfold aU at hN;refine aF.of (λ q F K n' ms=>∃i,q=args.length - i/\i<=args.length/\F.get 111=some (.ds (Ex.aK args) args.length 8)/\F.get 112=some (zI (args.length:Int))/\F.get 113=some (zI (i:Int))/\ms=[]/\∀j (hj:j<i) (h:j<args.length),args[j].may=true) args.length ⟨0,by simp[hlen]⟩ ?_;clear g1 g3 hK hF F F';rintro q F K n' ms ⟨i,rfl,hi,f111,f112,f113,rfl,hj⟩
        by_cases hlt:i<args.length
        ·have hx:=nV (k:=.i64) hlt;have m1:=Ex.rI (dy hlt);simp[zW,f112,f113,hlt,f111,hx];refine aB.pure (X4 N args[i] ah (by unfold aU;omega)) ?_
         cases hr':args[i].may with
         |true =>
          simp[Tf,f111,f112,f113,aE i ah];refine⟨args.length - (i+1),ah,i+1,rfl,hlt,ah,λ j hj' h=>?_⟩
          by_cases e:j=i
          ·subst e;exact hr'
          exact hj j ah h
         |false =>
          simp[Ti];exact .bool (by rw[<-hR',Ex.X3 hlt hr'])
        obtain rfl:i=args.length:=ah;simp[zW,f112,f113,xb];exact .bool (by rw[<-hR',Ex.aft λ j h=>hj j h h])
       simp[kJ,g1,g3,hK,hlen,hv,ht,hm,hc,lZ];exact .bool (by rw[<-hR];simp[hc])
      simp[kJ,g1,g3,hK,hlen,hv,ht,hm,lZ];exact .bool (by rw[<-hR];simp[hm])
     simp[kJ,g1,g3,hK,hlen,hv,ht,lZ];exact .bool (by rw[<-hR];simp[ht])
    have hv':(decide (k=0)&&(decide (a=0)&&decide (s=[])))=false:=by simpa using λ a b c=>hv ⟨a,b,c⟩
    simp[kJ,g1,g3,hK,hlen,hv',lZ];exact .bool (by rw[<-hR];simp[hv])
   simp[kJ,g1,g3,hK,hlen,lZ];exact .bool (by rw[<-hR];simp[hlen])
  by_cases hr:4<=op/\op<=21
  ·obtain⟨r1,r2⟩:=hr
   by_cases h7:op<=7
   ·have:op=4∨op=5∨op=6∨op=7:=ah
    rcases this with rfl|rfl|rfl|rfl<;>(simp[A111,hF,Ex.av,Ex.cells];simpa using body 1 ai ah _ ai ai _ (by simp[Ex.cells]) _ ah)
   have n4:¬op=4:=ah;have n5:¬op=5:=ah;have n6:¬op=6:=ah;have n7:¬op=7:=ah;simp[A111,hF,Ex.av,Ex.cells,h1,h2,n4,n5,n6,n7,show ¬op<8 by omega,show ¬ 21<op by omega];simpa using body 2 (by simp[h7]) ⟨r1,r2⟩ _ ai ai _ (by simp[Ex.cells]) _ ah
  have n4:¬op=4:=ah;have n5:¬op=5:=ah;have n6:¬op=6:=ah;have n7:¬op=7:=ah
  by_cases l8:op<8
  ·simp[A111,hF,Ex.av,Ex.cells,h1,h2,n4,n5,n6,n7,l8];exact .bool (by rw[<-hR,decide_eq_false hr,Bool.false_and])
  simp[A111,hF,Ex.av,Ex.cells,h1,h2,n4,n5,n6,n7,l8,show 21<op by omega];exact .bool (by rw[<-hR,decide_eq_false hr,Bool.false_and])
theorem X5 (e:Ex)(h:e.sz<=aU):aj pG 111 [e.av] (.bool e.may):=X4 aU e h (aL _)
def bR.kinds (t:bR):List Int:=t.cols.map (·.kind)
def aI (l:List bR):List Int:=l.flatMap bR.kinds
theorem jH {l:List bR}{i:Nat}(h:i<l.length):aI (l.take (i+1))=aI (l.take i)++l[i].kinds:=by
 rw[take_add_one,cY h];simp only[aI,flatMap_append,Option.toList,flatMap_cons,flatMap_nil,append_nil]
theorem qF (l:List bR)(i:Nat):(aI (l.take i)).length<=(aI l).length:=by
 conv=>rhs;rw[<-take_append_drop i l]
 simp only[aI,flatMap_append,length_append];omega
theorem JV {l:List q7}{j:Nat}(h:j<l.length):(l.take (j+1)).map (·.kind)=(l.take j).map (·.kind)++[l[j].kind]:=by
 rw[take_add_one,cY h];simp only[map_append,Option.toList,map_cons,map_nil]
def oN (ns:List (List Nat))(ts:List bR):List AV:=[dz.ds ns,aM.ds ts]
theorem afB (ns:List (List Nat)) (ts:List bR) (hl:(aI ts).length<=aU) (ht:ts.length<=aU) (hc:∀t∈ts,t.cols.length<=aU):
  ao pG 196 [.agg (oN ns ts) 2] .nil 0 (λ v K k=>aD K k v (cU (aI ts)) (aI ts).length 1):=by
 unfold aU at hl ht hc;refine ao.of c196 (by simp[A196]) λ F hF=>?_;simp[A196,hF,oN,bf.aT];refine aF.of (λ q F K n ms=>∃(i:Nat) (v:AV),q=ts.length - i/\i<=ts.length/\F.get 3=some v/\F.get 9=some (aM.ds ts)/\F.get 10=some (zI (ts.length:Int))/\F.get 11=some (zI (i:Int))/\aD K n v (cU (aI (ts.take i))) (aI (ts.take i)).length 1/\ms=[]) ts.length ⟨0,.aV (.slice none 0 0),ai,ai,ai,ai,ai,ai,by simpa[aI,cU]using aD.nil _ _ 1,rfl⟩ ?_;clear hF F;rintro q F K n ms ⟨i,v,rfl,hi,f3,f9,f10,f11,ho,rfl⟩
 by_cases hlt:i<ts.length
 ·have hx:=aM.ix (ik:=.i64) hlt;have hld:=λ H=>aM.pT ts[i] (aM.l (ts.drop (i+1))) H;have hcl:=hc ts[i] (dy hlt);have hkl:=qF ts (i+1);rw[jH hlt]at hkl;simp[Ou,f9,f10,f11,hlt,hx,hld,bf.av];simp[fc,bf.aT];refine aF.of (λ q F K n ms=>∃(j:Nat) (v:AV),q=ts[i].cols.length - j/\j<=ts[i].cols.length/\F.get 3=some v/\F.get 9=some (aM.ds ts)/\F.get 10=some (zI (ts.length:Int))/\F.get 11=some (zI (i:Int))/\F.get 16=some (dV.ds ts[i].cols)/\F.get 17=some (zI (ts[i].cols.length:Int))/\F.get 18=some (zI (j:Int))/\aD K n v (cU (aI (ts.take i)++(ts[i].cols.take j).map (·.kind))) (aI (ts.take i)++(ts[i].cols.take j).map (·.kind)).length 1/\ms=[]) ts[i].cols.length ⟨0,v,ai,ai,by simp[f3],by simp[f9],by simp[f10],by simp[f11],ai,ai,ai,?_,rfl⟩ ?_
  ·simp
   exact ho.frame ah λ c hc=>by
    have:=ho.db hc;have q1:¬c=n:=ah;simp[q1]
  clear f3 f9 f10 f11 ho F v K n hx hld;rintro q F K n ms ⟨j,v,rfl,hj,f3,f9,f10,f11,f16,f17,f18,ho,rfl⟩
  by_cases hjl:j<ts[i].cols.length
  ·have hx:=dV.ix (ik:=.i64) hjl;have hld:=λ H=>dV.pT ts[i].cols[j] (dV.l (ts[i].cols.drop (j+1))) H;simp[Ox,f16,f17,f18,hjl,hx,hld,bf.av];simp[acY,f3,uS];have hbl:=λ c hc=>ho.db (c:=c) hc;generalize hH1:Tr.put _ (n+1) _=H1
   have ho2:aD H1 (n+1+1) v (cU (aI (ts.take i)++(ts[i].cols.take j).map (·.kind))) (aI (ts.take i)++(ts[i].cols.take j).map (·.kind)).length 1:=ho.frame ah λ c hc=>by
    have:=hbl c hc;have q1:¬c=n:=ah;have q2:¬c=n+1:=ah;rw[<-hH1];simp[q1,q2]
   have hw:H1.get (n+1)=aN 1 (cU [ts[i].cols[j].kind]):=by rw[<-hH1];simp[cU]
   clear hH1
   have hsc:aX H1 1 (.sl (n+1) 0 1 1)=some (cU [ts[i].cols[j].kind]):=by
    rw[bU hw (OwnB.list ai) ai];simp[cU]
   have hjl2:(aI (ts.take i)++(ts[i].cols.take j).map (·.kind)).length<=1048576:=by
    have h1:((ts[i].cols.take j).map (·.kind)).length<=ts[i].kinds.length:=by simp[bR.kinds];omega
    simp only[length_append]at hkl ⊢;omega
   refine aD.app (k:=1) (new:=cU [ts[i].cols[j].kind]) ho2 hsc ai ai ah ah (by unfold big;omega) ah ai λ H' o' _=>?_;simp[acX,f18,aE j ah];refine⟨_,ah,j+1,rfl,ah,f9,f10,f11,f16,f17,ai,?_⟩;have hk:=JV hjl;rw[map_take]at hk;rw[hk,<-append_assoc,tO];have e1:(aI (ts.take i)).length+min (j+1) ts[i].cols.length=(aI (ts.take i)).length+min j ts[i].cols.length+1:=ah;rw[e1];simpa using o'
  have hje:j=ts[i].cols.length:=ah;rw[hje,take_length]at ho;simp[Ox,SI,f11,f17,f18,hje,aE i ah];refine⟨_,ah,i+1,rfl,ah,v,f3,f9,f10,ai,?_⟩;rw[jH hlt];exact ho
 have hie:i=ts.length:=ah;subst hie;rw[take_length]at ho;simp[Ou,SH,f3,f10,f11];exact ho
theorem XW (c:q7)(s:List Nat)(b:Nat)(H:Hp)(n:Nat)(hb:H.get b=aN 1 [.str s])(ht:dm H n):ao pG 262 [dV.av c,.ptr b 0] H n (λ u K k=>u=.bool (decide (c.name=s))/\K=H/\k=n):=by
 refine ao.forget ai (ao.of c262 (by simp[A262]) λ F hF=>?_);have q:¬b=n:=by have:=ht.lt hb;omega
 simp[A262,hF,bf.av,uS,q,hb];rintro c hc rfl;exact aw (ht _ (aL _)) hc
def gX (table name:List Nat):List (List Nat×bR)->Nat->Int->Bool->Int×Int
 |[],_,found,src=>if 0<=found then (found,0)else if table≠[]/\src=false then (0,200)else (0,201)
 |(n,t)::r,at0,found,src =>
  if (table=[]∨n=table)/\0<=lJ (λ c:q7=>decide (c.name=name)) t.cols then
   (if 0<=found then (0,205)else gX table name r (at0+t.cols.length) ((at0:Int)+lJ (λ c:q7=>decide (c.name=name)) t.cols) true)
  else gX table name r (at0+t.cols.length) found (src||decide (table=[]∨n=table))
set_option maxHeartbeats 4000000 in
theorem aeZ (ns:List (List Nat)) (ts:List bR) (table name:List Nat) (hn:ns.length=ts.length) (hl:(aI ts).length<=aU) (ht:ts.length<=aU) (hc:∀t∈ts,t.cols.length<=aU):
  aj pG 198 [.agg (oN ns ts) 2,.str table,.str name] (.br [zI (gX table name (ns.zip ts) 0 (-1) false).1,zI (gX table name (ns.zip ts) 0 (-1) false).2]):=by
 unfold aU at hl ht;refine gf c198 (by simp[oN]) ai (by simp[A198]) λ F hF=>?_;simp[A198,hF,oN,bf.aT];refine aF.of (λ q F K n ms=>∃(i:Nat) (found:Int) (src:Bool),q=ts.length - i/\i<=ts.length/\F.get 1=some (.str table)/\F.get 3=some (.ptr 0 0)/\F.get 5=some (.ptr 1 0)/\F.get 8=some (zI ((aI (ts.take i)).length:Int))/\F.get 9=some (zI found)/\F.get 10=some (.bool src)/\F.get 16=some (aM.ds ts)/\F.get 17=some (zI (ts.length:Int))/\F.get 18=some (zI (i:Int))/\dm K n/\K.get 0=aN 2 [dz.ds ns,aM.ds ts]/\K.get 1=aN 1 [.str name]/\found<1048577/\gX table name (ns.zip ts) 0 (-1) false=gX table name ((ns.zip ts).drop i) (aI (ts.take i)).length found src/\ms=[]) ts.length ⟨0,-1,false,ai,ai,by simp[hF],ai,ai,by simp[aI],ai,ai,ai,ai,ai,λ c hc=>?_,ai,ai,ah,by simp[aI],rfl⟩ ?_
 ·have q0:¬c=0:=ah;have q1:¬c=1:=ah;simp[q0,q1]
 clear hF F;rintro q F K n ms ⟨i,found,src,rfl,hi,f1,f3,f5,f8,f9,f10,f16,f17,f18,tp,k0,k1,hfo,he,rfl⟩
 by_cases hlt:i<ts.length
 ·have hx:=aM.ix (ik:=.i64) hlt;have hld:=λ H=>aM.pT ts[i] (aM.l (ts.drop (i+1))) H;have hsx:=dz.ix (l:=ns) (i:=i) (ik:=.i64) ah;simp[zT,f16,f17,f18,hlt,hx,hld,bf.av];have n0:=tp.lt k0;have n1:=tp.lt k1;have q0:¬n=0:=ah;have q1:¬n=1:=ah;have q0':¬ 0=n:=ah;have q1':¬ 1=n:=ah;rw[Y3]at hsx;generalize hH1:Tr.put _ n _=H1;have hk1:H1.get 1=aN 1 [.str name]:=by rw[<-hH1];simp[q1',k1]
  have hk0:H1.get 0=aN 2 [dz.ds ns,aM.ds ts]:=by rw[<-hH1];simp[q0',k0]
  have hkn:H1.get n=aN 4 (aM.cells ts[i]):=by rw[<-hH1];simp
  have tp1:dm H1 (n+1):=by
   intro c hc;have q:¬c=n:=ah;rw[<-hH1];simp[q,tp c ah]
  clear hH1;rw[fc]at hkn;have hcl:=hc ts[i] (dy hlt)
  have hidx:ao pG 118 [dV.ds ts[i].cols,.fn (.func 262) [] [.ptr 1 0]] H1 (n+1) (λ u K k=>u=zI (lJ (λ c:q7=>decide (c.name=name)) ts[i].cols)/\K=H1/\k=n+1):=
   rZ (el:=dV.av) (first:=[]) (cap:=[.ptr 1 0]) c118 hcl (dV.aT _) (λ i h=>⟨_,dV.ix h,λ F H n rq=>by simp[rq,dV.pT]⟩) λ x _=>XW x name 1 H1 (n+1) hk1 tp1
  have hkb:lJ (λ c:q7=>decide (c.name=name)) ts[i].cols<(ts[i].cols.length:Int):=by
   unfold lJ
   split
   ·rename_i q hq;have:=(findIdx?_eq_some_iff_findIdx_eq.1 hq).1;omega
   omega
  have hst:(ns.zip ts).drop i=(ns[i]'ah,ts[i])::(ns.zip ts).drop (i+1):=by
   rw[gu (by simp;omega)];simp
  rw[hst,gX]at he;have hkl:=qF ts (i+1);rw[jH hlt,length_append]at hkl;have hkc:ts[i].kinds.length=ts[i].cols.length:=by simp[bR.kinds]
  have hkt:(aI (ts.take (i+1))).length=(aI (ts.take i)).length+ts[i].cols.length:=by rw[jH hlt,length_append,hkc]
  have w1:IntKind.i64.wrap (((aI (ts.take i)).length:Int)+(ts[i].cols.length:Int))=((aI (ts.take (i+1))).length:Int):=by
   rw[hkt];simp[IntKind.wrap,IntKind.signed,IntKind.bits];omega
  have w2:∀kk:Int,0<=kk->kk<(ts[i].cols.length:Int)->IntKind.i64.wrap (((aI (ts.take i)).length:Int)+kk)=((aI (ts.take i)).length:Int)+kk:=λ kk h1 h2=>by
   simp[IntKind.wrap,IntKind.signed,IntKind.bits];omega
  generalize hkk:lJ (λ c:q7=>decide (c.name=name)) ts[i].cols=kk at hidx hkb he
  by_cases ht0:table=[]<;>by_cases hb:ns[i]'ah=table<;>cases src<;>simp[acU,acT,acS,f1,f3,f5,f10,hk0,hkn,hsx,ht0,hb]
  all_goals refine aB.same hidx ?_
  all_goals by_cases hk:0<=kk
  all_goals by_cases hf:0<=found
  all_goals simp[ht0,hb,hk,hf]at he
  all_goals simp[acR,acQ,SA,Sz,Su,Sr,hk,hf,f8,f9,f18,hkn,dV.aT,w1,w2 kk,hkb,aE i ah]
  all_goals first
   |(rw[he];exact fp)
   |skip
  all_goals exact⟨_,ah,i+1,rfl,ah,by first|exact f1|rw[f1,ht0],f3,f5,rfl,f16,f17,ai,tp1,hk0,hk1,ah,by rw[hkt];first|exact he|simpa using he⟩
 have hie:i=ts.length:=ah;have hdr:(ns.zip ts).drop i=[]:=drop_eq_nil_of_le (by simp;omega);rw[hdr,gX]at he
 by_cases hf:0<=found
 ·simp[hf]at he;simp[zT,wY,Sm,f9,f17,f18,hie,hf];rw[he];exact fp
 by_cases ht0:table=[]
 ·simp[hf,ht0]at he;simp[zT,wY,FH,FG,f1,f9,f17,f18,hie,hf,ht0];rw[he];exact fp
 cases src<;>simp[hf,ht0]at he<;>simp[zT,wY,FH,Sl,FG,f1,f9,f10,f17,f18,hie,hf,ht0]<;>rw[he]<;>exact fp
mutual
theorem Pure.jQ {n:Nat}:∀ {v:AV},Pure v->iF n v
 |.int _ _,_=>ai
 |.bool _,_=>ai
 |.str _,_=>ai
 |.aV _,_=>ai
 |.agg cs _,h=>by simpa using aS.jQ (by simpa using h)
 |.br cs,h=>by simpa using aS.jQ (by simpa using h)
 |.ds cs _ _,h=>by simpa using aS.jQ (by simpa using h)
 |.dp cs,h=>by simpa using aS.jQ (by simpa using h)
 |.oQ _ v,h=>by simpa using Pure.jQ (v:=v) (by simpa only [Pure]using h)
 |.fn _ a b,h=>by
  have h:aS a/\aS b:=by simpa[Pure]using h
  simpa[iF]using⟨aS.jQ h.1,aS.jQ h.2⟩
theorem aS.jQ {n:Nat}:∀ {l:List AV},aS l->dO n l
 |[],_=>ai
 |v::r,h=>by
  have h:Pure v/\aS r:=by simpa using h
  simpa using⟨Pure.jQ h.1,aS.jQ h.2⟩
end
def keep (err e:Int)(is:Bool):Int:=if is=true/\err=0 then e else err
theorem af6 (p:Nat)(v1 v2:AV)(err e:Int)(is:Bool)(H:Hp)(n:Nat)(hp:H.get p=aN 3 [v1,v2,zI err]):
  ao pG 50 [.ptr p 0,zI e,.bool is] H n (λ u K k=>u=.br []/\K.get p=aN 3 [v1,v2,zI (keep err e is)]/\(∀c,c≠p->K.get c=H.get c)/\k=n):=by
 refine ao.of c50 (by simp[A50]) λ F hF=>?_
 cases is with
 |false=>simp[A50,hF,keep,hp]
 |true =>
  by_cases h0:err=0
  ·simp[A50,hF,keep,hp,h0];exact λ c hc e=>aw e hc
  simp[A50,hF,keep,hp,h0]
theorem Kr (p:Nat)(v1 v2:AV)(err e:Int)(is:Bool)(H:Hp)(n:Nat)(h1:Pure v1)(h2:Pure v2)(hpn:p<n)(hp:H.get p=aN 3 [v1,v2,zI err]):
  bC pG 50 [.ptr p 0,zI e,.bool is] H n (.br []) (H.put p (aN 3 [v1,v2,zI (keep err e is)])) n:=by
 have g:∀(b:bJ) c,(Tr.nil.put p (some b)).get c=if c=p then some b else none:=λ b c=>ai
 refine ao.okS (S:=Tr.nil.put p (aN 3 [v1,v2,zI err])) (S':=Tr.nil.put p (aN 3 [v1,v2,zI (keep err e is)]))
  ((af6 p v1 v2 err e is _ n ai).mono λ u K k ⟨a,b,_,d⟩=>⟨a,λ c y hy=>?_,ah⟩) (aL _) (by simp[hpn]) (λ c k hk=>?_) (λ c k hk=>?_) (λ c hc=>?_) (λ c hc _=>?_)
 ·rw[g]at hy
  split at hy
  ·rename_i e1;injection hy with hy;subst hy e1;exact⟨_,b,.refl _⟩
  cases hy
 ·rw[g]at hk
  split at hk
  ·rename_i e1;injection hk with hk;subst hk e1;exact⟨hpn,bV (by simp[h1.jQ,h2.jQ])⟩
  cases hk
 ·rw[g]at hk
  split at hk
  ·rename_i e1;rw[e1,hp];exact hk
  cases hk
 ·rcases hc with h|h
  ·rw[g]at h
   by_cases e1:c=p
   ·simp[e1]
   rw[ak e1]at h;exact aw rfl h
  omega
 rw[g]at hc
 by_cases e1:c=p
 ·rw[ay e1]at hc;cases hc
 simp[e1]
def Ex.maybe (e:Ex):Bool:=decide (e.bare 0)||e.may
theorem afs (e:Ex)(h:e.sz<=aU):aj pG 112 [e.av] (.bool e.maybe):=by
 have hl:=wK e;have hm:=X5 e h;have hav:e.av=.agg e.cells 8:=Eq.trans rfl rfl;rw[hav]at hl hm ⊢;refine pv c112 λ F hF=>?_
 by_cases hb:e.bare 0
 ·simp only[hb,decide_true]at hl;simp[A112,hF];refine aB.pure hl ?_;simp;exact .bool (by simp[Ex.maybe,hb])
 simp only[hb,decide_false]at hl;simp[A112,hF];refine aB.pure hl ?_;simp;refine aB.pure hm ?_;simp;exact .bool (by simp[Ex.maybe,hb])
def jc:bf Ex 8:=⟨Ex.cells,Ex.bm,Ex.rC,Ex.bo⟩
theorem ahu (l:List Ex):jc.l l=Ex.aK l:=by
 induction l with
 |nil=>simp[Ex.aK]
 |cons e r ih=>rw[bf.nT,ih];rfl
structure nD where
 e:Ex
 name:List Nat
structure Src where
 table:List Nat
 name:List Nat
 cond:Ex
structure Ord where
 name:List Nat
 desc:Bool
structure St1 where
 name:List Nat
 e:Ex
def my:bf nD 9:=⟨λ x=>x.e.cells++[.str x.name],λ _=>ai,λ x=>aS.rT λ v hv=>by
 rcases mem_append.1 hv with h|h
 ·exact(Ex.rC x.e).mem v h
 simp at h;subst h;simp,λ x=>ai⟩
def ju:bf Src 10:=⟨λ x=>.str x.table::.str x.name::x.cond.cells,λ _=>ai,λ x=>ai,λ x=>ai⟩
def pf:bf Ord 2:=⟨λ x=>[.str x.name,.bool x.desc],λ _=>rfl,λ _=>ai,λ _=>ai⟩
def arl:bf St1 9:=⟨λ x=>.str x.name::x.e.cells,λ _=>ai,λ x=>ai,λ x=>ai⟩
structure bG where
 kE:Bool
 star:Bool
 items:List nD
 ar:List Src
 cond:Ex
 order:List Ord
 limited:Bool
 limit:Int
def bG.cells (q:bG):List AV:=[.bool q.kE,.bool q.star,my.ds q.items,ju.ds q.ar]++q.cond.cells++[pf.ds q.order,.bool q.limited,zI q.limit]
theorem bG.bm (q:bG):q.cells.length=15:=by simp[bG.cells]
theorem bG.pure (q:bG):aS q.cells:=aS.rT λ v hv=>by
 simp only[bG.cells,mem_append,mem_cons,not_mem_nil,or_false]at hv
 rcases hv with((h|h|h|h)|h)|h|h|h
 ·subst h;simp
 ·subst h;simp
 ·subst h;simp
 ·subst h;simp
 ·exact(Ex.rC q.cond).mem v h
 ·subst h;simp
 ·subst h;simp
 subst h;simp
end Go.Abs
