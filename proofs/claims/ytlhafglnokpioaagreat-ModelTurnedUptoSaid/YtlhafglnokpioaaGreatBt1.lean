/- A part. -/
import Derived.Test.YtlhafglnokpioaaGreatVmC
noncomputable section
namespace Go.Abs
open List
set_option maxRecDepth 100000
theorem fp {h:Hf}{v:AV}(k:Pure v:=by simp):e_ h v v:=.pure v k
theorem pv {P:Program}{g:FuncId}{c:CF}{args:List AV}{v:AV}(hc:J5 P g=some c)(h:∀F:Fr,(∀i,F.get i=args[i]?)->VC P c.code F .nil 0 [] (kU c.res λ v1 H' _=>e_ H'.get v1 v))(hp:aP args:=by simp)(hv:Pure v:=by simp)(hl:args.length<=c.nt:=by exact eF rfl):aj P g args v:=gW hc hp hv hl h
abbrev zI (n:Int):AV:=.int .i64 n
abbrev aR (n:Nat)(l:List AV):Option bG:=some (.cells n [] l .nil)
structure aZ (α:Type)(k:Nat) where
 cells:α->List AV
 len:∀a,(cells a).length=k
 Vi:∀a,aP (cells a)
 one:∀a,br (cells a)=true
variable {α:Type}{k:Nat}
def aZ.l (E:aZ α k)(l:List α):List AV:=l.flatMap E.cells
def aZ.ds (E:aZ α k)(l:List α):AV:=.ds (E.l l) l.length k
def aZ.av (E:aZ α k)(a:α):AV:=.agg (E.cells a) k
@[simp] theorem aZ.bq (E:aZ α k)(a:α):(E.cells a).length=k:=E.len a
@[simp] theorem aZ.al1 (E:aZ α k)(a:α):aP (E.cells a):=E.Vi a
@[simp] theorem aZ.cells_one (E:aZ α k)(a:α):br (E.cells a)=true:=E.one a
@[simp] theorem aZ.apL (E:aZ α k):E.l []=[]:=rfl
theorem aZ.lC (E:aZ α k)(a:α)(r:List α):E.l (a::r)=E.cells a++E.l r:=rfl
theorem aZ.gX (E:aZ α k)(a b:List α):E.l (a++b)=E.l a++E.l b:=by simp[aZ.l]
theorem aZ.Bt (E:aZ α k)(a:α):E.l [a]=E.cells a:=by simp[aZ.l]
@[simp] theorem aZ.ayE (E:aZ α k)(l:List α):(E.l l).length=l.length*k:=by
 induction l with
 |nil=>simp
 |cons a r ih=>simp[aZ.lC,ih,Nat.add_mul];omega
@[simp] theorem aZ.r5 (E:aZ α k)(l:List α):aP (E.l l):=aP.rW λ v hv=>by
 obtain⟨a,_,ha⟩:=mem_flatMap.1 hv;exact(E.Vi a).mem v ha
@[simp] theorem aZ.apM (E:aZ α k)(l:List α):br (E.l l)=true:=by
 induction l with
 |nil=>rfl
 |cons a r ih=>simp[aZ.lC,ih]
@[simp] theorem aZ.auB (E:aZ α k)(l:List α):Pure (E.ds l):=by simp[aZ.ds]
@[simp] theorem aZ.auP (E:aZ α k)(a:α):Pure (E.av a):=by simp[aZ.av]
theorem aZ.akJ (E:aZ α k){l:List α}{i:Nat}(h:i<l.length):(E.l l).drop (i*k)=E.cells l[i]++E.l (l.drop (i+1)):=by
 induction l generalizing i with
 |nil=>simp at h
 |cons a r ih =>
  cases i with
  |zero=>simp[aZ.lC]
  |succ i =>
   have e1:(i+1)*k=k+i*k:=by rw[Nat.add_mul];omega
   rw[aZ.lC,e1,<-drop_drop,drop_left' (E.len a)];simpa using ih (by simpa using h)
theorem aZ.afq (E:aZ α k)(l:List α)(i:Nat):(E.l l).drop (i*k)=E.l (l.drop i):=by
 induction l generalizing i with
 |nil=>simp
 |cons a r ih =>
  cases i with
  |zero=>simp
  |succ i =>
   have e1:(i+1)*k=k+i*k:=by rw[Nat.add_mul];omega
   rw[aZ.lC,e1,<-drop_drop,drop_left' (E.len a),ih];rfl
theorem aZ.akH (E:aZ α k)(l:List α)(i:Nat):(E.l l).take (i*k)=E.l (l.take i):=by
 induction l generalizing i with
 |nil=>simp
 |cons a r ih =>
  cases i with
  |zero=>simp
  |succ i =>
   have e1:(i+1)*k=k+i*k:=by rw[Nat.add_mul];omega
   rw[aZ.lC,e1,take_add,take_left' (E.len a),drop_left' (E.len a),ih];rfl
theorem aZ.ix (E:aZ α k){l:List α}{i:Nat}{ik:IntKind}(h:i<l.length):cK k (E.ds l) (.int ik (i:Int))=.val (.dp (E.cells l[i]++E.l (l.drop (i+1)))):=by
 rw[aZ.ds,ua h,E.akJ h]
theorem aZ.pQ (E:aZ α k)(a:α)(r:List AV)(H:Hp):eD k (.dp (E.cells a++r)) H=.val (E.av a):=qS r (E.len a)
theorem aZ.aM (E:aZ α k)(l:List α):bm (E.ds l)=.val (zI (l.length:Int)):=by simp[aZ.ds]
theorem aZ.Jj (E:aZ α k){l:List α}{i:Nat}(h:i<=l.length):ja k none (some (zI (i:Int))) none (E.ds l)=.val (E.ds (l.take i)):=by
 unfold ja aZ.ds
 have:vd l.length none (some (zI (i:Int))) none=some (0,i):=by
  simp[vd,show bnd l.length (some (zI (i:Int)))=some i from rfl,show bnd l.length none=some l.length from rfl,show bnd 0 none=some 0 from rfl,h]
 simp only[this];simp[E.akH,Nat.min_eq_left h]
theorem aZ.avc (E:aZ α k){l:List α}{i:Nat}(h:i<=l.length):ja k (some (zI (i:Int))) none none (E.ds l)=.val (E.ds (l.drop i)):=by
 unfold ja aZ.ds
 have:vd l.length (some (zI (i:Int))) none none=some (i,l.length):=by
  simp[vd,show bnd 0 (some (zI (i:Int)))=some i from rfl,show bnd l.length none=some l.length from rfl,h]
 simp only[this];simp;rw[E.afq,fN ah]
end Go.Abs
namespace Go.Abs
open List
open Go.Proofs
set_option maxRecDepth 100000
structure Want where
 n:Int
 part:Int
 kind:Int
 any:Bool
 alike:Bool
def Want.av (w:Want):AV:=.agg [zI w.n,zI w.part,zI w.kind,.bool w.any,.bool w.alike] 5
def mK (op:Int):Want×Bool:=
 if op=4 then (⟨1,1,1,false,false⟩,true)else if op=5 then (⟨1,3,3,false,false⟩,true)else if op=6∨op=7 then (⟨1,0,3,true,false⟩,true)
 else if 8<=op/\op<=12 then (⟨2,1,1,false,false⟩,true)else if op=13 then (⟨2,2,2,false,false⟩,true)else if op=20∨op=21 then (⟨2,3,3,false,false⟩,true)
 else if 14<=op/\op<=19 then (⟨2,0,3,true,true⟩,true)else (⟨0,0,0,false,false⟩,false)
@[simp] theorem Want.pure (w:Want):Pure w.av:=by simp[Want.av]
theorem Gs (op:Int):aj pG 199 [zI op] (.bo [(mK op).1.av,.bool (mK op).2]):=by
 by_cases h:4<=op/\op<=21
 ·obtain⟨h1,h2⟩:=h;have:op=4∨op=5∨op=6∨op=7∨op=8∨op=9∨op=10∨op=11∨op=12∨op=13∨op=14∨op=15∨op=16∨op=17∨op=18∨op=19∨op=20∨op=21:=ae
  rcases this with h|h|h|h|h|h|h|h|h|h|h|h|h|h|h|h|h|h<;>subst h<;>exact .lit ah ah (by kernel_rfl)
 have hw:mK op=(⟨0,0,0,false,false⟩,false):=by unfold mK;repeat (rw[ai ae])
 rw[hw];refine pv c199 λ F hF=>?_;have hk:∀k:Int,4<=k/\k<=21->¬op=k:=λ k hk e=>h (e▸hk);simp[A199,hF,hk];exact fp
structure Val where
 kind:Int
 num:Int
 s:List Nat
def Val.cells (v:Val):List AV:=[zI v.kind,zI v.num,.str v.s]
def Val.av (v:Val):AV:=.agg [zI v.kind,zI v.num,.str v.s] 3
inductive Ex where
 |mk (op:Int) (v:Val) (t m:List Nat) (cG:Int) (args:List Ex)
mutual
def Ex.cells:Ex->List AV
 |.mk op v t m cG args=>[zI op,zI v.kind,zI v.num,.str v.s,.str t,.str m,zI cG,.ds (Ex.aT args) args.length 8]
def Ex.aT:List Ex->List AV
 |[]=>[]
 |e::r=>e.cells++Ex.aT r
end
def Ex.av (e:Ex):AV:=.agg e.cells 8
@[simp] theorem Ex.asa (e:Ex):e.av.cells=e.cells:=Eq.trans rfl rfl
@[simp] theorem Ex.axw (e:Ex):e.av.len=8:=Eq.trans rfl rfl
@[simp] theorem Ex.bq (e:Ex):e.cells.length=8:=by cases e;simp[Ex.cells]
@[simp] theorem Ex.al3 (l:List Ex):(Ex.aT l).length=l.length*8:=by
 induction l with
 |nil=>simp[Ex.aT]
 |cons e r ih=>simp[Ex.aT,ih];omega
@[simp] theorem Ex.take8 (e:Ex):e.cells.take 8=e.cells:=fN ah
@[simp] theorem Ex.br (e:Ex):Go.Abs.br e.cells=true:=by cases e;simp[Ex.cells]
@[simp] theorem Ex.auR (l:List Ex):Go.Abs.br (Ex.aT l)=true:=by
 induction l with
 |nil=>simp[Ex.aT]
 |cons e r ih=>simp[Ex.aT,ih]
mutual
theorem Ex.vH:∀e:Ex,aP e.cells
 |.mk op v t m cG args=>by simp[Ex.cells,Ex.yp args]
theorem Ex.yp:∀l:List Ex,aP (Ex.aT l)
 |[]=>by simp[Ex.aT]
 |e::r=>by simp[Ex.aT,Ex.vH e,Ex.yp r]
end
@[simp] theorem Ex.pure (e:Ex):Pure e.av:=by simp[Ex.av,Ex.vH]
@[simp] theorem Ex.avv (l:List Ex):aP (Ex.aT l):=Ex.yp l
@[simp] theorem Ex.avw (e:Ex):aP e.cells:=Ex.vH e
theorem Ex.drop (l:List Ex)(i:Nat)(h:i<l.length):(Ex.aT l).drop (i*8)=l[i].cells++Ex.aT (l.drop (i+1)):=by
 induction l generalizing i with
 |nil=>simp at h
 |cons e r ih =>
  cases i with
  |zero=>simp[Ex.aT]
  |succ i =>
   have e1:(i+1)*8=8+i*8:=ae;rw[Ex.aT,e1,<-drop_drop,drop_left' (Ex.bq e)];simpa using ih i (by simpa using h)
theorem nP {l:List Ex}{i:Nat}{k:IntKind}(h:i<l.length):cK 8 (.ds (Ex.aT l) l.length 8) (.int k (i:Int))=.val (.dp (l[i].cells++Ex.aT (l.drop (i+1)))):=by
 rw[ua h,Ex.drop l i h]
@[simp] theorem ayD (e:Ex)(r:List AV)(H:Hp):eD 8 (.dp (e.cells++r)) H=.val e.av:=qS r (Ex.bq e)
def Val.may (v:Val):Bool:=
 if v.kind=0 then decide (v.num=0)&&decide (v.s=[])else if v.kind=1 then decide (v.s=[])else if v.kind=2 then decide (v.num=0)&&decide (v.s.length<=64)
 else if v.kind=3 then decide (v.s=[])&&(decide (v.num=0)||decide (v.num=1))else false
@[simp] theorem Val.pure (v:Val):Pure v.av:=by simp[Val.av]
theorem mV (v:Val):aj pG 88 [v.av] (.bool v.may):=by
 obtain⟨k,i,s⟩:=v;refine pv c88 λ F hF=>?_;simp only[Val.may]
 by_cases h0:k=0
 ·subst h0;simp[A88,hF,Val.av];exact .bool (by simp;try omega)
 by_cases h1:k=1
 ·subst h1;simp[A88,hF,Val.av];exact .bool (by simp;try omega)
 by_cases h2:k=2
 ·subst h2
  by_cases hi:i=0
  ·simp[A88,hF,Val.av,hi];exact .bool (by simp;try omega)
  simp[A88,hF,Val.av,hi];exact .bool (by simp;try omega)
 by_cases h3:k=3
 ·subst h3
  by_cases hs:s=[]
  ·by_cases hi:i=0
   ·simp[A88,hF,Val.av,hi,hs];exact .bool (by simp;try omega)
   simp[A88,hF,Val.av,hi,hs];exact .bool (by simp;try omega)
  simp[A88,hF,Val.av,hs];exact .bool (by simp;try omega)
 simp[A88,hF,Val.av,h0,h1,h2,h3];exact .bool (by simp;try omega)
mutual
theorem Ex.inj:∀(a b:Ex),a.cells=b.cells->a=b
 |.mk op v t m cG args,.mk op' v' t' m' col' args',h=>by
  simp only[Ex.cells,List.cons.injEq,AV.int.injEq,AV.str.injEq,AV.ds.injEq,true_and,and_true]at h;obtain⟨h1,h2,h3,h4,h5,h6,h7,h8,_⟩:=h;have:=Ex.ap1 args args' h8;obtain⟨k,i,s⟩:=v;obtain⟨k',i',s'⟩:=v';simp_all
theorem Ex.ap1:∀(l l':List Ex),Ex.aT l=Ex.aT l'->l=l'
 |[],[],_=>rfl
 |[],e::r,h=>by have:=congrArg length h;simp at this
 |e::r,[],h=>by have:=congrArg length h;simp at this
 |e::r,e'::r',h=>by
  simp only[Ex.aT]at h;obtain⟨h1,h2⟩:=append_inj h ah;rw[Ex.inj e e' h1,Ex.ap1 r r' h2]
end
theorem Ex.amj {a b:Ex}(h:a.av=b.av):a=b:=Ex.inj a b (by simpa[Ex.av]using h)
mutual
def Ex.sz:Ex->Nat
 |.mk _ _ _ _ _ args=>1+Ex.rL args
def Ex.rL:List Ex->Nat
 |[]=>0
 |e::r=>e.sz+Ex.rL r
end
theorem Ex.ny (e:Ex):0<e.sz:=by cases e;simp[Ex.sz];omega
theorem Ex.rK (l:List Ex):l.length<=Ex.rL l:=by
 induction l with
 |nil=>simp[Ex.rL]
 |cons e r ih=>have:=Ex.ny e;simp[Ex.rL];omega
theorem Ex.rJ {l:List Ex}{e:Ex}(h:e∈l):e.sz<=Ex.rL l:=by
 induction l with
 |nil=>cases h
 |cons a r ih =>
  cases h with
  |head=>simp[Ex.rL]
  |tail _ hm=>have:=ih hm;simp[Ex.rL];omega
def aU:Nat:=1048576
open Classical in
theorem aD (i:Nat)(h:i<2147483648):IntKind.i64.wrap ((i:Int)+1)=((i+1:Nat):Int):=by
 simp[IntKind.wrap,IntKind.signed,IntKind.bits];omega
end Go.Abs
namespace Go.Abs
open List
open Go.Proofs
set_option maxRecDepth 100000
open Classical in
theorem Ex.mE (a b:List Ex):Ex.aT (a++b)=Ex.aT a++Ex.aT b:=by
 induction a with
 |nil=>simp[Ex.aT]
 |cons e r ih=>simp[Ex.aT,ih]
theorem aC.step {H H':Hp}{n n':Nat}{v:AV}{l:List AV}{len sz:Nat}(h:aC H n v l len sz)(hn:n<=n')(hk:∀c,c<n->v=.sl c 0 len sz->H'.get c=H.get c):aC H' n' v l len sz:=by
 obtain⟨h0,h|⟨b,k,rfl,hb,hkb,ho⟩⟩:=h
 ·exact⟨h0,.inl h⟩
 exact⟨h0,.inr ⟨b,k,rfl,ae,by rw[hk b hb rfl,hkb],ho⟩⟩
theorem bc.app {h:Hf}{a a' b b':List AV}(x:bc h a a')(y:bc h b b'):bc h (a++b) (a'++b'):=by
 induction a generalizing a' with
 |nil=>cases x;exact y
 |cons v r ih=>cases x with
  |cons _ _ _ _ x1 x2=>exact .cons _ _ _ _ x1 (ih x2)
theorem bc.snoc {h:Hf}(a:List AV){v v':AV}(ha:aP a)(hv:e_ h v v'):bc h (a++[v]) (a++[v']):=(bc.pure ha).app (.cons _ _ _ _ hv .nil)
theorem Xn:∀(N:Nat) (e:Ex),e.sz<=N->N<=aU->aj pG 201 [e.av] e.av
 |0,e,h,_=>by have:=Ex.ny e;omega
 |N + 1,.mk op v t m cG args,ha,hN=>by
  simp only[Ex.sz]at ha;have hla:=Ex.rK args
  have ih:∀(i:Nat) (h1:i<args.length),aj pG 201 [args[i].av] args[i].av:=λ i h1=>by
   have m1:=Ex.rJ (dw h1);exact Xn N args[i] ae ae
  unfold aU at hN;refine pv c201 λ F hF=>?_;simp[A201,hF,Ex.av,Ex.cells]
  refine aE.of (λ k F H n m_=>∃i x,k=args.length - i/\i<=args.length/\F.get 1=some (.ptr 0 0)/\F.get 2=some (.ptr 1 0)/\F.get 7=some (.ds (Ex.aT args) args.length 8)/\F.get 8=some (zI (args.length:Int))/\F.get 9=some (zI (i:Int))/\F.get 3=some x /\
   aC H n x (Ex.aT (args.take i)) i 8/\2<=n/\x≠.sl 0 0 i 8/\x≠.sl 1 0 i 8/\H.get 0=some (.cells 8 [] (Ex.mk op v t m cG args).cells .nil)/\(∃c,H.get 1=aR 8 c/\c.length=8)/\m_=[]) args.length
   ⟨0,.aV (.slice none 0 0),by simp[Ex.cells,aC.nil,Ex.aT]⟩ ?_
  rintro k F H n m_ ⟨i,x,rfl,hi,f1,f2,f7,f8,f9,f3,ho,hn,hx0,hx1,h0,⟨c,h1,hcl⟩,rfl⟩
  by_cases hlt:i<args.length
  ·have hx:=nP (k:=.i64) hlt;simp[Gh,f7,f8,f9,f3,hlt,hx];refine aB.pure (ih i hlt) ?_;simp;refine aC.app (k:=1) (new:=args[i].cells) (len:=i) (l:=Ex.aT (args.take i)) (aC.step ho ae λ c hc _=>by simp[show ¬c=n+1 by omega,show ¬c=n by omega]) ?_ ah ah ae ae (by unfold big;omega) ae ah λ H' ho' hk=>?_
   ·rw[bT (l:=args[i].cells) (k:=.cells 8 [] args[i].cells .nil) ah (OwnB.list ah) ah];simp
   simp[f1,f2,f7,f8,f9,acr,aD i ae];refine⟨args.length - (i+1),ae,i+1,rfl,hlt,ae,?_,?_,c,?_,hcl⟩
   ·rw[take_succ_eq_append_getElem hlt,Ex.mE];simpa[Ex.aT]using ho'
   ·rw[hk 0 ae hx0];simp[show ¬ 0=n by omega,h0]
   rw[hk 1 ae hx1];simp[show ¬ 1=n by omega,h1];omega
  have hi':i=args.length:=ae;subst hi';have ho2:=ho;rw[take_length]at ho2;obtain⟨_,⟨rfl,hl0⟩|⟨b,kb,rfl,hb,hkb,hob⟩⟩:=ho
  ·have:args=[]:=by simpa using hl0
   subst this;simp[Gh,f1,f2,f8,f9,f3,MO,MN,h0,h1,Ex.cells,hcl];refine .agg _ _ _ (bc.snoc [_,_,_,_,_,_,_] ah (.nil 7))
  have hb0:¬b=0:=λ e=>hx0 (by rw[e]);have hb1:¬b=1:=λ e=>hx1 (by rw[e]);simp[Gh,f1,f2,f8,f9,f3,MO,MN,h0,h1,Ex.cells,hcl];refine .agg _ _ _ (bc.snoc [_,_,_,_,_,_,_] ah ?_);refine(aC.step ho2 (aK _) λ c hc e=>?_).nV (.pure ah);injection e with e;subst e;simp[hb0,hb1]
theorem apa (e:Ex)(h:e.sz<=aU):aj pG 201 [e.av] e.av:=Xn aU e h (aK _)
end Go.Abs
namespace Go.Abs
open List
open Go.Proofs
set_option maxRecDepth 100000
theorem Ex.VE {args:List Ex}{i:Nat}(h:i<args.length):args[i].sz<=Ex.rL args:=Ex.rJ (dw h)
def Ex.split (e:Ex):List Ex:=match e with
 |.mk op v t m cG args=>if h:op=20/\args.length=2 then (args[0]'ae).split++(args[1]'ae).split else [.mk op v t m cG args]
 termination_by e.sz
 decreasing_by
 ·have:=Ex.VE (args:=args) (i:=0) ae;simp[Ex.sz];omega
 have:=Ex.VE (args:=args) (i:=1) ae;simp[Ex.sz];omega
theorem Ex.qu {v t m cG}(a b:Ex):(Ex.mk 20 v t m cG [a,b]).split=a.split++b.split:=by
 rw[Ex.split];simp
theorem Ex.qt {op v t m cG}{args:List Ex}(h:¬(op=20/\args.length=2)):(Ex.mk op v t m cG args).split=[.mk op v t m cG args]:=by
 rw[Ex.split];rw[dif_neg h]
theorem Ex.Je (a b:List Ex):Ex.rL (a++b)=Ex.rL a+Ex.rL b:=by
 induction a with
 |nil=>simp[Ex.rL]
 |cons e r ih=>simp[Ex.rL,ih];omega
theorem Ex.mP:∀(N:Nat) (e:Ex),e.sz<=N->Ex.rL e.split<=e.sz/\0<e.split.length
 |0,e,h=>by have:=Ex.ny e;omega
 |N + 1,.mk op v t m cG args,h=>by
  by_cases hc:op=20/\args.length=2
  ·obtain⟨rfl,hl⟩:=hc
   match args,hl with
   |[a,b],_ =>
    simp[Ex.sz,Ex.rL]at h;have h1:=Ex.mP N a ae;have h2:=Ex.mP N b ae;rw[Ex.qu,Ex.Je];simp[Ex.sz,Ex.rL];omega
  rw[Ex.qt hc];simp[Ex.rL]
theorem OJ {H:Hp}(e:Ex)(h:H.get 1=aR 8 e.cells):aC H 2 (.sl 1 0 1 8) (Ex.aT [e]) 1 8:=
 ⟨ah,.inr ⟨1,_,rfl,ae,h,by simpa[Ex.aT]using OwnB.list (l:=e.cells) (u:=8) ah⟩⟩
theorem DW:∀(N:Nat) (e:Ex),e.sz<=N->N<=aU->CH pG 129 [e.av] (Ex.aT e.split) e.split.length 8
 |0,e,h,_=>by have:=Ex.ny e;omega
 |N + 1,.mk op v t m cG args,ha,hN=>by
  have hs:=Ex.mP (N+1) (.mk op v t m cG args) ha;refine CH.of ah ah hs.2 (ak.of c129 (by simp[A129]) λ F hF=>?_)
  by_cases hc:op=20/\args.length=2
  ·obtain⟨rfl,hl⟩:=hc
   match args,hl with
   |[a, b],_ =>
    simp only[Ex.sz,Ex.rL]at ha;have ia:=DW N a ae ae;have ib:=DW N b ae ae;have sa:=Ex.mP N a ae;have sb:=Ex.mP N b ae;have la:=Ex.rK a.split;have lb:=Ex.rK b.split;unfold aU at hN
    have x0:cK 8 (.ds (Ex.aT [a,b]) 2 8) (zI 0)=.val (.dp (a.cells++Ex.aT [b])):=by
     have:=nP (l:=[a,b]) (i:=0) (k:=.i64) ah;simpa using this
    have x1:cK 8 (.ds (Ex.aT [a,b]) 2 8) (zI 1)=.val (.dp (b.cells++Ex.aT [])):=by
     have:=nP (l:=[a,b]) (i:=1) (k:=.i64) ah;simpa using this
    rw[Ex.qu];simp[A129,hF,Ex.av,Ex.cells];refine bC.of (eh (l:=[(129,[a.av],λ H n=>.mk (.sl n 0 a.split.length 8) (H.put n (some (.cells (a.split.length*8) [] (Ex.aT a.split) .nil))) (n+1)),(129,[b.av],λ H n=>.mk (.sl n 0 b.split.length 8) (H.put n (some (.cells (b.split.length*8) [] (Ex.aT b.split) .nil))) (n+1))]) ?_) ?_
    ·simp only[mem_cons,not_mem_nil,or_false];rintro x (rfl|rfl)
     ·exact PR ia
     exact PR ib
    have hb:∀H n,(ceT [((129:Nat),[a.av],λ(H:Hp) (n:Nat)=>iC.mk (.sl n 0 a.split.length 8) (H.put n (some (.cells (a.split.length*8) [] (Ex.aT a.split) .nil))) (n+1)),(129,[b.av],λ H n=>.mk (.sl n 0 b.split.length 8) (H.put n (some (.cells (b.split.length*8) [] (Ex.aT b.split) .nil))) (n+1))]).call 129 [b.av] H n=.mk (.sl n 0 b.split.length 8) (H.put n (some (.cells (b.split.length*8) [] (Ex.aT b.split) .nil))) (n+1):=by
     intro H n;rw[u9,bX]
     ·simp
     intro _ e H n;have e:b=a:=Ex.amj (by simpa using e);subst e;rw[bX]
    simp[ab,x0,x1,bX,hb];refine aC.axx (k:=b.split.length) (new:=Ex.aT b.split) (len:=a.split.length) (l:=Ex.aT a.split) ⟨ah,.inr ⟨1,_,rfl,ae,by simp;rfl,.list ah⟩⟩ ?_ ah ah ae ae (by unfold big;omega) ae ah λ H' ho' hk=>?_
    ·rw[bT (l:=Ex.aT b.split) (k:=.cells (b.split.length*8) [] (Ex.aT b.split) .nil) ah (OwnB.list ah) ah];simp[fN]
    simp;rw[Ex.mE];exact ho'
  rw[Ex.qt hc];have ho:=apa (.mk op v t m cG args) ae
  by_cases h20:op=20
  ·have hl:¬args.length=2:=λ e=>hc ⟨h20,e⟩;have hl':¬(args.length:Int)=2:=ae;simp[A129,hF,Ex.av,Ex.cells,h20,hl'];subst h20;refine aB.pure ho ?_;simp;exact OJ _ (by simp[Ex.cells])
  simp[A129,hF,Ex.av,Ex.cells,h20];refine aB.pure ho ?_;simp;exact OJ _ (by simp[Ex.cells])
theorem alL (e:Ex)(h:e.sz<=aU):CH pG 129 [e.av] (Ex.aT e.split) e.split.length 8:=DW aU e h (aK _)
def kN {α:Type}(p:α->Bool)(l:List α):Int:=match l.findIdx? p with
 |some i=>(i:Int)
 |none => -1
def akW (s:Nat) (ld:Eff):CF:={res:=[aG 4],code:=.seq (.ng [oP (bg 4) (eL (aQ (zI 0)))]) (.seq (.seq (.ng [oP (bg 6) (eL (aA 0)),oP (bg 7) (e1 bm (aA 6)),oP (bg 8) (eL (aQ (zI 0)))]) (.block 0 (.loop
 (.seq (.ng [oP (bg 9) (e2 (bR .lss) (aA 8) (aA 7))]) (.seq (.cond (aA 9) .skip (.exit 0)) (.seq (.block 1 (.seq (.ng [oP (bg 10) (eL (aA 8)),oP (bg 5) (eL (aA 10))]) (.seq (.ng [oP (bg 11) (eL (aA 1)),oP (bg 12) (eL (aA 0)),oP (bg 13) (eL (aA 5)),oP (bg 14) (e2 (cK s) (aA 12) (aA 13)),oP (bg 15) ld,vP (bg 16) (aA 11) [(aA 15)]])
  (.cond (aA 16) (.seq (.ng [oP (bg 17) (eL (aA 5)),oP (bg 4) (eL (aA 17))]) .ret) .skip)))) (.ng [oP (bg 18) (e2 (bR .add) (aA 8) (aQ (zI 1))),oP (bg 8) (eL (aA 18))])))))))
 (.seq (.ng [oP (bg 4) (eL (aQ (zI (-1))))]) .ret)),nt:=19}
theorem uR {α:Type}{p:α->Bool}{l:List α}{i:Nat}(h:i<l.length)(hp:p l[i]=true)(hn:∀j (hj:j<i),p (l[j]'ae)=false):kN p l=(i:Int):=by
 have:l.findIdx? p=some i:=by
  rw[findIdx?_eq_some_iff_getElem];exact⟨h,hp,λ j hj=>by simpa using hn j hj⟩
 simp[kN,this]
theorem BA {α:Type}{p:α->Bool}{l:List α}(hn:∀j (hj:j<l.length),p l[j]=false):kN p l = -1:=by
 have:l.findIdx? p=none:=by
  rw[findIdx?_eq_none_iff];intro x hx;obtain⟨j,hj,rfl⟩:=getElem_of_mem hx;simpa using hn j hj
 simp[kN,this]
theorem r_ {α:Type}{P:Program}{g:FuncId}{s:Nat}{ld:Eff}{v:AV}{el:α->AV}{xs:List α}{f:FuncId}{first cap:List AV}{p:α->Bool}{H:Hp}{n:Nat}(hc:J5 P g=some (akW s ld))(hl:xs.length<=aU)(hlen:bm v=.val (zI (xs.length:Int)))
  (hx:∀i (h:i<xs.length),∃q,cK s v (zI (i:Int))=.val q/\∀(F:Fr) H n,F.get 14=some q->ld F H n=.val (el xs[i]))
  (hp:∀x∈xs,ak P f (first++([el x]++cap)) H n (λ u K k=>u=.bool (p x)/\K=H/\k=n)):
  ak P g [v,.fn (.func f) first cap] H n (λ u K k=>u=zI (kN p xs)/\K=H/\k=n):=by
 refine ak.of hc (by simp[akW]) λ F hF=>?_;unfold aU at hl;simp[akW,hF,hlen]
 refine aE.of (λ k F K m m_=>∃i,k=xs.length - i/\i<=xs.length/\F.get 0=some v/\F.get 1=some (.fn (.func f) first cap)/\F.get 7=some (zI (xs.length:Int))/\F.get 8=some (zI (i:Int)) /\
  K=H/\m=n/\m_=[]/\∀j (hj:j<i) (h:j<xs.length),p xs[j]=false) xs.length ⟨0,by simp[hF]⟩ ?_
 rintro k F K m m_ ⟨i,rfl,hi,f0,f1,f7,f8,rfl,rfl,rfl,hj⟩
 by_cases hlt:i<xs.length
 ·obtain⟨q,hq,hld⟩:=hx i hlt;simp[f0,f1,f7,f8,hlt,hq];rw[hld _ _ _ ah];simp;refine aB.same (hp xs[i] (dw hlt)) ?_;simp;refine zT.ofB (λ hb=>?_) λ hb=>?_
  ·simp;exact(uR hlt hb λ j hj'=>hj j hj' ae).symm
  simp[f0,f1,f7,f8,aD i ae];refine⟨xs.length - (i+1),ae,i+1,rfl,hlt,ae,λ j hj' h=>?_⟩
  by_cases e:j=i
  ·subst e;exact hb
  exact hj j ae h
 simp[f7,f8,hlt];exact(BA λ j h=>hj j ae h).symm
def alS (g:FuncId):CF:={res:=[aG 4],code:=.seq (.ng [oP (bg 4) (eL (aQ (.bool false)))]) (.seq (.ng [oP (bg 5) (eL (aA 0)),oP (bg 6) (eL (aA 1)),cP (bg 7) g [(aA 5),(aA 6)],oP (bg 8) (e2 (bR .geq) (aA 7) (aQ (zI 0))),oP (bg 4) (eL (aA 8))]) .ret),nt:=9}
theorem yJ {α:Type}(p:α->Bool)(l:List α):decide (0<=kN p l)=l.any p:=by
 unfold kN
 cases h:l.findIdx? p with
 |none =>
  rw[findIdx?_eq_none_iff]at h
  have:l.any p=false:=by
   rw[any_eq_false];intro x hx;simpa using h x hx
  simp[this]
 |some i =>
  rw[findIdx?_eq_some_iff_getElem]at h;obtain⟨h1,h2,_⟩:=h;have:l.any p=true:=by rw[any_eq_true];exact⟨_,dw h1,h2⟩
  simp[this]
theorem za {α:Type}{P:Program}{g c:FuncId}{v fv:AV}{xs:List α}{p:α->Bool}{H:Hp}{n:Nat}(hc:J5 P c=some (alS g))(h:ak P g [v,fv] H n (λ u K k=>u=zI (kN p xs)/\K=H/\k=n)):
  ak P c [v,fv] H n (λ u K k=>u=.bool (xs.any p)/\K=H/\k=n):=by
 refine ak.of hc (by simp[alS]) λ F hF=>?_;simp[alS,hF];refine aB.same h ?_;simp[yJ]
def cQ (l:List Int):List AV:=l.map (.int .i64)
@[simp] theorem ano (l:List Int):(cQ l).length=l.length:=by simp[cQ]
@[simp] theorem akM (l:List Int):aP (cQ l):=aP.rW λ v hv=>by
 simp only[cQ,mem_map]at hv;obtain⟨i,_,rfl⟩:=hv;simp
@[simp] theorem ann (l:List Int):br (cQ l)=true:=by
 induction l with
 |nil=>rfl
 |cons a r ih=>simp only[cQ,map_cons,v9,aeZ,Bool.true_and];exact ih
theorem tR (a b:List Int):cQ (a++b)=cQ a++cQ b:=by simp[cQ]
theorem JH (l:List Int)(i:Nat)(h:i<l.length):(cQ l).drop i=zI l[i]::cQ (l.drop (i+1)):=by
 unfold cQ;rw[<-map_drop,ga h];rfl
theorem wW {l:List Int}{i:Nat}{k:IntKind}(h:i<l.length):cK 1 (.ds (cQ l) l.length 1) (.int k (i:Int))=.val (.dp (zI l[i]::cQ (l.drop (i+1)))):=by
 rw[ua h,Nat.mul_one,JH l i h]
def Want.fits (w:Want)(l:List Int):Bool:=
 if w.any=true then !w.alike||(decide (l.getD 0 0=l.getD 1 0)||(decide (l.getD 0 0=0)||decide (l.getD 1 0=0)))else !(l.any λ k=>decide (k≠0)&&decide (k≠w.part))
theorem aln {H:Hp}{n b:Nat}(w:Want)(k:Int)(hb:H.get b=aR 5 [zI w.n,zI w.part,zI w.kind,.bool w.any,.bool w.alike]):
  ak pG 264 [zI k,.ptr b 0] H n (λ u K j=>u=.bool (decide (k≠0)&&decide (k≠w.part))/\K=H/\j=n):=by
 refine ak.of c264 (by simp[A264]) λ F hF=>?_
 by_cases h0:k=0
 ·simp[A264,hF,h0]
 simp[A264,hF,hb,h0]
theorem alp (w:Want)(l:List Int)(hl:l.length<=aU)(h2:w.any=true->w.alike=true->2<=l.length):aj pG 200 [w.av,.ds (cQ l) l.length 1] (.bool (w.fits l)):=by
 obtain⟨wn,wp,wk,wa,wl⟩:=w;refine pv c200 λ F hF=>?_;simp only[Want.fits]
 cases wa with
 |false =>
  simp[A200,hF,Want.av];refine aB.same (za (xs:=l) (p:=λ k=>decide (k≠0)&&decide (k≠wp)) c263 (r_ (el:=λ k=>zI k) (first:=[]) (cap:=[.ptr 0 0]) c301 hl ah (λ i h=>⟨_,wW h,λ F H n uS=>by simp[uS]⟩) λ x hx=>aln ⟨wn,wp,wk,false,wl⟩ x ah)) ?_;simp;exact .bool ah
 |true =>
  cases wl with
  |false =>
   simp[A200,hF,Want.av];refine bC.of (bh (P:=pG)) ?_;simp[ab];exact .bool ah
  |true =>
   have h2:=h2 rfl rfl
   match l,h2 with
   |a :: b::r,_ =>
    have x0:cK 1 (.ds (cQ (a::b::r)) (r.length+1+1) 1) (zI 0)=.val (.dp (zI a::cQ (b::r))):=by
     have:=wW (l:=a::b::r) (i:=0) (k:=.i64) ah;simpa using this
    have x1:cK 1 (.ds (cQ (a::b::r)) (r.length+1+1) 1) (zI 1)=.val (.dp (zI b::cQ r)):=by
     have:=wW (l:=a::b::r) (i:=1) (k:=.i64) ah;simpa using this
    simp[A200,hF,Want.av];refine bC.of (bh (P:=pG)) ?_
    by_cases e1:a=b
    ·subst e1;simp[ab,hF,x0,x1];exact .bool ah
    by_cases e2:a=0
    ·subst e2;simp[ab,hF,x0,x1,e1];exact .bool ah
    simp[ab,hF,x0,x1,e1,e2];exact .bool ah
end Go.Abs
namespace Go.Abs
open List
open Go.Proofs
open Classical
set_option maxRecDepth 100000
structure oS where
 name:List Nat
 kind:Int
 need:Bool
structure bK where
 id:Int
 name:List Nat
 cols:List oS
 head:Int
structure pf where
 id:Int
 table:Int
 name:List Nat
 cols:List Int
 uniq:Bool
 root:Int
structure cn where
 tables:List bK
 indexes:List pf
def dy:aZ (List Nat) 1:=⟨λ s=>[.str s],λ _=>rfl,λ _=>ah,λ _=>by simp[br,AV.one]⟩
def dA:aZ Int 1:=⟨λ i=>[zI i],λ _=>rfl,λ _=>ah,λ _=>by simp[br,AV.one]⟩
def dL:aZ oS 3:=⟨λ c=>[.str c.name,zI c.kind,.bool c.need],λ _=>rfl,λ _=>ah,λ _=>by simp[br,AV.one]⟩
def aH:aZ bK 4:=⟨λ t=>[.int .u32 t.id,.str t.name,dL.ds t.cols,.int .u32 t.head],λ _=>rfl,λ _=>ah,λ _=>by simp[br,AV.one,aZ.ds]⟩
def bp:aZ pf 6:=⟨λ x=>[.int .u32 x.id,.int .u32 x.table,.str x.name,dA.ds x.cols,.bool x.uniq,.int .u32 x.root],λ _=>rfl,λ _=>ah,λ _=>by simp[br,AV.one,aZ.ds]⟩
def kQ:aZ cn 2:=⟨λ s=>[aH.ds s.tables,bp.ds s.indexes],λ _=>rfl,λ _=>ah,λ _=>by simp[br,AV.one,aZ.ds]⟩
theorem alC (s:List Nat):dy.cells s=[.str s]:=rfl
theorem YQ (i:Int):dA.cells i=[zI i]:=rfl
theorem u3 (c:oS):dL.cells c=[.str c.name,zI c.kind,.bool c.need]:=rfl
theorem eK (t:bK):aH.cells t=[.int .u32 t.id,.str t.name,dL.ds t.cols,.int .u32 t.head]:=rfl
theorem iT (x:pf):bp.cells x=[.int .u32 x.id,.int .u32 x.table,.str x.name,dA.ds x.cols,.bool x.uniq,.int .u32 x.root]:=rfl
theorem fm (s:cn):kQ.cells s=[aH.ds s.tables,bp.ds s.indexes]:=rfl
def Kv (c:Nat):Prop:=97<=c/\c<=122
def Ku (c:Nat):Prop:=(48<=c/\c<=57)∨c=95
def fF (s:List Nat):Prop:=s≠[]/\s.length<=24/\∀j (h:j<s.length),Kv s[j]∨(0<j/\Ku s[j])
theorem xd {l:List Nat}{i:Nat}{k:IntKind}(h:i<l.length):oZ (.str l) (.int k (i:Int))=.val (.int .u8 (l[i]:Int)):=by
 unfold oZ;simp[nK,cX h]
theorem name44 (s:List Nat):aj pG 81 [.str s] (.bool (decide (fF s))):=by
 refine pv c81 λ F hF=>?_;simp[A81,hF]
 by_cases h0:s=[]
 ·have:¬fF s:=λ h=>h.1 h0;simp[h0,ZX];exact .bool (by subst h0;simp[this])
 by_cases HD:s.length<=24
 ·simp[h0,show ¬(24:Int)<(s.length:Int) by omega,ah0,hF];refine aE.of (λ t F K n ms=>∃i,t=s.length - i/\i<=s.length/\F.get 0=some (.str s)/\F.get 13=some (zI (s.length:Int))/\F.get 14=some (zI (i:Int))/\K=.nil/\ms=[]/\∀j (h:j<s.length),j<i->Kv s[j]∨(0<j/\Ku s[j])) s.length ⟨0,by simp[hF]⟩ ?_;rintro t F K n ms ⟨i,rfl,hi,f0,f13,f14,rfl,rfl,hj⟩
  by_cases hlt:i<s.length
  ·have hx:=xd (k:=.i64) hlt;have w:=aD i ae
   have stay:∀F':Fr,F'.get 0=some (.str s)->F'.get 13=some (zI (s.length:Int))->F'.get 14=some (zI (i:Int))->(Kv s[i]∨(0<i/\Ku s[i]))->VC pG KQ F' .nil n [] (Aq (λ t F K n ms=>∃i,t=s.length - i/\i<=s.length/\F.get 0=some (.str s)/\F.get 13=some (zI (s.length:Int))/\F.get 14=some (zI (i:Int))/\K=.nil/\ms=[]/\∀j (h:j<s.length),j<i->Kv s[j]∨(0<j/\Ku s[j])) (s.length - i) (jE 0 (qf pG (KP.seq CT.ret) (kU [aG 2] λ v1 H' _=>e_ H'.get v1 (.bool (decide (fF s))))))):=by
    intro F' g0 Vm g14 hc;simp[KQ,g0,Vm,g14,w];refine⟨s.length - (i+1),ae,i+1,rfl,hlt,rfl,λ j h hji=>?_⟩
    by_cases e:j=i
    ·subst e;exact hc
    exact hj j h ae
   have no:∀(F':Fr),¬(Kv s[i]∨(0<i/\Ku s[i]))->e_ (Tr.nil:Hp).get (.bool false) (.bool (decide (fF s))):=λ F' hc=>by
    have:¬fF s:=λ h=>hc (h.2.2 i hlt);exact .bool (by simp[this])
   simp[adu,f13,f14,hlt,f0,hx];generalize hcc:s[i]=c at stay no
   by_cases a1:(97:Int)<=(c:Int)<;>by_cases a2:(c:Int)<=122<;>by_cases z:0<i<;>by_cases b1:(48:Int)<=(c:Int)<;>by_cases b2:(c:Int)<=57<;>by_cases d:c=95 <;>
    first
    |(exfalso;omega)
    |(simp[a1,a2,z,b1,b2,d,show ((c:Int)=95)=(c=95) by simp;omega,ahZ,ahY]
      first
      |simpa using stay _ (by simp[f0]) (by simp[f13]) (by simp[f14]) (by unfold Kv Ku;omega)
      |exact no F (by unfold Kv Ku;omega))
  obtain rfl:i=s.length:=ae;have:fF s:=⟨h0,HD,λ j h=>hj j h h⟩;simp[adu,f13,f14,KP];exact .bool (by simp[this])
 have:¬fF s:=λ h=>HD h.2.1;simp[h0,hF,show (24:Int)<(s.length:Int) by omega,ZX];exact .bool (by simp[this])
end Go.Abs
namespace Go.Abs
open List
def nj:List (List Nat):=[[97,110,100],[97,115],[98,101,103,105,110],[98,111,111,108],[98,121],[99,111,109,109,105,116],[99,114,101,97,116,101],[100,101,108,101,116,101],[100,101,115,99],[100,105,115,116,105,110,99,116],[100,114,111,112],[102,97,108,115,101],[102,114,111,109],[105,110,100,101,120],[105,110,115,101,114,116],[105,110,116],[105,110,116,111],[105,115],[106,111,105,110],[108,105,109,105,116],[110,111,116],[110,117,108,108],[111,110],[111,114],[111,114,100,101,114],[114,111,108,108,98,97,99,107],[115,101,108,101,99,116],[115,101,116],[116,97,98,108,101],[116,101,120,116],[116,114,117,101],[117,110,105,113,117,101],[117,112,100,97,116,101],[118,97,108,117,101,115],[119,104,101,114,101]]
end Go.Abs
namespace Go.Abs
open List
open Go.Proofs
set_option maxRecDepth 100000
theorem ad_ (s:List Nat)(h:s∈nj):aj pG 192 [.str s] (.bool true):=by
 simp only[nj,mem_cons,not_mem_nil,or_false]at h
 rcases h with h|h|h|h|h|h|h|h|h|h|h|h|h|h|h|h|h|h|h|h|h|h|h|h|h|h|h|h|h|h|h|h|h|h|h<;>subst h<;>exact .lit ah ah (by kernel_rfl)
end Go.Abs
namespace Go.Abs
open List
open Go.Proofs
open Classical
set_option maxRecDepth 100000
theorem ajs (s:List Nat):aj pG 192 [.str s] (.bool (decide (s∈nj))):=by
 by_cases h:s∈nj
 ·simpa[h]using ad_ s h
 refine pv c192 λ F hF=>?_;have h0:¬s=[97,110,100]:=λ e=>h (by simp[nj,e]);have h1:¬s=[97,115]:=λ e=>h (by simp[nj,e]);have h2:¬s=[98,101,103,105,110]:=λ e=>h (by simp[nj,e]);have h3:¬s=[98,111,111,108]:=λ e=>h (by simp[nj,e]);have h4:¬s=[98,121]:=λ e=>h (by simp[nj,e]);have h5:¬s=[99,111,109,109,105,116]:=λ e=>h (by simp[nj,e]);have h6:¬s=[99,114,101,97,116,101]:=λ e=>h (by simp[nj,e]);have h7:¬s=[100,101,108,101,116,101]:=λ e=>h (by simp[nj,e]);have h8:¬s=[100,101,115,99]:=λ e=>h (by simp[nj,e]);have h9:¬s=[100,105,115,116,105,110,99,116]:=λ e=>h (by simp[nj,e]);have h10:¬s=[100,114,111,112]:=λ e=>h (by simp[nj,e]);have h11:¬s=[102,97,108,115,101]:=λ e=>h (by simp[nj,e]);have h12:¬s=[102,114,111,109]:=λ e=>h (by simp[nj,e]);have h13:¬s=[105,110,100,101,120]:=λ e=>h (by simp[nj,e]);have uS:¬s=[105,110,115,101,114,116]:=λ e=>h (by simp[nj,e]);have h15:¬s=[105,110,116]:=λ e=>h (by simp[nj,e]);have lP:¬s=[105,110,116,111]:=λ e=>h (by simp[nj,e]);have h17:¬s=[105,115]:=λ e=>h (by simp[nj,e]);have h18:¬s=[106,111,105,110]:=λ e=>h (by simp[nj,e]);have h19:¬s=[108,105,109,105,116]:=λ e=>h (by simp[nj,e]);have h20:¬s=[110,111,116]:=λ e=>h (by simp[nj,e]);have h21:¬s=[110,117,108,108]:=λ e=>h (by simp[nj,e]);have h22:¬s=[111,110]:=λ e=>h (by simp[nj,e]);have h23:¬s=[111,114]:=λ e=>h (by simp[nj,e]);have HD:¬s=[111,114,100,101,114]:=λ e=>h (by simp[nj,e]);have h25:¬s=[114,111,108,108,98,97,99,107]:=λ e=>h (by simp[nj,e]);have h26:¬s=[115,101,108,101,99,116]:=λ e=>h (by simp[nj,e]);have h27:¬s=[115,101,116]:=λ e=>h (by simp[nj,e]);have h28:¬s=[116,97,98,108,101]:=λ e=>h (by simp[nj,e]);have h29:¬s=[116,101,120,116]:=λ e=>h (by simp[nj,e]);have h30:¬s=[116,114,117,101]:=λ e=>h (by simp[nj,e]);have h31:¬s=[117,110,105,113,117,101]:=λ e=>h (by simp[nj,e]);have h32:¬s=[117,112,100,97,116,101]:=λ e=>h (by simp[nj,e]);have h33:¬s=[118,97,108,117,101,115]:=λ e=>h (by simp[nj,e]);have h34:¬s=[119,104,101,114,101]:=λ e=>h (by simp[nj,e]);simp[A192,hF,h0,h1,h2,h3,h4,h5,h6,h7,h8,h9,h10,h11,h12,h13,uS,h15,lP,h17,h18,h19,h20,h21,h22,h23,HD,h25,h26,h27,h28,h29,h30,h31,h32,h33,h34];exact .bool (by simp[h])
def bQ (s:List Nat):Prop:=fF s/\s∉nj
theorem qE (s:List Nat):aj pG 109 [.str s] (.bool (decide (bQ s))):=by
 refine pv c109 λ F hF=>?_;unfold bQ;simp[A109,hF];refine aB.pure (name44 s) ?_
 by_cases h:fF s
 ·simp[h,hF];refine aB.pure (ajs s) ?_;simp;exact .bool ah
 simp[h];exact .bool ah
theorem ajz (a b:Int):aj pG 110 [zI a,zI b] (.bool (decide (1<=a/\a<=b))):=by
 refine pv c110 λ F hF=>?_
 by_cases h:1<=a
 ·simp[A110,hF,h];exact .bool ah
 simp[A110,hF,h];exact .bool ah
def kg (l:List oS):Prop:=l≠[]/\l.length<=16/\∀i (h:i<l.length),fF l[i].name/\(1<=l[i].kind/\l[i].kind<=3)/\∀j (hj:j<i),(l[j]'ae).name≠l[i].name
theorem ag2 (l:List oS):aj pG 82 [dL.ds l] (.bool (decide (kg l))):=by
 refine pv c82 λ F hF=>?_
 by_cases h0:l=[]
 ·have:¬kg l:=λ h=>h.1 h0;simp[A82,hF,aZ.aM,h0];exact .bool (by subst h0;simp[this])
 by_cases lP:l.length<=16
 ·simp[A82,hF,aZ.aM,h0,show ¬(16:Int)<(l.length:Int) by omega];refine aE.of (λ t F K n ms=>∃i,t=l.length - i/\i<=l.length/\F.get 0=some (dL.ds l)/\F.get 15=some (dL.ds l)/\F.get 16=some (zI (l.length:Int))/\F.get 17=some (zI (i:Int))/\ms=[]/\∀k (h:k<l.length),k<i->fF l[k].name/\(1<=l[k].kind/\l[k].kind<=3)/\∀j (hj:j<k),(l[j]'ae).name≠l[k].name) l.length ⟨0,by simp[hF]⟩ ?_;rintro t F K n ms ⟨i,rfl,hi,f0,f15,f16,f17,rfl,hk⟩
  by_cases hlt:i<l.length
  ·have hx := dL.ix (ik:=.i64) hlt;have hld:=dL.pQ l[i] (dL.l (l.drop (i+1))) K;simp only[u3,aZ.av,cons_append,nil_append]at hx hld;have hsl:=dL.Jj (l:=l) (i:=i) hi;simp[ads,f16,f17,hlt,f15,hx,hld];refine aB.pure (name44 l[i].name) ?_;have no:¬(fF l[i].name/\(1<=l[i].kind/\l[i].kind<=3))->¬kg l:=λ h h2=>h ⟨(h2.2.2 i hlt).1,(h2.2.2 i hlt).2.1⟩
   by_cases hn:fF l[i].name
   ·by_cases h1:l[i].kind<1
    ·have:=no λ h=>ae;simp[hn,h1,Qu];exact .bool (by simp[this])
    by_cases h3:3<l[i].kind
    ·have:=no λ h=>ae;simp[hn,h1,h3,Qu];exact .bool (by simp[this])
    simp[hn,h1,h3,ahX,f0,wH,vM,hsl,aZ.aM,Nat.min_eq_left hi];refine aE.of (λ t F K' n' ms=>∃j,t=i - j/\j<=i/\F.get 0=some (dL.ds l)/\F.get 15=some (dL.ds l)/\F.get 16=some (zI (l.length:Int))/\F.get 17=some (zI (i:Int))/\F.get 4=some (.ptr n 0)/\F.get 38=some (dL.ds (l.take i))/\F.get 39=some (zI (i:Int))/\F.get 40=some (zI (j:Int))/\n<n'/\K'.get n=aR 3 [.str l[i].name,zI l[i].kind,.bool l[i].need]/\ms=[]/\∀q (h:q<j) (h2:q<l.length),l[q].name≠l[i].name) i ⟨0,by simp[f0,f15,f16,f17]⟩ ?_;clear f0 f15 f16 f17 F;rintro t F K' n' ms ⟨j,rfl,hj,f0,f15,f16,f17,f4,f38,f39,f40,hn',hb,rfl,hq⟩
    by_cases hji:j<i
    ·have hjt:j<(l.take i).length:=by simp;omega
     have hx:=dL.ix (ik:=.i64) hjt;have hld:=dL.pQ (l.take i)[j] (dL.l ((l.take i).drop (j+1))) K';have hjl:(l.take i)[j]=l[j]:=by rw[getElem_take]
     rw[hjl]at hx hld;simp only[u3,aZ.av,cons_append,nil_append]at hx hld;have hne:¬n=n':=ae;simp[adt,f39,f40,hji,f38,hx,hld,f4,hb,hne]
     by_cases he:l[j].name=l[i].name
     ·have:¬kg l:=λ h=>(h.2.2 i hlt).2.2 j hji he;simp[he,ZW];exact .bool (by simp[this])
     simp[he,ZV,f0,f15,f16,f17,f4,f38,f39,f40,hb,hne,aD j ae];refine⟨i - (j+1),ae,j+1,rfl,hji,rfl,ae,λ q h h2=>?_⟩
     by_cases e:q=j
     ·subst e;exact he
     exact hq q ae h2
    obtain rfl:j=i:=ae;simp[adt,f39,f40,ZU,f0,f15,f16,f17,aD j ae];refine⟨l.length - (j+1),ae,j+1,rfl,hlt,rfl,λ k h hkj=>?_⟩
    by_cases e:k=j
    ·subst e;exact⟨hn,⟨ae,ae⟩,λ q hq'=>hq q hq' ae⟩
    exact hk k h ae
   have:=no λ h=>hn h.1;simp[hn,Qu];exact .bool (by simp[this])
  obtain rfl:i=l.length:=ae;have:kg l:=⟨h0,lP,λ k h=>hk k h h⟩;simp[ads,f16,f17,ZT];exact .bool (by simp[this])
 have:¬kg l:=λ h=>lP h.2.1;simp[A82,hF,aZ.aM,h0,show (16:Int)<(l.length:Int) by omega];exact .bool (by simp[this])
theorem X5 {α:Type} [DecidableEq α] {g:FuncId}(E:aZ α 1)(el:α->AV)(hE:∀a,E.cells a=[el a])(heq:∀a b,kT false .num (el a) (el b)=.val (.bool (decide (a=b))))(hel:∀a,Pure (el a))(hc:J5 pG g=some A134)(l:List α)(x:α)(hl:l.length<=aU):aj pG g [E.ds l,el x] (zI (kN (λ y=>decide (x=y)) l)):=by
 refine gW hc (by simp[hel]) ah (by simp[A134]) λ F hF=>?_;unfold aU at hl;simp[A134,hF,aZ.aM];refine aE.of (λ t F K n ms=>∃i,t=l.length - i/\i<=l.length/\F.get 0=some (E.ds l)/\F.get 1=some (el x)/\F.get 7=some (zI (l.length:Int))/\F.get 8=some (zI (i:Int))/\ms=[]/\∀j (hj:j<i) (h:j<l.length),decide (x=l[j])=false) l.length ⟨0,by simp[hF]⟩ ?_;rintro t F K n ms ⟨i,rfl,hi,f0,f1,f7,f8,rfl,hj⟩
 by_cases hlt:i<l.length
 ·have hx:=E.ix (ik:=.i64) hlt;rw[hE]at hx;have hld:∀r H,cE (.dp ([el l[i]]++r)) H=.val (el l[i]):=λ r H=>rfl;simp[NW,f7,f8,hlt,f0,f1,hx];simp only[cons_append,nil_append]at hld;simp[heq]
  by_cases he:x=l[i]
  ·simp[he,ac'];refine .eq ah ?_
   congr 1
   exact(uR hlt ah λ j hj'=>by have:=hj j hj' ae;rw[he]at this;exact this).symm
  simp[he,ac_,f0,f1,f7,f8,aD i ae];refine⟨l.length - (i+1),ae,i+1,rfl,hlt,rfl,λ j hj' h=>?_⟩
  by_cases e:j=i
  ·subst e;exact he
  simpa using hj j ae h
 obtain rfl:i=l.length:=ae;simp[NW,f7,f8,ac9];refine .eq ah ?_
 congr 1
 exact(BA λ j h=>hj j h h).symm
theorem afB (l:List (List Nat))(x:List Nat)(hl:l.length<=aU):aj pG 134 [dy.ds l,.str x] (zI (kN (λ y=>decide (x=y)) l)):=X5 dy .str (λ _=>rfl) (λ a b=>ah) (λ _=>ah) c134 l x hl
theorem Yc (l:List Int)(x:Int)(hl:l.length<=aU):aj pG 226 [dA.ds l,zI x] (zI (kN (λ y=>decide (x=y)) l)):=X5 dA (.int .i64) (λ _=>rfl) (λ a b=>ah) (λ _=>ah) c226 l x hl
theorem Ko (l:List (List Nat))(x:List Nat)(hl:l.length<=aU):aj pG 120 [dy.ds l,.str x] (.bool (decide (x∈l))):=by
 refine pv c120 λ F hF=>?_;simp[A120,hF];refine aB.pure (afB l x hl) ?_;simp;refine .bool ?_;rw[yJ,Bool.eq_iff_iff];simp
theorem J9 (l:List Int)(x:Int)(hl:l.length<=aU):aj pG 162 [dA.ds l,zI x] (.bool (decide (x∈l))):=by
 refine pv c162 λ F hF=>?_;simp[A162,hF];refine aB.pure (Yc l x hl) ?_;simp;refine .bool ?_;rw[yJ,Bool.eq_iff_iff];simp
def Ex.bare (op:Int):Ex->Prop
 |.mk o v t m cG args=>o=op/\(v.kind=0/\v.num=0/\v.s=[])/\t=[]/\m=[]/\cG=0/\args=[]
theorem KE (e:Ex) (op:Int):aj pG 193 [e.av,zI op] (.bool (decide (e.bare op))):=by
 obtain⟨o,⟨k,a,s⟩,t,m,cG,args⟩:=e;refine pv c193 λ F hF=>?_;simp only[Ex.bare]
 by_cases h1:o=op
 ·by_cases h2:k=0/\a=0/\s=[]
  ·by_cases h3:t=[]
   ·by_cases h4:m=[]
    ·by_cases h5:cG=0
     ·simp[A193,hF,Ex.av,Ex.cells,h1,h2,h3,h4,h5];exact .bool ah
     simp[A193,hF,Ex.av,Ex.cells,h1,h2,h3,h4,h5];exact .bool ah
    simp[A193,hF,Ex.av,Ex.cells,h1,h2,h3,h4];exact .bool ah
   simp[A193,hF,Ex.av,Ex.cells,h1,h2,h3];exact .bool ah
  have h2':(decide (k=0)&&(decide (a=0)&&decide (s=[])))=false:=by simpa using λ a b c=>h2 ⟨a,b,c⟩
  simp[A193,hF,Ex.av,Ex.cells,h1,h2'];exact .bool ah
 simp[A193,hF,Ex.av,Ex.cells,h1];exact .bool ah
theorem wU (e:Ex):aj pG 194 [e.av] (.bool (decide (e.bare 0))):=by
 refine pv c194 λ F hF=>?_;simp[A194,hF];refine aB.pure (KE e 0) ?_;simp;exact .bool ah
mutual
def Ex.may:Ex->Bool
 |.mk op v t m cG args=>if op=1 then decide (t=[]/\m=[]/\cG=0/\args=[])&&(v.may&&(decide (v.kind≠1)||decide (0<=v.num)))
  else if op=2 then decide (bQ m)&&((decide (t=[])||decide (bQ t))&&decide ((v.kind=0/\v.num=0/\v.s=[])/\cG=0/\args=[]))
  else decide (4<=op/\op<=21)&&(decide ((args.length:Int)=if op<=7 then 1 else 2)&&(decide ((v.kind=0/\v.num=0/\v.s=[])/\t=[]/\m=[]/\cG=0)&&Ex.uN args))
def Ex.uN:List Ex->Bool
 |[]=>true
 |e::r=>e.may&&Ex.uN r
end
theorem Ex.Hi {l:List Ex}(h:Ex.uN l=true):∀i (hi:i<l.length),l[i].may=true:=by
 induction l with
 |nil=>intro i hi;simp at hi
 |cons e r ih =>
  simp[Ex.uN]at h;intro i hi
  cases i with
  |zero=>exact h.1
  |succ i=>exact ih h.2 i (by simpa using hi)
theorem Ex.afj {l:List Ex}(h:∀i (hi:i<l.length),l[i].may=true):Ex.uN l=true:=by
 induction l with
 |nil=>rfl
 |cons e r ih =>
  simp only[Ex.uN,dS];exact⟨h 0 ah,ih λ i hi=>h (i+1) (by simpa using hi)⟩
theorem Ex.XN {l:List Ex}{i:Nat}(hi:i<l.length)(h:l[i].may=false):Ex.uN l=false:=by
 cases hr:Ex.uN l with
 |false=>rfl
 |true=>rw[Ex.Hi hr i hi]at h;cases h
theorem XO : ∀ (N : Nat) (e:Ex),e.sz<=N->N<=aU->aj pG 111 [e.av] (.bool e.may)
 |0,e,h,_=>by have:=Ex.ny e;omega
 |N + 1, .mk op v t m cG args,ha,hN=>by
  simp only[Ex.sz]at ha;have hla:=Ex.rK args;refine pv c111 λ F hF=>?_;simp only[Ex.may]
  by_cases h1:op=1
  ·subst h1;obtain⟨k,a,s⟩:=v;rw[aw rfl];generalize hR:(decide (t=[]/\m=[]/\cG=0/\args=[])&&((Val.mk k a s).may&&(decide (k≠1)||decide (0<=a))))=R;simp[A111,hF,Ex.av,Ex.cells];refine aB.pure (KE (.mk 1 ⟨0,0,[]⟩ t m cG args) 1) ?_;simp only[Ex.bare]
   by_cases hb:t=[]/\m=[]/\cG=0/\args=[]
   ·simp[hb];refine aB.pure (mV ⟨k,a,s⟩) ?_
    cases hm:(Val.mk k a s).may with
    |false =>
     simp;exact .bool (by rw[<-hR,hm];simp)
    |true =>
     by_cases hk:k=1
     ·simp[hk];exact .bool (by rw[<-hR,hm];simp[hk,hb])
     simp[hk];exact .bool (by rw[<-hR,hm];simp[hk,hb])
   simp[hb];exact .bool (by rw[<-hR,decide_eq_false hb,Bool.false_and])
  by_cases h2:op=2
  ·subst h2;rw[ai ae,aw rfl];generalize hR:(decide (bQ m)&&((decide (t=[])||decide (bQ t))&&decide ((v.kind=0/\v.num=0/\v.s=[])/\cG=0/\args=[])))=R;simp[A111,hF,Ex.av,Ex.cells];refine aB.pure (qE m) ?_
   have tail:∀(b:Bool),b=(decide (bQ m)&&(decide (t=[])||decide (bQ t)))->∀(F':Fr) (K:Hp) (n:Nat) (Q:QA),F'.get 5=some (.bool b)->F'.get 1=some (.ptr 0 0)->K.get 0=some (.cells 8 [] (Ex.mk 2 v t m cG args).cells .nil)->(∀F2 K2 n2,F2.get 2=some (.bool R)->Q .ret F2 K2 n2 [])->VC pG FK F' K n [] (qf pG (.seq FH .ret) Q):=by
    intro b hb F' K n Q g5 g1 hK hQ;obtain⟨k,a,s⟩:=v;rw[<-Bool.and_assoc,<-hb]at hR;simp only[Ex.cells]at hK
    cases b with
    |false =>
     simp[FK,FH,g5,g1,hK];exact hQ _ _ _ (by rw[<-hR];simp)
    |true =>
     simp[FK,FH,g5,g1,hK];refine aB.pure (KE (.mk 2 ⟨k,a,s⟩ [] [] cG args) 2) ?_;simp;exact hQ _ _ _ (by rw[<-hR];simp[Ex.bare])
   have fin:∀F2 (K2:Hp) (n2:Nat),F2.get 2=some (.bool R)->jE 0 (qf pG (.seq (.seq kV (.cond (aA 109) (.seq mf .ret) .skip)) (.seq (.seq xu (.block 1 (.loop zQ))) (.seq xn .ret))) (kU [aG 2] λ v1 H' _=>e_ H'.get v1 (.bool R))) .ret F2 K2 n2 []:=by
    intro F2 K2 n2 h;simp[h];exact .bool rfl
   by_cases hm:bQ m
   ·by_cases ht:t=[]
    ·simp[hm,ht];refine tail true (by simp[hm,ht]) _ _ _ _ ah ah (by simp[Ex.cells,ht]) fin
    simp[hm,ht];refine aB.pure (qE t) ?_;simp;exact tail (decide (bQ t)) (by simp[hm,ht]) _ _ _ _ ah ah (by simp[Ex.cells]) fin
   simp[hm];exact tail false (by simp[hm]) _ _ _ _ ah ah (by simp[Ex.cells]) fin
  rw[ai h1,ai h2];generalize hR:(decide (4<=op/\op<=21)&&(decide ((args.length:Int)=if op<=7 then 1 else 2)&&(decide ((v.kind=0/\v.num=0/\v.s=[])/\t=[]/\m=[]/\cG=0)&&Ex.uN args)))=R
  have body : ∀ (wn:Int),wn=(if op<=7 then 1 else 2)->(4<=op/\op<=21)->∀F':Fr,F'.get 1=some (.ptr 0 0)->F'.get 3=some (zI wn)->∀K:Hp,K.get 0=some (.cells 8 [] (Ex.mk op v t m cG args).cells .nil)->∀n,0<n ->
    VC pG (.seq (.seq kV (.cond (aA 109) (.seq mf .ret) .skip)) (.seq (.seq xu (.block 1 (.loop zQ))) (.seq xn .ret))) F' K n [] (kU [aG 2] λ v1 H' _=>e_ H'.get v1 (.bool R)):=by
   intro wn hw hr F' g1 g3 K hK n hn;rw[<-hw,decide_eq_true hr,Bool.true_and]at hR;obtain⟨k,a,s⟩:=v;simp only[Ex.cells]at hK
   by_cases hlen:(args.length:Int)=wn
   ·by_cases hv : k=0/\a=0/\s=[]
    ·by_cases ht:t=[]
     ·by_cases hm:m=[]
      ·by_cases hc:cG=0
       ·simp[kV,g1,g3,hK,hlen,hv,ht,hm,hc,xu];obtain⟨rfl,rfl,rfl⟩:=hv;subst ht hm hc;have hR':Ex.uN args=R:=by rw[<-hR];simp[hlen]
        unfold aU at hN;refine aE.of (λ q F K n' ms=>∃i,q=args.length - i/\i<=args.length/\F.get 111=some (.ds (Ex.aT args) args.length 8)/\F.get 112=some (zI (args.length:Int))/\F.get 113=some (zI (i:Int))/\ms=[]/\∀j (hj:j<i) (h:j<args.length),args[j].may=true) args.length ⟨0,by simp[hlen]⟩ ?_;clear g1 g3 hK hF F F';rintro q F K n' ms ⟨i,rfl,hi,f111,f112,f113,rfl,hj⟩
        by_cases hlt:i<args.length
        ·have hx:=nP (k:=.i64) hlt;have m1:=Ex.rJ (dw hlt);simp[zQ,f112,f113,hlt,f111,hx];refine aB.pure (XO N args[i] ae (by unfold aU;omega)) ?_
         cases hr':args[i].may with
         |true =>
          simp[SJ,f111,f112,f113,aD i ae];refine⟨args.length - (i+1),ae,i+1,rfl,hlt,ae,λ j hj' h=>?_⟩
          by_cases e:j=i
          ·subst e;exact hr'
          exact hj j ae h
         |false =>
          simp[SK];exact .bool (by rw[<-hR',Ex.XN hlt hr'])
        obtain rfl:i=args.length:=ae;simp[zQ,f112,f113,xn];exact .bool (by rw[<-hR',Ex.afj λ j h=>hj j h h])
       simp[kV,g1,g3,hK,hlen,hv,ht,hm,hc,mf];exact .bool (by rw[<-hR];simp[hc])
      simp[kV,g1,g3,hK,hlen,hv,ht,hm,mf];exact .bool (by rw[<-hR];simp[hm])
     simp[kV,g1,g3,hK,hlen,hv,ht,mf];exact .bool (by rw[<-hR];simp[ht])
    have hv':(decide (k=0)&&(decide (a=0)&&decide (s=[])))=false:=by simpa using λ a b c=>hv ⟨a,b,c⟩
    simp[kV,g1,g3,hK,hlen,hv',mf];exact .bool (by rw[<-hR];simp[hv])
   simp[kV,g1,g3,hK,hlen,mf];exact .bool (by rw[<-hR];simp[hlen])
  by_cases hr:4<=op/\op<=21
  ·obtain⟨r1,r2⟩:=hr
   by_cases h7:op<=7
   ·have:op=4∨op=5∨op=6∨op=7:=ae
    rcases this with rfl|rfl|rfl|rfl<;>(simp[A111,hF,Ex.av,Ex.cells];simpa using body 1 ah ae _ ah ah _ (by simp[Ex.cells]) _ ae)
   have n4:¬op=4:=ae;have n5:¬op=5:=ae;have n6:¬op=6:=ae;have n7:¬op=7:=ae;simp[A111,hF,Ex.av,Ex.cells,h1,h2,n4,n5,n6,n7,show ¬op<8 by omega,show ¬ 21<op by omega];simpa using body 2 (by simp[h7]) ⟨r1,r2⟩ _ ah ah _ (by simp[Ex.cells]) _ ae
  have n4:¬op=4:=ae;have n5:¬op=5:=ae;have n6:¬op=6:=ae;have n7:¬op=7:=ae
  by_cases l8:op<8
  ·simp[A111,hF,Ex.av,Ex.cells,h1,h2,n4,n5,n6,n7,l8];exact .bool (by rw[<-hR,decide_eq_false hr,Bool.false_and])
  simp[A111,hF,Ex.av,Ex.cells,h1,h2,n4,n5,n6,n7,l8,show 21<op by omega];exact .bool (by rw[<-hR,decide_eq_false hr,Bool.false_and])
theorem XP (e:Ex)(h:e.sz<=aU):aj pG 111 [e.av] (.bool e.may):=XO aU e h (aK _)
def bK.kinds (t:bK):List Int:=t.cols.map (·.kind)
def aF (l:List bK):List Int:=l.flatMap bK.kinds
theorem jM {l:List bK}{i:Nat}(h:i<l.length):aF (l.take (i+1))=aF (l.take i)++l[i].kinds:=by
 rw[take_add_one,cX h];simp only[aF,flatMap_append,Option.toList,flatMap_cons,flatMap_nil,append_nil]
theorem qF (l:List bK)(i:Nat):(aF (l.take i)).length<=(aF l).length:=by
 conv=>rhs;rw[<-take_append_drop i l]
 simp only[aF,flatMap_append,length_append];omega
theorem JD {l:List oS}{j:Nat}(h:j<l.length):(l.take (j+1)).map (·.kind)=(l.take j).map (·.kind)++[l[j].kind]:=by
 rw[take_add_one,cX h];simp only[map_append,Option.toList,map_cons,map_nil]
def oN (ns:List (List Nat))(ts:List bK):List AV:=[dy.ds ns,aH.ds ts]
theorem afs (ns:List (List Nat)) (ts:List bK) (hl:(aF ts).length<=aU) (ht:ts.length<=aU) (hc:∀t∈ts,t.cols.length<=aU):
  ak pG 196 [.agg (oN ns ts) 2] .nil 0 (λ v K k=>aC K k v (cQ (aF ts)) (aF ts).length 1):=by
 unfold aU at hl ht hc;refine ak.of c196 (by simp[A196]) λ F hF=>?_;simp[A196,hF,oN,aZ.aM];refine aE.of (λ q F K n ms=>∃(i:Nat) (v:AV),q=ts.length - i/\i<=ts.length/\F.get 3=some v/\F.get 9=some (aH.ds ts)/\F.get 10=some (zI (ts.length:Int))/\F.get 11=some (zI (i:Int))/\aC K n v (cQ (aF (ts.take i))) (aF (ts.take i)).length 1/\ms=[]) ts.length ⟨0,.aV (.slice none 0 0),ah,ah,ah,ah,ah,ah,by simpa[aF,cQ]using aC.nil _ _ 1,rfl⟩ ?_;clear hF F;rintro q F K n ms ⟨i,v,rfl,hi,f3,f9,f10,f11,ho,rfl⟩
 by_cases hlt:i<ts.length
 ·have hx:=aH.ix (ik:=.i64) hlt;have hld:=λ H=>aH.pQ ts[i] (aH.l (ts.drop (i+1))) H;have hcl:=hc ts[i] (dw hlt);have hkl:=qF ts (i+1);rw[jM hlt]at hkl;simp[NN,f9,f10,f11,hlt,hx,hld,aZ.av];simp[eK,aZ.aM];refine aE.of (λ q F K n ms=>∃(j:Nat) (v:AV),q=ts[i].cols.length - j/\j<=ts[i].cols.length/\F.get 3=some v/\F.get 9=some (aH.ds ts)/\F.get 10=some (zI (ts.length:Int))/\F.get 11=some (zI (i:Int))/\F.get 16=some (dL.ds ts[i].cols)/\F.get 17=some (zI (ts[i].cols.length:Int))/\F.get 18=some (zI (j:Int))/\aC K n v (cQ (aF (ts.take i)++(ts[i].cols.take j).map (·.kind))) (aF (ts.take i)++(ts[i].cols.take j).map (·.kind)).length 1/\ms=[]) ts[i].cols.length ⟨0,v,ah,ah,by simp[f3],by simp[f9],by simp[f10],by simp[f11],ah,ah,ah,?_,rfl⟩ ?_
  ·simp
   exact ho.frame ae λ c hc=>by
    have:=ho.df hc;have q1:¬c=n:=ae;simp[q1]
  clear f3 f9 f10 f11 ho F v K n hx hld;rintro q F K n ms ⟨j,v,rfl,hj,f3,f9,f10,f11,f16,f17,f18,ho,rfl⟩
  by_cases hjl:j<ts[i].cols.length
  ·have hx:=dL.ix (ik:=.i64) hjl;have hld:=λ H=>dL.pQ ts[i].cols[j] (dL.l (ts[i].cols.drop (j+1))) H;simp[NP,f16,f17,f18,hjl,hx,hld,aZ.av];simp[acH,f3,u3];have hbl:=λ c hc=>ho.df (c:=c) hc;generalize hH1:Tr.put _ (n+1) _=H1
   have ho2:aC H1 (n+1+1) v (cQ (aF (ts.take i)++(ts[i].cols.take j).map (·.kind))) (aF (ts.take i)++(ts[i].cols.take j).map (·.kind)).length 1:=ho.frame ae λ c hc=>by
    have:=hbl c hc;have q1:¬c=n:=ae;have q2:¬c=n+1:=ae;rw[<-hH1];simp[q1,q2]
   have hw:H1.get (n+1)=aR 1 (cQ [ts[i].cols[j].kind]):=by rw[<-hH1];simp[cQ]
   clear hH1
   have hsc:aX H1 1 (.sl (n+1) 0 1 1)=some (cQ [ts[i].cols[j].kind]):=by
    rw[bT hw (OwnB.list ah) ah];simp[cQ]
   have hjl2:(aF (ts.take i)++(ts[i].cols.take j).map (·.kind)).length<=1048576:=by
    have h1:((ts[i].cols.take j).map (·.kind)).length<=ts[i].kinds.length:=by simp[bK.kinds];omega
    simp only[length_append]at hkl ⊢;omega
   refine aC.app (k:=1) (new:=cQ [ts[i].cols[j].kind]) ho2 hsc ah ah ae ae (by unfold big;omega) ae ah λ H' o' _=>?_;simp[acG,f18,aD j ae];refine⟨_,ae,j+1,rfl,ae,f9,f10,f11,f16,f17,ah,?_⟩;have hk:=JD hjl;rw[map_take]at hk;rw[hk,<-append_assoc,tR];have e1:(aF (ts.take i)).length+min (j+1) ts[i].cols.length=(aF (ts.take i)).length+min j ts[i].cols.length+1:=ae;rw[e1];simpa using o'
  have hje:j=ts[i].cols.length:=ae;rw[hje,take_length]at ho;simp[NP,RY,f11,f17,f18,hje,aD i ae];refine⟨_,ae,i+1,rfl,ae,v,f3,f9,f10,ah,?_⟩;rw[jM hlt];exact ho
 have hie:i=ts.length:=ae;subst hie;rw[take_length]at ho;simp[NN,RX,f3,f10,f11];exact ho
theorem XH (c:oS)(s:List Nat)(b:Nat)(H:Hp)(n:Nat)(hb:H.get b=aR 1 [.str s])(ht:dh H n):ak pG 262 [dL.av c,.ptr b 0] H n (λ u K k=>u=.bool (decide (c.name=s))/\K=H/\k=n):=by
 refine ak.forget ah (ak.of c262 (by simp[A262]) λ F hF=>?_);have q:¬b=n:=by have:=ht.lt hb;omega
 simp[A262,hF,aZ.av,u3,q,hb];rintro c hc rfl;exact ar (ht _ (aK _)) hc
def gw (table name:List Nat):List (List Nat×bK)->Nat->Int->Bool->Int×Int
 |[],_,found,src=>if 0<=found then (found,0)else if table≠[]/\src=false then (0,200)else (0,201)
 |(n,t)::r,at0,found,src =>
  if (table=[]∨n=table)/\0<=kN (λ c:oS=>decide (c.name=name)) t.cols then
   (if 0<=found then (0,205)else gw table name r (at0+t.cols.length) ((at0:Int)+kN (λ c:oS=>decide (c.name=name)) t.cols) true)
  else gw table name r (at0+t.cols.length) found (src||decide (table=[]∨n=table))
set_option maxHeartbeats 4000000 in
theorem aeM (ns:List (List Nat)) (ts:List bK) (table name:List Nat) (hn:ns.length=ts.length) (hl:(aF ts).length<=aU) (ht:ts.length<=aU) (hc:∀t∈ts,t.cols.length<=aU):
  aj pG 198 [.agg (oN ns ts) 2,.str table,.str name] (.bo [zI (gw table name (ns.zip ts) 0 (-1) false).1,zI (gw table name (ns.zip ts) 0 (-1) false).2]):=by
 unfold aU at hl ht;refine gW c198 (by simp[oN]) ah (by simp[A198]) λ F hF=>?_;simp[A198,hF,oN,aZ.aM];refine aE.of (λ q F K n ms=>∃(i:Nat) (found:Int) (src:Bool),q=ts.length - i/\i<=ts.length/\F.get 1=some (.str table)/\F.get 3=some (.ptr 0 0)/\F.get 5=some (.ptr 1 0)/\F.get 8=some (zI ((aF (ts.take i)).length:Int))/\F.get 9=some (zI found)/\F.get 10=some (.bool src)/\F.get 16=some (aH.ds ts)/\F.get 17=some (zI (ts.length:Int))/\F.get 18=some (zI (i:Int))/\dh K n/\K.get 0=aR 2 [dy.ds ns,aH.ds ts]/\K.get 1=aR 1 [.str name]/\found<1048577/\gw table name (ns.zip ts) 0 (-1) false=gw table name ((ns.zip ts).drop i) (aF (ts.take i)).length found src/\ms=[]) ts.length ⟨0,-1,false,ah,ah,by simp[hF],ah,ah,by simp[aF],ah,ah,ah,ah,ah,λ c hc=>?_,ah,ah,ae,by simp[aF],rfl⟩ ?_
 ·have q0:¬c=0:=ae;have q1:¬c=1:=ae;simp[q0,q1]
 clear hF F;rintro q F K n ms ⟨i,found,src,rfl,hi,f1,f3,f5,f8,f9,f10,f16,f17,f18,tp,k0,k1,hfo,he,rfl⟩
 by_cases hlt:i<ts.length
 ·have hx:=aH.ix (ik:=.i64) hlt;have hld:=λ H=>aH.pQ ts[i] (aH.l (ts.drop (i+1))) H;have hsx:=dy.ix (l:=ns) (i:=i) (ik:=.i64) ae;simp[zN,f16,f17,f18,hlt,hx,hld,aZ.av];have n0:=tp.lt k0;have n1:=tp.lt k1;have q0:¬n=0:=ae;have q1:¬n=1:=ae;have q0':¬ 0=n:=ae;have q1':¬ 1=n:=ae;rw[alC]at hsx;generalize hH1:Tr.put _ n _=H1;have hk1:H1.get 1=aR 1 [.str name]:=by rw[<-hH1];simp[q1',k1]
  have hk0:H1.get 0=aR 2 [dy.ds ns,aH.ds ts]:=by rw[<-hH1];simp[q0',k0]
  have hkn:H1.get n=aR 4 (aH.cells ts[i]):=by rw[<-hH1];simp
  have tp1:dh H1 (n+1):=by
   intro c hc;have q:¬c=n:=ae;rw[<-hH1];simp[q,tp c ae]
  clear hH1;rw[eK]at hkn;have hcl:=hc ts[i] (dw hlt)
  have hidx:ak pG 118 [dL.ds ts[i].cols,.fn (.func 262) [] [.ptr 1 0]] H1 (n+1) (λ u K k=>u=zI (kN (λ c:oS=>decide (c.name=name)) ts[i].cols)/\K=H1/\k=n+1):=
   r_ (el:=dL.av) (first:=[]) (cap:=[.ptr 1 0]) c118 hcl (dL.aM _) (λ i h=>⟨_,dL.ix h,λ F H n uS=>by simp[uS,dL.pQ]⟩) λ x _=>XH x name 1 H1 (n+1) hk1 tp1
  have hkb:kN (λ c:oS=>decide (c.name=name)) ts[i].cols<(ts[i].cols.length:Int):=by
   unfold kN
   split
   ·rename_i q hq;have:=(findIdx?_eq_some_iff_findIdx_eq.1 hq).1;omega
   omega
  have hst:(ns.zip ts).drop i=(ns[i]'ae,ts[i])::(ns.zip ts).drop (i+1):=by
   rw[ga (by simp;omega)];simp
  rw[hst,gw]at he;have hkl:=qF ts (i+1);rw[jM hlt,length_append]at hkl;have hkc:ts[i].kinds.length=ts[i].cols.length:=by simp[bK.kinds]
  have hkt:(aF (ts.take (i+1))).length=(aF (ts.take i)).length+ts[i].cols.length:=by rw[jM hlt,length_append,hkc]
  have w1:IntKind.i64.wrap (((aF (ts.take i)).length:Int)+(ts[i].cols.length:Int))=((aF (ts.take (i+1))).length:Int):=by
   rw[hkt];simp[IntKind.wrap,IntKind.signed,IntKind.bits];omega
  have w2:∀kk:Int,0<=kk->kk<(ts[i].cols.length:Int)->IntKind.i64.wrap (((aF (ts.take i)).length:Int)+kk)=((aF (ts.take i)).length:Int)+kk:=λ kk h1 h2=>by
   simp[IntKind.wrap,IntKind.signed,IntKind.bits];omega
  generalize hkk:kN (λ c:oS=>decide (c.name=name)) ts[i].cols=kk at hidx hkb he
  by_cases ht0:table=[]<;>by_cases hb:ns[i]'ae=table<;>cases src<;>simp[acD,acC,acB,f1,f3,f5,f10,hk0,hkn,hsx,ht0,hb]
  all_goals refine aB.same hidx ?_
  all_goals by_cases hk:0<=kk
  all_goals by_cases hf:0<=found
  all_goals simp[ht0,hb,hk,hf]at he
  all_goals simp[acA,acz,RJ,RI,RH,RG,hk,hf,f8,f9,f18,hkn,dL.aM,w1,w2 kk,hkb,aD i ae]
  all_goals first
   |(rw[he];exact fp)
   |skip
  all_goals exact⟨_,ae,i+1,rfl,ae,by first|exact f1|rw[f1,ht0],f3,f5,rfl,f16,f17,ah,tp1,hk0,hk1,ae,by rw[hkt];first|exact he|simpa using he⟩
 have hie:i=ts.length:=ae;have hdr:(ns.zip ts).drop i=[]:=drop_eq_nil_of_le (by simp;omega);rw[hdr,gw]at he
 by_cases hf:0<=found
 ·simp[hf]at he;simp[zN,xm,RF,f9,f17,f18,hie,hf];rw[he];exact fp
 by_cases ht0:table=[]
 ·simp[hf,ht0]at he;simp[zN,xm,Fe,Fb,f1,f9,f17,f18,hie,hf,ht0];rw[he];exact fp
 cases src<;>simp[hf,ht0]at he<;>simp[zN,xm,Fe,RE,Fb,f1,f9,f10,f17,f18,hie,hf,ht0]<;>rw[he]<;>exact fp
mutual
theorem Pure.jU {n:Nat}:∀ {v:AV},Pure v->iK n v
 |.int _ _,_=>ah
 |.bool _,_=>ah
 |.str _,_=>ah
 |.aV _,_=>ah
 |.agg cs _,h=>by simpa using aP.jU (by simpa using h)
 |.bo cs,h=>by simpa using aP.jU (by simpa using h)
 |.ds cs _ _,h=>by simpa using aP.jU (by simpa using h)
 |.dp cs,h=>by simpa using aP.jU (by simpa using h)
 |.oO _ v,h=>by simpa using Pure.jU (v:=v) (by simpa only [Pure]using h)
 |.fn _ a b,h=>by
  have h:aP a/\aP b:=by simpa[Pure]using h
  simpa[iK]using⟨aP.jU h.1,aP.jU h.2⟩
theorem aP.jU {n:Nat}:∀ {l:List AV},aP l->dJ n l
 |[],_=>ah
 |v::r,h=>by
  have h:Pure v/\aP r:=by simpa using h
  simpa using⟨Pure.jU h.1,aP.jU h.2⟩
end
def keep (err e:Int)(is:Bool):Int:=if is=true/\err=0 then e else err
theorem afV (p:Nat)(v1 v2:AV)(err e:Int)(is:Bool)(H:Hp)(n:Nat)(hp:H.get p=aR 3 [v1,v2,zI err]):
  ak pG 50 [.ptr p 0,zI e,.bool is] H n (λ u K k=>u=.bo []/\K.get p=aR 3 [v1,v2,zI (keep err e is)]/\(∀c,c≠p->K.get c=H.get c)/\k=n):=by
 refine ak.of c50 (by simp[A50]) λ F hF=>?_
 cases is with
 |false=>simp[A50,hF,keep,hp]
 |true =>
  by_cases h0:err=0
  ·simp[A50,hF,keep,hp,h0];exact λ c hc e=>ar e hc
  simp[A50,hF,keep,hp,h0]
theorem JP (p:Nat)(v1 v2:AV)(err e:Int)(is:Bool)(H:Hp)(n:Nat)(h1:Pure v1)(h2:Pure v2)(hpn:p<n)(hp:H.get p=aR 3 [v1,v2,zI err]):
  bu pG 50 [.ptr p 0,zI e,.bool is] H n (.bo []) (H.put p (aR 3 [v1,v2,zI (keep err e is)])) n:=by
 have g:∀(b:bG) c,(Tr.nil.put p (some b)).get c=if c=p then some b else none:=λ b c=>ah
 refine ak.okS (S:=Tr.nil.put p (aR 3 [v1,v2,zI err])) (S':=Tr.nil.put p (aR 3 [v1,v2,zI (keep err e is)]))
  ((afV p v1 v2 err e is _ n ah).mono λ u K k ⟨a,b,_,d⟩=>⟨a,λ c y hy=>?_,ae⟩) (aK _) (by simp[hpn]) (λ c k hk=>?_) (λ c k hk=>?_) (λ c hc=>?_) (λ c hc _=>?_)
 ·rw[g]at hy
  split at hy
  ·rename_i e1;injection hy with hy;subst hy e1;exact⟨_,b,.refl _⟩
  cases hy
 ·rw[g]at hk
  split at hk
  ·rename_i e1;injection hk with hk;subst hk e1;exact⟨hpn,bU (by simp[h1.jU,h2.jU])⟩
  cases hk
 ·rw[g]at hk
  split at hk
  ·rename_i e1;rw[e1,hp];exact hk
  cases hk
 ·rcases hc with h|h
  ·rw[g]at h
   by_cases e1:c=p
   ·simp[e1]
   rw[ai e1]at h;exact ar rfl h
  omega
 rw[g]at hc
 by_cases e1:c=p
 ·rw[aw e1]at hc;cases hc
 simp[e1]
def Ex.maybe (e:Ex):Bool:=decide (e.bare 0)||e.may
theorem afi (e:Ex)(h:e.sz<=aU):aj pG 112 [e.av] (.bool e.maybe):=by
 have hl:=wU e;have hm:=XP e h;have hav:e.av=.agg e.cells 8:=Eq.trans rfl rfl;rw[hav]at hl hm ⊢;refine pv c112 λ F hF=>?_
 by_cases hb:e.bare 0
 ·simp only[hb,decide_true]at hl;simp[A112,hF];refine aB.pure hl ?_;simp;exact .bool (by simp[Ex.maybe,hb])
 simp only[hb,decide_false]at hl;simp[A112,hF];refine aB.pure hl ?_;simp;refine aB.pure hm ?_;simp;exact .bool (by simp[Ex.maybe,hb])
def jg:aZ Ex 8:=⟨Ex.cells,Ex.bq,Ex.vH,Ex.br⟩
theorem ahl (l:List Ex):jg.l l=Ex.aT l:=by
 induction l with
 |nil=>simp[Ex.aT]
 |cons e r ih=>rw[aZ.lC,ih];rfl
structure zR where
 e:Ex
 name:List Nat
structure Src where
 table:List Nat
 name:List Nat
 cond:Ex
structure Ord where
 name:List Nat
 desc:Bool
structure St1 where
 name:List Nat
 e:Ex
def tV:aZ zR 9:=⟨λ x=>x.e.cells++[.str x.name],λ _=>ah,λ x=>aP.rW λ v hv=>by
 rcases mem_append.1 hv with h|h
 ·exact(Ex.vH x.e).mem v h
 simp at h;subst h;simp,λ x=>ah⟩
def gf:aZ Src 10:=⟨λ x=>.str x.table::.str x.name::x.cond.cells,λ _=>ah,λ x=>ah,λ x=>ah⟩
def tU:aZ Ord 2:=⟨λ x=>[.str x.name,.bool x.desc],λ _=>rfl,λ _=>ah,λ _=>ah⟩
def arb:aZ St1 9:=⟨λ x=>.str x.name::x.e.cells,λ _=>ah,λ x=>ah,λ x=>ah⟩
structure bI where
 mD:Bool
 star:Bool
 items:List zR
 ao:List Src
 cond:Ex
 order:List Ord
 limited:Bool
 limit:Int
def bI.cells (q:bI):List AV:=[.bool q.mD,.bool q.star,tV.ds q.items,gf.ds q.ao]++q.cond.cells++[tU.ds q.order,.bool q.limited,zI q.limit]
theorem bI.bq (q:bI):q.cells.length=15:=by simp[bI.cells]
theorem bI.pure (q:bI):aP q.cells:=aP.rW λ v hv=>by
 simp only[bI.cells,mem_append,mem_cons,not_mem_nil,or_false]at hv
 rcases hv with((h|h|h|h)|h)|h|h|h
 ·subst h;simp
 ·subst h;simp
 ·subst h;simp
 ·subst h;simp
 ·exact(Ex.vH q.cond).mem v h
 ·subst h;simp
 ·subst h;simp
 subst h;simp
end Go.Abs
