/- A part. -/
import Derived.Test.YtlhafglnokpioaaGreatVmC
noncomputable section
namespace Go.Abs
open List
set_option maxRecDepth 100000
abbrev zI (n:Int):AV:=.int .i64 n
abbrev aG (n:Nat)(l:List AV):Option br:=some (.cells n [] l .nil)
theorem fp {h:Hf}{v:AV}(k:Pure v:=by simp):eY h v v:=.pure v k
theorem pv {P:Program}{g:FuncId}{c:CF}{args:List AV}{v:AV}(hc:HU P g=some c)(h:∀F:Fr,(∀i,F.get i=args[i]?)->VC P c.code F .nil 0 [] (iO c.res λ v1 H' _=>eY H'.get v1 v))(hp:aJ args:=by simp)(hv:Pure v:=by simp)(hl:args.length<=c.nt:=by exact dE rfl):ae P g args v:=hU hc hp hv hl h
structure aL (α:Type)(k:Nat) where
 cells:α->List AV
 len:∀a,(cells a).length=k
 QI:∀a,aJ (cells a)
 one:∀a,aY (cells a)=true
variable {α:Type}{k:Nat}
def aL.l (E:aL α k)(l:List α):List AV:=l.flatMap E.cells
def aL.ds (E:aL α k)(l:List α):AV:=.ds (E.l l) l.length k
def aL.av (E:aL α k)(a:α):AV:=.agg (E.cells a) k
@[simp] theorem aL.bf (E:aL α k)(a:α):(E.cells a).length=k:=E.len a
@[simp] theorem aL.aic (E:aL α k)(a:α):aJ (E.cells a):=E.QI a
@[simp] theorem aL.cells_one (E:aL α k)(a:α):aY (E.cells a)=true:=E.one a
@[simp] theorem aL.atX (E:aL α k):E.l []=[]:=rfl
theorem aL.kz (E:aL α k)(a:α)(r:List α):E.l (a::r)=E.cells a++E.l r:=rfl
theorem aL.dV (E:aL α k)(a b:List α):E.l (a++b)=E.l a++E.l b:=by simp[aL.l]
theorem aL.lP (E:aL α k)(a:α):E.l [a]=E.cells a:=by simp[aL.l]
@[simp] theorem aL.alU (E:aL α k)(l:List α):(E.l l).length=l.length*k:=by
 induction l with
 |nil=>simp
 |cons a r ih=>simp[aL.kz,ih,Nat.add_mul];omega
@[simp] theorem aL.nR (E:aL α k)(l:List α):aJ (E.l l):=aJ.nO λ v hv=>by
 obtain⟨a,_,ha⟩:=mem_flatMap.1 hv;exact(E.QI a).mem v ha
@[simp] theorem aL.alV (E:aL α k)(l:List α):aY (E.l l)=true:=by
 induction l with
 |nil=>rfl
 |cons a r ih=>simp[aL.kz,ih]
@[simp] theorem aL.aqc (E:aL α k)(l:List α):Pure (E.ds l):=by simp[aL.ds]
@[simp] theorem aL.aqq (E:aL α k)(a:α):Pure (E.av a):=by simp[aL.av]
theorem aL.ag1 (E:aL α k){l:List α}{i:Nat}(h:i<l.length):(E.l l).drop (i*k)=E.cells l[i]++E.l (l.drop (i+1)):=by
 induction l generalizing i with
 |nil=>simp at h
 |cons a r ih =>
  cases i with
  |zero=>simp[aL.kz]
  |succ i =>
   have e1:(i+1)*k=k+i*k:=by rw[Nat.add_mul];omega
   rw[aL.kz,e1,<-drop_drop,drop_left' (E.len a)];simpa using ih (by simpa using h)
theorem aL.abu (E:aL α k)(l:List α)(i:Nat):(E.l l).drop (i*k)=E.l (l.drop i):=by
 induction l generalizing i with
 |nil=>simp
 |cons a r ih =>
  cases i with
  |zero=>simp
  |succ i =>
   have e1:(i+1)*k=k+i*k:=by rw[Nat.add_mul];omega
   rw[aL.kz,e1,<-drop_drop,drop_left' (E.len a),ih];rfl
theorem aL.agZ (E:aL α k)(l:List α)(i:Nat):(E.l l).take (i*k)=E.l (l.take i):=by
 induction l generalizing i with
 |nil=>simp
 |cons a r ih =>
  cases i with
  |zero=>simp
  |succ i =>
   have e1:(i+1)*k=k+i*k:=by rw[Nat.add_mul];omega
   rw[aL.kz,e1,take_add,take_left' (E.len a),drop_left' (E.len a),ih];rfl
theorem aL.ix (E:aL α k){l:List α}{i:Nat}{ik:IntKind}(h:i<l.length):e9 k (E.ds l) (.int ik (i:Int))=.val (.dp (E.cells l[i]++E.l (l.drop (i+1)))):=by
 rw[aL.ds,rN h,E.ag1 h]
theorem aL.mf (E:aL α k)(a:α)(r:List AV)(H:Hp):cZ k (.dp (E.cells a++r)) H=.val (E.av a):=pI r (E.len a)
theorem aL.aD (E:aL α k)(l:List α):aZ (E.ds l)=.val (zI (l.length:Int)):=by simp[aL.ds]
theorem aL.OT (E:aL α k){l:List α}{i:Nat}(h:i<=l.length):mL k none (some (zI (i:Int))) none (E.ds l)=.val (E.ds (l.take i)):=by
 unfold mL aL.ds
 have:Br l.length none (some (zI (i:Int))) none=some (0,i):=by
  simp[Br,show bnd l.length (some (zI (i:Int)))=some i from rfl,show bnd l.length none=some l.length from rfl,show bnd 0 none=some 0 from rfl,h]
 simp only[this];simp[E.agZ,Nat.min_eq_left h]
end Go.Abs
namespace Go.Abs
open List
open Go.Proofs
set_option maxRecDepth 100000
structure Want where
 n:Int
 part:Int
 kind:Int
 any:Bool
 alike:Bool
def Want.av (w:Want):AV:=.agg [zI w.n,zI w.part,zI w.kind,.bool w.any,.bool w.alike] 5
def j9 (op:Int):Want×Bool:=
 if op=4 then (⟨1,1,1,false,false⟩,true)else if op=5 then (⟨1,3,3,false,false⟩,true)else if op=6∨op=7 then (⟨1,0,3,true,false⟩,true)
 else if 8<=op/\op<=12 then (⟨2,1,1,false,false⟩,true)else if op=13 then (⟨2,2,2,false,false⟩,true)else if op=20∨op=21 then (⟨2,3,3,false,false⟩,true)
 else if 14<=op/\op<=19 then (⟨2,0,3,true,true⟩,true)else (⟨0,0,0,false,false⟩,false)
@[simp] theorem Want.pure (w:Want):Pure w.av:=by simp[Want.av]
theorem DG (op:Int):ae pG 199 [zI op] (.aX [(j9 op).1.av,.bool (j9 op).2]):=by
 by_cases h:4<=op/\op<=21
 ·obtain⟨h1,h2⟩:=h;have:op=4∨op=5∨op=6∨op=7∨op=8∨op=9∨op=10∨op=11∨op=12∨op=13∨op=14∨op=15∨op=16∨op=17∨op=18∨op=19∨op=20∨op=21:=by omega
  rcases this with h|h|h|h|h|h|h|h|h|h|h|h|h|h|h|h|h|h<;>subst h<;>exact .lit (by simp) (by simp) (by kernel_rfl)
 have hw:j9 op=(⟨0,0,0,false,false⟩,false):=by unfold j9;repeat (rw[ah (by omega)])
 rw[hw];refine pv c199 λ F hF=>?_;have hk:∀k:Int,4<=k/\k<=21->¬op=k:=λ k hk e=>h (e▸hk);simp[A199,hF,hk];exact fp
structure Val where
 kind:Int
 num:Int
 s:List Nat
def Val.cells (v:Val):List AV:=[zI v.kind,zI v.num,.str v.s]
def Val.av (v:Val):AV:=.agg [zI v.kind,zI v.num,.str v.s] 3
inductive Ex where
 |mk (op:Int) (v:Val) (t m:List Nat) (dT:Int) (args:List Ex)
mutual
def Ex.cells:Ex->List AV
 |.mk op v t m dT args=>[zI op,zI v.kind,zI v.num,.str v.s,.str t,.str m,zI dT,.ds (Ex.bq args) args.length 8]
def Ex.bq:List Ex->List AV
 |[]=>[]
 |e::r=>e.cells++Ex.bq r
end
def Ex.av (e:Ex):AV:=.agg e.cells 8
@[simp] theorem Ex.aod (e:Ex):e.av.cells=e.cells:=Eq.trans rfl rfl
@[simp] theorem Ex.as2 (e:Ex):e.av.len=8:=Eq.trans rfl rfl
@[simp] theorem Ex.bf (e:Ex):e.cells.length=8:=by cases e;simp[Ex.cells]
@[simp] theorem Ex.aie (l:List Ex):(Ex.bq l).length=l.length*8:=by
 induction l with
 |nil=>simp[Ex.bq]
 |cons e r ih=>simp[Ex.bq,ih];omega
@[simp] theorem Ex.take8 (e:Ex):e.cells.take 8=e.cells:=eZ (by simp)
@[simp] theorem Ex.aY (e:Ex):Go.Abs.aY e.cells=true:=by cases e;simp[Ex.cells]
@[simp] theorem Ex.aqr (l:List Ex):Go.Abs.aY (Ex.bq l)=true:=by
 induction l with
 |nil=>simp[Ex.bq]
 |cons e r ih=>simp[Ex.bq,ih]
mutual
theorem Ex.tM:∀e:Ex,aJ e.cells
 |.mk op v t m dT args=>by simp[Ex.cells,Ex.Aj args]
theorem Ex.Aj:∀l:List Ex,aJ (Ex.bq l)
 |[]=>by simp[Ex.bq]
 |e::r=>by simp[Ex.bq,Ex.tM e,Ex.Aj r]
end
@[simp] theorem Ex.pure (e:Ex):Pure e.av:=by simp[Ex.av,Ex.tM]
@[simp] theorem Ex.aq2 (l:List Ex):aJ (Ex.bq l):=Ex.Aj l
@[simp] theorem Ex.aq3 (e:Ex):aJ e.cells:=Ex.tM e
theorem Ex.drop (l:List Ex)(i:Nat)(h:i<l.length):(Ex.bq l).drop (i*8)=l[i].cells++Ex.bq (l.drop (i+1)):=by
 induction l generalizing i with
 |nil=>simp at h
 |cons e r ih =>
  cases i with
  |zero=>simp[Ex.bq]
  |succ i =>
   have e1:(i+1)*8=8+i*8:=by omega
   rw[Ex.bq,e1,<-drop_drop,drop_left' (Ex.bf e)];simpa using ih i (by simpa using h)
theorem sD {l:List Ex}{i:Nat}{k:IntKind}(h:i<l.length):e9 8 (.ds (Ex.bq l) l.length 8) (.int k (i:Int))=.val (.dp (l[i].cells++Ex.bq (l.drop (i+1)))):=by
 rw[rN h,Ex.drop l i h]
@[simp] theorem atW (e:Ex)(r:List AV)(H:Hp):cZ 8 (.dp (e.cells++r)) H=.val e.av:=pI r (Ex.bf e)
def Val.may (v:Val):Bool:=
 if v.kind=0 then decide (v.num=0)&&decide (v.s=[])else if v.kind=1 then decide (v.s=[])else if v.kind=2 then decide (v.num=0)&&decide (v.s.length<=64)
 else if v.kind=3 then decide (v.s=[])&&(decide (v.num=0)||decide (v.num=1))else false
@[simp] theorem Val.pure (v:Val):Pure v.av:=by simp[Val.av]
theorem lO (v:Val):ae pG 88 [v.av] (.bool v.may):=by
 obtain⟨k,i,s⟩:=v;refine pv c88 λ F hF=>?_;simp only[Val.may]
 by_cases h0:k=0
 ·subst h0;simp[A88,hF,Val.av];exact .bool (by simp;try omega)
 by_cases h1:k=1
 ·subst h1;simp[A88,hF,Val.av];exact .bool (by simp;try omega)
 by_cases h2:k=2
 ·subst h2
  by_cases hi:i=0
  ·simp[A88,hF,Val.av,hi];exact .bool (by simp;try omega)
  simp[A88,hF,Val.av,hi];exact .bool (by simp;try omega)
 by_cases h3:k=3
 ·subst h3
  by_cases hs:s=[]
  ·by_cases hi:i=0
   ·simp[A88,hF,Val.av,hi,hs];exact .bool (by simp;try omega)
   simp[A88,hF,Val.av,hi,hs];exact .bool (by simp;try omega)
  simp[A88,hF,Val.av,hs];exact .bool (by simp;try omega)
 simp[A88,hF,Val.av,h0,h1,h2,h3];exact .bool (by simp;try omega)
mutual
theorem Ex.inj:∀(a b:Ex),a.cells=b.cells->a=b
 |.mk op v t m dT args,.mk op' v' t' m' col' args',h=>by
  simp only[Ex.cells,List.cons.injEq,AV.int.injEq,AV.str.injEq,AV.ds.injEq,true_and,and_true]at h;obtain⟨h1,h2,h3,h4,h5,h6,h7,h8,_⟩:=h;have:=Ex.al6 args args' h8;obtain⟨k,i,s⟩:=v;obtain⟨k',i',s'⟩:=v';simp_all
theorem Ex.al6:∀(l l':List Ex),Ex.bq l=Ex.bq l'->l=l'
 |[],[],_=>rfl
 |[],e::r,h=>by have:=congrArg length h;simp at this
 |e::r,[],h=>by have:=congrArg length h;simp at this
 |e::r,e'::r',h=>by
  simp only[Ex.bq]at h;obtain⟨h1,h2⟩:=append_inj h (by simp);rw[Ex.inj e e' h1,Ex.al6 r r' h2]
end
mutual
def Ex.sz:Ex->Nat
 |.mk _ _ _ _ _ args=>1+Ex.zW args
def Ex.zW:List Ex->Nat
 |[]=>0
 |e::r=>e.sz+Ex.zW r
end
theorem Ex.sj (e:Ex):0<e.sz:=by cases e;simp[Ex.sz];omega
theorem Ex.GV (l:List Ex):l.length<=Ex.zW l:=by
 induction l with
 |nil=>simp[Ex.zW]
 |cons e r ih=>have:=Ex.sj e;simp[Ex.zW];omega
theorem Ex.vC {l:List Ex}{e:Ex}(h:e∈l):e.sz<=Ex.zW l:=by
 induction l with
 |nil=>cases h
 |cons a r ih =>
  cases h with
  |head=>simp[Ex.zW]
  |tail _ hm=>have:=ih hm;simp[Ex.zW];omega
def aM:Nat:=1048576
open Classical in
theorem aC (i:Nat)(h:i<2147483648):IntKind.i64.wrap ((i:Int)+1)=((i+1:Nat):Int):=by
 simp[IntKind.wrap,IntKind.signed,IntKind.bits];omega
end Go.Abs
namespace Go.Abs
open List
open Go.Proofs
set_option maxRecDepth 100000
open Classical in
theorem Ex.yn (a b:List Ex):Ex.bq (a++b)=Ex.bq a++Ex.bq b:=by
 induction a with
 |nil=>simp[Ex.bq]
 |cons e r ih=>simp[Ex.bq,ih]
end Go.Abs
namespace Go.Abs
open List
open Go.Proofs
set_option maxRecDepth 100000
theorem Ex.Q0 {args:List Ex}{i:Nat}(h:i<args.length):args[i].sz<=Ex.zW args:=Ex.vC (b6 h)
def Ex.split (e:Ex):List Ex:=match e with
 |.mk op v t m dT args=>if h:op=20/\args.length=2 then (args[0]'(by omega)).split++(args[1]'(by omega)).split else [.mk op v t m dT args]
 termination_by e.sz
 decreasing_by
 ·have:=Ex.Q0 (args:=args) (i:=0) (by omega);simp[Ex.sz];omega
 have:=Ex.Q0 (args:=args) (i:=1) (by omega);simp[Ex.sz];omega
def kL {α:Type}(p:α->Bool)(l:List α):Int:=match l.findIdx? p with
 |some i=>(i:Int)
 |none => -1
def ahb (s:Nat) (ld:Eff):CF:={res:=[aI 4],code:=.seq (.mc [oP (bm 4) (ej (aT (zI 0)))]) (.seq (.seq (.mc [oP (bm 6) (ej (ar 0)),oP (bm 7) (e1 aZ (ar 6)),oP (bm 8) (ej (aT (zI 0)))]) (.block 0 (.loop
 (.seq (.mc [oP (bm 9) (e2 (dq .lss) (ar 8) (ar 7))]) (.seq (.cond (ar 9) .skip (.exit 0)) (.seq (.block 1 (.seq (.mc [oP (bm 10) (ej (ar 8)),oP (bm 5) (ej (ar 10))]) (.seq (.mc [oP (bm 11) (ej (ar 1)),oP (bm 12) (ej (ar 0)),oP (bm 13) (ej (ar 5)),oP (bm 14) (e2 (e9 s) (ar 12) (ar 13)),oP (bm 15) ld,vP (bm 16) (ar 11) [(ar 15)]])
  (.cond (ar 16) (.seq (.mc [oP (bm 17) (ej (ar 5)),oP (bm 4) (ej (ar 17))]) .ret) .skip)))) (.mc [oP (bm 18) (e2 (dq .add) (ar 8) (aT (zI 1))),oP (bm 8) (ej (ar 18))])))))))
 (.seq (.mc [oP (bm 4) (ej (aT (zI (-1))))]) .ret)),nt:=19}
theorem sF {α:Type}{p:α->Bool}{l:List α}{i:Nat}(h:i<l.length)(hp:p l[i]=true)(hn:∀j (hj:j<i),p (l[j]'(by omega))=false):kL p l=(i:Int):=by
 have:l.findIdx? p=some i:=by
  rw[findIdx?_eq_some_iff_getElem];exact⟨h,hp,λ j hj=>by simpa using hn j hj⟩
 simp[kL,this]
theorem zj {α:Type}{p:α->Bool}{l:List α}(hn:∀j (hj:j<l.length),p l[j]=false):kL p l = -1:=by
 have:l.findIdx? p=none:=by
  rw[findIdx?_eq_none_iff];intro x hx;obtain⟨j,hj,rfl⟩:=getElem_of_mem hx;simpa using hn j hj
 simp[kL,this]
theorem nU {α:Type}{P:Program}{g:FuncId}{s:Nat}{ld:Eff}{v:AV}{el:α->AV}{xs:List α}{f:FuncId}{first cap:List AV}{p:α->Bool}{H:Hp}{n:Nat}(hc:HU P g=some (ahb s ld))(hl:xs.length<=aM)(hlen:aZ v=.val (zI (xs.length:Int)))
  (hx:∀i (h:i<xs.length),∃q,e9 s v (zI (i:Int))=.val q/\∀(F:Fr) H n,F.get 14=some q->ld F H n=.val (el xs[i]))
  (hp:∀x∈xs,aj P f (first++([el x]++cap)) H n (λ u K k=>u=.bool (p x)/\K=H/\k=n)):
  aj P g [v,.fn (.func f) first cap] H n (λ u K k=>u=zI (kL p xs)/\K=H/\k=n):=by
 refine aj.of hc (by simp[ahb]) λ F hF=>?_;unfold aM at hl;simp[ahb,hF,hlen]
 refine aE.of (λ k F K m m_=>∃i,k=xs.length - i/\i<=xs.length/\F.get 0=some v/\F.get 1=some (.fn (.func f) first cap)/\F.get 7=some (zI (xs.length:Int))/\F.get 8=some (zI (i:Int)) /\
  K=H/\m=n/\m_=[]/\∀j (hj:j<i) (h:j<xs.length),p xs[j]=false) xs.length ⟨0,by simp[hF]⟩ ?_
 rintro k F K m m_ ⟨i,rfl,hi,f0,f1,f7,f8,rfl,rfl,rfl,hj⟩
 by_cases hlt:i<xs.length
 ·obtain⟨q,hq,hld⟩:=hx i hlt;simp[f0,f1,f7,f8,hlt,hq];rw[hld _ _ _ (by simp)];simp;refine aw.same (hp xs[i] (b6 hlt)) ?_;simp;refine xZ.ofB (λ hb=>?_) λ hb=>?_
  ·simp;exact(sF hlt hb λ j hj'=>hj j hj' (by omega)).symm
  simp[f0,f1,f7,f8,aC i (by omega)];refine⟨xs.length - (i+1),by omega,i+1,rfl,hlt,by omega,λ j hj' h=>?_⟩
  by_cases e:j=i
  ·subst e;exact hb
  exact hj j (by omega) h
 simp[f7,f8,hlt];exact(zj λ j h=>hj j (by omega) h).symm
def ah5 (g:FuncId):CF:={res:=[aI 4],code:=.seq (.mc [oP (bm 4) (ej (aT (.bool false)))]) (.seq (.mc [oP (bm 5) (ej (ar 0)),oP (bm 6) (ej (ar 1)),cP (bm 7) g [(ar 5),(ar 6)],oP (bm 8) (e2 (dq .geq) (ar 7) (aT (zI 0))),oP (bm 4) (ej (ar 8))]) .ret),nt:=9}
theorem wC {α:Type}(p:α->Bool)(l:List α):decide (0<=kL p l)=l.any p:=by
 unfold kL
 cases h:l.findIdx? p with
 |none =>
  rw[findIdx?_eq_none_iff]at h
  have:l.any p=false:=by
   rw[any_eq_false];intro x hx;simpa using h x hx
  simp[this]
 |some i =>
  rw[findIdx?_eq_some_iff_getElem]at h;obtain⟨h1,h2,_⟩:=h;have:l.any p=true:=by rw[any_eq_true];exact⟨_,b6 h1,h2⟩
  simp[this]
theorem w_ {α:Type}{P:Program}{g c:FuncId}{v fv:AV}{xs:List α}{p:α->Bool}{H:Hp}{n:Nat}(hc:HU P c=some (ah5 g))(h:aj P g [v,fv] H n (λ u K k=>u=zI (kL p xs)/\K=H/\k=n)):
  aj P c [v,fv] H n (λ u K k=>u=.bool (xs.any p)/\K=H/\k=n):=by
 refine aj.of hc (by simp[ah5]) λ F hF=>?_;simp[ah5,hF];refine aw.same h ?_;simp[wC]
mutual
def Ex.right (n:Int):Ex->Bool
 |.mk op v _ _ dT args=>if op=1 then decide (args.length=0)&&v.may else if op=3 then decide (args.length=0)&&(decide (0<=dT)&&decide (dT<n))
  else (j9 op).2&&(decide ((args.length:Int)=(j9 op).1.n)&&Ex.Rw n args)
def Ex.Rw (n:Int):List Ex->Bool
 |[]=>true
 |e::r=>e.right n&&Ex.Rw n r
end
def cu (l:List Int):List AV:=l.map (.int .i64)
@[simp] theorem ajv (l:List Int):(cu l).length=l.length:=by simp[cu]
@[simp] theorem ag4 (l:List Int):aJ (cu l):=aJ.nO λ v hv=>by
 simp only[cu,mem_map]at hv;obtain⟨i,_,rfl⟩:=hv;simp
@[simp] theorem aju (l:List Int):aY (cu l)=true:=by
 induction l with
 |nil=>rfl
 |cons a r ih=>simp only[cu,map_cons,oG,aaY,Bool.true_and];exact ih
theorem rE (a b:List Int):cu (a++b)=cu a++cu b:=by simp[cu]
theorem Hy (l:List Int)(i:Nat)(h:i<l.length):(cu l).drop i=zI l[i]::cu (l.drop (i+1)):=by
 unfold cu;rw[<-map_drop,km h];rfl
theorem uQ {l:List Int}{i:Nat}{k:IntKind}(h:i<l.length):e9 1 (.ds (cu l) l.length 1) (.int k (i:Int))=.val (.dp (zI l[i]::cu (l.drop (i+1)))):=by
 rw[rN h,Nat.mul_one,Hy l i h]
def Want.fits (w:Want)(l:List Int):Bool:=
 if w.any=true then !w.alike||(decide (l.getD 0 0=l.getD 1 0)||(decide (l.getD 0 0=0)||decide (l.getD 1 0=0)))else !(l.any λ k=>decide (k≠0)&&decide (k≠w.part))
theorem ahB {H:Hp}{n b:Nat}(w:Want)(k:Int)(hb:H.get b=aG 5 [zI w.n,zI w.part,zI w.kind,.bool w.any,.bool w.alike]):
  aj pG 264 [zI k,.ptr b 0] H n (λ u K j=>u=.bool (decide (k≠0)&&decide (k≠w.part))/\K=H/\j=n):=by
 refine aj.of c264 (by simp[A264]) λ F hF=>?_
 by_cases h0:k=0
 ·simp[A264,hF,h0]
 simp[A264,hF,hb,h0]
theorem ahC (w:Want)(l:List Int)(hl:l.length<=aM)(h2:w.any=true->w.alike=true->2<=l.length):ae pG 200 [w.av,.ds (cu l) l.length 1] (.bool (w.fits l)):=by
 obtain⟨wn,wp,wk,wa,wl⟩:=w;refine pv c200 λ F hF=>?_;simp only[Want.fits]
 cases wa with
 |false =>
  simp[A200,hF,Want.av];refine aw.same (w_ (xs:=l) (p:=λ k=>decide (k≠0)&&decide (k≠wp)) c263 (nU (el:=λ k=>zI k) (first:=[]) (cap:=[.ptr 0 0]) c301 hl (by simp) (λ i h=>⟨_,uQ h,λ F H n pq=>by simp[pq]⟩) λ x hx=>ahB ⟨wn,wp,wk,false,wl⟩ x (by simp))) ?_;simp;exact .bool (by simp)
 |true =>
  cases wl with
  |false =>
   simp[A200,hF,Want.av];refine cj.of (cN (P:=pG)) ?_;simp[ab];exact .bool (by simp)
  |true =>
   have h2:=h2 rfl rfl
   match l,h2 with
   |a :: b::r,_ =>
    have x0:e9 1 (.ds (cu (a::b::r)) (r.length+1+1) 1) (zI 0)=.val (.dp (zI a::cu (b::r))):=by
     have:=uQ (l:=a::b::r) (i:=0) (k:=.i64) (by simp);simpa using this
    have x1:e9 1 (.ds (cu (a::b::r)) (r.length+1+1) 1) (zI 1)=.val (.dp (zI b::cu r)):=by
     have:=uQ (l:=a::b::r) (i:=1) (k:=.i64) (by simp);simpa using this
    simp[A200,hF,Want.av];refine cj.of (cN (P:=pG)) ?_
    by_cases e1:a=b
    ·subst e1;simp[ab,hF,x0,x1];exact .bool (by simp)
    by_cases e2:a=0
    ·subst e2;simp[ab,hF,x0,x1,e1];exact .bool (by simp)
    simp[ab,hF,x0,x1,e1,e2];exact .bool (by simp)
end Go.Abs
namespace Go.Abs
open List
open Go.Proofs
open Classical
set_option maxRecDepth 100000
structure ny where
 name:List Nat
 kind:Int
 need:Bool
structure bo where
 id:Int
 name:List Nat
 cols:List ny
 head:Int
structure mb where
 id:Int
 table:Int
 name:List Nat
 cols:List Int
 uniq:Bool
 root:Int
structure bB where
 tables:List bo
 indexes:List mb
def cK:aL (List Nat) 1:=⟨λ s=>[.str s],λ _=>rfl,λ _=>by simp,λ _=>by simp[aY,AV.one]⟩
def cQ:aL Int 1:=⟨λ i=>[zI i],λ _=>rfl,λ _=>by simp,λ _=>by simp[aY,AV.one]⟩
def bL:aL ny 3:=⟨λ c=>[.str c.name,zI c.kind,.bool c.need],λ _=>rfl,λ _=>by simp,λ _=>by simp[aY,AV.one]⟩
def aA:aL bo 4:=⟨λ t=>[.int .u32 t.id,.str t.name,bL.ds t.cols,.int .u32 t.head],λ _=>rfl,λ _=>by simp,λ _=>by simp[aY,AV.one,aL.ds]⟩
def aQ:aL mb 6:=⟨λ x=>[.int .u32 x.id,.int .u32 x.table,.str x.name,cQ.ds x.cols,.bool x.uniq,.int .u32 x.root],λ _=>rfl,λ _=>by simp,λ _=>by simp[aY,AV.one,aL.ds]⟩
def fe:aL bB 2:=⟨λ s=>[aA.ds s.tables,aQ.ds s.indexes],λ _=>rfl,λ _=>by simp,λ _=>by simp[aY,AV.one,aL.ds]⟩
theorem ahP (s:List Nat):cK.cells s=[.str s]:=rfl
theorem HQ (i:Int):cQ.cells i=[zI i]:=rfl
theorem nY (c:ny):bL.cells c=[.str c.name,zI c.kind,.bool c.need]:=rfl
theorem dB (t:bo):aA.cells t=[.int .u32 t.id,.str t.name,bL.ds t.cols,.int .u32 t.head]:=rfl
theorem eC (x:mb):aQ.cells x=[.int .u32 x.id,.int .u32 x.table,.str x.name,cQ.ds x.cols,.bool x.uniq,.int .u32 x.root]:=rfl
theorem dI (s:bB):fe.cells s=[aA.ds s.tables,aQ.ds s.indexes]:=rfl
def Ic (c:Nat):Prop:=97<=c/\c<=122
def Ib (c:Nat):Prop:=(48<=c/\c<=57)∨c=95
def fk (s:List Nat):Prop:=s≠[]/\s.length<=24/\∀j (h:j<s.length),Ic s[j]∨(0<j/\Ib s[j])
theorem LR {l:List Nat}{i:Nat}{k:IntKind}(h:i<l.length):xh (.str l) (.int k (i:Int))=.val (.int .u8 (l[i]:Int)):=by
 unfold xh;simp[mA,cE h]
theorem name44 (s:List Nat):ae pG 81 [.str s] (.bool (decide (fk s))):=by
 refine pv c81 λ F hF=>?_;simp[A81,hF]
 by_cases h0:s=[]
 ·have:¬fk s:=λ h=>h.1 h0;simp[h0,VF];exact .bool (by subst h0;simp[this])
 by_cases h24:s.length<=24
 ·simp[h0,show ¬(24:Int)<(s.length:Int) by omega,ad6,hF];refine aE.of (λ t F K n ms=>∃i,t=s.length - i/\i<=s.length/\F.get 0=some (.str s)/\F.get 13=some (zI (s.length:Int))/\F.get 14=some (zI (i:Int))/\K=.nil/\ms=[]/\∀j (h:j<s.length),j<i->Ic s[j]∨(0<j/\Ib s[j])) s.length ⟨0,by simp[hF]⟩ ?_;rintro t F K n ms ⟨i,rfl,hi,f0,f13,f14,rfl,rfl,hj⟩
  by_cases hlt:i<s.length
  ·have hx:=LR (k:=.i64) hlt;have w:=aC i (by omega)
   have stay:∀F':Fr,F'.get 0=some (.str s)->F'.get 13=some (zI (s.length:Int))->F'.get 14=some (zI (i:Int))->(Ic s[i]∨(0<i/\Ib s[i]))->VC pG IG F' .nil n [] (uE (λ t F K n ms=>∃i,t=s.length - i/\i<=s.length/\F.get 0=some (.str s)/\F.get 13=some (zI (s.length:Int))/\F.get 14=some (zI (i:Int))/\K=.nil/\ms=[]/\∀j (h:j<s.length),j<i->Ic s[j]∨(0<j/\Ib s[j])) (s.length - i) (fy 0 (pW pG (IE.seq CT.ret) (iO [aI 2] λ v1 H' _=>eY H'.get v1 (.bool (decide (fk s))))))):=by
    intro F' g0 Lt g14 hc;simp[IG,g0,Lt,g14,w];refine⟨s.length - (i+1),by omega,i+1,rfl,hlt,rfl,λ j h hji=>?_⟩
    by_cases e:j=i
    ·subst e;exact hc
    exact hj j h (by omega)
   have no:∀(F':Fr),¬(Ic s[i]∨(0<i/\Ib s[i]))->eY (Tr.nil:Hp).get (.bool false) (.bool (decide (fk s))):=λ F' hc=>by
    have:¬fk s:=λ h=>hc (h.2.2 i hlt);exact .bool (by simp[this])
   simp[Zw,f13,f14,hlt,f0,hx];generalize hcc:s[i]=c at stay no
   by_cases a1:(97:Int)<=(c:Int)<;>by_cases a2:(c:Int)<=122<;>by_cases z:0<i<;>by_cases b1:(48:Int)<=(c:Int)<;>by_cases b2:(c:Int)<=57<;>by_cases d:c=95 <;>
    first
    |(exfalso;omega)
    |(simp[a1,a2,z,b1,b2,d,show ((c:Int)=95)=(c=95) by simp;omega,ad5,ad4]
      first
      |simpa using stay _ (by simp[f0]) (by simp[f13]) (by simp[f14]) (by unfold Ic Ib;omega)
      |exact no F (by unfold Ic Ib;omega))
  obtain rfl:i=s.length:=by omega
  have:fk s:=⟨h0,h24,λ j h=>hj j h h⟩;simp[Zw,f13,f14,IE];exact .bool (by simp[this])
 have:¬fk s:=λ h=>h24 h.2.1;simp[h0,hF,show (24:Int)<(s.length:Int) by omega,VF];exact .bool (by simp[this])
end Go.Abs
namespace Go.Abs
open List
def mg:List (List Nat):=[[97,110,100],[97,115],[98,101,103,105,110],[98,111,111,108],[98,121],[99,111,109,109,105,116],[99,114,101,97,116,101],[100,101,108,101,116,101],[100,101,115,99],[100,105,115,116,105,110,99,116],[100,114,111,112],[102,97,108,115,101],[102,114,111,109],[105,110,100,101,120],[105,110,115,101,114,116],[105,110,116],[105,110,116,111],[105,115],[106,111,105,110],[108,105,109,105,116],[110,111,116],[110,117,108,108],[111,110],[111,114],[111,114,100,101,114],[114,111,108,108,98,97,99,107],[115,101,108,101,99,116],[115,101,116],[116,97,98,108,101],[116,101,120,116],[116,114,117,101],[117,110,105,113,117,101],[117,112,100,97,116,101],[118,97,108,117,101,115],[119,104,101,114,101]]
end Go.Abs
namespace Go.Abs
open List
open Go.Proofs
set_option maxRecDepth 100000
theorem aab (s:List Nat)(h:s∈mg):ae pG 192 [.str s] (.bool true):=by
 simp only[mg,mem_cons,not_mem_nil,or_false]at h
 rcases h with h|h|h|h|h|h|h|h|h|h|h|h|h|h|h|h|h|h|h|h|h|h|h|h|h|h|h|h|h|h|h|h|h|h|h<;>subst h<;>exact .lit (by simp) (by simp) (by kernel_rfl)
end Go.Abs
namespace Go.Abs
open List
open Go.Proofs
open Classical
set_option maxRecDepth 100000
theorem afD (s:List Nat):ae pG 192 [.str s] (.bool (decide (s∈mg))):=by
 by_cases h:s∈mg
 ·simpa[h]using aab s h
 refine pv c192 λ F hF=>?_;have h0:¬s=[97,110,100]:=λ e=>h (by simp[mg,e]);have h1:¬s=[97,115]:=λ e=>h (by simp[mg,e]);have h2:¬s=[98,101,103,105,110]:=λ e=>h (by simp[mg,e]);have h3:¬s=[98,111,111,108]:=λ e=>h (by simp[mg,e]);have h4:¬s=[98,121]:=λ e=>h (by simp[mg,e]);have h5:¬s=[99,111,109,109,105,116]:=λ e=>h (by simp[mg,e]);have h6:¬s=[99,114,101,97,116,101]:=λ e=>h (by simp[mg,e]);have h7:¬s=[100,101,108,101,116,101]:=λ e=>h (by simp[mg,e]);have h8:¬s=[100,101,115,99]:=λ e=>h (by simp[mg,e]);have h9:¬s=[100,105,115,116,105,110,99,116]:=λ e=>h (by simp[mg,e]);have h10:¬s=[100,114,111,112]:=λ e=>h (by simp[mg,e]);have h11:¬s=[102,97,108,115,101]:=λ e=>h (by simp[mg,e]);have h12:¬s=[102,114,111,109]:=λ e=>h (by simp[mg,e]);have h13:¬s=[105,110,100,101,120]:=λ e=>h (by simp[mg,e]);have pq:¬s=[105,110,115,101,114,116]:=λ e=>h (by simp[mg,e]);have h15:¬s=[105,110,116]:=λ e=>h (by simp[mg,e]);have lR:¬s=[105,110,116,111]:=λ e=>h (by simp[mg,e]);have h17:¬s=[105,115]:=λ e=>h (by simp[mg,e]);have h18:¬s=[106,111,105,110]:=λ e=>h (by simp[mg,e]);have h19:¬s=[108,105,109,105,116]:=λ e=>h (by simp[mg,e]);have h20:¬s=[110,111,116]:=λ e=>h (by simp[mg,e]);have h21:¬s=[110,117,108,108]:=λ e=>h (by simp[mg,e]);have h22:¬s=[111,110]:=λ e=>h (by simp[mg,e]);have h23:¬s=[111,114]:=λ e=>h (by simp[mg,e]);have h24:¬s=[111,114,100,101,114]:=λ e=>h (by simp[mg,e]);have h25:¬s=[114,111,108,108,98,97,99,107]:=λ e=>h (by simp[mg,e]);have h26:¬s=[115,101,108,101,99,116]:=λ e=>h (by simp[mg,e]);have h27:¬s=[115,101,116]:=λ e=>h (by simp[mg,e]);have h28:¬s=[116,97,98,108,101]:=λ e=>h (by simp[mg,e]);have h29:¬s=[116,101,120,116]:=λ e=>h (by simp[mg,e]);have h30:¬s=[116,114,117,101]:=λ e=>h (by simp[mg,e]);have h31:¬s=[117,110,105,113,117,101]:=λ e=>h (by simp[mg,e]);have h32:¬s=[117,112,100,97,116,101]:=λ e=>h (by simp[mg,e]);have h33:¬s=[118,97,108,117,101,115]:=λ e=>h (by simp[mg,e]);have h34:¬s=[119,104,101,114,101]:=λ e=>h (by simp[mg,e]);simp[A192,hF,h0,h1,h2,h3,h4,h5,h6,h7,h8,h9,h10,h11,h12,h13,pq,h15,lR,h17,h18,h19,h20,h21,h22,h23,h24,h25,h26,h27,h28,h29,h30,h31,h32,h33,h34];exact .bool (by simp[h])
def bA (s:List Nat):Prop:=fk s/\s∉mg
theorem rz (s:List Nat):ae pG 109 [.str s] (.bool (decide (bA s))):=by
 refine pv c109 λ F hF=>?_;unfold bA;simp[A109,hF];refine aw.pure (name44 s) ?_
 by_cases h:fk s
 ·simp[h,hF];refine aw.pure (afD s) ?_;simp;exact .bool (by simp)
 simp[h];exact .bool (by simp)
theorem afM (a b:Int):ae pG 110 [zI a,zI b] (.bool (decide (1<=a/\a<=b))):=by
 refine pv c110 λ F hF=>?_
 by_cases h:1<=a
 ·simp[A110,hF,h];exact .bool (by simp)
 simp[A110,hF,h];exact .bool (by simp)
def jQ (l:List ny):Prop:=l≠[]/\l.length<=16/\∀i (h:i<l.length),fk l[i].name/\(1<=l[i].kind/\l[i].kind<=3)/\∀j (hj:j<i),(l[j]'(by omega)).name≠l[i].name
theorem ac4 (l:List ny):ae pG 82 [bL.ds l] (.bool (decide (jQ l))):=by
 refine pv c82 λ F hF=>?_
 by_cases h0:l=[]
 ·have:¬jQ l:=λ h=>h.1 h0;simp[A82,hF,aL.aD,h0];exact .bool (by subst h0;simp[this])
 by_cases lR:l.length<=16
 ·simp[A82,hF,aL.aD,h0,show ¬(16:Int)<(l.length:Int) by omega];refine aE.of (λ t F K n ms=>∃i,t=l.length - i/\i<=l.length/\F.get 0=some (bL.ds l)/\F.get 15=some (bL.ds l)/\F.get 16=some (zI (l.length:Int))/\F.get 17=some (zI (i:Int))/\ms=[]/\∀k (h:k<l.length),k<i->fk l[k].name/\(1<=l[k].kind/\l[k].kind<=3)/\∀j (hj:j<k),(l[j]'(by omega)).name≠l[k].name) l.length ⟨0,by simp[hF]⟩ ?_;rintro t F K n ms ⟨i,rfl,hi,f0,f15,f16,f17,rfl,hk⟩
  by_cases hlt:i<l.length
  ·have hx := bL.ix (ik:=.i64) hlt;have hld:=bL.mf l[i] (bL.l (l.drop (i+1))) K;simp only[nY,aL.av,cons_append,nil_append]at hx hld;have hsl:=bL.OT (l:=l) (i:=i) hi;simp[Zu,f16,f17,hlt,f15,hx,hld];refine aw.pure (name44 l[i].name) ?_;have no:¬(fk l[i].name/\(1<=l[i].kind/\l[i].kind<=3))->¬jQ l:=λ h h2=>h ⟨(h2.2.2 i hlt).1,(h2.2.2 i hlt).2.1⟩
   by_cases hn:fk l[i].name
   ·by_cases h1:l[i].kind<1
    ·have:=no λ h=>by omega
     simp[hn,h1,MB];exact .bool (by simp[this])
    by_cases h3:3<l[i].kind
    ·have:=no λ h=>by omega
     simp[hn,h1,h3,MB];exact .bool (by simp[this])
    simp[hn,h1,h3,ad3,f0,Bd,uN,hsl,aL.aD,Nat.min_eq_left hi];refine aE.of (λ t F K' n' ms=>∃j,t=i - j/\j<=i/\F.get 0=some (bL.ds l)/\F.get 15=some (bL.ds l)/\F.get 16=some (zI (l.length:Int))/\F.get 17=some (zI (i:Int))/\F.get 4=some (.ptr n 0)/\F.get 38=some (bL.ds (l.take i))/\F.get 39=some (zI (i:Int))/\F.get 40=some (zI (j:Int))/\n<n'/\K'.get n=aG 3 [.str l[i].name,zI l[i].kind,.bool l[i].need]/\ms=[]/\∀q (h:q<j) (h2:q<l.length),l[q].name≠l[i].name) i ⟨0,by simp[f0,f15,f16,f17]⟩ ?_;clear f0 f15 f16 f17 F;rintro t F K' n' ms ⟨j,rfl,hj,f0,f15,f16,f17,f4,f38,f39,f40,hn',hb,rfl,hq⟩
    by_cases hji:j<i
    ·have hjt:j<(l.take i).length:=by simp;omega
     have hx:=bL.ix (ik:=.i64) hjt;have hld:=bL.mf (l.take i)[j] (bL.l ((l.take i).drop (j+1))) K';have hjl:(l.take i)[j]=l[j]:=by rw[getElem_take]
     rw[hjl]at hx hld;simp only[nY,aL.av,cons_append,nil_append]at hx hld;have hne:¬n=n':=by omega
     simp[Zv,f39,f40,hji,f38,hx,hld,f4,hb,hne]
     by_cases he:l[j].name=l[i].name
     ·have:¬jQ l:=λ h=>(h.2.2 i hlt).2.2 j hji he;simp[he,VE];exact .bool (by simp[this])
     simp[he,VD,f0,f15,f16,f17,f4,f38,f39,f40,hb,hne,aC j (by omega)];refine⟨i - (j+1),by omega,j+1,rfl,hji,rfl,by omega,λ q h h2=>?_⟩
     by_cases e:q=j
     ·subst e;exact he
     exact hq q (by omega) h2
    obtain rfl:j=i:=by omega
    simp[Zv,f39,f40,VB,f0,f15,f16,f17,aC j (by omega)];refine⟨l.length - (j+1),by omega,j+1,rfl,hlt,rfl,λ k h hkj=>?_⟩
    by_cases e:k=j
    ·subst e;exact⟨hn,⟨by omega,by omega⟩,λ q hq'=>hq q hq' (by omega)⟩
    exact hk k h (by omega)
   have:=no λ h=>hn h.1;simp[hn,MB];exact .bool (by simp[this])
  obtain rfl:i=l.length:=by omega
  have:jQ l:=⟨h0,lR,λ k h=>hk k h h⟩;simp[Zu,f16,f17,VA];exact .bool (by simp[this])
 have:¬jQ l:=λ h=>lR h.2.1;simp[A82,hF,aL.aD,h0,show (16:Int)<(l.length:Int) by omega];exact .bool (by simp[this])
theorem Tj {α:Type} [DecidableEq α] {g:FuncId}(E:aL α 1)(el:α->AV)(hE:∀a,E.cells a=[el a])(heq:∀a b,js false .num (el a) (el b)=.val (.bool (decide (a=b))))(hel:∀a,Pure (el a))(hc:HU pG g=some A134)(l:List α)(x:α)(hl:l.length<=aM):ae pG g [E.ds l,el x] (zI (kL (λ y=>decide (x=y)) l)):=by
 refine hU hc (by simp[hel]) (by simp) (by simp[A134]) λ F hF=>?_;unfold aM at hl;simp[A134,hF,aL.aD];refine aE.of (λ t F K n ms=>∃i,t=l.length - i/\i<=l.length/\F.get 0=some (E.ds l)/\F.get 1=some (el x)/\F.get 7=some (zI (l.length:Int))/\F.get 8=some (zI (i:Int))/\ms=[]/\∀j (hj:j<i) (h:j<l.length),decide (x=l[j])=false) l.length ⟨0,by simp[hF]⟩ ?_;rintro t F K n ms ⟨i,rfl,hi,f0,f1,f7,f8,rfl,hj⟩
 by_cases hlt:i<l.length
 ·have hx:=E.ix (ik:=.i64) hlt;rw[hE]at hx;have hld:∀r H,dP (.dp ([el l[i]]++r)) H=.val (el l[i]):=λ r H=>rfl;simp[J3,f7,f8,hlt,f0,f1,hx];simp only[cons_append,nil_append]at hld;simp[heq]
  by_cases he:x=l[i]
  ·simp[he,Y'];refine .eq (by simp) ?_
   congr 1
   exact(sF hlt (by simp) λ j hj'=>by have:=hj j hj' (by omega);rw[he]at this;exact this).symm
  simp[he,Y_,f0,f1,f7,f8,aC i (by omega)];refine⟨l.length - (i+1),by omega,i+1,rfl,hlt,rfl,λ j hj' h=>?_⟩
  by_cases e:j=i
  ·subst e;exact he
  simpa using hj j (by omega) h
 obtain rfl:i=l.length:=by omega
 simp[J3,f7,f8,Y9];refine .eq (by simp) ?_
 congr 1
 exact(zj λ j h=>hj j h h).symm
theorem abH (l:List (List Nat))(x:List Nat)(hl:l.length<=aM):ae pG 134 [cK.ds l,.str x] (zI (kL (λ y=>decide (x=y)) l)):=Tj cK .str (λ _=>rfl) (λ a b=>by simp) (λ _=>by simp) c134 l x hl
theorem TB (l:List Int)(x:Int)(hl:l.length<=aM):ae pG 226 [cQ.ds l,zI x] (zI (kL (λ y=>decide (x=y)) l)):=Tj cQ (.int .i64) (λ _=>rfl) (λ a b=>by simp) (λ _=>by simp) c226 l x hl
theorem HY (l:List (List Nat))(x:List Nat)(hl:l.length<=aM):ae pG 120 [cK.ds l,.str x] (.bool (decide (x∈l))):=by
 refine pv c120 λ F hF=>?_;simp[A120,hF];refine aw.pure (abH l x hl) ?_;simp;refine .bool ?_;rw[wC,Bool.eq_iff_iff];simp
theorem HW (l:List Int)(x:Int)(hl:l.length<=aM):ae pG 162 [cQ.ds l,zI x] (.bool (decide (x∈l))):=by
 refine pv c162 λ F hF=>?_;simp[A162,hF];refine aw.pure (TB l x hl) ?_;simp;refine .bool ?_;rw[wC,Bool.eq_iff_iff];simp
def Ex.bare (op:Int):Ex->Prop
 |.mk o v t m dT args=>o=op/\(v.kind=0/\v.num=0/\v.s=[])/\t=[]/\m=[]/\dT=0/\args=[]
theorem Ip (e:Ex) (op:Int):ae pG 193 [e.av,zI op] (.bool (decide (e.bare op))):=by
 obtain⟨o,⟨k,a,s⟩,t,m,dT,args⟩:=e;refine pv c193 λ F hF=>?_;simp only[Ex.bare]
 by_cases h1:o=op
 ·by_cases h2:k=0/\a=0/\s=[]
  ·by_cases h3:t=[]
   ·by_cases h4:m=[]
    ·by_cases h5:dT=0
     ·simp[A193,hF,Ex.av,Ex.cells,h1,h2,h3,h4,h5];exact .bool (by simp)
     simp[A193,hF,Ex.av,Ex.cells,h1,h2,h3,h4,h5];exact .bool (by simp)
    simp[A193,hF,Ex.av,Ex.cells,h1,h2,h3,h4];exact .bool (by simp)
   simp[A193,hF,Ex.av,Ex.cells,h1,h2,h3];exact .bool (by simp)
  have h2':(decide (k=0)&&(decide (a=0)&&decide (s=[])))=false:=by simpa using λ a b c=>h2 ⟨a,b,c⟩
  simp[A193,hF,Ex.av,Ex.cells,h1,h2'];exact .bool (by simp)
 simp[A193,hF,Ex.av,Ex.cells,h1];exact .bool (by simp)
theorem uP (e:Ex):ae pG 194 [e.av] (.bool (decide (e.bare 0))):=by
 refine pv c194 λ F hF=>?_;simp[A194,hF];refine aw.pure (Ip e 0) ?_;simp;exact .bool (by simp)
mutual
def Ex.may:Ex->Bool
 |.mk op v t m dT args=>if op=1 then decide (t=[]/\m=[]/\dT=0/\args=[])&&(v.may&&(decide (v.kind≠1)||decide (0<=v.num)))
  else if op=2 then decide (bA m)&&((decide (t=[])||decide (bA t))&&decide ((v.kind=0/\v.num=0/\v.s=[])/\dT=0/\args=[]))
  else decide (4<=op/\op<=21)&&(decide ((args.length:Int)=if op<=7 then 1 else 2)&&(decide ((v.kind=0/\v.num=0/\v.s=[])/\t=[]/\m=[]/\dT=0)&&Ex.wq args))
def Ex.wq:List Ex->Bool
 |[]=>true
 |e::r=>e.may&&Ex.wq r
end
theorem Ex.Ez {l:List Ex}(h:Ex.wq l=true):∀i (hi:i<l.length),l[i].may=true:=by
 induction l with
 |nil=>intro i hi;simp at hi
 |cons e r ih =>
  simp[Ex.wq]at h;intro i hi
  cases i with
  |zero=>exact h.1
  |succ i=>exact ih h.2 i (by simpa using hi)
theorem Ex.abm {l:List Ex}(h:∀i (hi:i<l.length),l[i].may=true):Ex.wq l=true:=by
 induction l with
 |nil=>rfl
 |cons e r ih =>
  simp only[Ex.wq,dN];exact⟨h 0 (by simp),ih λ i hi=>h (i+1) (by simpa using hi)⟩
theorem Ex.SX {l:List Ex}{i:Nat}(hi:i<l.length)(h:l[i].may=false):Ex.wq l=false:=by
 cases hr:Ex.wq l with
 |false=>rfl
 |true=>rw[Ex.Ez hr i hi]at h;cases h
theorem SY : ∀ (N : Nat) (e:Ex),e.sz<=N->N<=aM->ae pG 111 [e.av] (.bool e.may)
 |0,e,h,_=>by have:=Ex.sj e;omega
 |N + 1, .mk op v t m dT args,ha,hN=>by
  simp only[Ex.sz]at ha;have hla:=Ex.GV args;refine pv c111 λ F hF=>?_;simp only[Ex.may]
  by_cases h1:op=1
  ·subst h1;obtain⟨k,a,s⟩:=v;rw[ao rfl];generalize hR:(decide (t=[]/\m=[]/\dT=0/\args=[])&&((Val.mk k a s).may&&(decide (k≠1)||decide (0<=a))))=R;simp[A111,hF,Ex.av,Ex.cells];refine aw.pure (Ip (.mk 1 ⟨0,0,[]⟩ t m dT args) 1) ?_;simp only[Ex.bare]
   by_cases hb:t=[]/\m=[]/\dT=0/\args=[]
   ·simp[hb];refine aw.pure (lO ⟨k,a,s⟩) ?_
    cases hm:(Val.mk k a s).may with
    |false =>
     simp;exact .bool (by rw[<-hR,hm];simp)
    |true =>
     by_cases hk:k=1
     ·simp[hk];exact .bool (by rw[<-hR,hm];simp[hk,hb])
     simp[hk];exact .bool (by rw[<-hR,hm];simp[hk,hb])
   simp[hb];exact .bool (by rw[<-hR,decide_eq_false hb,Bool.false_and])
  by_cases h2:op=2
  ·subst h2;rw[ah (by omega),ao rfl];generalize hR:(decide (bA m)&&((decide (t=[])||decide (bA t))&&decide ((v.kind=0/\v.num=0/\v.s=[])/\dT=0/\args=[])))=R;simp[A111,hF,Ex.av,Ex.cells];refine aw.pure (rz m) ?_
   have tail:∀(b:Bool),b=(decide (bA m)&&(decide (t=[])||decide (bA t)))->∀(F':Fr) (K:Hp) (n:Nat) (Q:QA),F'.get 5=some (.bool b)->F'.get 1=some (.ptr 0 0)->K.get 0=some (.cells 8 [] (Ex.mk 2 v t m dT args).cells .nil)->(∀F2 K2 n2,F2.get 2=some (.bool R)->Q .ret F2 K2 n2 [])->VC pG C0 F' K n [] (pW pG (.seq CZ .ret) Q):=by
    intro b hb F' K n Q g5 g1 hK hQ;obtain⟨k,a,s⟩:=v;rw[<-Bool.and_assoc,<-hb]at hR;simp only[Ex.cells]at hK
    cases b with
    |false =>
     simp[C0,CZ,g5,g1,hK];exact hQ _ _ _ (by rw[<-hR];simp)
    |true =>
     simp[C0,CZ,g5,g1,hK];refine aw.pure (Ip (.mk 2 ⟨k,a,s⟩ [] [] dT args) 2) ?_;simp;exact hQ _ _ _ (by rw[<-hR];simp[Ex.bare])
   have fin:∀F2 (K2:Hp) (n2:Nat),F2.get 2=some (.bool R)->fy 0 (pW pG (.seq (.seq jY (.cond (ar 109) (.seq kY .ret) .skip)) (.seq (.seq vd (.block 1 (.loop xY))) (.seq vc .ret))) (iO [aI 2] λ v1 H' _=>eY H'.get v1 (.bool R))) .ret F2 K2 n2 []:=by
    intro F2 K2 n2 h;simp[h];exact .bool rfl
   by_cases hm:bA m
   ·by_cases ht:t=[]
    ·simp[hm,ht];refine tail true (by simp[hm,ht]) _ _ _ _ (by simp) (by simp) (by simp[Ex.cells,ht]) fin
    simp[hm,ht];refine aw.pure (rz t) ?_;simp;exact tail (decide (bA t)) (by simp[hm,ht]) _ _ _ _ (by simp) (by simp) (by simp[Ex.cells]) fin
   simp[hm];exact tail false (by simp[hm]) _ _ _ _ (by simp) (by simp) (by simp[Ex.cells]) fin
  rw[ah h1,ah h2];generalize hR:(decide (4<=op/\op<=21)&&(decide ((args.length:Int)=if op<=7 then 1 else 2)&&(decide ((v.kind=0/\v.num=0/\v.s=[])/\t=[]/\m=[]/\dT=0)&&Ex.wq args)))=R
  have body : ∀ (wn:Int),wn=(if op<=7 then 1 else 2)->(4<=op/\op<=21)->∀F':Fr,F'.get 1=some (.ptr 0 0)->F'.get 3=some (zI wn)->∀K:Hp,K.get 0=some (.cells 8 [] (Ex.mk op v t m dT args).cells .nil)->∀n,0<n ->
    VC pG (.seq (.seq jY (.cond (ar 109) (.seq kY .ret) .skip)) (.seq (.seq vd (.block 1 (.loop xY))) (.seq vc .ret))) F' K n [] (iO [aI 2] λ v1 H' _=>eY H'.get v1 (.bool R)):=by
   intro wn hw hr F' g1 g3 K hK n hn;rw[<-hw,decide_eq_true hr,Bool.true_and]at hR;obtain⟨k,a,s⟩:=v;simp only[Ex.cells]at hK
   by_cases hlen:(args.length:Int)=wn
   ·by_cases hv : k=0/\a=0/\s=[]
    ·by_cases ht:t=[]
     ·by_cases hm:m=[]
      ·by_cases hc:dT=0
       ·simp[jY,g1,g3,hK,hlen,hv,ht,hm,hc,vd];obtain⟨rfl,rfl,rfl⟩:=hv;subst ht hm hc;have hR':Ex.wq args=R:=by rw[<-hR];simp[hlen]
        unfold aM at hN;refine aE.of (λ q F K n' ms=>∃i,q=args.length - i/\i<=args.length/\F.get 111=some (.ds (Ex.bq args) args.length 8)/\F.get 112=some (zI (args.length:Int))/\F.get 113=some (zI (i:Int))/\ms=[]/\∀j (hj:j<i) (h:j<args.length),args[j].may=true) args.length ⟨0,by simp[hlen]⟩ ?_;clear g1 g3 hK hF F F';rintro q F K n' ms ⟨i,rfl,hi,f111,f112,f113,rfl,hj⟩
        by_cases hlt:i<args.length
        ·have hx:=sD (k:=.i64) hlt;have m1:=Ex.vC (b6 hlt);simp[xY,f112,f113,hlt,f111,hx];refine aw.pure (SY N args[i] (by omega) (by unfold aM;omega)) ?_
         cases hr':args[i].may with
         |true =>
          simp[N1,f111,f112,f113,aC i (by omega)];refine⟨args.length - (i+1),by omega,i+1,rfl,hlt,by omega,λ j hj' h=>?_⟩
          by_cases e:j=i
          ·subst e;exact hr'
          exact hj j (by omega) h
         |false =>
          simp[N2];exact .bool (by rw[<-hR',Ex.SX hlt hr'])
        obtain rfl:i=args.length:=by omega
        simp[xY,f112,f113,vc];exact .bool (by rw[<-hR',Ex.abm λ j h=>hj j h h])
       simp[jY,g1,g3,hK,hlen,hv,ht,hm,hc,kY];exact .bool (by rw[<-hR];simp[hc])
      simp[jY,g1,g3,hK,hlen,hv,ht,hm,kY];exact .bool (by rw[<-hR];simp[hm])
     simp[jY,g1,g3,hK,hlen,hv,ht,kY];exact .bool (by rw[<-hR];simp[ht])
    have hv':(decide (k=0)&&(decide (a=0)&&decide (s=[])))=false:=by simpa using λ a b c=>hv ⟨a,b,c⟩
    simp[jY,g1,g3,hK,hlen,hv',kY];exact .bool (by rw[<-hR];simp[hv])
   simp[jY,g1,g3,hK,hlen,kY];exact .bool (by rw[<-hR];simp[hlen])
  by_cases hr:4<=op/\op<=21
  ·obtain⟨r1,r2⟩:=hr
   by_cases h7:op<=7
   ·have:op=4∨op=5∨op=6∨op=7:=by omega
    rcases this with rfl|rfl|rfl|rfl<;>(simp[A111,hF,Ex.av,Ex.cells];simpa using body 1 (by simp) (by omega) _ (by simp) (by simp) _ (by simp[Ex.cells]) _ (by omega))
   have n4:¬op=4:=by omega
   have n5:¬op=5:=by omega
   have n6:¬op=6:=by omega
   have n7:¬op=7:=by omega
   simp[A111,hF,Ex.av,Ex.cells,h1,h2,n4,n5,n6,n7,show ¬op<8 by omega,show ¬ 21<op by omega];simpa using body 2 (by simp[h7]) ⟨r1,r2⟩ _ (by simp) (by simp) _ (by simp[Ex.cells]) _ (by omega)
  have n4:¬op=4:=by omega
  have n5:¬op=5:=by omega
  have n6:¬op=6:=by omega
  have n7:¬op=7:=by omega
  by_cases l8:op<8
  ·simp[A111,hF,Ex.av,Ex.cells,h1,h2,n4,n5,n6,n7,l8];exact .bool (by rw[<-hR,decide_eq_false hr,Bool.false_and])
  simp[A111,hF,Ex.av,Ex.cells,h1,h2,n4,n5,n6,n7,l8,show 21<op by omega];exact .bool (by rw[<-hR,decide_eq_false hr,Bool.false_and])
theorem ac3 (e:Ex)(h:e.sz<=aM):ae pG 111 [e.av] (.bool e.may):=SY aM e h (aP _)
def bo.kinds (t:bo):List Int:=t.cols.map (·.kind)
def aB (l:List bo):List Int:=l.flatMap bo.kinds
theorem jy {l:List bo}{i:Nat}(h:i<l.length):aB (l.take (i+1))=aB (l.take i)++l[i].kinds:=by
 rw[take_add_one,cE h];simp only[aB,flatMap_append,Option.toList,flatMap_cons,flatMap_nil,append_nil]
theorem pe (l:List bo)(i:Nat):(aB (l.take i)).length<=(aB l).length:=by
 conv=>rhs;rw[<-take_append_drop i l]
 simp only[aB,flatMap_append,length_append];omega
theorem Hq {l:List ny}{j:Nat}(h:j<l.length):(l.take (j+1)).map (·.kind)=(l.take j).map (·.kind)++[l[j].kind]:=by
 rw[take_add_one,cE h];simp only[map_append,Option.toList,map_cons,map_nil]
def lC (ns:List (List Nat))(ts:List bo):List AV:=[cK.ds ns,aA.ds ts]
theorem abx (ns:List (List Nat)) (ts:List bo) (hl:(aB ts).length<=aM) (ht:ts.length<=aM) (hc:∀t∈ts,t.cols.length<=aM):
  aj pG 196 [.agg (lC ns ts) 2] .nil 0 (λ v K k=>au K k v (cu (aB ts)) (aB ts).length 1):=by
 unfold aM at hl ht hc;refine aj.of c196 (by simp[A196]) λ F hF=>?_;simp[A196,hF,lC,aL.aD];refine aE.of (λ q F K n ms=>∃(i:Nat) (v:AV),q=ts.length - i/\i<=ts.length/\F.get 3=some v/\F.get 9=some (aA.ds ts)/\F.get 10=some (zI (ts.length:Int))/\F.get 11=some (zI (i:Int))/\au K n v (cu (aB (ts.take i))) (aB (ts.take i)).length 1/\ms=[]) ts.length ⟨0,.al (.slice none 0 0),by simp,by simp,by simp,by simp,by simp,by simp,by simpa[aB,cu]using au.nil _ _ 1,rfl⟩ ?_;clear hF F;rintro q F K n ms ⟨i,v,rfl,hi,f3,f9,f10,f11,ho,rfl⟩
 by_cases hlt:i<ts.length
 ·have hx:=aA.ix (ik:=.i64) hlt;have hld:=λ H=>aA.mf ts[i] (aA.l (ts.drop (i+1))) H;have hcl:=hc ts[i] (b6 hlt);have qb:=pe ts (i+1);rw[jy hlt]at qb;simp[JV,f9,f10,f11,hlt,hx,hld,aL.av];simp[dB,aL.aD];refine aE.of (λ q F K n ms=>∃(j:Nat) (v:AV),q=ts[i].cols.length - j/\j<=ts[i].cols.length/\F.get 3=some v/\F.get 9=some (aA.ds ts)/\F.get 10=some (zI (ts.length:Int))/\F.get 11=some (zI (i:Int))/\F.get 16=some (bL.ds ts[i].cols)/\F.get 17=some (zI (ts[i].cols.length:Int))/\F.get 18=some (zI (j:Int))/\au K n v (cu (aB (ts.take i)++(ts[i].cols.take j).map (·.kind))) (aB (ts.take i)++(ts[i].cols.take j).map (·.kind)).length 1/\ms=[]) ts[i].cols.length ⟨0,v,by simp,by simp,by simp[f3],by simp[f9],by simp[f10],by simp[f11],by simp,by simp,by simp,?_,rfl⟩ ?_
  ·simp
   exact ho.frame (by omega) λ c hc=>by
    have:=ho.bg hc;have q1:¬c=n:=by omega
    simp[q1]
  clear f3 f9 f10 f11 ho F v K n hx hld;rintro q F K n ms ⟨j,v,rfl,hj,f3,f9,f10,f11,f16,f17,f18,ho,rfl⟩
  by_cases hjl:j<ts[i].cols.length
  ·have hx:=bL.ix (ik:=.i64) hjl;have hld:=λ H=>bL.mf ts[i].cols[j] (bL.l (ts[i].cols.drop (j+1))) H;simp[JW,f16,f17,f18,hjl,hx,hld,aL.av];simp[YG,f3,nY];have hbl:=λ c hc=>ho.bg (c:=c) hc;generalize hH1:Tr.put _ (n+1) _=H1
   have ho2:au H1 (n+1+1) v (cu (aB (ts.take i)++(ts[i].cols.take j).map (·.kind))) (aB (ts.take i)++(ts[i].cols.take j).map (·.kind)).length 1:=ho.frame (by omega) λ c hc=>by
    have:=hbl c hc;have q1:¬c=n:=by omega
    have q2:¬c=n+1:=by omega
    rw[<-hH1];simp[q1,q2]
   have hw:H1.get (n+1)=aG 1 (cu [ts[i].cols[j].kind]):=by rw[<-hH1];simp[cu]
   clear hH1
   have hsc:aV H1 1 (.sl (n+1) 0 1 1)=some (cu [ts[i].cols[j].kind]):=by
    rw[dy hw (OwnB.list (by simp)) (by simp)];simp[cu]
   have hjl2:(aB (ts.take i)++(ts[i].cols.take j).map (·.kind)).length<=1048576:=by
    have h1:((ts[i].cols.take j).map (·.kind)).length<=ts[i].kinds.length:=by simp[bo.kinds];omega
    simp only[length_append]at qb ⊢;omega
   refine au.app (k:=1) (new:=cu [ts[i].cols[j].kind]) ho2 hsc (by simp) (by simp) (by omega) (by omega) (by unfold big;omega) (by omega) (by simp) λ H' o' _=>?_;simp[YF,f18,aC j (by omega)];refine⟨_,by omega,j+1,rfl,by omega,f9,f10,f11,f16,f17,by simp,?_⟩;have hk:=Hq hjl;rw[map_take]at hk;rw[hk,<-append_assoc,rE];have e1:(aB (ts.take i)).length+min (j+1) ts[i].cols.length=(aB (ts.take i)).length+min j ts[i].cols.length+1:=by omega
   rw[e1];simpa using o'
  have hje:j=ts[i].cols.length:=by omega
  rw[hje,take_length]at ho;simp[JW,NH,f11,f17,f18,hje,aC i (by omega)];refine⟨_,by omega,i+1,rfl,by omega,v,f3,f9,f10,by simp,?_⟩;rw[jy hlt];exact ho
 have hie:i=ts.length:=by omega
 subst hie;rw[take_length]at ho;simp[JV,NG,f3,f10,f11];exact ho
theorem SR (c:ny)(s:List Nat)(b:Nat)(H:Hp)(n:Nat)(hb:H.get b=aG 1 [.str s])(ht:cA H n):aj pG 262 [bL.av c,.ptr b 0] H n (λ u K k=>u=.bool (decide (c.name=s))/\K=H/\k=n):=by
 refine aj.forget (by simp) (aj.of c262 (by simp[A262]) λ F hF=>?_);have q:¬b=n:=by have:=ht.lt hb;omega
 simp[A262,hF,aL.av,nY,q,hb];rintro c hc rfl;exact ai (ht _ (aP _)) hc
def gJ (table name:List Nat):List (List Nat×bo)->Nat->Int->Bool->Int×Int
 |[],_,found,src=>if 0<=found then (found,0)else if table≠[]/\src=false then (0,200)else (0,201)
 |(n,t)::r,at0,found,src =>
  if (table=[]∨n=table)/\0<=kL (λ c:ny=>decide (c.name=name)) t.cols then
   (if 0<=found then (0,205)else gJ table name r (at0+t.cols.length) ((at0:Int)+kL (λ c:ny=>decide (c.name=name)) t.cols) true)
  else gJ table name r (at0+t.cols.length) found (src||decide (table=[]∨n=table))
set_option maxHeartbeats 4000000 in
theorem aaM (ns:List (List Nat)) (ts:List bo) (table name:List Nat) (hn:ns.length=ts.length) (hl:(aB ts).length<=aM) (ht:ts.length<=aM) (hc:∀t∈ts,t.cols.length<=aM):
  ae pG 198 [.agg (lC ns ts) 2,.str table,.str name] (.aX [zI (gJ table name (ns.zip ts) 0 (-1) false).1,zI (gJ table name (ns.zip ts) 0 (-1) false).2]):=by
 unfold aM at hl ht;refine hU c198 (by simp[lC]) (by simp) (by simp[A198]) λ F hF=>?_;simp[A198,hF,lC,aL.aD];refine aE.of (λ q F K n ms=>∃(i:Nat) (found:Int) (src:Bool),q=ts.length - i/\i<=ts.length/\F.get 1=some (.str table)/\F.get 3=some (.ptr 0 0)/\F.get 5=some (.ptr 1 0)/\F.get 8=some (zI ((aB (ts.take i)).length:Int))/\F.get 9=some (zI found)/\F.get 10=some (.bool src)/\F.get 16=some (aA.ds ts)/\F.get 17=some (zI (ts.length:Int))/\F.get 18=some (zI (i:Int))/\cA K n/\K.get 0=aG 2 [cK.ds ns,aA.ds ts]/\K.get 1=aG 1 [.str name]/\found<1048577/\gJ table name (ns.zip ts) 0 (-1) false=gJ table name ((ns.zip ts).drop i) (aB (ts.take i)).length found src/\ms=[]) ts.length ⟨0,-1,false,by simp,by simp,by simp[hF],by simp,by simp,by simp[aB],by simp,by simp,by simp,by simp,by simp,λ c hc=>?_,by simp,by simp,by omega,by simp[aB],rfl⟩ ?_
 ·have q0:¬c=0:=by omega
  have q1:¬c=1:=by omega
  simp[q0,q1]
 clear hF F;rintro q F K n ms ⟨i,found,src,rfl,hi,f1,f3,f5,f8,f9,f10,f16,f17,f18,tp,k0,k1,hfo,he,rfl⟩
 by_cases hlt:i<ts.length
 ·have hx:=aA.ix (ik:=.i64) hlt;have hld:=λ H=>aA.mf ts[i] (aA.l (ts.drop (i+1))) H;have hsx:=cK.ix (l:=ns) (i:=i) (ik:=.i64) (by omega);simp[xX,f16,f17,f18,hlt,hx,hld,aL.av];have n0:=tp.lt k0;have n1:=tp.lt k1;have q0:¬n=0:=by omega
  have q1:¬n=1:=by omega
  have q0':¬ 0=n:=by omega
  have q1':¬ 1=n:=by omega
  rw[ahP]at hsx;generalize hH1:Tr.put _ n _=H1;have hk1:H1.get 1=aG 1 [.str name]:=by rw[<-hH1];simp[q1',k1]
  have hk0:H1.get 0=aG 2 [cK.ds ns,aA.ds ts]:=by rw[<-hH1];simp[q0',k0]
  have hkn:H1.get n=aG 4 (aA.cells ts[i]):=by rw[<-hH1];simp
  have tp1:cA H1 (n+1):=by
   intro c hc;have q:¬c=n:=by omega
   rw[<-hH1];simp[q,tp c (by omega)]
  clear hH1;rw[dB]at hkn;have hcl:=hc ts[i] (b6 hlt)
  have hidx:aj pG 118 [bL.ds ts[i].cols,.fn (.func 262) [] [.ptr 1 0]] H1 (n+1) (λ u K k=>u=zI (kL (λ c:ny=>decide (c.name=name)) ts[i].cols)/\K=H1/\k=n+1):=
   nU (el:=bL.av) (first:=[]) (cap:=[.ptr 1 0]) c118 hcl (bL.aD _) (λ i h=>⟨_,bL.ix h,λ F H n pq=>by simp[pq,bL.mf]⟩) λ x _=>SR x name 1 H1 (n+1) hk1 tp1
  have hkb:kL (λ c:ny=>decide (c.name=name)) ts[i].cols<(ts[i].cols.length:Int):=by
   unfold kL
   split
   ·rename_i q hq;have:=(findIdx?_eq_some_iff_findIdx_eq.1 hq).1;omega
   omega
  have gw:(ns.zip ts).drop i=(ns[i]'(by omega),ts[i])::(ns.zip ts).drop (i+1):=by
   rw[km (by simp;omega)];simp
  rw[gw,gJ]at he;have qb:=pe ts (i+1);rw[jy hlt,length_append]at qb;have hkc:ts[i].kinds.length=ts[i].cols.length:=by simp[bo.kinds]
  have hkt:(aB (ts.take (i+1))).length=(aB (ts.take i)).length+ts[i].cols.length:=by rw[jy hlt,length_append,hkc]
  have w1:IntKind.i64.wrap (((aB (ts.take i)).length:Int)+(ts[i].cols.length:Int))=((aB (ts.take (i+1))).length:Int):=by
   rw[hkt];simp[IntKind.wrap,IntKind.signed,IntKind.bits];omega
  have w2:∀kk:Int,0<=kk->kk<(ts[i].cols.length:Int)->IntKind.i64.wrap (((aB (ts.take i)).length:Int)+kk)=((aB (ts.take i)).length:Int)+kk:=λ kk h1 h2=>by
   simp[IntKind.wrap,IntKind.signed,IntKind.bits];omega
  generalize hkk:kL (λ c:ny=>decide (c.name=name)) ts[i].cols=kk at hidx hkb he
  by_cases ht0:table=[]<;>by_cases hb:ns[i]'(by omega)=table<;>cases src<;>simp[YC,YB,YA,f1,f3,f5,f10,hk0,hkn,hsx,ht0,hb]
  all_goals refine aw.same hidx ?_
  all_goals by_cases hk:0<=kk
  all_goals by_cases hf:0<=found
  all_goals simp[ht0,hb,hk,hf]at he
  all_goals simp[Yz,Yy,M_,M9,M8,M6,hk,hf,f8,f9,f18,hkn,bL.aD,w1,w2 kk,hkb,aC i (by omega)]
  all_goals first
   |(rw[he];exact fp)
   |skip
  all_goals exact⟨_,by omega,i+1,rfl,by omega,by first|exact f1|rw[f1,ht0],f3,f5,rfl,f16,f17,by simp,tp1,hk0,hk1,by omega,by rw[hkt];first|exact he|simpa using he⟩
 have hie:i=ts.length:=by omega
 have hdr:(ns.zip ts).drop i=[]:=drop_eq_nil_of_le (by simp;omega);rw[hdr,gJ]at he
 by_cases hf:0<=found
 ·simp[hf]at he;simp[xX,vb,MZ,f9,f17,f18,hie,hf];rw[he];exact fp
 by_cases ht0:table=[]
 ·simp[hf,ht0]at he;simp[xX,vb,CG,CE,f1,f9,f17,f18,hie,hf,ht0];rw[he];exact fp
 cases src<;>simp[hf,ht0]at he<;>simp[xX,vb,CG,MY,CE,f1,f9,f10,f17,f18,hie,hf,ht0]<;>rw[he]<;>exact fp
mutual
theorem Pure.jI {n:Nat}:∀ {v:AV},Pure v->jH n v
 |.int _ _,_=>by simp
 |.bool _,_=>by simp
 |.str _,_=>by simp
 |.al _,_=>by simp
 |.agg cs _,h=>by simpa using aJ.jI (by simpa using h)
 |.aX cs,h=>by simpa using aJ.jI (by simpa using h)
 |.ds cs _ _,h=>by simpa using aJ.jI (by simpa using h)
 |.dp cs,h=>by simpa using aJ.jI (by simpa using h)
 |.kG _ v,h=>by simpa using Pure.jI (v:=v) (by simpa only [Pure]using h)
 |.fn _ a b,h=>by
  have h:aJ a/\aJ b:=by simpa[Pure]using h
  simpa[jH]using⟨aJ.jI h.1,aJ.jI h.2⟩
theorem aJ.jI {n:Nat}:∀ {l:List AV},aJ l->cT n l
 |[],_=>by simp
 |v::r,h=>by
  have h:Pure v/\aJ r:=by simpa using h
  simpa using⟨Pure.jI h.1,aJ.jI h.2⟩
end
def keep (err e:Int)(is:Bool):Int:=if is=true/\err=0 then e else err
theorem ab0 (p:Nat)(v1 v2:AV)(err e:Int)(is:Bool)(H:Hp)(n:Nat)(hp:H.get p=aG 3 [v1,v2,zI err]):
  aj pG 50 [.ptr p 0,zI e,.bool is] H n (λ u K k=>u=.aX []/\K.get p=aG 3 [v1,v2,zI (keep err e is)]/\(∀c,c≠p->K.get c=H.get c)/\k=n):=by
 refine aj.of c50 (by simp[A50]) λ F hF=>?_
 cases is with
 |false=>simp[A50,hF,keep,hp]
 |true =>
  by_cases h0:err=0
  ·simp[A50,hF,keep,hp,h0];exact λ c hc e=>ai e hc
  simp[A50,hF,keep,hp,h0]
theorem HG (p:Nat)(v1 v2:AV)(err e:Int)(is:Bool)(H:Hp)(n:Nat)(h1:Pure v1)(h2:Pure v2)(hpn:p<n)(hp:H.get p=aG 3 [v1,v2,zI err]):
  bc pG 50 [.ptr p 0,zI e,.bool is] H n (.aX []) (H.put p (aG 3 [v1,v2,zI (keep err e is)])) n:=by
 have g:∀(b:br) c,(Tr.nil.put p (some b)).get c=if c=p then some b else none:=λ b c=>by simp
 refine aj.okS (S:=Tr.nil.put p (aG 3 [v1,v2,zI err])) (S':=Tr.nil.put p (aG 3 [v1,v2,zI (keep err e is)]))
  ((ab0 p v1 v2 err e is _ n (by simp)).mono λ u K k ⟨a,b,_,d⟩=>⟨a,λ c y hy=>?_,by omega⟩) (aP _) (by simp[hpn]) (λ c k hk=>?_) (λ c k hk=>?_) (λ c hc=>?_) (λ c hc _=>?_)
 ·rw[g]at hy
  split at hy
  ·rename_i e1;injection hy with hy;subst hy e1;exact⟨_,b,.refl _⟩
  cases hy
 ·rw[g]at hk
  split at hk
  ·rename_i e1;injection hk with hk;subst hk e1;exact⟨hpn,bT (by simp[h1.jI,h2.jI])⟩
  cases hk
 ·rw[g]at hk
  split at hk
  ·rename_i e1;rw[e1,hp];exact hk
  cases hk
 ·rcases hc with h|h
  ·rw[g]at h
   by_cases e1:c=p
   ·simp[e1]
   rw[ah e1]at h;exact ai rfl h
  omega
 rw[g]at hc
 by_cases e1:c=p
 ·rw[ao e1]at hc;cases hc
 simp[e1]
def Ex.maybe (e:Ex):Bool:=decide (e.bare 0)||e.may
theorem KX (e:Ex)(h:e.sz<=aM):ae pG 112 [e.av] (.bool e.maybe):=by
 have hl:=uP e;have hm:=ac3 e h;have hav:e.av=.agg e.cells 8:=Eq.trans rfl rfl;rw[hav]at hl hm ⊢;refine pv c112 λ F hF=>?_
 by_cases hb:e.bare 0
 ·simp only[hb,decide_true]at hl;simp[A112,hF];refine aw.pure hl ?_;simp;exact .bool (by simp[Ex.maybe,hb])
 simp only[hb,decide_false]at hl;simp[A112,hF];refine aw.pure hl ?_;simp;refine aw.pure hm ?_;simp;exact .bool (by simp[Ex.maybe,hb])
def eX:aL Ex 8:=⟨Ex.cells,Ex.bf,Ex.tM,Ex.aY⟩
theorem anm (l:List Ex):eX.l l=Ex.bq l:=by
 induction l with
 |nil=>simp[Ex.bq]
 |cons e r ih=>rw[aL.kz,ih];rfl
structure OD where
 e:Ex
 name:List Nat
structure Src where
 table:List Nat
 name:List Nat
 cond:Ex
structure Ord where
 name:List Nat
 desc:Bool
structure St1 where
 name:List Nat
 e:Ex
def Fg:aL OD 9:=⟨λ x=>x.e.cells++[.str x.name],λ _=>by simp,λ x=>aJ.nO λ v hv=>by
 rcases mem_append.1 hv with h|h
 ·exact(Ex.tM x.e).mem v h
 simp at h;subst h;simp,λ x=>by simp⟩
def gA:aL Src 10:=⟨λ x=>.str x.table::.str x.name::x.cond.cells,λ _=>by simp,λ x=>by simp,λ x=>by simp⟩
def Fe:aL Ord 2:=⟨λ x=>[.str x.name,.bool x.desc],λ _=>rfl,λ _=>by simp,λ _=>by simp⟩
def ahQ:aL St1 9:=⟨λ x=>.str x.name::x.e.cells,λ _=>by simp,λ x=>by simp,λ x=>by simp⟩
structure cM where
 sS:Bool
 star:Bool
 items:List OD
 ay:List Src
 cond:Ex
 order:List Ord
 limited:Bool
 limit:Int
def cM.cells (q:cM):List AV:=[.bool q.sS,.bool q.star,Fg.ds q.items,gA.ds q.ay]++q.cond.cells++[Fe.ds q.order,.bool q.limited,zI q.limit]
theorem cM.bf (q:cM):q.cells.length=15:=by simp[cM.cells]
theorem cM.pure (q:cM):aJ q.cells:=aJ.nO λ v hv=>by
 simp only[cM.cells,mem_append,mem_cons,not_mem_nil,or_false]at hv
 rcases hv with((h|h|h|h)|h)|h|h|h
 ·subst h;simp
 ·subst h;simp
 ·subst h;simp
 ·subst h;simp
 ·exact(Ex.tM q.cond).mem v h
 ·subst h;simp
 ·subst h;simp
 subst h;simp
def OD.ok (x:OD):Bool:=x.e.may&&decide (x.name=[]∨bA x.name)
def Src.ok (first:Bool)(x:Src):Bool:=decide (bA x.table)&&(decide (x.name=[]∨bA x.name)&&(if first then decide (x.cond.bare 0)else x.cond.may))
def Ord.ok (x:Ord):Bool:=decide (bA x.name)
def vG:List Src->Bool
 |[]=>true
 |x::r=>x.ok true&&r.all (Src.ok false)
def cM.may (q:cM):Bool:=(((q.cond.maybe&&decide (q.ay.length<=4)&&decide (q.order.length<=16)&&decide (0<=q.limit)&&(q.limited||decide (q.limit=0))&&(if q.star then decide (q.items.length=0)else decide (1<=q.items.length/\q.items.length<=16)))&&q.items.all OD.ok)&&vG q.ay)&&q.order.all Ord.ok
end Go.Abs
