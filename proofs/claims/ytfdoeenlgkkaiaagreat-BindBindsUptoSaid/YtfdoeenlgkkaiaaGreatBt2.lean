/- A part. -/
import Derived.Test.YtfdoeenlgkkaiaaGreatBp1
noncomputable section
namespace Go.Abs
open List
open Go.Proofs
set_option maxRecDepth 100000
structure Val where
 kind:Int
 num:Int
 s:List Nat
def Val.cells (v:Val):List AV:=[.int .i64 v.kind,.int .i64 v.num,.str v.s]
def Val.av (v:Val):AV:=.agg [.int .i64 v.kind,.int .i64 v.num,.str v.s] 3
inductive Ex where
 | mk (op:Int) (v:Val) (t m:List Nat) (cu:Int) (args:List Ex)
mutual
def Ex.cells:Ex->List AV
 | .mk op v t m cu args=>[.int .i64 op,.int .i64 v.kind,.int .i64 v.num,.str v.s,.str t,.str m,.int .i64 cu,.ds (Ex.aI args) args.length 8]
def Ex.aI:List Ex->List AV
 | []=>[]
 | e::r=>e.cells++Ex.aI r
end
def Ex.av (e:Ex):AV:=.agg e.cells 8
@[simp] theorem Ex.apY (e:Ex):e.av.cells=e.cells:=Eq.trans rfl rfl
@[simp] theorem Ex.awR (e:Ex):e.av.len=8:=Eq.trans rfl rfl
@[simp] theorem Ex.aA (e:Ex):e.cells.length=8:=by cases e;simp[Ex.cells]
@[simp] theorem Ex.akh (l:List Ex):(Ex.aI l).length=l.length*8:=by
 induction l with
 | nil=>simp[Ex.aI]
 | cons e r ih=>simp[Ex.aI,ih];omega
@[simp] theorem Ex.take8 (e:Ex):e.cells.take 8=e.cells:=take_of_length_le (by simp)
@[simp] theorem Ex.bm (e:Ex):Go.Abs.bm e.cells=true:=by cases e;simp[Ex.cells]
@[simp] theorem Ex.atP (l:List Ex):Go.Abs.bm (Ex.aI l)=true:=by
 induction l with
 | nil=>simp[Ex.aI]
 | cons e r ih=>simp[Ex.aI,ih]
mutual
theorem Ex.oU:∀e:Ex,aL e.cells
 | .mk op v t m cu args=>by simp[Ex.cells,Ex.u3 args]
theorem Ex.u3:∀l:List Ex,aL (Ex.aI l)
 | []=>by simp[Ex.aI]
 | e::r=>by simp[Ex.aI,Ex.oU e,Ex.u3 r]
end
@[simp] theorem Ex.pure (e:Ex):Pure e.av:=by simp[Ex.av,Ex.oU]
@[simp] theorem Ex.auU (l:List Ex):aL (Ex.aI l):=Ex.u3 l
@[simp] theorem Ex.auV (e:Ex):aL e.cells:=Ex.oU e
theorem Ex.drop (l:List Ex)(i:Nat)(h:i<l.length):(Ex.aI l).drop (i*8)=l[i].cells++Ex.aI (l.drop (i+1)):=by
 induction l generalizing i with
 | nil=>simp at h
 | cons e r ih =>
  cases i with
  | zero=>simp[Ex.aI]
  | succ i =>
   have e1:(i+1)*8=8+i*8:=by omega
   rw[Ex.aI,e1,<-drop_drop,drop_left' (Ex.aA e)];simpa using ih i (by simpa using h)
theorem jM {l:List Ex}{i:Nat}{k:IntKind}(h:i<l.length):cO 8 (.ds (Ex.aI l) l.length 8) (.int k (i:Int))=.val (.dp (l[i].cells++Ex.aI (l.drop (i+1)))):=by
 rw[Bj h,Ex.drop l i h]
@[simp] theorem axE (e:Ex)(r:List AV)(H:Hp):eo 8 (.dp (e.cells++r)) H=.val e.av:=zj r (Ex.aA e)
def Val.may (v:Val):Bool:=
 if v.kind=0 then decide (v.num=0)&&decide (v.s=[])else if v.kind=1 then decide (v.s=[])else if v.kind=2 then decide (v.num=0)&&decide (v.s.length<=64)
 else if v.kind=3 then decide (v.s=[])&&(decide (v.num=0)||decide (v.num=1))else false
@[simp] theorem Val.pure (v:Val):Pure v.av:=by simp[Val.av]
theorem anO (v:Val):ai pG 101 [v.av] (.bool v.may):=by
 obtain⟨k,i,s⟩:=v;refine bf c101 (by simp) (by simp) (by simp[A101]) λ F hF=>?_;simp only[Val.may]
 by_cases h0:k=0
 ·subst h0;simp[A101,B101,mh,mg,mf,Zf,hF,Val.av];exact .bool (by simp;try omega)
 by_cases h1:k=1
 ·subst h1;simp[A101,B101,mh,mg,mf,nM,Ze,hF,Val.av];exact .bool (by simp;try omega)
 by_cases h2:k=2
 ·subst h2
  by_cases hi:i=0
  ·simp[A101,B101,mh,mg,mf,nM,qx,Jd,hF,Val.av,hi];exact .bool (by simp;try omega)
  simp[A101,B101,mh,mg,mf,nM,qx,Jd,hF,Val.av,hi];exact .bool (by simp;try omega)
 by_cases h3:k=3
 ·subst h3
  by_cases hs:s=[]
  ·by_cases hi:i=0
   ·simp[A101,B101,mh,mg,mf,nM,qx,xk,CL,hF,Val.av,hi,hs];exact .bool (by simp;try omega)
   simp[A101,B101,mh,mg,mf,nM,qx,xk,CL,hF,Val.av,hi,hs];exact .bool (by simp;try omega)
  simp[A101,B101,mh,mg,mf,nM,qx,xk,CL,hF,Val.av,hs];exact .bool (by simp;try omega)
 simp[A101,B101,mh,mg,mf,nM,qx,xk,Mv,hF,Val.av,h0,h1,h2,h3];exact .bool (by simp;try omega)
mutual
theorem Ex.inj:∀(a b:Ex),a.cells=b.cells->a=b
 | .mk op v t m cu args,.mk op' v' t' m' abn args',h=>by
  simp only[Ex.cells,List.cons.injEq,AV.int.injEq,AV.str.injEq,AV.ds.injEq,true_and,and_true]at h;obtain⟨h1,h2,h3,h4,h5,h6,h7,h8,_⟩:=h;have:=Ex.aod args args' h8;obtain⟨k,i,s⟩:=v;obtain⟨k',i',s'⟩:=v';simp_all
theorem Ex.aod:∀(l l':List Ex),Ex.aI l=Ex.aI l'->l=l'
 | [],[],_=>rfl
 | [],e::r,h=>by have:=congrArg length h;simp at this
 | e::r,[],h=>by have:=congrArg length h;simp at this
 | e::r,e'::r',h=>by
  simp only[Ex.aI]at h;obtain⟨h1,h2⟩:=append_inj h (by simp);rw[Ex.inj e e' h1,Ex.aod r r' h2]
end
theorem Ex.aky {a b:Ex}(h:a.av=b.av):a=b:=Ex.inj a b (by simpa[Ex.av]using h)
mutual
def Ex.sz:Ex->Nat
 | .mk _ _ _ _ _ args=>1+Ex.mB args
def Ex.mB:List Ex->Nat
 | []=>0
 | e::r=>e.sz+Ex.mB r
end
theorem Ex.gd (e:Ex):0<e.sz:=by cases e;simp[Ex.sz];omega
theorem Ex.jf (l:List Ex):l.length<=Ex.mB l:=by
 induction l with
 | nil=>simp[Ex.mB]
 | cons e r ih=>have:=Ex.gd e;simp[Ex.mB];omega
theorem Ex.lr {l:List Ex}{e:Ex}(h:e∈l):e.sz<=Ex.mB l:=by
 induction l with
 | nil=>cases h
 | cons a r ih =>
  cases h with
  | head=>simp[Ex.mB]
  | tail _ hm=>have:=ih hm;simp[Ex.mB];omega
def lim:Nat:=1048576
open Classical in
def Ex.same (a b:Ex):Bool:=decide (a=b)
theorem ah (i:Nat)(h:i<2147483648):IntKind.i64.wrap ((i:Int)+1)=((i+1:Nat):Int):=by
 simp[IntKind.wrap,IntKind.signed,IntKind.bits];omega
theorem Ex.qH {a b:Ex}(h:a≠b):a.same b=false:=by simp[Ex.same,h]
theorem Ex.gA (a:Ex):a.same a=true:=by simp[Ex.same]
theorem Jx:∀(N:Nat) (a b:Ex),a.sz<=N->N<=lim->b.sz<=lim->ai pG 92 [a.av,b.av] (.bool (a.same b))
 | 0,a,_,ha,_,_=>by have:=Ex.gd a;omega
 | N + 1,.mk op v t m cu args,.mk op' v' t' m' abn args',ha,hN,hb=>by
  simp only[Ex.sz]at ha hb;have hla:=Ex.jf args;have hlb:=Ex.jf args'
  have ih:∀(i:Nat) (h1:i<args.length) (h2:i<args'.length),ai pG 92 [args[i].av,args'[i].av] (.bool (args[i].same args'[i])):=λ i h1 h2=>by
   have m1:=Ex.lr (getElem_mem h1);have m2:=Ex.lr (getElem_mem h2);exact Jx N args[i] args'[i] (by omega) (by omega) (by omega)
  refine bf c92 (by simp) (by simp) (by simp[A92]) λ F hF=>?_;unfold lim at hN hb
  by_cases hc:op=op'/\v=v'/\t=t'/\m=m'/\cu=abn/\args.length=args'.length
  ·obtain⟨rfl,rfl,rfl,rfl,rfl,hlen⟩:=hc;simp[A92,B92,tP,tO,tN,adD,hF,Ex.av,Ex.cells,hlen]
   refine au.of (λ k F H n m_=>∃i,k=args.length - i/\i<=args.length/\F.get 2=some (.ptr 0 0)/\F.get 3=some (.ptr 1 0)/\F.get 5=some (.int .i64 (i:Int)) /\
    H.get 0=some (.cells 8 [] (Ex.mk op v t m cu args).cells .nil)/\H.get 1=some (.cells 8 [] (Ex.mk op v t m cu args').cells .nil)/\m_=[]/\args.take i=args'.take i) args.length ⟨0,by simp[Ex.cells,hlen]⟩ ?_
   rintro k F H n m_ ⟨i,rfl,hi,f2,f3,f5,h0,h1,rfl,ht⟩
   by_cases hlt:i<args.length
   ·have hlt':i<args'.length:=by omega
    have hx:=jM (k:=.i64) hlt;have hx':=jM (k:=.i64) hlt';simp[Zi,Tc,f2,f5,h0,Ex.cells,hlt,adC];refine bY.of (iN (l:=[(92,[args[i].av,args'[i].av],λ H n=>.mk (.bool (args[i].same args'[i])) H n)]) ?_) ?_
    ·simp only[mem_singleton];rintro x rfl;exact eX (ih i hlt hlt')
    by_cases hs:args[i]=args'[i]
    ·have hb1:args[i].same args'[i]=true:=by rw[hs];exact Ex.gA _
     simp[aa,f2,f3,f5,h0,h1,Ex.cells,hx,hx',fA,hb1,adA,ah i (by omega)];refine⟨_,?_,i+1,rfl,hlt,rfl,?_⟩
     ·omega
     rw[take_succ_eq_append_getElem hlt,take_succ_eq_append_getElem hlt',ht,hs]
    have hb1:=Ex.qH hs;simp[aa,f2,f3,f5,h0,h1,Ex.cells,hx,hx',fA,hb1,adB];refine .bool ?_;rw[Ex.qH];intro e;injection e with _ _ _ _ _ e;subst e;exact hs rfl
   have hi':i=args.length:=by omega
   simp[Zi,Tc,f2,f5,h0,Ex.cells,hlt,adz];refine .bool ?_
   have:args=args':=by
    have h1:=take_of_length_le (l:=args) (i:=i) (by omega);have h2:=take_of_length_le (l:=args') (i:=i) (by omega);rw[<-h1,<-h2,ht]
   rw[this,Ex.gA]
  have hne:(Ex.mk op v t m cu args).same (Ex.mk op' v' t' m' abn args')=false:=Ex.qH λ e=>hc (by injection e with a b c d e f;subst a b c d e f;simp);rw[hne];obtain⟨k,j,s⟩:=v;obtain⟨k',j',s'⟩:=v'
  by_cases c1:op=op'
  ·by_cases c2:k=k'/\j=j'/\s=s'
   ·obtain⟨rfl,rfl,rfl⟩:=c2
    by_cases c9003:t=t'
    ·by_cases c9004:m=m'
     ·by_cases c5:cu=abn
      ·have c4:¬args.length=args'.length:=λ e=>hc ⟨c1,rfl,c9003,c9004,c5,e⟩;subst c1 c9003 c9004 c5;simp[A92,B92,tP,tO,tN,hF,Ex.av,Ex.cells,c4];exact .bool rfl
      subst c1 c9003 c9004;simp[A92,B92,tP,tO,tN,hF,Ex.av,Ex.cells,c5];exact .bool rfl
     subst c1 c9003;simp[A92,B92,tP,tO,tN,hF,Ex.av,Ex.cells,c9004];exact .bool rfl
    subst c1;simp[A92,B92,tP,tO,tN,hF,Ex.av,Ex.cells,c9003];exact .bool rfl
   subst c1;have c2':(decide (k=k')&&(decide (j=j')&&decide (s=s')))=false:=by simpa using λ a b c=>c2 ⟨a,b,c⟩
   simp[A92,B92,tP,tO,tN,hF,Ex.av,Ex.cells,c2'];exact .bool rfl
  simp[A92,B92,tP,tO,tN,hF,Ex.av,Ex.cells,c1];exact .bool rfl
theorem mN (a b:Ex)(ha:a.sz<=lim)(hb:b.sz<=lim):ai pG 92 [a.av,b.av] (.bool (a.same b)):=Jx lim a b ha (Nat.le_refl _) hb
end Go.Abs
namespace Go.Abs
open List
open Go.Proofs
set_option maxRecDepth 100000
open Classical in
theorem Ex.fZ (a b:List Ex):Ex.aI (a++b)=Ex.aI a++Ex.aI b:=by
 induction a with
 | nil=>simp[Ex.aI]
 | cons e r ih=>simp[Ex.aI,ih]
theorem ar.step {H H':Hp}{n n':Nat}{v:AV}{l:List AV}{len sz:Nat}(h:ar H n v l len sz)(hn:n<=n')(hk:∀c,c<n->v=.sl c 0 len sz->H'.get c=H.get c):ar H' n' v l len sz:=by
 obtain⟨h0,h | ⟨b,k,rfl,hb,hkb,ho⟩⟩:=h
 ·exact⟨h0,.inl h⟩
 exact⟨h0,.inr ⟨b,k,rfl,by omega,by rw[hk b hb rfl,hkb],ho⟩⟩
theorem aN.app {h:Hf}{a a' b b':List AV}(x:aN h a a')(y:aN h b b'):aN h (a++b) (a'++b'):=by
 induction a generalizing a' with
 | nil=>cases x;exact y
 | cons v r ih=>cases x with
  | cons _ _ _ _ x1 x2=>exact .cons _ _ _ _ x1 (ih x2)
theorem aN.snoc {h:Hf}(a:List AV){v v':AV}(ha:aL a)(hv:dU h v v'):aN h (a++[v]) (a++[v']):=(aN.pure ha).app (.cons _ _ _ _ hv .nil)
theorem Qi:∀(N:Nat) (e:Ex),e.sz<=N->N<=lim->ai pG 110 [e.av] e.av
 | 0,e,h,_=>by have:=Ex.gd e;omega
 | N + 1,.mk op v t m cu args,ha,hN=>by
  simp only[Ex.sz]at ha;have hla:=Ex.jf args
  have ih:∀(i:Nat) (h1:i<args.length),ai pG 110 [args[i].av] args[i].av:=λ i h1=>by
   have m1:=Ex.lr (getElem_mem h1);exact Qi N args[i] (by omega) (by omega)
  unfold lim at hN;refine bf c110 (by simp) (by simp) (by simp[A110]) λ F hF=>?_;simp[A110,B110,Yt,Ys,Yr,hF,Ex.av,Ex.cells]
  refine au.of (λ k F H n m_=>∃i x,k=args.length - i/\i<=args.length/\F.get 1=some (.ptr 0 0)/\F.get 2=some (.ptr 1 0)/\F.get 7=some (.ds (Ex.aI args) args.length 8)/\F.get 8=some (.int .i64 (args.length:Int))/\F.get 9=some (.int .i64 (i:Int))/\F.get 3=some x /\
   ar H n x (Ex.aI (args.take i)) i 8/\2<=n/\x≠.sl 0 0 i 8/\x≠.sl 1 0 i 8/\H.get 0=some (.cells 8 [] (Ex.mk op v t m cu args).cells .nil)/\(∃c,H.get 1=some (.cells 8 [] c .nil)/\c.length=8)/\m_=[]) args.length
   ⟨0,.ak (.slice none 0 0),by simp[Ex.cells,ar.nil,Ex.aI]⟩ ?_
  rintro k F H n m_ ⟨i,x,rfl,hi,f1,f2,f7,f8,f9,f3,ho,hn,hx0,hx1,h0,⟨c,h1,hcl⟩,rfl⟩
  by_cases hlt:i<args.length
  ·have hx:=jM (k:=.i64) hlt;simp[CS,CB,Yq,Yp,f7,f8,f9,f3,hlt,hx];refine ao.pure (ih i hlt) ?_;simp;refine ar.app (k:=1) (new:=args[i].cells) (len:=i) (l:=Ex.aI (args.take i)) (ar.step ho (by omega) λ c hc _=>by simp[show ¬c=n+1 by omega,show ¬c=n by omega]) ?_ (by simp) (by simp) (by omega) (by omega) (by unfold big;omega) (by omega) (by simp) λ H' ho' hk=>?_
   ·rw[fU (l:=args[i].cells) (k:=.cells 8 [] args[i].cells .nil) (by simp) (fe.list (by simp)) (by simp)];simp
   simp[f1,f2,f7,f8,f9,Yo,ah i (by omega)];refine⟨args.length - (i+1),by omega,i+1,rfl,hlt,by omega,?_,?_,c,?_,hcl⟩
   ·rw[take_succ_eq_append_getElem hlt,Ex.fZ];simpa[Ex.aI]using ho'
   ·rw[hk 0 (by omega) hx0];simp[show ¬ 0=n by omega,h0]
   rw[hk 1 (by omega) hx1];simp[show ¬ 1=n by omega,h1];omega
  have hi':i=args.length:=by omega
  subst hi';have ho2:=ho;rw[take_length]at ho2;obtain⟨_,⟨rfl,hl0⟩ | ⟨b,kb,rfl,hb,hkb,ZP⟩⟩:=ho
  ·have:args=[]:=by simpa using hl0
   subst this;simp[CS,CB,f1,f2,f8,f9,f3,I3,I2,h0,h1,Ex.cells,hcl];refine .agg _ _ _ (aN.snoc [_,_,_,_,_,_,_] (by simp) (.nil 7))
  have hb0:¬b=0:=λ e=>hx0 (by rw[e]);have hb1:¬b=1:=λ e=>hx1 (by rw[e]);simp[CS,CB,f1,f2,f8,f9,f3,I3,I2,h0,h1,Ex.cells,hcl];refine .agg _ _ _ (aN.snoc [_,_,_,_,_,_,_] (by simp) ?_);refine(ar.step ho2 (Nat.le_refl _) λ c hc e=>?_).uw (.pure (by simp));injection e with e;subst e;simp[hb0,hb1]
theorem anw (e:Ex)(h:e.sz<=lim):ai pG 110 [e.av] e.av:=Qi lim e h (Nat.le_refl _)
end Go.Abs
namespace Go.Abs
open List
open Go.Proofs
set_option maxRecDepth 100000
theorem Ex.Pb {args:List Ex}{i:Nat}(h:i<args.length):args[i].sz<=Ex.mB args:=Ex.lr (getElem_mem h)
def Ex.split (e:Ex):List Ex:=match e with
 | .mk op v t m cu args=>if h:op=20/\args.length=2 then (args[0]'(by omega)).split++(args[1]'(by omega)).split else [.mk op v t m cu args]
 termination_by e.sz
 decreasing_by
 ·have:=Ex.Pb (args:=args) (i:=0) (by omega);simp[Ex.sz];omega
 have:=Ex.Pb (args:=args) (i:=1) (by omega);simp[Ex.sz];omega
theorem Ex.rP {v t m cu}(a b:Ex):(Ex.mk 20 v t m cu [a,b]).split=a.split++b.split:=by
 rw[Ex.split];simp
theorem Ex.rO {op v t m cu}{args:List Ex}(h:¬(op=20/\args.length=2)):(Ex.mk op v t m cu args).split=[.mk op v t m cu args]:=by
 rw[Ex.split];rw[dif_neg h]
theorem Ex.Fj (a b:List Ex):Ex.mB (a++b)=Ex.mB a+Ex.mB b:=by
 induction a with
 | nil=>simp[Ex.mB]
 | cons e r ih=>simp[Ex.mB,ih];omega
theorem Ex.gR:∀(N:Nat) (e:Ex),e.sz<=N->Ex.mB e.split<=e.sz/\0<e.split.length
 | 0,e,h=>by have:=Ex.gd e;omega
 | N + 1,.mk op v t m cu args,h=>by
  by_cases hc:op=20/\args.length=2
  ·obtain⟨rfl,hl⟩:=hc
   match args,hl with
   | [a,b],_ =>
    simp[Ex.sz,Ex.mB]at h;have h1:=Ex.gR N a (by omega);have h2:=Ex.gR N b (by omega);rw[Ex.rP,Ex.Fj];simp[Ex.sz,Ex.mB];omega
  rw[Ex.rO hc];simp[Ex.mB]
theorem Ex.drop_take (l:List Ex)(i:Nat)(h:i<l.length):((Ex.aI l).drop (i*8)).take 8=l[i].cells:=by
 rw[Ex.drop l i h,take_append_of_le_length (by simp)];simp
theorem uj {H:Hp}(e:Ex)(h:H.get 1=some (.cells 8 [] e.cells .nil)):ar H 2 (.sl 1 0 1 8) (Ex.aI [e]) 1 8:=
 ⟨by simp,.inr ⟨1,_,rfl,by omega,h,by simpa[Ex.aI]using fe.list (l:=e.cells) (u:=8) (by simp)⟩⟩
theorem Bb:∀(N:Nat) (e:Ex),e.sz<=N->N<=lim->mz pG 67 [e.av] (Ex.aI e.split) e.split.length 8
 | 0,e,h,_=>by have:=Ex.gd e;omega
 | N + 1,.mk op v t m cu args,ha,hN=>by
  have hs:=Ex.gR (N+1) (.mk op v t m cu args) ha;refine mz.of (by simp) (by simp) hs.2 (aH.of c67 (by simp[A67]) λ F hF=>?_)
  by_cases hc:op=20/\args.length=2
  ·obtain⟨rfl,hl⟩:=hc
   match args,hl with
   | [a, b],_ =>
    simp only[Ex.sz,Ex.mB]at ha;have ia:=Bb N a (by omega) (by omega);have ib:=Bb N b (by omega) (by omega);have sa:=Ex.gR N a (by omega);have sb:=Ex.gR N b (by omega);have la:=Ex.jf a.split;have lb:=Ex.jf b.split;unfold lim at hN
    have x0:cO 8 (.ds (Ex.aI [a,b]) 2 8) (.int .i64 0)=.val (.dp (a.cells++Ex.aI [b])):=by
     have:=jM (l:=[a,b]) (i:=0) (k:=.i64) (by simp);simpa using this
    have x1:cO 8 (.ds (Ex.aI [a,b]) 2 8) (.int .i64 1)=.val (.dp (b.cells++Ex.aI [])):=by
     have:=jM (l:=[a,b]) (i:=1) (k:=.i64) (by simp);simpa using this
    rw[Ex.rP];simp[A67,B67,KI,KH,afv,hF,Ex.av,Ex.cells];refine bY.of (iN (l:=[(67,[a.av],λ H n=>.mk (.sl n 0 a.split.length 8) (H.put n (some (.cells (a.split.length*8) [] (Ex.aI a.split) .nil))) (n+1)),(67,[b.av],λ H n=>.mk (.sl n 0 b.split.length 8) (H.put n (some (.cells (b.split.length*8) [] (Ex.aI b.split) .nil))) (n+1))]) ?_) ?_
    ·simp only[mem_cons,not_mem_nil,or_false];rintro x (rfl | rfl)
     ·exact Kj ia
     exact Kj ib
    have hb:∀H n,(ceT [((67:Nat),[a.av],λ(H:Hp) (n:Nat)=>iq.mk (.sl n 0 a.split.length 8) (H.put n (some (.cells (a.split.length*8) [] (Ex.aI a.split) .nil))) (n+1)),(67,[b.av],λ H n=>.mk (.sl n 0 b.split.length 8) (H.put n (some (.cells (b.split.length*8) [] (Ex.aI b.split) .nil))) (n+1))]).call 67 [b.av] H n=.mk (.sl n 0 b.split.length 8) (H.put n (some (.cells (b.split.length*8) [] (Ex.aI b.split) .nil))) (n+1):=by
     intro H n;rw[akj,fA]
     ·simp
     intro _ e H n;have e:b=a:=Ex.aky (by simpa using e);subst e;rw[fA]
    simp[aa,x0,x1,fA,hb];refine ar.awS (k:=b.split.length) (new:=Ex.aI b.split) (len:=a.split.length) (l:=Ex.aI a.split) ⟨by simp,.inr ⟨1,_,rfl,by omega,by simp;rfl,.list (by simp)⟩⟩ ?_ (by simp) (by simp) (by omega) (by omega) (by unfold big;omega) (by omega) (by simp) λ H' ho' hk=>?_
    ·rw[fU (l:=Ex.aI b.split) (k:=.cells (b.split.length*8) [] (Ex.aI b.split) .nil) (by simp) (fe.list (by simp)) (by simp)];simp[take_of_length_le]
    simp;rw[Ex.fZ];exact ho'
  rw[Ex.rO hc];have ho:=anw (.mk op v t m cu args) (by omega)
  by_cases h20:op=20
  ·have hl:¬args.length=2:=λ e=>hc ⟨h20,e⟩;have hl':¬(args.length:Int)=2:=by omega
   simp[A67,B67,KI,KH,U4,hF,Ex.av,Ex.cells,h20,hl'];subst h20;refine ao.pure ho ?_;simp;exact uj _ (by simp[Ex.cells])
  simp[A67,B67,KI,KH,U4,hF,Ex.av,Ex.cells,h20];refine ao.pure ho ?_;simp;exact uj _ (by simp[Ex.cells])
theorem aj5 (e:Ex)(h:e.sz<=lim):mz pG 67 [e.av] (Ex.aI e.split) e.split.length 8:=Bb lim e h (Nat.le_refl _)
def eE {α:Type}(p:α->Bool)(l:List α):Int:=match l.findIdx? p with
 | some i=>(i:Int)
 | none => -1
def ajq (s:Nat) (ld:Eff):CF:={res:=[aP 4],code:=.seq (.reg [oP (aM 4) (eF (aF (.int .i64 0)))]) (.seq (.seq (.reg [oP (aM 6) (eF (aC 0)),oP (aM 7) (e1 aX (aC 6)),oP (aM 8) (eF (aF (.int .i64 0)))]) (.block 0 (.loop
 (.seq (.reg [oP (aM 9) (e2 (aV .lss) (aC 8) (aC 7))]) (.seq (.cond (aC 9) .skip (.exit 0)) (.seq (.block 1 (.seq (.reg [oP (aM 10) (eF (aC 8)),oP (aM 5) (eF (aC 10))]) (.seq (.reg [oP (aM 11) (eF (aC 1)),oP (aM 12) (eF (aC 0)),oP (aM 13) (eF (aC 5)),oP (aM 14) (e2 (cO s) (aC 12) (aC 13)),oP (aM 15) ld,vP (aM 16) (aC 11) [(aC 15)]])
  (.cond (aC 16) (.seq (.reg [oP (aM 17) (eF (aC 5)),oP (aM 4) (eF (aC 17))]) .ret) .skip)))) (.reg [oP (aM 18) (e2 (aV .add) (aC 8) (aF (.int .i64 1))),oP (aM 8) (eF (aC 18))])))))))
 (.seq (.reg [oP (aM 4) (eF (aF (.int .i64 (-1))))]) .ret)),nt:=19}
theorem nX {α:Type}{p:α->Bool}{l:List α}{i:Nat}(h:i<l.length)(hp:p l[i]=true)(hn:∀j (hj:j<i),p (l[j]'(by omega))=false):eE p l=(i:Int):=by
 have:l.findIdx? p=some i:=by
  rw[findIdx?_eq_some_iff_getElem];exact⟨h,hp,λ j hj=>by simpa using hn j hj⟩
 simp[eE,this]
theorem kW {α:Type}{p:α->Bool}{l:List α}(hn:∀j (hj:j<l.length),p l[j]=false):eE p l = -1:=by
 have:l.findIdx? p=none:=by
  rw[findIdx?_eq_none_iff];intro x hx;obtain⟨j,hj,rfl⟩:=getElem_of_mem hx;simpa using hn j hj
 simp[eE,this]
theorem rZ {α:Type}{P:Program}{g:FuncId}{s:Nat}{ld:Eff}{v:AV}{el:α->AV}{xs:List α}{f:FuncId}{first cap:List AV}{p:α->Bool}{H:Hp}{n:Nat}(hc:cG P g=some (ajq s ld))(hl:xs.length<=lim)(hlen:aX v=.val (.int .i64 (xs.length:Int)))
  (hx:∀i (h:i<xs.length),∃q,cO s v (.int .i64 (i:Int))=.val q/\∀(F:Fr) H n,F.get 14=some q->ld F H n=.val (el xs[i]))
  (hp:∀x∈xs,aH P f (first++([el x]++cap)) H n (λ u K k=>u=.bool (p x)/\K=H/\k=n)):
  aH P g [v,.fn (.func f) first cap] H n (λ u K k=>u=.int .i64 (eE p xs)/\K=H/\k=n):=by
 refine aH.of hc (by simp[ajq]) λ F hF=>?_;unfold lim at hl;simp[ajq,hF,hlen]
 refine au.of (λ k F K m m_=>∃i,k=xs.length - i/\i<=xs.length/\F.get 0=some v/\F.get 1=some (.fn (.func f) first cap)/\F.get 7=some (.int .i64 (xs.length:Int))/\F.get 8=some (.int .i64 (i:Int)) /\
  K=H/\m=n/\m_=[]/\∀j (hj:j<i) (h:j<xs.length),p xs[j]=false) xs.length ⟨0,by simp[hF]⟩ ?_
 rintro k F K m m_ ⟨i,rfl,hi,f0,f1,f7,f8,rfl,rfl,rfl,hj⟩
 by_cases hlt:i<xs.length
 ·obtain⟨q,hq,hld⟩:=hx i hlt;simp[f0,f1,f7,f8,hlt,hq];rw[hld _ _ _ (by simp)];simp;refine ao.same (hp xs[i] (getElem_mem hlt)) ?_;simp;refine tY.ofB (λ hb=>?_) λ hb=>?_
  ·simp;exact(nX hlt hb λ j hj'=>hj j hj' (by omega)).symm
  simp[f0,f1,f7,f8,ah i (by omega)];refine⟨xs.length - (i+1),by omega,i+1,rfl,hlt,by omega,λ j hj' h=>?_⟩
  by_cases e:j=i
  ·subst e;exact hb
  exact hj j (by omega) h
 simp[f7,f8,hlt];exact(kW λ j h=>hj j (by omega) h).symm
def akb (g:FuncId):CF:={res:=[aP 4],code:=.seq (.reg [oP (aM 4) (eF (aF (.bool false)))]) (.seq (.reg [oP (aM 5) (eF (aC 0)),oP (aM 6) (eF (aC 1)),cP (aM 7) g [(aC 5),(aC 6)],oP (aM 8) (e2 (aV .geq) (aC 7) (aF (.int .i64 0))),oP (aM 4) (eF (aC 8))]) .ret),nt:=9}
theorem vv {α:Type}(p:α->Bool)(l:List α):decide (0<=eE p l)=l.any p:=by
 unfold eE
 cases h:l.findIdx? p with
 | none =>
  rw[findIdx?_eq_none_iff]at h
  have:l.any p=false:=by
   rw[any_eq_false];intro x hx;simpa using h x hx
  simp[this]
 | some i =>
  rw[findIdx?_eq_some_iff_getElem]at h;obtain⟨h1,h2,_⟩:=h;have:l.any p=true:=by rw[any_eq_true];exact⟨_,getElem_mem h1,h2⟩
  simp[this]
theorem v8 {α:Type}{P:Program}{g c:FuncId}{v fv:AV}{xs:List α}{p:α->Bool}{H:Hp}{n:Nat}(hc:cG P c=some (akb g))(h:aH P g [v,fv] H n (λ u K k=>u=.int .i64 (eE p xs)/\K=H/\k=n)):
  aH P c [v,fv] H n (λ u K k=>u=.bool (xs.any p)/\K=H/\k=n):=by
 refine aH.of hc (by simp[akb]) λ F hF=>?_;simp[akb,hF];refine ao.same h ?_;simp[vv]
mutual
def Ex.right (n:Int):Ex->Bool
 | .mk op v _ _ cu args=>if op=1 then decide (args.length=0)&&v.may else if op=3 then decide (args.length=0)&&(decide (0<=cu)&&decide (cu<n))
  else (dA op).2&&(decide ((args.length:Int)=(dA op).1.n)&&Ex.Pq n args)
def Ex.Pq (n:Int):List Ex->Bool
 | []=>true
 | e::r=>e.right n&&Ex.Pq n r
end
def bU (l:List Int):List AV:=l.map (.int .i64)
@[simp] theorem alQ (l:List Int):(bU l).length=l.length:=by simp[bU]
@[simp] theorem ajk (l:List Int):aL (bU l):=aL.vg λ v hv=>by
 simp only[bU,mem_map]at hv;obtain⟨i,_,rfl⟩:=hv;simp
@[simp] theorem alP (l:List Int):bm (bU l)=true:=by
 induction l with
 | nil=>rfl
 | cons a r ih=>simp only[bU,map_cons,tM,aas,Bool.true_and];exact ih
theorem qU (a b:List Int):bU (a++b)=bU a++bU b:=by simp[bU]
theorem FP (l:List Int)(i:Nat)(h:i<l.length):(bU l).drop i=.int .i64 l[i]::bU (l.drop (i+1)):=by
 unfold bU;rw[<-map_drop,drop_eq_getElem_cons h];rfl
theorem lI {l:List Int}{i:Nat}{k:IntKind}(h:i<l.length):cO 1 (.ds (bU l) l.length 1) (.int k (i:Int))=.val (.dp (.int .i64 l[i]::bU (l.drop (i+1)))):=by
 rw[Bj h,Nat.mul_one,FP l i h]
def Want.fits (w:Want)(l:List Int):Bool:=
 if w.any=true then !w.alike||(decide (l.getD 0 0=l.getD 1 0)||(decide (l.getD 0 0=0)||decide (l.getD 1 0=0)))else !(l.any λ k=>decide (k≠0)&&decide (k≠w.part))
theorem ajO {H:Hp}{n b:Nat}(w:Want)(k:Int)(hb:H.get b=some (.cells 5 [] [.int .i64 w.n,.int .i64 w.part,.int .i64 w.kind,.bool w.any,.bool w.alike] .nil)):
  aH pG 127 [.int .i64 k,.ptr b 0] H n (λ u K j=>u=.bool (decide (k≠0)&&decide (k≠w.part))/\K=H/\j=n):=by
 refine aH.of c127 (by simp[A127]) λ F hF=>?_
 by_cases h0:k=0
 ·simp[A127,B127,HW,HV,hF,h0]
 simp[A127,B127,HW,HV,hF,hb,h0]
theorem ajP (w:Want)(l:List Int)(hl:l.length<=lim)(h2:w.any=true->w.alike=true->2<=l.length):ai pG 109 [w.av,.ds (bU l) l.length 1] (.bool (w.fits l)):=by
 obtain⟨wn,wp,wk,wa,wl⟩:=w;refine bf c109 (by simp) (by simp) (by simp[A109]) λ F hF=>?_;simp only[Want.fits]
 cases wa with
 | false =>
  simp[A109,B109,CE,CC,YG,hF,Want.av];refine ao.same (v8 (xs:=l) (p:=λ k=>decide (k≠0)&&decide (k≠wp)) c126 (rZ (el:=λ k=>.int .i64 k) (first:=[]) (cap:=[.ptr 0 0]) c133 hl (by simp) (λ i h=>⟨_,lI h,λ F H n si=>by simp[si]⟩) λ x hx=>ajO ⟨wn,wp,wk,false,wl⟩ x (by simp))) ?_;simp;exact .bool (by simp)
 | true =>
  cases wl with
  | false =>
   simp[A109,B109,CE,CC,I8,hF,Want.av];refine bY.of (bH (P:=pG)) ?_;simp[aa];exact .bool (by simp)
  | true =>
   have h2:=h2 rfl rfl
   match l,h2 with
   | a :: b::r,_ =>
    have x0:cO 1 (.ds (bU (a::b::r)) (r.length+1+1) 1) (.int .i64 0)=.val (.dp (.int .i64 a::bU (b::r))):=by
     have:=lI (l:=a::b::r) (i:=0) (k:=.i64) (by simp);simpa using this
    have x1:cO 1 (.ds (bU (a::b::r)) (r.length+1+1) 1) (.int .i64 1)=.val (.dp (.int .i64 b::bU r)):=by
     have:=lI (l:=a::b::r) (i:=1) (k:=.i64) (by simp);simpa using this
    simp[A109,B109,CE,CC,I8,hF,Want.av];refine bY.of (bH (P:=pG)) ?_
    by_cases e1:a=b
    ·subst e1;simp[aa,hF,x0,x1];exact .bool (by simp)
    by_cases e2:a=0
    ·subst e2;simp[aa,hF,x0,x1,e1];exact .bool (by simp)
    simp[aa,hF,x0,x1,e1,e2];exact .bool (by simp)
end Go.Abs
namespace Go.Abs
open List
open Go.Proofs
open Classical
set_option maxRecDepth 100000
structure eW where
  name:List Nat
  kind:Int
  need:Bool
structure aR where
  id:Int
  name:List Nat
  ae:List eW
  head:Int
structure jb where
  id:Int
  table:Int
  name:List Nat
  ae:List Int
  uniq:Bool
  root:Int
structure bD where
  tables:List aR
  indexes:List jb
def bB:al (List Nat) 1:=⟨λ s=>[.str s],λ _=>rfl,λ _=>by simp,λ _=>by simp[bm,AV.one]⟩
def bR:al Int 1:=⟨λ i=>[.int .i64 i],λ _=>rfl,λ _=>by simp,λ _=>by simp[bm,AV.one]⟩
def aW:al eW 3:=⟨λ c=>[.str c.name,.int .i64 c.kind,.bool c.need],λ _=>rfl,λ _=>by simp,λ _=>by simp[bm,AV.one]⟩
def aG:al aR 4:=⟨λ t=>[.int .u32 t.id,.str t.name,aW.ds t.ae,.int .u32 t.head],λ _=>rfl,λ _=>by simp,λ _=>by simp[bm,AV.one,al.ds]⟩
def bC:al jb 6:=⟨λ x=>[.int .u32 x.id,.int .u32 x.table,.str x.name,bR.ds x.ae,.bool x.uniq,.int .u32 x.root],λ _=>rfl,λ _=>by simp,λ _=>by simp[bm,AV.one,al.ds]⟩
def cw:al bD 2:=⟨λ s=>[aG.ds s.tables,bC.ds s.indexes],λ _=>rfl,λ _=>by simp,λ _=>by simp[bm,AV.one,al.ds]⟩
theorem jQ (s:List Nat):bB.cells s=[.str s]:=rfl
theorem eR (i:Int):bR.cells i=[.int .i64 i]:=rfl
theorem dQ (c:eW):aW.cells c=[.str c.name,.int .i64 c.kind,.bool c.need]:=rfl
theorem aU (t:aR):aG.cells t=[.int .u32 t.id,.str t.name,aW.ds t.ae,.int .u32 t.head]:=rfl
theorem eG (x:jb):bC.cells x=[.int .u32 x.id,.int .u32 x.table,.str x.name,bR.ds x.ae,.bool x.uniq,.int .u32 x.root]:=rfl
theorem cC (s:bD):cw.cells s=[aG.ds s.tables,bC.ds s.indexes]:=rfl
def rl (c:Nat):Prop:=97<=c/\c<=122
def ug (c:Nat):Prop:=(48<=c/\c<=57)∨c=95
def cK (s:List Nat):Prop:=s≠[]/\s.length<=24/\∀j (h:j<s.length),rl s[j]∨(0<j/\ug s[j])
theorem Bi {l:List Nat}{i:Nat}{k:IntKind}(h:i<l.length):rp (.str l) (.int k (i:Int))=.val (.int .u8 (l[i]:Int)):=by
  unfold rp
  simp[pI,getElem?_eq_getElem h]
theorem Am (s:List Nat):ai pG 39 [.str s] (.bool (decide (cK s))):=by
  refine bf c39 (by simp) (by simp) (by simp[A39]) λ F hF=>?_
  simp[A39,B39,agv,agu,hF]
  by_cases h0:s=[]
  · have:¬cK s:=λ h=>h.1 h0
    simp[h0,VK]
    exact .bool (by subst h0;simp[this])
  by_cases Oe:s.length<=24
  · simp[h0,show ¬(24:Int)<(s.length:Int) by omega,agt,hF]
    refine au.of (λ t F K n ms=>∃i,t=s.length - i/\i<=s.length/\F.get 0=some (.str s)/\F.get 13=some (.int .i64 (s.length:Int))/\F.get 14=some (.int .i64 (i:Int))/\K=.nil/\ms=[]/\∀j (h:j<s.length),j<i->rl s[j]∨(0<j/\ug s[j])) s.length ⟨0,by simp[hF]⟩ ?_
    rintro t F K n ms ⟨i,rfl,hi,f0,f13,f14,rfl,rfl,hj⟩
    by_cases hlt:i<s.length
    · have hx:=Bi (k:=.i64) hlt
      have w:=ah i (by omega)
      have stay:∀F':Fr,F'.get 0=some (.str s)->F'.get 13=some (.int .i64 (s.length:Int))->F'.get 14=some (.int .i64 (i:Int))->(rl s[i]∨(0<i/\ug s[i]))->VC pG Hk F' .nil n [] (mE (λ t F K n ms=>∃i,t=s.length - i/\i<=s.length/\F.get 0=some (.str s)/\F.get 13=some (.int .i64 (s.length:Int))/\F.get 14=some (.int .i64 (i:Int))/\K=.nil/\ms=[]/\∀j (h:j<s.length),j<i->rl s[j]∨(0<j/\ug s[j])) (s.length - i) (bX 0 (hJ pG (Hj.seq CT.ret) (iR [aP 2] λ v1 H' _=>dU H'.get v1 (.bool (decide (cK s))))))):=by
        intro F' g0 g13 g14 hc
        simp[Hk,g0,g13,g14,w]
        refine⟨s.length - (i+1),by omega,i+1,rfl,hlt,rfl,λ j h hji=>?_⟩
        by_cases e:j=i
        · subst e;exact hc
        · exact hj j h (by omega)
      have no:∀(F':Fr),¬(rl s[i]∨(0<i/\ug s[i]))->dU (Tr.nil:Hp).get (.bool false) (.bool (decide (cK s))):=λ F' hc=>by
        have:¬cK s:=λ h=>hc (h.2.2 i hlt)
        exact .bool (by simp[this])
      simp[Zv,VJ,f13,f14,hlt,ags,agr,f0,hx,agq]
      generalize hcc:s[i]=c at stay no
      by_cases a1:(97:Int)<=(c:Int)<;>by_cases a2:(c:Int)<=122<;>by_cases z:0<i<;>by_cases b1:(48:Int)<=(c:Int)<;>by_cases b2:(c:Int)<=57<;>by_cases d:c=95 <;>
        first
        | (exfalso;omega)
        | (simp[a1,a2,z,b1,b2,d,show ((c:Int)=95)=(c=95) by simp;omega,agp,agn]
           first
           | simpa using stay _ (by simp[f0]) (by simp[f13]) (by simp[f14]) (by unfold rl ug;omega)
           | exact no F (by unfold rl ug;omega))
    · obtain rfl:i=s.length:=by omega
      have:cK s:=⟨h0,Oe,λ j h=>hj j h h⟩
      simp[Zv,VJ,f13,f14,Hj]
      exact .bool (by simp[this])
  · have:¬cK s:=λ h=>Oe h.2.1
    simp[h0,hF,show (24:Int)<(s.length:Int) by omega,VK]
    exact .bool (by simp[this])
end Go.Abs
namespace Go.Abs
open List
def iW:List (List Nat):=[[97,110,100],[97,115],[98,101,103,105,110],[98,111,111,108],[98,121],[99,111,109,109,105,116],[99,114,101,97,116,101],[100,101,108,101,116,101],[100,101,115,99],[100,105,115,116,105,110,99,116],[100,114,111,112],[102,97,108,115,101],[102,114,111,109],[105,110,100,101,120],[105,110,115,101,114,116],[105,110,116],[105,110,116,111],[105,115],[106,111,105,110],[108,105,109,105,116],[110,111,116],[110,117,108,108],[111,110],[111,114],[111,114,100,101,114],[114,111,108,108,98,97,99,107],[115,101,108,101,99,116],[115,101,116],[116,97,98,108,101],[116,101,120,116],[116,114,117,101],[117,110,105,113,117,101],[117,112,100,97,116,101],[118,97,108,117,101,115],[119,104,101,114,101]]
end Go.Abs
