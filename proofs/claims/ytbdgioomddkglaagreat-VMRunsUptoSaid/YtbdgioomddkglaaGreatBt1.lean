/- A part. -/
import Derived.Test.YtbdgioomddkglaaGreatVmC
noncomputable section
namespace Go.Abs
open List
open Go.Proofs
open Classical
set_option maxRecDepth 100000
theorem fp {h:Hf}{v:AV}(k:Pure v:=by simp):fW h v v:=.pure v k
theorem pv {P:Program}{g:FuncId}{c:CF}{args:List AV}{v:AV}(hc:PI P g=some c)(h:∀F:Fr,(∀i,F.get i=args[i]?)->VC P c.code F .nil 0 [] (fQ c.res λ v1 H' _=>fW H'.get v1 v))(hp:aT args:=by simp)(hv:Pure v:=by simp)(hl:args.length<=c.nt:=by exact dR rfl):ah P g args v:=eY hc hp hv hl h
abbrev iI (n:Int):AV:=.int .i64 n
abbrev cl (n:Nat)(l:List AV):Option bz:=some (.cells n [] l .nil)
structure aN (α:Type)(k:Nat) where
 cells:α->List AV
 len:∀a,(cells a).length=k
 Qa:∀a,aT (cells a)
 one:∀a,aX (cells a)=true
variable {α:Type}{k:Nat}
def aN.l (E:aN α k)(l:List α):List AV:=l.flatMap E.cells
def aN.ds (E:aN α k)(l:List α):AV:=.ds (E.l l) l.length k
def aN.av (E:aN α k)(a:α):AV:=.agg (E.cells a) k
@[simp] theorem aN.aE (E:aN α k)(a:α):(E.cells a).length=k:=E.len a
@[simp] theorem aN.aja (E:aN α k)(a:α):aT (E.cells a):=E.Qa a
@[simp] theorem aN.cells_one (E:aN α k)(a:α):aX (E.cells a)=true:=E.one a
@[simp] theorem aN.auj (E:aN α k):E.l []=[]:=rfl
theorem aN.kX (E:aN α k)(a:α)(r:List α):E.l (a::r)=E.cells a++E.l r:=rfl
theorem aN.mK (E:aN α k)(a b:List α):E.l (a++b)=E.l a++E.l b:=by simp[aN.l]
theorem aN.zB (E:aN α k)(a:α):E.l [a]=E.cells a:=by simp[aN.l]
@[simp] theorem aN.amB (E:aN α k)(l:List α):(E.l l).length=l.length*k:=by
 induction l with
 |nil=>simp
 |cons a r ih=>simp[aN.kX,ih,Nat.add_mul];omega
@[simp] theorem aN.arR (E:aN α k)(l:List α):aT (E.l l):=aT.Hj λ v hv=>by
 obtain⟨a,_,ha⟩:=mem_flatMap.1 hv;exact(E.Qa a).mem v ha
@[simp] theorem aN.amC (E:aN α k)(l:List α):aX (E.l l)=true:=by
 induction l with
 |nil=>rfl
 |cons a r ih=>simp[aN.kX,ih]
@[simp] theorem aN.aqv (E:aN α k)(l:List α):Pure (E.ds l):=by simp[aN.ds]
@[simp] theorem aN.aqJ (E:aN α k)(a:α):Pure (E.av a):=by simp[aN.av]
theorem aN.ahX (E:aN α k){l:List α}{i:Nat}(h:i<l.length):(E.l l).drop (i*k)=E.cells l[i]++E.l (l.drop (i+1)):=by
 induction l generalizing i with
 |nil=>simp at h
 |cons a r ih =>
  cases i with
  |zero=>simp[aN.kX]
  |succ i =>
   have e1:(i+1)*k=k+i*k:=by rw[Nat.add_mul];omega
   rw[aN.kX,e1,<-drop_drop,drop_left' (E.len a)];simpa using ih (by simpa using h)
theorem aN.ahW (E:aN α k)(l:List α)(i:Nat):(E.l l).take (i*k)=E.l (l.take i):=by
 induction l generalizing i with
 |nil=>simp
 |cons a r ih =>
  cases i with
  |zero=>simp
  |succ i =>
   have e1:(i+1)*k=k+i*k:=by rw[Nat.add_mul];omega
   rw[aN.kX,e1,take_add,take_left' (E.len a),drop_left' (E.len a),ih];rfl
theorem aN.ix (E:aN α k){l:List α}{i:Nat}{ik:IntKind}(h:i<l.length):dG k (E.ds l) (.int ik (i:Int))=.val (.dp (E.cells l[i]++E.l (l.drop (i+1)))):=by
 rw[aN.ds,ig h,E.ahX h]
theorem aN.sC (E:aN α k)(a:α)(r:List AV)(H:Hp):df k (.dp (E.cells a++r)) H=.val (E.av a):=ga r (E.len a)
theorem aN.aF (E:aN α k)(l:List α):bu (E.ds l)=.val (iI (l.length:Int)):=by simp[aN.ds]
theorem aN.aaz (E:aN α k){l:List α}{i:Nat}(h:i<=l.length):mf k none (some (iI (i:Int))) none (E.ds l)=.val (E.ds (l.take i)):=by
 unfold mf aN.ds
 have:tu l.length none (some (iI (i:Int))) none=some (0,i):=by
  simp[tu,show bnd l.length (some (iI (i:Int)))=some i from rfl,show bnd l.length none=some l.length from rfl,show bnd 0 none=some 0 from rfl,h]
 simp only[this];simp[E.ahW,Nat.min_eq_left h]
structure Val where
 kind:Int
 num:Int
 s:List Nat
def Val.cells (v:Val):List AV:=[iI v.kind,iI v.num,.str v.s]
def Val.av (v:Val):AV:=.agg [iI v.kind,iI v.num,.str v.s] 3
inductive Ex where
 |mk (op:Int) (v:Val) (t m:List Nat) (qw:Int) (args:List Ex)
mutual
def Ex.cells:Ex->List AV
 |.mk op v t m qw args=>[iI op,iI v.kind,iI v.num,.str v.s,.str t,.str m,iI qw,.ds (Ex.dC args) args.length 8]
def Ex.dC:List Ex->List AV
 |[]=>[]
 |e::r=>e.cells++Ex.dC r
end
def Ex.av (e:Ex):AV:=.agg e.cells 8
@[simp] theorem Ex.aoM (e:Ex):e.av.cells=e.cells:=Eq.trans rfl rfl
@[simp] theorem Ex.atn (e:Ex):e.av.len=8:=Eq.trans rfl rfl
@[simp] theorem Ex.aE (e:Ex):e.cells.length=8:=by cases e;simp[Ex.cells]
@[simp] theorem Ex.aX (e:Ex):Go.Abs.aX e.cells=true:=by cases e;simp[Ex.cells]
mutual
theorem Ex.Q6:∀e:Ex,aT e.cells
 |.mk op v t m qw args=>by simp[Ex.cells,Ex.Q5 args]
theorem Ex.Q5:∀l:List Ex,aT (Ex.dC l)
 |[]=>by simp[Ex.dC]
 |e::r=>by simp[Ex.dC,Ex.Q6 e,Ex.Q5 r]
end
@[simp] theorem Ex.pure (e:Ex):Pure e.av:=by simp[Ex.av,Ex.Q6]
def Val.may (v:Val):Bool:=
 if v.kind=0 then decide (v.num=0)&&decide (v.s=[])else if v.kind=1 then decide (v.s=[])else if v.kind=2 then decide (v.num=0)&&decide (v.s.length<=64)
 else if v.kind=3 then decide (v.s=[])&&(decide (v.num=0)||decide (v.num=1))else false
@[simp] theorem Val.pure (v:Val):Pure v.av:=by simp[Val.av]
theorem nM (v:Val):ah pG 47 [v.av] (.bool v.may):=by
 obtain⟨k,i,s⟩:=v;refine pv c47 λ F hF=>?_;simp only[Val.may]
 by_cases h0:k=0
 ·subst h0;simp[A47,hF,Val.av];exact .bool (by simp;try omega)
 by_cases h1:k=1
 ·subst h1;simp[A47,hF,Val.av];exact .bool (by simp;try omega)
 by_cases h2:k=2
 ·subst h2
  by_cases hi:i=0
  ·simp[A47,hF,Val.av,hi];exact .bool (by simp;try omega)
  simp[A47,hF,Val.av,hi];exact .bool (by simp;try omega)
 by_cases h3:k=3
 ·subst h3
  by_cases hs:s=[]
  ·by_cases hi:i=0
   ·simp[A47,hF,Val.av,hi,hs];exact .bool (by simp;try omega)
   simp[A47,hF,Val.av,hi,hs];exact .bool (by simp;try omega)
  simp[A47,hF,Val.av,hs];exact .bool (by simp;try omega)
 simp[A47,hF,Val.av,h0,h1,h2,h3];exact .bool (by simp;try omega)
mutual
def Ex.sz:Ex->Nat
 |.mk _ _ _ _ _ args=>1+Ex.szL args
def Ex.szL:List Ex->Nat
 |[]=>0
 |e::r=>e.sz+Ex.szL r
end
def bm:Nat:=1048576
theorem ax (i:Nat)(h:i<2147483648):IntKind.i64.wrap ((i:Int)+1)=((i+1:Nat):Int):=by
 simp[IntKind.wrap,IntKind.signed,IntKind.bits];omega
def lI {α:Type}(p:α->Bool)(l:List α):Int:=match l.findIdx? p with
 |some i=>(i:Int)
 |none => -1
def Pn (s:Nat) (ld:Eff):CF:={res:=[aB 4],code:=.seq (.eC [oP (bF 4) (eD (aK (iI 0)))]) (.seq (.seq (.eC [oP (bF 6) (eD (ao 0)),oP (bF 7) (e1 bu (ao 6)),oP (bF 8) (eD (aK (iI 0)))]) (.block 0 (.loop
 (.seq (.eC [oP (bF 9) (e2 (ct .lss) (ao 8) (ao 7))]) (.seq (.cond (ao 9) .skip (.exit 0)) (.seq (.block 1 (.seq (.eC [oP (bF 10) (eD (ao 8)),oP (bF 5) (eD (ao 10))]) (.seq (.eC [oP (bF 11) (eD (ao 1)),oP (bF 12) (eD (ao 0)),oP (bF 13) (eD (ao 5)),oP (bF 14) (e2 (dG s) (ao 12) (ao 13)),oP (bF 15) ld,vP (bF 16) (ao 11) [(ao 15)]])
  (.cond (ao 16) (.seq (.eC [oP (bF 17) (eD (ao 5)),oP (bF 4) (eD (ao 17))]) .ret) .skip)))) (.eC [oP (bF 18) (e2 (ct .add) (ao 8) (aK (iI 1))),oP (bF 8) (eD (ao 18))])))))))
 (.seq (.eC [oP (bF 4) (eD (aK (iI (-1))))]) .ret)),nt:=19}
theorem zK {α:Type}{p:α->Bool}{l:List α}{i:Nat}(h:i<l.length)(hp:p l[i]=true)(hn:∀j (hj:j<i),p (l[j]'(by omega))=false):lI p l=(i:Int):=by
 have:l.findIdx? p=some i:=by
  rw[findIdx?_eq_some_iff_getElem];exact⟨h,hp,λ j hj=>by simpa using hn j hj⟩
 simp[lI,this]
theorem zL {α:Type}{p:α->Bool}{l:List α}(hn:∀j (hj:j<l.length),p l[j]=false):lI p l = -1:=by
 have:l.findIdx? p=none:=by
  rw[findIdx?_eq_none_iff];intro x hx;obtain⟨j,hj,rfl⟩:=getElem_of_mem hx;simpa using hn j hj
 simp[lI,this]
theorem wI {α:Type}{P:Program}{g:FuncId}{s:Nat}{ld:Eff}{v:AV}{el:α->AV}{xs:List α}{f:FuncId}{first cap:List AV}{p:α->Bool}{H:Hp}{n:Nat}(hc:PI P g=some (Pn s ld))(hl:xs.length<=bm)(hlen:bu v=.val (iI (xs.length:Int)))
  (hx:∀i (h:i<xs.length),∃q,dG s v (iI (i:Int))=.val q/\∀(F:Fr) H n,F.get 14=some q->ld F H n=.val (el xs[i]))
  (hp:∀x∈xs,ar P f (first++([el x]++cap)) H n (λ u K k=>u=.bool (p x)/\K=H/\k=n)):
  ar P g [v,.fn (.func f) first cap] H n (λ u K k=>u=iI (lI p xs)/\K=H/\k=n):=by
 refine ar.of hc (by simp[Pn]) λ F hF=>?_;unfold bm at hl;simp[Pn,hF,hlen]
 refine aG.of (λ k F K m m_=>∃i,k=xs.length - i/\i<=xs.length/\F.get 0=some v/\F.get 1=some (.fn (.func f) first cap)/\F.get 7=some (iI (xs.length:Int))/\F.get 8=some (iI (i:Int)) /\
  K=H/\m=n/\m_=[]/\∀j (hj:j<i) (h:j<xs.length),p xs[j]=false) xs.length ⟨0,by simp[hF]⟩ ?_
 rintro k F K m m_ ⟨i,rfl,hi,f0,f1,f7,f8,rfl,rfl,rfl,hj⟩
 by_cases hlt:i<xs.length
 ·obtain⟨q,hq,hld⟩:=hx i hlt;simp[f0,f1,f7,f8,hlt,hq];rw[hld _ _ _ (by simp)];simp;refine au.same (hp xs[i] (bT hlt)) ?_;simp;refine Au.ofB (λ hb=>?_) λ hb=>?_
  ·simp;exact(zK hlt hb λ j hj'=>hj j hj' (by omega)).symm
  simp[f0,f1,f7,f8,ax i (by omega)];refine⟨xs.length - (i+1),by omega,i+1,rfl,hlt,by omega,λ j hj' h=>?_⟩
  by_cases e:j=i
  ·subst e;exact hb
  exact hj j (by omega) h
 simp[f7,f8,hlt];exact(zL λ j h=>hj j (by omega) h).symm
def ai1 (g:FuncId):CF:={res:=[aB 4],code:=.seq (.eC [oP (bF 4) (eD (aK (.bool false)))]) (.seq (.eC [oP (bF 5) (eD (ao 0)),oP (bF 6) (eD (ao 1)),cP (bF 7) g [(ao 5),(ao 6)],oP (bF 8) (e2 (ct .geq) (ao 7) (aK (iI 0))),oP (bF 4) (eD (ao 8))]) .ret),nt:=9}
theorem EO {α:Type}(p:α->Bool)(l:List α):decide (0<=lI p l)=l.any p:=by
 unfold lI
 cases h:l.findIdx? p with
 |none =>
  rw[findIdx?_eq_none_iff]at h
  have:l.any p=false:=by
   rw[any_eq_false];intro x hx;simpa using h x hx
  simp[this]
 |some i =>
  rw[findIdx?_eq_some_iff_getElem]at h;obtain⟨h1,h2,_⟩:=h;have:l.any p=true:=by rw[any_eq_true];exact⟨_,bT h1,h2⟩
  simp[this]
theorem HW {α:Type}{P:Program}{g c:FuncId}{v fv:AV}{xs:List α}{p:α->Bool}{H:Hp}{n:Nat}(hc:PI P c=some (ai1 g))(h:ar P g [v,fv] H n (λ u K k=>u=iI (lI p xs)/\K=H/\k=n)):
  ar P c [v,fv] H n (λ u K k=>u=.bool (xs.any p)/\K=H/\k=n):=by
 refine ar.of hc (by simp[ai1]) λ F hF=>?_;simp[ai1,hF];refine au.same h ?_;simp[EO]
structure yy where
 name:List Nat
 kind:Int
 need:Bool
structure iP where
 id:Int
 name:List Nat
 cols:List yy
 head:Int
structure lY where
 id:Int
 table:Int
 name:List Nat
 cols:List Int
 uniq:Bool
 root:Int
structure eF where
 tables:List iP
 indexes:List lY
def fo:aN Int 1:=⟨λ i=>[iI i],λ _=>rfl,λ _=>by simp,λ _=>by simp[aX,AV.one]⟩
def cN:aN yy 3:=⟨λ c=>[.str c.name,iI c.kind,.bool c.need],λ _=>rfl,λ _=>by simp,λ _=>by simp[aX,AV.one]⟩
def bf:aN iP 4:=⟨λ t=>[.int .u32 t.id,.str t.name,cN.ds t.cols,.int .u32 t.head],λ _=>rfl,λ _=>by simp,λ _=>by simp[aX,AV.one,aN.ds]⟩
def aR:aN lY 6:=⟨λ x=>[.int .u32 x.id,.int .u32 x.table,.str x.name,fo.ds x.cols,.bool x.uniq,.int .u32 x.root],λ _=>rfl,λ _=>by simp,λ _=>by simp[aX,AV.one,aN.ds]⟩
def fA:aN eF 2:=⟨λ s=>[bf.ds s.tables,aR.ds s.indexes],λ _=>rfl,λ _=>by simp,λ _=>by simp[aX,AV.one,aN.ds]⟩
theorem sZ (i:Int):fo.cells i=[iI i]:=rfl
theorem qV (c:yy):cN.cells c=[.str c.name,iI c.kind,.bool c.need]:=rfl
theorem cT (t:iP):bf.cells t=[.int .u32 t.id,.str t.name,cN.ds t.cols,.int .u32 t.head]:=rfl
theorem cJ (x:lY):aR.cells x=[.int .u32 x.id,.int .u32 x.table,.str x.name,fo.ds x.cols,.bool x.uniq,.int .u32 x.root]:=rfl
theorem bJ (s:eF):fA.cells s=[bf.ds s.tables,aR.ds s.indexes]:=rfl
def rY (c:Nat):Prop:=97<=c/\c<=122
def uU (c:Nat):Prop:=(48<=c/\c<=57)∨c=95
def dm (s:List Nat):Prop:=s≠[]/\s.length<=24/\∀j (h:j<s.length),rY s[j]∨(0<j/\uU s[j])
theorem nz {l:List Nat}{i:Nat}{k:IntKind}(h:i<l.length):lK (.str l) (.int k (i:Int))=.val (.int .u8 (l[i]:Int)):=by
 unfold lK;simp[nf,dU h]
theorem name44 (s:List Nat):ah pG 79 [.str s] (.bool (decide (dm s))):=by
 refine pv c79 λ F hF=>?_;simp[A79,hF]
 by_cases h0:s=[]
 ·have:¬dm s:=λ h=>h.1 h0;simp[h0,UK];exact .bool (by subst h0;simp[this])
 by_cases h24:s.length<=24
 ·simp[h0,show ¬(24:Int)<(s.length:Int) by omega,aef,hF];refine aG.of (λ t F K n ms=>∃i,t=s.length - i/\i<=s.length/\F.get 0=some (.str s)/\F.get 13=some (iI (s.length:Int))/\F.get 14=some (iI (i:Int))/\K=.nil/\ms=[]/\∀j (h:j<s.length),j<i->rY s[j]∨(0<j/\uU s[j])) s.length ⟨0,by simp[hF]⟩ ?_;rintro t F K n ms ⟨i,rfl,hi,f0,f13,f14,rfl,rfl,hj⟩
  by_cases hlt:i<s.length
  ·have hx:=nz (k:=.i64) hlt;have w:=ax i (by omega)
   have stay:∀F':Fr,F'.get 0=some (.str s)->F'.get 13=some (iI (s.length:Int))->F'.get 14=some (iI (i:Int))->(rY s[i]∨(0<i/\uU s[i]))->VC pG Iz F' .nil n [] (BQ (λ t F K n ms=>∃i,t=s.length - i/\i<=s.length/\F.get 0=some (.str s)/\F.get 13=some (iI (s.length:Int))/\F.get 14=some (iI (i:Int))/\K=.nil/\ms=[]/\∀j (h:j<s.length),j<i->rY s[j]∨(0<j/\uU s[j])) (s.length - i) (jN 0 (tC pG (Iy.seq CT.ret) (fQ [aB 2] λ v1 H' _=>fW H'.get v1 (.bool (decide (dm s))))))):=by
    intro F' g0 g13 g14 hc;simp[Iz,g0,g13,g14,w];refine⟨s.length - (i+1),by omega,i+1,rfl,hlt,rfl,λ j h hji=>?_⟩
    by_cases e:j=i
    ·subst e;exact hc
    exact hj j h (by omega)
   have no:∀(F':Fr),¬(rY s[i]∨(0<i/\uU s[i]))->fW (Tr.nil:Hp).get (.bool false) (.bool (decide (dm s))):=λ F' hc=>by
    have:¬dm s:=λ h=>hc (h.2.2 i hlt);exact .bool (by simp[this])
   simp[ZJ,f13,f14,hlt,f0,hx];generalize hcc:s[i]=c at stay no
   by_cases a1:(97:Int)<=(c:Int)<;>by_cases a2:(c:Int)<=122<;>by_cases z:0<i<;>by_cases b1:(48:Int)<=(c:Int)<;>by_cases b2:(c:Int)<=57<;>by_cases d:c=95 <;>
    first
    |(exfalso;omega)
    |(simp[a1,a2,z,b1,b2,d,show ((c:Int)=95)=(c=95) by simp;omega,aee,aed];first|simpa using stay _ (by simp[f0]) (by simp[f13]) (by simp[f14]) (by unfold rY uU;omega)|exact no F (by unfold rY uU;omega))
  obtain rfl:i=s.length:=by omega
  have:dm s:=⟨h0,h24,λ j h=>hj j h h⟩;simp[ZJ,f13,f14,Iy];exact .bool (by simp[this])
 have:¬dm s:=λ h=>h24 h.2.1;simp[h0,hF,show (24:Int)<(s.length:Int) by omega,UK];exact .bool (by simp[this])
end Go.Abs
namespace Go.Abs
open List
open Go.Proofs
open Classical
set_option maxRecDepth 100000
def eO (l:List yy):Prop:=l≠[]/\l.length<=16/\∀i (h:i<l.length),dm l[i].name/\(1<=l[i].kind/\l[i].kind<=3)/\∀j (hj:j<i),(l[j]'(by omega)).name≠l[i].name
def ai' (l:List Nat)(j:Nat):Prop:=∀h:j<l.length,rY l[j]∨(0<j/\uU l[j])
theorem Hq (s:List Nat):ah pG 36 [.str s] (.bool (decide (dm s))):=by
 refine pv c36 λ F hF=>?_
 by_cases h0:s=[]
 ·have:¬dm s:=λ h=>h.1 h0;simp only[this,decide_false];subst h0;simp[A36,hF];exact .bool rfl
 have hp : 0<s.length:=length_pos_iff.2 h0
 by_cases h24:s.length<=24
 ·have hx0:=nz (k:=.i64) hp;have hx0':lK (.str s) (iI 0)=.val (.int .u8 (s[0]:Int)):=hx0;have hN:dm s↔∀j,ai' s j:=⟨λ h j hj=>h.2.2 j hj,λ h=>⟨h0,h24,λ j hj=>h j hj⟩⟩
  by_cases hc:rY s[0]
  ·have a1:¬(s[0]:Int)<97:=by have:=hc.1;omega
   have a2:¬(122:Int)<(s[0]:Int):=by have:=hc.2;omega
   simp[A36,hF,show ¬(s.length:Int)<1 by omega,show ¬(24:Int)<(s.length:Int) by omega,show ¬ 24<s.length by omega,hx0',a1,a2];refine aG.of (λ t F K n ms=>∃i,t=s.length - i/\1<=i/\i<=s.length/\F.get 0=some (.str s)/\F.get 3=some (iI (i:Int))/\ms=[]/\∀j,j<i->ai' s j) (s.length - 1) ⟨1,rfl,by omega,by omega,by simp[hF],by simp,rfl,λ j h1 h=>?_⟩ ?_
   ·obtain rfl:j=0:=by omega
    exact .inl hc
   clear hF F;rintro t F K n ms ⟨i,rfl,hi1,hi,f0,f3,rfl,hj⟩
   by_cases hlt:i<s.length
   ·have hx:=nz (k:=.i64) hlt;have w:=ax i (by omega)
    have nx:(rY s[i]∨uU s[i])->∀j,j<i+1->ai' s j:=λ h j hji=>by
     by_cases e:j=i
     ·subst e;exact λ _=>h.imp id λ h=>⟨by omega,h⟩
     exact hj j (by omega)
    have no:¬(rY s[i]∨uU s[i])->¬dm s:=λ h hN'=>by
     rcases(hN.1 hN' i) hlt with h1|h1
     ·exact h (.inl h1)
     exact h (.inr h1.2)
    generalize s[i]=c at hx nx no
    by_cases b1:(97:Int)<=(c:Int)<;>by_cases b2:(c:Int)<=122<;>by_cases d1:(48:Int)<=(c:Int)<;>by_cases d2:(c:Int)<=57<;>by_cases u:c=95 <;>
     first
     |(exfalso;omega)
     |(simp[ZV,f0,f3,hlt,hx,b1,b2,d1,d2,u,show ((c:Int)=95)=(c=95) by simp;omega];first|(simp[afp,f3,w];exact⟨_,by omega,i+1,rfl,by omega,by omega,f0,rfl,nx (by unfold rY uU;omega)⟩)|(simp[afq];exact .bool (by simp[no (by unfold rY uU;omega)])))
   obtain rfl:i=s.length:=by omega
   have:dm s:=hN.2 λ j hjl=>hj j hjl hjl;simp[ZV,f0,f3,WG,this];exact .bool rfl
  have hno:¬dm s:=λ h=>by
   rcases(hN.1 h 0) hp with h1|h1
   ·exact hc h1
   omega
  simp only[hno,decide_false];unfold rY at hc
  by_cases a1:(s[0]:Int)<97
  ·simp[A36,hF,show ¬(s.length:Int)<1 by omega,show ¬(24:Int)<(s.length:Int) by omega,show ¬ 24<s.length by omega,hx0',a1];exact .bool rfl
  have a2:(122:Int)<(s[0]:Int):=by omega
  simp[A36,hF,show ¬(s.length:Int)<1 by omega,show ¬(24:Int)<(s.length:Int) by omega,show ¬ 24<s.length by omega,hx0',a1,a2];exact .bool rfl
 have hno:¬dm s:=λ h=>h24 h.2.1;simp only[hno,decide_false];simp[A36,hF,show ¬(s.length:Int)<1 by omega,show (24:Int)<(s.length:Int) by omega];exact .bool rfl
theorem adk (l:List yy):ah pG 80 [cN.ds l] (.bool (decide (eO l))):=by
 refine pv c80 λ F hF=>?_
 by_cases h0:l=[]
 ·have:¬eO l:=λ h=>h.1 h0;simp[A80,hF,aN.aF,h0];exact .bool (by subst h0;simp[this])
 by_cases uS:l.length<=16
 ·simp[A80,hF,aN.aF,h0,show ¬(16:Int)<(l.length:Int) by omega];refine aG.of (λ t F K n ms=>∃i,t=l.length - i/\i<=l.length/\F.get 0=some (cN.ds l)/\F.get 15=some (cN.ds l)/\F.get 16=some (iI (l.length:Int))/\F.get 17=some (iI (i:Int))/\ms=[]/\∀k (h:k<l.length),k<i->dm l[k].name/\(1<=l[k].kind/\l[k].kind<=3)/\∀j (hj:j<k),(l[j]'(by omega)).name≠l[k].name) l.length ⟨0,by simp[hF]⟩ ?_;rintro t F K n ms ⟨i,rfl,hi,f0,f15,f16,f17,rfl,hk⟩
  by_cases hlt:i<l.length
  ·have hx := cN.ix (ik:=.i64) hlt;have hld:=cN.sC l[i] (cN.l (l.drop (i+1))) K;simp only[qV,aN.av,cons_append,nil_append]at hx hld;have hsl:=cN.aaz (l:=l) (i:=i) hi;simp[ZH,f16,f17,hlt,f15,hx,hld];refine au.pure (name44 l[i].name) ?_;have no:¬(dm l[i].name/\(1<=l[i].kind/\l[i].kind<=3))->¬eO l:=λ h h2=>h ⟨(h2.2.2 i hlt).1,(h2.2.2 i hlt).2.1⟩
   by_cases hn:dm l[i].name
   ·by_cases h1:l[i].kind<1
    ·have:=no λ h=>by omega
     simp[hn,h1,Me];exact .bool (by simp[this])
    by_cases h3:3<l[i].kind
    ·have:=no λ h=>by omega
     simp[hn,h1,h3,Me];exact .bool (by simp[this])
    simp[hn,h1,h3,aec,f0,Bz,u4,hsl,aN.aF,Nat.min_eq_left hi];refine aG.of (λ t F K' n' ms=>∃j,t=i - j/\j<=i/\F.get 0=some (cN.ds l)/\F.get 15=some (cN.ds l)/\F.get 16=some (iI (l.length:Int))/\F.get 17=some (iI (i:Int))/\F.get 4=some (.ptr n 0)/\F.get 38=some (cN.ds (l.take i))/\F.get 39=some (iI (i:Int))/\F.get 40=some (iI (j:Int))/\n<n'/\K'.get n=cl 3 [.str l[i].name,iI l[i].kind,.bool l[i].need]/\ms=[]/\∀q (h:q<j) (h2:q<l.length),l[q].name≠l[i].name) i ⟨0,by simp[f0,f15,f16,f17]⟩ ?_;clear f0 f15 f16 f17 F;rintro t F K' n' ms ⟨j,rfl,hj,f0,f15,f16,f17,f4,f38,f39,f40,hn',hb,rfl,hq⟩
    by_cases hji:j<i
    ·have hjt:j<(l.take i).length:=by simp;omega
     have hx:=cN.ix (ik:=.i64) hjt;have hld:=cN.sC (l.take i)[j] (cN.l ((l.take i).drop (j+1))) K';have hjl:(l.take i)[j]=l[j]:=by rw[getElem_take]
     rw[hjl]at hx hld;simp only[qV,aN.av,cons_append,nil_append]at hx hld;have hne:¬n=n':=by omega
     simp[ZI,f39,f40,hji,f38,hx,hld,f4,hb,hne]
     by_cases he:l[j].name=l[i].name
     ·have:¬eO l:=λ h=>(h.2.2 i hlt).2.2 j hji he;simp[he,UJ];exact .bool (by simp[this])
     simp[he,UI,f0,f15,f16,f17,f4,f38,f39,f40,hb,hne,ax j (by omega)];refine⟨i - (j+1),by omega,j+1,rfl,hji,rfl,by omega,λ q h h2=>?_⟩
     by_cases e:q=j
     ·subst e;exact he
     exact hq q (by omega) h2
    obtain rfl:j=i:=by omega
    simp[ZI,f39,f40,UH,f0,f15,f16,f17,ax j (by omega)];refine⟨l.length - (j+1),by omega,j+1,rfl,hlt,rfl,λ k h hkj=>?_⟩
    by_cases e:k=j
    ·subst e;exact⟨hn,⟨by omega,by omega⟩,λ q hq'=>hq q hq' (by omega)⟩
    exact hk k h (by omega)
   have:=no λ h=>hn h.1;simp[hn,Me];exact .bool (by simp[this])
  obtain rfl:i=l.length:=by omega
  have:eO l:=⟨h0,uS,λ k h=>hk k h h⟩;simp[ZH,f16,f17,UG];exact .bool (by simp[this])
 have:¬eO l:=λ h=>uS h.2.1;simp[A80,hF,aN.aF,h0,show (16:Int)<(l.length:Int) by omega];exact .bool (by simp[this])
theorem ah0 {α:Type} [DecidableEq α] {g:FuncId}(E:aN α 1)(el:α->AV)(hE:∀a,E.cells a=[el a])(heq:∀a b,j7 false .num (el a) (el b)=.val (.bool (decide (a=b))))(hel:∀a,Pure (el a))(hc:PI pG g=some A144)(l:List α)(x:α)(hl:l.length<=bm):ah pG g [E.ds l,el x] (iI (lI (λ y=>decide (x=y)) l)):=by
 refine eY hc (by simp[hel]) (by simp) (by simp[A144]) λ F hF=>?_;unfold bm at hl;simp[A144,hF,aN.aF];refine aG.of (λ t F K n ms=>∃i,t=l.length - i/\i<=l.length/\F.get 0=some (E.ds l)/\F.get 1=some (el x)/\F.get 7=some (iI (l.length:Int))/\F.get 8=some (iI (i:Int))/\ms=[]/\∀j (hj:j<i) (h:j<l.length),decide (x=l[j])=false) l.length ⟨0,by simp[hF]⟩ ?_;rintro t F K n ms ⟨i,rfl,hi,f0,f1,f7,f8,rfl,hj⟩
 by_cases hlt:i<l.length
 ·have hx:=E.ix (ik:=.i64) hlt;rw[hE]at hx;have hld:∀r H,eE (.dp ([el l[i]]++r)) H=.val (el l[i]):=λ r H=>rfl;simp[Ko,f7,f8,hlt,f0,f1,hx];simp only[cons_append,nil_append]at hld;simp[heq]
  by_cases he:x=l[i]
  ·simp[he,YB];refine .eq (by simp) ?_
   congr 1
   exact(zK hlt (by simp) λ j hj'=>by have:=hj j hj' (by omega);rw[he]at this;exact this).symm
  simp[he,YA,f0,f1,f7,f8,ax i (by omega)];refine⟨l.length - (i+1),by omega,i+1,rfl,hlt,rfl,λ j hj' h=>?_⟩
  by_cases e:j=i
  ·subst e;exact he
  simpa using hj j (by omega) h
 obtain rfl:i=l.length:=by omega
 simp[Ko,f7,f8,Yz];refine .eq (by simp) ?_
 congr 1
 exact(zL λ j h=>hj j h h).symm
theorem Si (l:List Int)(x:Int)(hl:l.length<=bm):ah pG 144 [fo.ds l,iI x] (iI (lI (λ y=>decide (x=y)) l)):=ah0 fo (.int .i64) (λ _=>rfl) (λ a b=>by simp) (λ _=>by simp) c144 l x hl
theorem HV (l:List Int)(x:Int)(hl:l.length<=bm):ah pG 114 [fo.ds l,iI x] (.bool (decide (x∈l))):=by
 refine pv c114 λ F hF=>?_;simp[A114,hF];refine au.pure (Si l x hl) ?_;simp;refine .bool ?_;rw[EO,Bool.eq_iff_iff];simp
mutual
theorem Pure.lC {n:Nat}:∀ {v:AV},Pure v->jQ n v
 |.int _ _,_=>by simp
 |.bool _,_=>by simp
 |.str _,_=>by simp
 |.aI _,_=>by simp
 |.agg cs _,h=>by simpa using aT.lC (by simpa using h)
 |.aW cs,h=>by simpa using aT.lC (by simpa using h)
 |.ds cs _ _,h=>by simpa using aT.lC (by simpa using h)
 |.dp cs,h=>by simpa using aT.lC (by simpa using h)
 |.fO _ v,h=>by simpa using Pure.lC (v:=v) (by simpa only [Pure]using h)
 |.fn _ a b,h=>by
  have h:aT a/\aT b:=by simpa[Pure]using h
  simpa[jQ]using⟨aT.lC h.1,aT.lC h.2⟩
theorem aT.lC {n:Nat}:∀ {l:List AV},aT l->eg n l
 |[],_=>by simp
 |v::r,h=>by
  have h:Pure v/\aT r:=by simpa using h
  simpa using⟨Pure.lC h.1,aT.lC h.2⟩
end
theorem au.ok {P:Program}{F:Fr}{H H':Hp}{n n':Nat}{m:List Dm}{Q:QA}{f:FuncId}{vs:List AV}{pd:Pd}{r:List (Option GO)}{v:AV}(h:bO P f vs H n v H' n')(k:fy P r (pd.f v F) H' n' m Q):au f vs pd r P F H n m Q:=
 au.of h.hU λ u K j ⟨a,b,c⟩=>by subst a b c;exact k
theorem aC.PR {P:Program}{H:Hp}{n:Nat}{F:Fr}{m:List Dm}{Q:QA}{v x:AV}{l new:List AV}{len sz eT k:Nat}{pd:Pd}{r:List (Option GO)}(h:aC H n v l len sz)(hx:aS H sz x=some new)(hk:sliceLen x=some k)(hn:new.length=k*sz)
  (hs:0<sz)(hk0:0<k)(hbig:len+k<=big)(hby:eT<=4096)(h1:aX new=true)
  (hgo:∀H',aC H' (n+1) (.sl n 0 (len+k) sz) (l++new) (len+k) sz->(∀c,c≠n->blk v≠some c->H'.get c=H.get c)->fy P r (pd.f (.sl n 0 (len+k) sz) F) H' (n+1) m Q):Dt (Go.Abs.fP sz eT n v x H) pd r P F H n m Q:=by
 obtain⟨H',e,h1,h2⟩:=h.fP hx hk hn hs hk0 hbig hby h1;unfold Dt;rw[e];exact hgo H' h1 λ c hc hb=>h2 c hc λ e=>hb (by rw[e];rfl)
def clC (z:List AV)(sz eT:Nat):CF:={res:=[aB 2],code:=.seq (.eC [oP (bF 2) (eD (aK (.aI (.slice none 0 0))))]) (.seq (.seq (.eC [oP (bF 3) (eD (ao 0)),oP (bF 4) (e2 (j7 false .slice) (ao 3) (aK (.aI (.slice none 0 0))))]) (.cond (ao 4) (.seq (.eC [oP (bF 2) (eD (aK (.aI (.slice none 0 0))))]) .ret) .skip)) (.seq (.eC [oP (bF 5) (aL z 0 sz []),oP (bF 6) (eD (ao 0)),oP (bF 7) (dj sz eT (ao 5) (ao 6)),oP (bF 2) (eD (ao 7))]) .ret)),nt:=8}
theorem rX {g:FuncId}{z:List AV}{sz eT:Nat}(hc:PI pG g=some (clC z sz eT))(hs:0<sz)(hz:sz<=64)(hby:eT<=4096)(cs:List AV)(len:Nat)(hl:len<=bm)(hcs:cs.length=len*sz)(hp:aT cs)(h1:aX cs=true):ah pG g [.ds cs len sz] (.ds cs len sz):=by
 refine ah.ofR (by simp[hp]) (by simp[hp]) ?_
 have A:len=0->ar pG g [.aI (.slice none 0 0)] .nil 0 (λ v1 H' _=>fW H'.get v1 (.ds cs len sz)):=λ h0=>by
  subst h0;have:cs=[]:=by simpa using hcs
  subst this;obtain⟨k,rfl⟩:∃k,sz=k+1:=⟨sz - 1,by omega⟩;refine ar.of hc (by simp[clC]) λ F hF=>?_;simp[clC,hF,j7,je];exact .nil _
 have B:len=0->ar pG g [.ds [] 0 0] .nil 0 (λ v1 H' _=>fW H'.get v1 (.ds cs len sz)):=λ h0=>by
  subst h0;have:cs=[]:=by simpa using hcs
  subst this;refine ar.of hc (by simp[clC]) λ F hF=>?_;simp[clC,hF,j7,je,fP,aS,sliceLen,nP];exact .sl 0 0 0 sz 0 [] [] .nil [] [] (by simp) (by simp) .nil
 have C:0<len->ar pG g [.ds cs len sz] .nil 0 (λ v1 H' _=>fW H'.get v1 (.ds cs len sz)):=λ h0=>by
  refine ar.of hc (by simp[clC]) λ F hF=>?_;obtain⟨len,rfl⟩:∃k,len=k+1:=⟨len - 1,by omega⟩;unfold bm at hl;simp[clC,hF,j7,je];have ow:aC (Tr.put Tr.nil 0 (some (bz.cells 0 [] [] .nil))) 1 (.sl 0 0 0 sz) [] 0 sz:=⟨by simp,.inr ⟨0,.cells 0 [] [] .nil,rfl,by omega,by simp,.list rfl⟩⟩;refine aC.app (x:=.ds cs (len+1) sz) (new:=cs) (k:=len+1) ow (by simp[aS]) (by simp[sliceLen]) hcs hs h0 (by unfold big;omega) hby h1 λ H' ho hk=>?_;simp;simp only[nil_append,gz]at ho;exact ho.lD (cM.pure hp) hs
 by_cases h0:len=0
 ·have A:=A h0;have B:=B h0;refine⟨A.1,λ φ D w xs hrel hv hf RR hR=>?_⟩
  cases hv with
  |cons _ y _ ys h1 h2 =>
  cases h2
  have h0:(∃ad cap,y=.slice (some ad) 0 cap)∨y=.slice none 0 0:=by
   subst h0
   cases h1 with
   |ds=>exact .inl ⟨_,_,rfl⟩
   |rT=>exact .inl ⟨_,_,rfl⟩
   |uv=>exact .inr rfl
  rcases h0 with⟨ad,cap,rfl⟩|rfl
  ·exact B.2 φ D w _ hrel (.cons _ _ _ _ (.rT _ _ _) .nil) hf RR hR
  exact A.2 φ D w _ hrel (.cons _ _ _ _ (.aI _ rfl) .nil) hf RR hR
 exact C (by omega)
theorem ab_ (l:List yy)(hl:l.length<=bm):ah pG 143 [cN.ds l] (cN.ds l):=rX (z:=[.str [],iI 0,.bool false]) (sz:=3) (eT:=32) c143 (by omega) (by omega) (by omega) _ _ hl (by simp) (by simp) (by simp)
def abW (z:List AV)(sz:Nat):CF:={res:=[bS 4 sz,aB 5],code:=(.seq (.eC [oP (bF 4) (ay z sz),oP (bF 5) (eD (aK (.bool false)))]) (.seq (.seq (.eC [oP (bF 9) (eD (ao 0)),oP (bF 10) (e1 bu (ao 9)),oP (bF 11) (eD (aK (iI 0)))]) (.block 0 (.loop (.seq (.eC [oP (bF 12) (e2 (ct .lss) (ao 11) (ao 10))]) (.seq (.cond (ao 12) .skip (.exit 0)) (.seq (.block 1 (.seq (.eC [oP (bF 13) (e2 (dG sz) (ao 9) (ao 11)),oP (bF 14) (jg sz (ao 13)),oP (bF 7) (ay z sz),oP rF (cH sz (ao 7) (ao 14))]) (.seq (.eC [oP (bF 15) (eD (ao 1)),oP (bF 16) (jg sz (ao 7)),vP (bF 17) (ao 15) [(ao 16)]]) (.cond (ao 17) (.seq (.eC [oP (bF 18) (jg sz (ao 7)),oP rF (cH sz (ao 4) (ao 18)),oP (bF 5) (eD (aK (.bool true)))]) .ret) .skip)))) (.eC [oP (bF 19) (e2 (ct .add) (ao 11) (aK (iI 1))),oP (bF 11) (eD (ao 19))]))))))) (.seq (.eC [oP (bF 8) (ay z sz)]) (.seq (.eC [oP (bF 20) (jg sz (ao 8)),oP rF (cH sz (ao 4) (ao 20)),oP (bF 5) (eD (aK (.bool false)))]) .ret)))),nt:=21}
theorem a68:A112=abW [(.int .u32 0),(.str []),(.aI (.slice none 0 0)),(.int .u32 0)] 4:=rfl
def jI {α:Type}(zero:α)(p:α->Bool)(l:List α):α×Bool:=match l.find? p with
 |some x=>(x,true)
 |none=>(zero,false)
theorem SX {α:Type}{sz:Nat}(E:aN α sz){g:FuncId}{z:List AV}(hc:PI pG g=some (abW z sz)) (_hs:1<sz) (hs2:sz<=64) (hz:z.length=sz) (h1:aX z=true){zero:α}(hzz:∀h,cM h z (E.cells zero)){f:FuncId}{b:Nat}{y:bz}{p:α->Bool}(xs:List α) (hl:xs.length<=bm) (H:Hp) (n:Nat) (hb:b<n) (hy:H.get b=some y) (hr:yP n y)
  (hp:∀x∈xs,∀(K:Hp)(k:Nat),K.get b=some y->gJ K k->ar pG f [E.av x,.ptr b 0] K k (λ u K' k'=>u=.bool (p x)/\K'=K/\k'=k)):
  bO pG g [E.ds xs,.fn (.func f) [] [.ptr b 0]] H n (.aW [E.av (jI zero p xs).1,.bool (jI zero p xs).2]) H n:=by
 refine ar.okN [b] (by simp[jQ,hb,Pure.lC]) (by simpa using hb) (λ c hm k hk=>?_) λ H0 ht eZ=>?_
 ·simp at hm;subst hm;rw[hy]at hk;injection hk with hk;subst hk;exact hr
 have hb0:=(eZ b (by simp)).trans hy;refine ar.of hc (by simp[abW]) λ F hF=>?_;simp[abW,hF,aN.aF];unfold bm at hl;refine aG.of (λ q F K m ms=>∃i,q=xs.length - i/\i<=xs.length/\F.get 1=some (.fn (.func f) [] [.ptr b 0])/\F.get 4=some (.ptr n 0)/\F.get 9=some (E.ds xs)/\F.get 10=some (iI (xs.length:Int))/\F.get 11=some (iI (i:Int))/\n<m/\gJ K m/\(∀c,c<n->K.get c=H0.get c)/\K.get n=cl sz z/\(∀j (h:j<xs.length),j<i->p xs[j]=false)/\ms=[]) xs.length ⟨0,by simp,by simp,by simp[hF],by simp,by simp,by simp,by simp,by omega,λ c h3=>?_,λ c h3=>?_,by simp,by simp,rfl⟩ ?_
 ·have q1:¬c=n:=by omega
  simp[q1,ht c (by omega)]
 ·have q1:¬c=n:=by omega
  simp[q1]
 clear hF F;rintro q F K m ms ⟨i,rfl,hi,f1,f4,f9,f10,f11,hm,tp,kf,kn,hj,rfl⟩;have hEl:(E.av zero).len=sz:=Eq.trans rfl rfl
 by_cases hlt:i<xs.length
 ·have hx:=E.ix (ik:=.i64) hlt;have hld:=λ H=>E.sC xs[i] (E.l (xs.drop (i+1))) H;have hav:∀a,(E.av a).len=sz:=λ a=>Eq.trans rfl rfl;have hac:∀a,(E.av a).cells=E.cells a:=λ a=>Eq.trans rfl rfl;simp[f1,f9,f10,f11,hlt,hx,hld,hz,hs2,hav,hac];generalize hK1:Tr.put _ m (some (bz.cells sz [] (E.cells xs[i]) .nil))=K1;have g1:∀c,c<m->K1.get c=K.get c:=λ c hc=>by rw[<-hK1];simp[cg hc]
  have x1:K1.get m=cl sz (E.cells xs[i]):=by rw[<-hK1];simp
  have t1:gJ K1 (m+1):=λ c hc=>by
   have q1:¬c=m:=by omega
   rw[<-hK1];simp[q1,tp c (by omega)]
  clear hK1;have b1:=(g1 b (by omega)).trans ((kf b hb).trans hb0);refine au.same (hp xs[i] (bT hlt) K1 (m+1) b1 t1) ?_;have q1:(n=m)=False:=by simp only[eq_iff_iff,iff_false];omega
  have q2:(m=n)=False:=by simp only[eq_iff_iff,iff_false];omega
  cases hpx:p xs[i]with
  |true =>
   have hf:jI zero p xs=(xs[i],true):=by
    unfold jI;rw[find?_eq_some_iff_getElem.2 ⟨hpx,i,hlt,rfl,λ j h2=>by simp[hj j (by omega) h2]⟩]
   rw[hf];have kn1:=(g1 n hm).trans kn;simp[f4,x1,kn1,hz,hs2];refine⟨.pure _ (by simp),λ c h3=>?_⟩;have q3:¬c=n:=by omega
   simp[q3,g1 c (by omega),kf c h3]
  |false =>
   simp[f1,f4,f9,f10,f11,ax i (by omega)];refine⟨_,by omega,i+1,rfl,hlt,rfl,by omega,t1,λ c h3=>(g1 c (by omega)).trans (kf c h3),(g1 n hm).trans kn,λ j h h2=>?_⟩
   by_cases e:j=i
   ·subst e;exact hpx
   exact hj j h (by omega)
 have hie:i=xs.length:=by omega
 subst hie
 have hf:jI zero p xs=(zero,false):=by
  unfold jI;rw[find?_eq_none.2 λ x hx=>?_];obtain⟨j,h2,rfl⟩:=getElem_of_mem hx;simp[hj j h2 h2]
 rw[hf];have q1:(n=m)=False:=by simp only[eq_iff_iff,iff_false];omega
 simp[f4,f10,f11,hz,h1,kn,q1,hs2];refine⟨.aW _ _ (.cons _ _ _ _ (.agg _ _ _ (hzz _)) (.cons _ _ _ _ fp .nil)),λ c h3=>?_⟩;have q3:¬c=n:=by omega
 have q4:¬c=m:=by omega
 simp[q3,q4,kf c h3]
def iP.zero:iP:=⟨0,[],[],0⟩
theorem alZ (t:iP)(b:Bool)(h:t.cols.length<=bm):ah pG 111 [bf.av t,.bool b] (.aW [bf.av t,.bool b]):=by
 refine pv c111 λ F hF=>?_;simp[A111,hF,aN.av,cT];refine au.pure (ab_ t.cols h) ?_;simp[hF,aN.ds];exact fp
theorem ale (t:iP)(i:Int)(b:Nat)(H:Hp)(n:Nat)(hb:H.get b=cl 1 [.int .u32 i])(ht:gJ H n):ar pG 113 [bf.av t,.ptr b 0] H n (λ u K k=>u=.bool (decide (t.id=i))/\K=H/\k=n):=by
 refine ar.forget (by simp) (ar.of c113 (by simp[A113]) λ F hF=>?_);have q:¬b=n:=by have:=ht.lt hb;omega
 simp[A113,hF,aN.av,cT,q,hb];rintro c hc rfl;exact aj (ht _ (aM _)) hc
def eF.table (s:eF)(i:Int):iP×Bool:=jI iP.zero (λ t:iP=>decide (t.id=i)) s.tables
theorem wV {α:Type}{zero:α}{p:α->Bool}{l:List α}{Q:α->Prop}(h0:Q zero)(hl:∀x∈l,Q x):Q (jI zero p l).1:=by
 unfold jI
 split
 ·rename_i x hx;exact hl x (mem_of_find?_eq_some hx)
 exact h0
structure eF.aO (s:eF):Prop where
 t:s.tables.length<=bm
 i:s.indexes.length<=bm
 tc:∀t∈s.tables,t.cols.length<=bm
 ic:∀x∈s.indexes,x.cols.length<=bm
theorem ak7 (h:Hf):cM h [(.int .u32 0),(.str []),(.aI (.slice none 0 0)),(.int .u32 0)] (bf.cells iP.zero):=
 .cons _ _ _ _ fp (.cons _ _ _ _ fp (.cons _ _ _ _ (.nil 2) (.cons _ _ _ _ fp .nil)))
theorem aav (s:eF)(hs:s.aO)(i:Int):ah pG 83 [fA.av s,.int .u32 i] (.aW [bf.av (s.table i).1,.bool (s.table i).2]):=by
 refine pv c83 λ F hF=>?_;simp[A83,hF,aN.av,bJ];refine au.ok (SX bf (a68▸c112) (by omega) (by omega) rfl rfl ak7 (p:=λ t:iP=>decide (t.id=i)) (y:=.cells 1 [] [.int .u32 i] .nil) s.tables hs.t _ _ (by omega) (by simp) (kN (by simp)) λ x _ K k hb ht=>ale x i _ K k hb ht) ?_;simp;refine au.pure (alZ _ _ (wV (Q:=λ t:iP=>t.cols.length<=bm) (by simp[iP.zero]) hs.tc)) ?_;simp[aN.av];exact fp
@[simp] theorem aN.aqw {α:Type}{k:Nat}(E:aN α k)(l:List α):(E.ds l).len=1:=Eq.trans rfl rfl
@[simp] theorem aN.akz {α:Type}{k:Nat}(E:aN α k)(l:List α):(E.ds l).cells=[E.ds l]:=Eq.trans rfl rfl
@[simp] theorem aN.atg {α:Type}{k:Nat}(E:aN α k)(l:List α):(E.ds l).one=true:=Eq.trans rfl rfl
def P8 (h:Hf):List AV->List AV->Prop
 |[],[]=>True
 |v::l,v'::l'=>FI h v v'/\P8 h l l'
 |_,_=>False
@[simp] theorem aiv (h:Hf):P8 h [] []=True:=by simp[P8]
@[simp] theorem LH (h:Hf)(v v':AV)(l l':List AV):P8 h (v::l) (v'::l')=(FI h v v'/\P8 h l l'):=by simp[P8]
@[simp] theorem anv (h:Hf)(v:AV):FI h v v=True:=by simp[FI]
theorem alf (d t:iP)(b:Nat)(H:Hp)(n:Nat)(hb:H.get b=cl 4 (bf.cells t))(ht:gJ H n):ar pG 82 [bf.av d,.ptr b 0] H n (λ u K k=>u=.bool (decide (d.name=t.name))/\K=H/\k=n):=by
 refine ar.forget (by simp) (ar.of c82 (by simp[A82]) λ F hF=>?_);have q:¬b=n:=by have:=ht.lt hb;omega
 simp[A82,hF,aN.av,cT,q,hb];rintro c hc rfl;exact aj (ht _ (aM _)) hc
theorem amJ (d t:lY)(b:Nat)(H:Hp)(n:Nat)(hb:H.get b=cl 6 (aR.cells t))(ht:gJ H n):ar pG 86 [aR.av d,.ptr b 0] H n (λ u K k=>u=.bool (decide (d.name=t.name))/\K=H/\k=n):=by
 refine ar.forget (by simp) (ar.of c86 (by simp[A86]) λ F hF=>?_);have q:¬b=n:=by have:=ht.lt hb;omega
 simp[A86,hF,aN.av,cJ,q,hb];rintro c hc rfl;exact aj (ht _ (aM _)) hc
theorem aiZ {f:FuncId}{first cap:List AV}{p:iP->Bool}{H:Hp}{n:Nat}(l:List iP)(hl:l.length<=bm)(hp:∀x∈l,ar pG f (first++([bf.av x]++cap)) H n (λ u K k=>u=.bool (p x)/\K=H/\k=n)):
  ar pG 81 [bf.ds l,.fn (.func f) first cap] H n (λ u K k=>u=.bool (l.any p)/\K=H/\k=n):=
 HW c81 (wI (el:=bf.av) c110 hl (bf.aF _) (λ i h=>⟨_,bf.ix h,λ F H n h14=>by simp[h14,bf.sC]⟩) hp)
theorem ai0 {f:FuncId}{first cap:List AV}{p:lY->Bool}{H:Hp}{n:Nat}(l:List lY)(hl:l.length<=bm)(hp:∀x∈l,ar pG f (first++([aR.av x]++cap)) H n (λ u K k=>u=.bool (p x)/\K=H/\k=n)):
  ar pG 85 [aR.ds l,.fn (.func f) first cap] H n (λ u K k=>u=.bool (l.any p)/\K=H/\k=n):=
 HW c85 (wI (el:=aR.av) c115 hl (aR.aF _) (λ i h=>⟨_,aR.ix h,λ F H n h14=>by simp[h14,aR.sC]⟩) hp)
def dL (t:iP)(l:List Int):Prop:=l≠[]/\l.length<=16/\∀i (h:i<l.length),0<=l[i]/\l[i]<(t.cols.length:Int)/\l[i]∉l.take i
theorem Q9 (t:iP) (l:List Int) (_hc:t.cols.length<=bm):ah pG 84 [bf.av t,fo.ds l] (.bool (decide (dL t l))):=by
 refine pv c84 λ F hF=>?_
 by_cases h0:l=[]
 ·have:¬dL t l:=λ h=>h.1 h0;simp[A84,hF,aN.av,aN.aF,h0];exact .bool (by subst h0;simp[this])
 by_cases uS:l.length<=16
 ·simp[A84,hF,aN.av,aN.aF,h0,show ¬(16:Int)<(l.length:Int) by omega,cT];generalize hK:Tr.put _ 0 _=K;have k0:K.get 0=cl 4 [.int .u32 t.id,.str t.name,cN.ds t.cols,.int .u32 t.head]:=by rw[<-hK];simp
  clear hK;refine aG.of (λ q F K' n ms=>∃i,q=l.length - i/\i<=l.length/\F.get 1=some (fo.ds l)/\F.get 2=some (.ptr 0 0)/\F.get 15=some (fo.ds l)/\F.get 16=some (iI (l.length:Int))/\F.get 17=some (iI (i:Int))/\ms=[]/\K'=K/\∀k (h:k<i) (h2:k<l.length),0<=l[k]/\l[k]<(t.cols.length:Int)/\l[k]∉l.take k) l.length ⟨0,by simp,by simp,by simp[hF],by simp,by simp,by simp,by simp,rfl,rfl,λ k h=>by omega⟩ ?_;rintro q F K' n ms ⟨i,rfl,hi,f1,f2,f15,f16,f17,rfl,rfl,hk⟩
  by_cases hlt:i<l.length
  ·have hx:=fo.ix (ik:=.i64) hlt;rw[sZ]at hx;have hsl:=fo.aaz (l:=l) (i:=i) hi;have no:∀P:Prop,(dL t l->P)->¬P->¬dL t l:=λ P h1 h2 h3=>h2 (h1 h3);simp[ZG,f16,f17,hlt,f15,hx]
   by_cases hn:l[i]<0
   ·have:=no (0<=l[i]) (λ h=>(h.2.2 i hlt).1) (by omega);simp[hn,Md];exact .bool (by simp[this])
   by_cases hb:(t.cols.length:Int)<=l[i]
   ·have:=no (l[i]<(t.cols.length:Int)) (λ h=>(h.2.2 i hlt).2.1) (by omega);simp[hn,f2,k0,aN.aF,hb,Md];exact .bool (by simp[this])
   simp[hn,f2,k0,aN.aF,hb,f1,Bz,u4,hsl];refine au.pure (HV (l.take i) l[i] (by simp;unfold bm;omega)) ?_
   by_cases hm:l[i]∈l.take i
   ·have:=no (l[i]∉l.take i) (λ h=>(h.2.2 i hlt).2.2) (by simpa using hm);simp[hm,Md];exact .bool (by simp[this])
   simp[hm,aeb,f1,f2,f15,f16,f17,ax i (by omega)];refine⟨l.length - (i+1),by omega,i+1,rfl,hlt,rfl,λ k h h2=>?_⟩
   by_cases e:k=i
   ·subst e;exact⟨by omega,by omega,hm⟩
   exact hk k (by omega) h2
  obtain rfl:i=l.length:=by omega
  have:dL t l:=⟨h0,uS,λ j h=>hk j h h⟩;simp[ZG,f16,f17,aea];exact .bool (by simp[this])
 have:¬dL t l:=λ h=>uS h.2.1;simp[A84,hF,aN.av,aN.aF,h0,show (16:Int)<(l.length:Int) by omega];exact .bool (by simp[this])
end Go.Abs
namespace Go.Abs
open List
open Go.Proofs
open Classical
set_option maxRecDepth 100000
section
variable {F:Fr}{H:Hp}{n:Nat}
@[simp] theorem aqs (q:LK)(m k v:G):um q m k v F H n=oE (m.f F) λ m=>oE (k.f F) λ k=>oE (v.f F) λ v=>oQ q m k v H:=by
 unfold um oE
 cases m.f F with
 |none=>rfl
 |some a=>dsimp only;cases k.f F with
  |none=>rfl
  |some b=>dsimp only;cases v.f F<;>rfl
@[simp] theorem akx (q:LK)(z:AV)(ok:Bool)(m k:G):jf q z ok m k F H n=oE (m.f F) λ m=>oE (k.f F) λ k=>jl q z ok m k H:=by
 unfold jf oE
 cases m.f F with
 |none=>rfl
 |some a=>dsimp only;cases k.f F<;>rfl
end
def Ll:Nat->List Int->List (AV×AV×Nat)
 |_,[]=>[]
 |i,x::r=>(.int .u32 x,iI 1,i)::Ll (i+1) r
theorem Bf (x:Int):∀(l:List Int)(i:Nat),Ll i (l++[x])=Ll i l++[(.int .u32 x,iI 1,i+l.length)]
 |[],i=>by simp[Ll]
 |y::r,i=>by simp[Ll,Bf x r (i+1)];omega
theorem oK (a b:Int):dW .i (.int .u32 a) (.int .u32 b)=some (decide (a=b)):=by
 simp only[dW,if_true]
 congr 1
theorem sU (k:Int):∀(l:List Int)(i:Nat),findKey .i (.int .u32 k) (Ll i l)=some (if k∈l then some (iI 1)else none)
 |[],i=>rfl
 |y::r,i=>by
  simp only[Ll,findKey,oK]
  by_cases h:k=y
  ·simp[h]
  simp[h,sU k r (i+1)]
theorem ac3 (k:Int)(v:AV):∀(l:List Int)(i:Nat),k∉l->jz .i (.int .u32 k) v (Ll i l)=some none
 |[],i,_=>rfl
 |y::r,i,h=>by
  simp only[mem_cons,not_or]at h;simp only[Ll,jz,oK];simp[h.1,ac3 k v r (i+1) h.2]
theorem ac2 (k:Int)(v:AV):∀(l:List Int)(i:Nat),k∈l->∃es,jz .i (.int .u32 k) v (Ll i l)=some (some es)/\findKey .i (.int .u32 k) es=some (some v)
 |[],i,h=>by simp at h
 |y :: r,i,h=>by
  simp only[Ll,jz,oK]
  by_cases e:k=y
  ·subst e;simp[findKey,oK]
  have h2:k∈r:=by simpa[e]using h
  obtain⟨es,h3,h4⟩:=ac2 k v r (i+1) h2;simp[e,h3,findKey,oK,h4]
theorem SY (k:Int)(l:List Int)(i:Nat)(_h:k∉l):findKey .i (.int .u32 k) (Ll i l++[(.int .u32 k,iI 1,i+l.length)])=some (some (iI 1)):=by
 rw[<-Bf,sU];simp
structure S85 (s:eF)(Fo:Fr)(l:List Int)(K:Hp)(n:Nat):Prop where
 k0:K.get 0=cl 2 (fA.cells s)
 k1:K.get 1=cl 1 [.bool false]
 k2:K.get 2=some (.map (Ll 0 l) l.length)
 k3:K.get 3=cl 1 [.map 2]
 k4:K.get 4=cl 2 (fA.cells s)
 k5:K.get 5=some (.loop .ready .normal 120 Fo [25] Ak.1 Ak.2)
 k6:K.get 6=some .mR
 n7:7<=n
 top:gJ K n
structure X85 (Fo:Fr)(K:Hp):Prop where
 k1:K.get 1=cl 1 [.bool false]
 k5:∃nt G ps a b,K.get 5=some (.loop .done .ret nt G ps a b)
 k6:K.get 6=some .mR
theorem En (s:eF) (Fo:Fr) (l:List Int) (x:Int){K:Hp}{n:Nat}{pd:Pd}{r:List (Option GO)}{F:Fr}{Q:QA}(f2:Fo.get 2=some (.ptr 1 0)) (f3:Fo.get 3=some (.ptr 3 0)) (S:S85 s Fo l K n)
  (h1:x≠0->x∉l->∀K' n',S85 s Fo (l++[x]) K' n'->fy pG r (pd.f (.bool true) F) K' n' [] Q)
  (h2:(x=0∨x∈l)->∀K' n',X85 Fo K'->fy pG r (pd.f (.bool false) F) K' n' [] Q):Io 5 [.int .u32 x] pd r pG F K n [] Q:=by
 obtain⟨k0,k1,k2,k3,k4,k5,k6,n7,top⟩:=S;refine Io.of k5 (by simp[qo];rfl) ?_;rw[agz];simp[ae0,k5];refine⟨_,_,_,_,_,_,⟨rfl,rfl,rfl,rfl,rfl,rfl⟩,?_⟩;rw[agy]
 by_cases hx:x∈l
 ·obtain⟨es,hs1,hs2⟩:=ac2 x (iI 2) l 0 hx
  by_cases h0:x=0
  ·subst h0;simp[F8,f2,f3,k1,k2,k3,jl,oQ,isKey,sU,hx,hs1,F7,F6];unfold PY;refine⟨_,_,_,_,_,_,_,(by simp;exact⟨rfl,rfl,rfl,rfl,rfl,rfl,rfl⟩),?_⟩;refine h2 (by simp) _ _ ⟨by simp,⟨_,_,_,_,_,by simp;exact⟨rfl,rfl,rfl,rfl,rfl⟩⟩,by simp[k6]⟩
  simp[F8,f2,f3,k1,k2,k3,jl,oQ,isKey,sU,hx,hs1,hs2,F7,h0,F6];unfold PY;refine⟨_,_,_,_,_,_,_,(by simp;exact⟨rfl,rfl,rfl,rfl,rfl,rfl,rfl⟩),?_⟩;refine h2 (by simp[hx]) _ _ ⟨by simp,⟨_,_,_,_,_,by simp;exact⟨rfl,rfl,rfl,rfl,rfl⟩⟩,by simp[k6]⟩
 have hs1:=ac3 x (iI 1) l 0 hx;have hs2:=SY x l 0 hx;simp only[gz]at hs2
 by_cases h0:x=0
 ·subst h0;simp[F8,f2,f3,k1,k2,k3,jl,oQ,isKey,sU,hx,hs1,F7,F6];unfold PY;refine⟨_,_,_,_,_,_,_,(by simp;exact⟨rfl,rfl,rfl,rfl,rfl,rfl,rfl⟩),?_⟩;refine h2 (by simp) _ _ ⟨by simp,⟨_,_,_,_,_,by simp;exact⟨rfl,rfl,rfl,rfl,rfl⟩⟩,by simp[k6]⟩
 simp[F8,f3,k2,k3,jl,oQ,isKey,sU,hx,hs1,hs2,F7,h0,F6];unfold PY;refine⟨_,_,_,_,_,_,_,(by simp;exact⟨rfl,rfl,rfl,rfl,rfl,rfl,rfl⟩),?_⟩;refine h1 h0 hx _ _ ⟨?_,?_,?_,?_,?_,?_,?_,n7,?_⟩
 ·simp[k0]
 ·simp[k1]
 ·simp[Bf]
 ·simp[k3]
 ·simp[k4]
 ·simp
 ·simp[k6]
 intro b hb;have e2:¬b=2:=by omega
 have e5:¬b=5:=by omega
 simp[e2,e5,top b hb]
def o5 (l:List Int):Prop:=l.Nodup/\0∉l
def eF.pages (s:eF):List Int:=s.tables.map (·.head)++s.indexes.map (·.root)
theorem o5.add {l:List Int}{x:Int}(h:o5 l)(h0:x≠0)(hx:x∉l):o5 (l++[x]):=by
 refine⟨nodup_append.2 ⟨h.1,by simp,λ a ha b hb=>?_⟩,?_⟩
 ·simp at hb;subst hb;intro e;subst e;exact hx ha
 simp only[mem_append,fD,not_or];exact⟨h.2,Ne.symm h0⟩
theorem o5.bad {l r:List Int}{x:Int}(h:x=0∨x∈l):¬o5 (l++(x::r)):=by
 rintro⟨h1,h2⟩
 rcases h with rfl|h
 ·exact h2 (by simp)
 exact(nodup_append.1 h1).2.2 x h x (by simp) rfl
theorem S85.alloc {s:eF}{Fo:Fr}{l:List Int}{K:Hp}{n:Nat}(S:S85 s Fo l K n)(y z:bz):S85 s Fo l ((K.put n (some y)).put n (some z)) (n+1):=by
 obtain⟨k0,k1,k2,k3,k4,k5,k6,n7,top⟩:=S;refine⟨?_,?_,?_,?_,?_,?_,?_,by omega,?_⟩
 ·simp[show ¬ 0=n by omega,k0]
 ·simp[show ¬ 1=n by omega,k1]
 ·simp[show ¬ 2=n by omega,k2]
 ·simp[show ¬ 3=n by omega,k3]
 ·simp[show ¬ 4=n by omega,k4]
 ·simp[show ¬ 5=n by omega,k5]
 ·simp[show ¬ 6=n by omega,k6]
 intro b hb;simp[show ¬b=n by omega,top b (by omega)]
def eF.pg (s:eF)(i j:Nat):List Int:=(s.tables.take i).map (·.head)++(s.indexes.take j).map (·.root)
theorem alX (s:eF):s.pg 0 0=[]:=by simp[eF.pg]
theorem alU {s:eF}{i:Nat}(h:i<s.tables.length):s.pg (i+1) 0=s.pg i 0++[s.tables[i].head]:=by
 unfold eF.pg;rw[take_add_one,dU h];simp only[map_append,Option.toList,map_cons,map_nil,take_zero,append_nil]
theorem alW {s:eF}{i j:Nat}(h:j<s.indexes.length):s.pg i (j+1)=s.pg i j++[s.indexes[j].root]:=by
 unfold eF.pg;rw[take_add_one (l:=s.indexes),dU h];simp only[map_append,Option.toList,map_cons,map_nil,append_assoc]
theorem aha (s:eF):s.pg s.tables.length s.indexes.length=s.pages:=by simp[eF.pg,eF.pages]
theorem alT {s:eF}{i:Nat}(h:i<s.tables.length):∃r,s.pages=s.pg i 0++(s.tables[i].head::r):=by
 refine⟨(s.tables.drop (i+1)).map (·.head)++s.indexes.map (·.root),?_⟩;unfold eF.pages eF.pg
 conv=>lhs;rw[<-take_append_drop i s.tables,lG h]
 simp only[map_append,map_cons,map_nil,take_zero,append_nil,append_assoc,cons_append]
theorem alV {s:eF}{j:Nat}(h:j<s.indexes.length):∃r,s.pages=s.pg s.tables.length j++(s.indexes[j].root::r):=by
 refine⟨(s.indexes.drop (j+1)).map (·.root),?_⟩;unfold eF.pages eF.pg
 conv=>lhs;rw[<-take_append_drop j s.indexes,lG h]
 simp only[map_append,map_cons,append_assoc,take_length]
theorem aaU (s:eF) (hs:s.aO) (Fo:Fr) (K:Hp) (n:Nat) (f2:Fo.get 2=some (.ptr 1 0)) (f3:Fo.get 3=some (.ptr 3 0)) (S:S85 s Fo [] K n):
  ar pG 109 [.j9 5,.ptr 4 0] K n (λ _ K' n'=>(o5 s.pages/\S85 s Fo s.pages K' n')∨(¬o5 s.pages/\X85 Fo K')):=by
 have ht:=hs.t;have hi:=hs.i;unfold bm at ht hi;refine ar.of c109 (by simp[A109]) λ F hF=>?_;have k4:=S.k4;rw[bJ]at k4;simp[A109,hF,k4,aN.aF];refine aG.of (λ t F K n ms=>∃i,t=s.tables.length - i/\i<=s.tables.length/\F.get 0=some (.j9 5)/\F.get 1=some (.ptr 4 0)/\F.get 8=some (bf.ds s.tables)/\F.get 9=some (iI (s.tables.length:Int))/\F.get 10=some (iI (i:Int))/\S85 s Fo (s.pg i 0) K n/\o5 (s.pg i 0)/\ms=[]) s.tables.length ⟨0,by simp,by simp,by simp[hF],by simp[hF],by simp,by simp,by simp,by rw[alX];exact S,by simp[alX,o5],rfl⟩ ?_;clear S k4 hF F K n;rintro t F K n ms ⟨i,rfl,hil,f0,f1,f8,f9,f10,S,hP,rfl⟩
 by_cases hlt:i<s.tables.length
 ·have hx:=bf.ix (ik:=.i64) hlt;have hld:=λ H=>bf.sC s.tables[i] (bf.l (s.tables.drop (i+1))) H;have S1:=S.alloc (.cells 4 [] [.int .u32 0,.str [],.aI (.slice none 0 0),.int .u32 0] .nil) (.cells 4 [] (bf.cells s.tables[i]) .nil);obtain⟨rr,hrr⟩:=alT hlt;simp[Kr,f8,f9,f10,hlt,hx,hld,aN.av];generalize hK1:Tr.put (Tr.put K n _) n _=K1 at S1 ⊢;have kn:K1.get n=cl 4 (bf.cells s.tables[i]):=by rw[<-hK1];simp
  rw[cT]at kn;clear hK1;simp[Y5,f0,kn];refine En s Fo (s.pg i 0) s.tables[i].head f2 f3 S1 (λ h0 hx K' n' S'=>?_) (λ hb K' n' X=>?_)
  ·simp[Y4,f0,f1,f8,f9,f10,ax i (by omega)];refine⟨_,by omega,i+1,rfl,hlt,rfl,?_,?_⟩
   ·rw[alU hlt];exact S'
   rw[alU hlt];exact hP.add h0 hx
  simp;exact .inr ⟨by rw[hrr];exact o5.bad hb,X⟩
 obtain rfl:i=s.tables.length:=by omega
 have k4:=S.k4;rw[bJ]at k4;simp[Kr,f9,f10,Y3,f1,k4,aN.aF];refine aG.of (λ t F K n ms=>∃i,t=s.indexes.length - i/\i<=s.indexes.length/\F.get 0=some (.j9 5)/\F.get 1=some (.ptr 4 0)/\F.get 21=some (aR.ds s.indexes)/\F.get 22=some (iI (s.indexes.length:Int))/\F.get 23=some (iI (i:Int))/\S85 s Fo (s.pg s.tables.length i) K n/\o5 (s.pg s.tables.length i)/\ms=[]) s.indexes.length ⟨0,by simp,by simp,by simp[f0],by simp[f1],by simp,by simp,by simp,S,hP,rfl⟩ ?_;clear S hP hil k4 f0 f1 f8 f9 f10 F K n;rintro t F K n ms ⟨i,rfl,hil,f0,f1,f8,f9,f10,S,hP,rfl⟩
 by_cases hlt:i<s.indexes.length
 ·have hx:=aR.ix (ik:=.i64) hlt;have hld:=λ H=>aR.sC s.indexes[i] (aR.l (s.indexes.drop (i+1))) H;have S1:=S.alloc (.cells 6 [] [.int .u32 0,.int .u32 0,.str [],.aI (.slice none 0 0),.bool false,.int .u32 0] .nil) (.cells 6 [] (aR.cells s.indexes[i]) .nil);obtain⟨rr,hrr⟩:=alV hlt;simp[Kq,f8,f9,f10,hlt,hx,hld,aN.av];generalize hK1:Tr.put (Tr.put K n _) n _=K1 at S1 ⊢;have kn:K1.get n=cl 6 (aR.cells s.indexes[i]):=by rw[<-hK1];simp
  rw[cJ]at kn;clear hK1;simp[Y2,f0,kn];refine En s Fo (s.pg s.tables.length i) s.indexes[i].root f2 f3 S1 (λ h0 hx K' n' S'=>?_) (λ hb K' n' X=>?_)
  ·simp[Y1,f0,f1,f8,f9,f10,ax i (by omega)];refine⟨_,by omega,i+1,rfl,hlt,rfl,?_,?_⟩
   ·rw[alW hlt];exact S'
   rw[alW hlt];exact hP.add h0 hx
  simp;exact .inr ⟨by rw[hrr];exact o5.bad hb,X⟩
 obtain rfl:i=s.indexes.length:=by omega
 rw[aha]at S hP;simp[Kq,f9,f10];exact .inl ⟨hP,S⟩
theorem aaW (s:eF)(H:Hp)(n:Nat):ar pG 78 [fA.av s] H n (λ v K k=>v=.fn (.func 109) [] [.ptr n 0]/\K=H.put n (cl 2 (fA.cells s))/\k=n+1):=by
 refine ar.of c78 (by simp[A78]) λ F hF=>?_;simp[A78,hF,aN.av]
structure Ip (s:eF)(K:Hp)(n:Nat):Prop where
 k0:K.get 0=cl 2 (fA.cells s)
 k1:K.get 1=cl 1 [.bool false]
 k6:K.get 6=some .mR
 n7:7<=n
 top:gJ K n
theorem Ip.alloc {s:eF}{K:Hp}{n:Nat}(S:Ip s K n)(y z:bz):Ip s ((K.put n (some y)).put n (some z)) (n+1):=by
 obtain⟨k0,k1,k6,n7,top⟩:=S;refine⟨?_,?_,?_,by omega,?_⟩
 ·simp[show ¬ 0=n by omega,k0]
 ·simp[show ¬ 1=n by omega,k1]
 ·simp[show ¬ 6=n by omega,k6]
 intro b hb;simp[show ¬b=n by omega,top b (by omega)]
theorem Ip.re {s:eF}{K:Hp}{n:Nat}(S:Ip s K n):Ip s (K.put 1 (cl 1 [.bool false])) n:=by
 obtain⟨k0,k1,k6,n7,top⟩:=S;refine⟨by simp[k0],by simp,by simp[k6],n7,λ b hb=>?_⟩;simp[show ¬b=1 by omega,top b hb]
def wA (l:List iP)(i:Nat):Int:=match (l.take i).getLast? with
 |some t=>t.id
 |none=>0
theorem Bl (l:List iP):wA l 0=0:=by simp[wA]
theorem Bj {l:List iP}{i:Nat}(h:i<l.length):wA l (i+1)=l[i].id:=by
 unfold wA;rw[take_add_one,dU h];simp only[Option.toList,getLast?_concat]
structure Uf (l:List iP)(i:Nat)(h:i<l.length):Prop where
 id:wA l i<l[i].id
 name:dm l[i].name
 cols:eO l[i].cols
 new:∀t∈l.take i,t.name≠l[i].name
def oV (l:List iP):Prop:=∀i h,Uf l i h
theorem ahT (s:eF)(hs:s.aO)(F:Fr)(K:Hp)(n:Nat)(Q:QA)(S:Ip s K n)(f1:F.get 1=some (.ptr 0 0))(f2:F.get 2=some (.ptr 1 0))(f5:F.get 5=some (.int .u32 0))(f39:F.get 39=some (bf.ds s.tables))(f40:F.get 40=some (iI (s.tables.length:Int)))(f41:F.get 41=some (iI 0))
  (hok:oV s.tables->∀F' K' n',Ip s K' n'->F'.get 1=some (.ptr 0 0)->F'.get 2=some (.ptr 1 0)->Q .normal F' K' n' [.qw 6])
  (hbad:¬oV s.tables->∀F' K' n',Ip s K' n'->F'.get 2=some (.ptr 1 0)->Q .ret F' K' n' [.qw 6]):aG NT pG F K n [.qw 6] (jN 2 Q):=by
 have ht:=hs.t;unfold bm at ht;refine aG.of (λ t F K n ms=>∃i,t=s.tables.length - i/\i<=s.tables.length/\F.get 1=some (.ptr 0 0)/\F.get 2=some (.ptr 1 0)/\F.get 5=some (.int .u32 (wA s.tables i))/\F.get 39=some (bf.ds s.tables)/\F.get 40=some (iI (s.tables.length:Int))/\F.get 41=some (iI (i:Int))/\Ip s K n/\(∀k,(h:k<s.tables.length)->k<i->Uf s.tables k h)/\ms=[.qw 6]) s.tables.length ⟨0,by simp,by simp,f1,f2,by simp[Bl,f5],f39,f40,by simp[f41],S,λ k _ h=>by omega,rfl⟩ ?_;clear S f1 f2 f5 f39 f40 f41 F K n;rintro t F K n ms ⟨i,rfl,hil,f1,f2,f5,f39,f40,f41,S,hP,rfl⟩
 by_cases hlt:i<s.tables.length
 ·have hx := bf.ix (ik:=.i64) hlt;have hld:=λ H=>bf.sC s.tables[i] (bf.l (s.tables.drop (i+1))) H;have S1:=S.alloc (.cells 4 [] [.int .u32 0,.str [],.aI (.slice none 0 0),.int .u32 0] .nil) (.cells 4 [] (bf.cells s.tables[i]) .nil);have hsl:=bf.aaz (l:=s.tables) (i:=i) hil;simp[NT,f39,f40,f41,hlt,hx,hld,aN.av];generalize hK1:Tr.put (Tr.put K n _) n _=K1 at S1 ⊢;have kn:K1.get n=cl 4 (bf.cells s.tables[i]):=by rw[<-hK1];simp
  clear hK1;have zD:=kn;rw[cT]at zD;have k0:=S1.k0;rw[bJ]at k0;have no:¬Uf s.tables i hlt->¬oV s.tables:=λ h h2=>h (h2 i hlt);have k1:=S1.k1;have hne:∀b,b<n->¬b=n:=λ b h=>by omega
  by_cases h1:s.tables[i].id<=wA s.tables i
  ·simp[IV,zD,f5,h1,xO,f2,k1];refine hbad (no λ h=>aj h.id (by omega)) _ _ _ S1.re ?_;simp[f2]
  simp[IV,zD,f5,h1];refine au.pure (name44 s.tables[i].name) ?_
  by_cases h2:dm s.tables[i].name
  ·simp[h2,zD];refine au.pure (adk s.tables[i].cols) ?_
   by_cases h3:eO s.tables[i].cols
   ·simp[h3,f1,k0,Bz,u4,hsl];refine au.same (aiZ (p:=λ d=>decide (d.name=s.tables[i].name)) (first:=[]) (cap:=[.ptr n 0]) (s.tables.take i) (by simp;unfold bm;omega) λ d _=>alf d s.tables[i] n K1 (n+1) kn S1.top) ?_
    by_cases h4:∃t∈s.tables.take i,t.name=s.tables[i].name
    ·have h4':((s.tables.take i).any λ d=>decide (d.name=s.tables[i].name))=true:=by simpa using h4
     simp[h4',xO,f2,k1];refine hbad (no λ h=>?_) _ _ _ S1.re ?_
     ·obtain⟨t,ht1,ht2⟩:=h4;exact h.new t ht1 ht2
     simp[f2]
    have h4':((s.tables.take i).any λ d=>decide (d.name=s.tables[i].name))=false:=by
     rw[Bool.eq_false_iff];intro h;exact h4 (by simpa using h)
    simp[h4',Vx,Vw,zD,f1,f2,f39,f40,f41,ax i (by omega)];refine⟨_,by omega,i+1,rfl,hlt,by simp[Bj hlt],rfl,S1,λ k h hk=>?_⟩
    by_cases e:k=i
    ·subst e;exact⟨by omega,h2,h3,λ t ht1 ht2=>h4 ⟨t,ht1,ht2⟩⟩
    exact hP k h (by omega)
   simp[h3,xO,f2,k1];refine hbad (no λ h=>h3 h.cols) _ _ _ S1.re ?_;simp[f2]
  simp[h2,xO,f2,k1];refine hbad (no λ h=>h2 h.name) _ _ _ S1.re ?_;simp[f2]
 obtain rfl:i=s.tables.length:=by omega
 simp[NT,f40,f41];refine hok (λ k h=>hP k h h) _ _ _ S ?_ ?_
 ·simp[f1]
 simp[f2]
def uc (l:List lY)(i:Nat):Int:=match (l.take i).getLast? with
 |some t=>t.id
 |none=>0
theorem Bm (l:List lY):uc l 0=0:=by simp[uc]
theorem u7 {l:List lY}{i:Nat}(h:i<l.length):uc l (i+1)=l[i].id:=by
 unfold uc;rw[take_add_one,dU h];simp only[Option.toList,getLast?_concat]
structure ajQ (s:eF)(i:Nat)(h:i<s.indexes.length):Prop where
 id:uc s.indexes i<s.indexes[i].id
 name:dm s.indexes[i].name
 table:(s.table s.indexes[i].table).2=true
 cols:dL (s.table s.indexes[i].table).1 s.indexes[i].cols
 new:∀t∈s.indexes.take i,t.name≠s.indexes[i].name
def uE (s:eF):Prop:=∀i h,ajQ s i h
theorem ahS (s:eF)(hs:s.aO)(F:Fr)(K:Hp)(n:Nat)(Q:QA)(S:Ip s K n)(f1:F.get 1=some (.ptr 0 0))(f2:F.get 2=some (.ptr 1 0))(f5:F.get 5=some (.int .u32 0))(f39:F.get 74=some (aR.ds s.indexes))(f40:F.get 75=some (iI (s.indexes.length:Int)))(f41:F.get 76=some (iI 0))
  (hok:uE s->∀F' K' n',Ip s K' n'->F'.get 1=some (.ptr 0 0)->F'.get 2=some (.ptr 1 0)->Q .normal F' K' n' [.qw 6])
  (hbad:¬uE s->∀F' K' n',Ip s K' n'->F'.get 2=some (.ptr 1 0)->Q .ret F' K' n' [.qw 6]):aG NS pG F K n [.qw 6] (jN 4 Q):=by
 have ht:=hs.i;unfold bm at ht;refine aG.of (λ t F K n ms=>∃i,t=s.indexes.length - i/\i<=s.indexes.length/\F.get 1=some (.ptr 0 0)/\F.get 2=some (.ptr 1 0)/\F.get 5=some (.int .u32 (uc s.indexes i))/\F.get 74=some (aR.ds s.indexes)/\F.get 75=some (iI (s.indexes.length:Int))/\F.get 76=some (iI (i:Int))/\Ip s K n/\(∀k,(h:k<s.indexes.length)->k<i->ajQ s k h)/\ms=[.qw 6]) s.indexes.length ⟨0,by simp,by simp,f1,f2,by simp[Bm,f5],f39,f40,by simp[f41],S,λ k _ h=>by omega,rfl⟩ ?_;clear S f1 f2 f5 f39 f40 f41 F K n;rintro t F K n ms ⟨i,rfl,hil,f1,f2,f5,f39,f40,f41,S,hP,rfl⟩
 by_cases hlt:i<s.indexes.length
 ·have hx := aR.ix (ik:=.i64) hlt;have hld:=λ H=>aR.sC s.indexes[i] (aR.l (s.indexes.drop (i+1))) H;have S1:=S.alloc (.cells 6 [] [.int .u32 0,.int .u32 0,.str [],.aI (.slice none 0 0),.bool false,.int .u32 0] .nil) (.cells 6 [] (aR.cells s.indexes[i]) .nil);have hsl:=aR.aaz (l:=s.indexes) (i:=i) hil;simp[NS,f39,f40,f41,hlt,hx,hld,aN.av];generalize hK1:Tr.put (Tr.put K n _) n _=K1 at S1 ⊢;have kn:K1.get n=cl 6 (aR.cells s.indexes[i]):=by rw[<-hK1];simp
  clear hK1;have zD:=kn;rw[cJ]at zD;have k0:=S1.k0;rw[bJ]at k0;have no:¬ajQ s i hlt->¬uE s:=λ h h2=>h (h2 i hlt);have h23:=aav s hs s.indexes[i].table;have hav:fA.av s=.agg [bf.ds s.tables,aR.ds s.indexes] 2:=rfl;rw[hav]at h23;simp[Vt,f1,k0,zD];refine au.pure h23 ?_;have hcl:(s.table s.indexes[i].table).1.cols.length<=bm:=wV (Q:=λ t:iP=>t.cols.length<=bm) (by simp[iP.zero,bm]) hs.tc;have h48:=λ c=>Q9 (s.table s.indexes[i].table).1 c hcl;generalize hT:s.table s.indexes[i].table=T at h48 hcl ⊢;obtain⟨t,ok⟩:=T;have S2:=S1.alloc (.cells 4 [] [.int .u32 0,.str [],.aI (.slice none 0 0),.int .u32 0] .nil) (.cells 4 [] (bf.cells t) .nil);simp[aN.av];generalize hK2:Tr.put (Tr.put K1 (n+1) _) (n+1) _=K2 at S2 ⊢;have kn2:K2.get n=cl 6 (aR.cells s.indexes[i]):=by rw[<-hK2];simp[kn]
  have kt:K2.get (n+1)=cl 4 (bf.cells t):=by rw[<-hK2];simp
  clear hK2 kn zD k0 S1;have zD:=kn2;rw[cJ]at zD;have k0:=S2.k0;rw[bJ]at k0;have k1:=S2.k1;have h48':=h48 s.indexes[i].cols;simp only[aN.av]at h48'
  by_cases h1:s.indexes[i].id<=uc s.indexes i
  ·simp[IU,zD,f5,h1,tI,f2,k1];refine hbad (no λ h=>aj h.id (by omega)) _ _ _ S2.re ?_;simp[f2]
  simp[IU,zD,f5,h1];refine au.pure (name44 s.indexes[i].name) ?_
  by_cases h2:dm s.indexes[i].name
  ·cases ok with
   |false =>
    simp[h2,tI,f2,k1];refine hbad (no λ h=>?_) _ _ _ S2.re ?_
    ·have:=h.table;rw[hT]at this;simp at this
    simp[f2]
   |true =>
   simp[h2,zD,kt];refine au.pure h48' ?_
   by_cases h3:dL t s.indexes[i].cols
   ·simp[h3,f1,k0,Bz,u4,hsl];refine au.same (ai0 (p:=λ d=>decide (d.name=s.indexes[i].name)) (first:=[]) (cap:=[.ptr n 0]) (s.indexes.take i) (by simp;unfold bm;omega) λ d _=>amJ d s.indexes[i] n K2 (n+1+1) kn2 S2.top) ?_
    by_cases h4:∃t∈s.indexes.take i,t.name=s.indexes[i].name
    ·have h4':((s.indexes.take i).any λ d=>decide (d.name=s.indexes[i].name))=true:=by simpa using h4
     simp[h4',tI,f2,k1];refine hbad (no λ h=>?_) _ _ _ S2.re ?_
     ·obtain⟨t,ht1,ht2⟩:=h4;exact h.new t ht1 ht2
     simp[f2]
    have h4':((s.indexes.take i).any λ d=>decide (d.name=s.indexes[i].name))=false:=by
     rw[Bool.eq_false_iff];intro h;exact h4 (by simpa using h)
    simp[h4',Vs,Vr,zD,f1,f2,f39,f40,f41,ax i (by omega)];refine⟨_,by omega,i+1,rfl,hlt,by simp[u7 hlt],rfl,S2,λ k h hk=>?_⟩
    by_cases e:k=i
    ·subst e;exact⟨by omega,h2,by rw[hT],by rw[hT];exact h3,λ t ht1 ht2=>h4 ⟨t,ht1,ht2⟩⟩
    exact hP k h (by omega)
   simp[h3,tI,f2,k1];refine hbad (no λ h=>h3 ?_) _ _ _ S2.re ?_
   ·have:=h.cols;rwa [hT]at this
   simp[f2]
  simp[h2,tI,f2,k1];refine hbad (no λ h=>h2 h.name) _ _ _ S2.re ?_;simp[f2]
 obtain rfl:i=s.indexes.length:=by omega
 simp[NS,f40,f41];refine hok (λ k h=>hP k h h) _ _ _ S ?_ ?_
 ·simp[f1]
 simp[f2]
@[simp] theorem apN (b:Nat):(AV.map b).len=1:=rfl
@[simp] theorem akh (b:Nat):(AV.map b).cells=[.map b]:=rfl
@[simp] theorem apM (b:Nat):(AV.map b).one=true:=rfl
structure eK (s:eF):Prop where
 t:s.tables.length<=32
 i:s.indexes.length<=64
 pages:o5 s.pages
 tabs:oV s.tables
 ixs:uE s
theorem amm (s:eF) (hs:s.aO):ah pG 59 [fA.av s] (.bool (decide (eK s))):=by
 refine pv c59 λ F hF=>?_
 by_cases h1:32<s.tables.length
 ·have:¬eK s:=λ h=>aj h.t (by omega);simp[A59,hF,aN.av,bJ,aN.aF,show (32:Int)<(s.tables.length:Int) by omega];exact .bool (by simp[this])
 have h1':¬(32:Int)<(s.tables.length:Int):=by omega
 by_cases h2:64<s.indexes.length
 ·have:¬eK s:=λ h=>aj h.i (by omega);simp[A59,hF,aN.av,bJ,aN.aF,h1',show (64:Int)<(s.indexes.length:Int) by omega];exact .bool (by simp[this])
 have h2':¬(64:Int)<(s.indexes.length:Int):=by omega
 simp[A59,hF,aN.av,bJ,aN.aF,h1',h2',lh];refine au.of (aaW s _ _) ?_;rintro v K n ⟨rfl,rfl,rfl⟩;simp;refine Uj.of ?_;generalize hF1:(Fp 24 _ _:Fr)=F1;have f1:F1.get 1=some (.ptr 0 0):=by rw[<-hF1];simp
 have f2:F1.get 2=some (.ptr 1 0):=by rw[<-hF1];simp
 have f3:F1.get 3=some (.ptr 3 0):=by rw[<-hF1];simp
 clear hF1 hF F;refine ar.mono (aaU s hs F1 _ _ f2 f3 ?_) ?_
 ·refine⟨by simp[bJ],by simp,by simp[Ll],by simp,by simp,by simp,by simp,by omega,λ b hb=>?_⟩;simp[show ¬b=0 by omega,show ¬b=1 by omega,show ¬b=2 by omega,show ¬b=3 by omega,show ¬b=4 by omega,show ¬b=5 by omega,show ¬b=6 by omega]
 rintro v K n (⟨hp,S⟩|⟨hp,X⟩)
 ·refine⟨_,_,_,_,_,_,_,S.k5,by simp,by simp,?_⟩
  have S1:Ip s (K.put 5 none) n:=⟨by simp[S.k0],by simp[S.k1],by simp[S.k6],S.n7,λ b hb=>by
   have:=S.n7;simp[show ¬b=5 by omega,S.top b hb]⟩
  clear S;generalize Tr.put K 5 none=K1 at S1 ⊢;have k0:=S1.k0;rw[bJ]at k0;simp[aeZ,Vy,f1,k0,aN.aF];refine ahT s hs _ _ _ _ S1 (by simp[f1]) (by simp[f2]) (by simp) (by simp) (by simp) (by simp) (λ ht F' K' n' S' g1 g2=>?_) (λ ht F' K' n' S' g2=>?_)
  ·have k0:=S'.k0;rw[bJ]at k0;simp[Vv,Vu,g1,k0,aN.aF];refine ahS s hs _ _ _ _ S' (by simp[g1]) (by simp[g2]) (by simp) (by simp) (by simp) (by simp) (λ hi F3 K3 n3 S3 w1 w2=>?_) (λ hi F3 K3 n3 S3 w2=>?_)
   ·have:eK s:=⟨by omega,by omega,hp,ht,hi⟩;have k1:=S3.k1;have k6:=S3.k6;simp[Vq,w2,k1,k6];exact .bool (by simp[this])
   have:¬eK s:=λ h=>hi h.ixs;have k1:=S3.k1;have k6:=S3.k6;simp[w2,k1,k6];exact .bool (by simp[this])
  have:¬eK s:=λ h=>ht h.tabs;have k1:=S'.k1;have k6:=S'.k6;simp[g2,k1,k6];exact .bool (by simp[this])
 obtain⟨k1,⟨nt,G,ps,a,b,k5⟩,k6⟩:=X;have:¬eK s:=λ h=>hp h.pages;refine⟨_,_,_,_,_,_,_,k5,by simp,by simp,?_⟩;simp[f2,k1,k6];exact .bool (by simp[this])
end Go.Abs
