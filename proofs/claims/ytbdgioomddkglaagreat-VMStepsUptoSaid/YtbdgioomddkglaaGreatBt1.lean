/- A part. -/
import Derived.Test.YtbdgioomddkglaaGreatVmC
noncomputable section
namespace Go.Abs
open List
open Go.Proofs
open Classical
set_option maxRecDepth 100000
structure Enc (α:Type)(k:Nat) where
 cells:α->List AV
 len:∀a,(cells a).length=k
 pur:∀a,PureL (cells a)
 one:∀a,allOne (cells a)=true
variable {α:Type}{k:Nat}
def Enc.l (E:Enc α k)(l:List α):List AV:=l.flatMap E.cells
def Enc.ds (E:Enc α k)(l:List α):AV:=.ds (E.l l) l.length k
def Enc.av (E:Enc α k)(a:α):AV:=.agg (E.cells a) k
@[simp] theorem Enc.cells_len (E:Enc α k)(a:α):(E.cells a).length=k:=E.len a
@[simp] theorem Enc.cells_pure (E:Enc α k)(a:α):PureL (E.cells a):=E.pur a
@[simp] theorem Enc.cells_one (E:Enc α k)(a:α):allOne (E.cells a)=true:=E.one a
@[simp] theorem Enc.l_nil (E:Enc α k):E.l []=[]:=rfl
theorem Enc.l_cons (E:Enc α k)(a:α)(r:List α):E.l (a::r)=E.cells a++E.l r:=rfl
theorem Enc.l_append (E:Enc α k)(a b:List α):E.l (a++b)=E.l a++E.l b:=by simp[Enc.l]
theorem Enc.l_one (E:Enc α k)(a:α):E.l [a]=E.cells a:=by simp[Enc.l]
@[simp] theorem Enc.l_len (E:Enc α k)(l:List α):(E.l l).length=l.length*k:=by
 induction l with
 | nil=>simp
 | cons a r ih=>simp[Enc.l_cons,ih,Nat.add_mul];omega
@[simp] theorem Enc.l_pure (E:Enc α k)(l:List α):PureL (E.l l):=PureL.of_mem λ v hv=>by
 obtain⟨a,_,ha⟩:=mem_flatMap.1 hv;exact(E.pur a).mem v ha
@[simp] theorem Enc.l_allOne (E:Enc α k)(l:List α):allOne (E.l l)=true:=by
 induction l with
 | nil=>rfl
 | cons a r ih=>simp[Enc.l_cons,ih]
@[simp] theorem Enc.ds_pure (E:Enc α k)(l:List α):Pure (E.ds l):=by simp[Enc.ds]
@[simp] theorem Enc.av_pure (E:Enc α k)(a:α):Pure (E.av a):=by simp[Enc.av]
theorem Enc.l_drop (E:Enc α k){l:List α}{i:Nat}(h:i<l.length):(E.l l).drop (i*k)=E.cells l[i]++E.l (l.drop (i+1)):=by
 induction l generalizing i with
 | nil=>simp at h
 | cons a r ih =>
  cases i with
  | zero=>simp[Enc.l_cons]
  | succ i =>
   have e1:(i+1)*k=k+i*k:=by rw[Nat.add_mul];omega
   rw[Enc.l_cons,e1,<-drop_drop,drop_left' (E.len a)];simpa using ih (by simpa using h)
theorem Enc.l_take (E:Enc α k)(l:List α)(i:Nat):(E.l l).take (i*k)=E.l (l.take i):=by
 induction l generalizing i with
 | nil=>simp
 | cons a r ih =>
  cases i with
  | zero=>simp
  | succ i =>
   have e1:(i+1)*k=k+i*k:=by rw[Nat.add_mul];omega
   rw[Enc.l_cons,e1,take_add,take_left' (E.len a),drop_left' (E.len a),ih];rfl
theorem Enc.ix (E:Enc α k){l:List α}{i:Nat}{ik:IntKind}(h:i<l.length):cIxa k (E.ds l) (.int ik (i:Int))=.val (.dp (E.cells l[i]++E.l (l.drop (i+1)))):=by
 rw[Enc.ds,cIxa_ds h,E.l_drop h]
theorem Enc.ldN (E:Enc α k)(a:α)(r:List AV)(H:Hp):cLoadN k (.dp (E.cells a++r)) H=.val (E.av a):=cLoadN_dp r (E.len a)
theorem Enc.len_ds (E:Enc α k)(l:List α):cLenL (E.ds l)=.val (.int .i64 (l.length:Int)):=by simp[Enc.ds]
theorem Enc.slHi (E:Enc α k){l:List α}{i:Nat}(h:i<=l.length):cSlc k none (some (.int .i64 (i:Int))) none (E.ds l)=.val (E.ds (l.take i)):=by
 unfold cSlc Enc.ds
 have:bnds l.length none (some (.int .i64 (i:Int))) none=some (0,i):=by
  simp[bnds,show bnd l.length (some (.int .i64 (i:Int)))=some i from rfl,show bnd l.length none=some l.length from rfl,show bnd 0 none=some 0 from rfl,h]
 simp only[this];simp[E.l_take,Nat.min_eq_left h]
structure Val where
 kind:Int
 num:Int
 s:List Nat
def Val.cells (v:Val):List AV:=[.int .i64 v.kind,.int .i64 v.num,.str v.s]
def Val.av (v:Val):AV:=.agg [.int .i64 v.kind,.int .i64 v.num,.str v.s] 3
inductive Ex where
 | mk (op:Int) (v:Val) (t m:List Nat) (col:Int) (args:List Ex)
mutual
def Ex.cells:Ex->List AV
 | .mk op v t m col args=>[.int .i64 op,.int .i64 v.kind,.int .i64 v.num,.str v.s,.str t,.str m,.int .i64 col,.ds (Ex.cellsL args) args.length 8]
def Ex.cellsL:List Ex->List AV
 | []=>[]
 | e::r=>e.cells++Ex.cellsL r
end
def Ex.av (e:Ex):AV:=.agg e.cells 8
@[simp] theorem Ex.av_cells (e:Ex):e.av.cells=e.cells:=Eq.trans rfl rfl
@[simp] theorem Ex.av_len (e:Ex):e.av.len=8:=Eq.trans rfl rfl
@[simp] theorem Ex.cells_len (e:Ex):e.cells.length=8:=by cases e;simp[Ex.cells]
@[simp] theorem Ex.cellsL_len (l:List Ex):(Ex.cellsL l).length=l.length*8:=by
 induction l with
 | nil=>simp[Ex.cellsL]
 | cons e r ih=>simp[Ex.cellsL,ih];omega
@[simp] theorem Ex.take8 (e:Ex):e.cells.take 8=e.cells:=take_of_length_le (by simp)
@[simp] theorem Ex.allOne (e:Ex):Go.Abs.allOne e.cells=true:=by cases e;simp[Ex.cells]
@[simp] theorem Ex.allOneL (l:List Ex):Go.Abs.allOne (Ex.cellsL l)=true:=by
 induction l with
 | nil=>simp[Ex.cellsL]
 | cons e r ih=>simp[Ex.cellsL,ih]
mutual
theorem Ex.pureC:∀e:Ex,PureL e.cells
 | .mk op v t m col args=>by simp[Ex.cells,Ex.pureLC args]
theorem Ex.pureLC:∀l:List Ex,PureL (Ex.cellsL l)
 | []=>by simp[Ex.cellsL]
 | e::r=>by simp[Ex.cellsL,Ex.pureC e,Ex.pureLC r]
end
@[simp] theorem Ex.pure (e:Ex):Pure e.av:=by simp[Ex.av,Ex.pureC]
@[simp] theorem Ex.pureL' (l:List Ex):PureL (Ex.cellsL l):=Ex.pureLC l
@[simp] theorem Ex.pureC' (e:Ex):PureL e.cells:=Ex.pureC e
theorem Ex.drop (l:List Ex)(i:Nat)(h:i<l.length):(Ex.cellsL l).drop (i*8)=l[i].cells++Ex.cellsL (l.drop (i+1)):=by
 induction l generalizing i with
 | nil=>simp at h
 | cons e r ih =>
  cases i with
  | zero=>simp[Ex.cellsL]
  | succ i =>
   have e1:(i+1)*8=8+i*8:=by omega
   rw[Ex.cellsL,e1,<-drop_drop,drop_left' (Ex.cells_len e)];simpa using ih i (by simpa using h)
@[simp] theorem ld_ex (e:Ex)(r:List AV)(H:Hp):cLoadN 8 (.dp (e.cells++r)) H=.val e.av:=cLoadN_dp r (Ex.cells_len e)
def Val.may (v:Val):Bool:=
 if v.kind=0 then decide (v.num=0)&&decide (v.s=[])else if v.kind=1 then decide (v.s=[])else if v.kind=2 then decide (v.num=0)&&decide (v.s.length<=64)
 else if v.kind=3 then decide (v.s=[])&&(decide (v.num=0)||decide (v.num=1))else false
@[simp] theorem Val.pure (v:Val):Pure v.av:=by simp[Val.av]
theorem may52 (v:Val):FnPure pG 47 [v.av] (.bool v.may):=by
 obtain⟨k,i,s⟩:=v;refine pureV c47 (by simp) (by simp) (by simp[A47]) λ F hF=>?_;simp only[Val.may]
 by_cases h0:k=0
 ·subst h0;simp[A47,B47,R47_0,R47_1,R47_2,R47_3,hF,Val.av];exact .bool (by simp;try omega)
 by_cases h1:k=1
 ·subst h1;simp[A47,B47,R47_0,R47_1,R47_2,R47_4,R47_5,hF,Val.av];exact .bool (by simp;try omega)
 by_cases h2:k=2
 ·subst h2
  by_cases hi:i=0
  ·simp[A47,B47,R47_0,R47_1,R47_2,R47_4,R47_6,R47_7,hF,Val.av,hi];exact .bool (by simp;try omega)
  simp[A47,B47,R47_0,R47_1,R47_2,R47_4,R47_6,R47_7,hF,Val.av,hi];exact .bool (by simp;try omega)
 by_cases h3:k=3
 ·subst h3
  by_cases hs:s=[]
  ·by_cases hi:i=0
   ·simp[A47,B47,R47_0,R47_1,R47_2,R47_4,R47_6,R47_8,R47_9,hF,Val.av,hi,hs];exact .bool (by simp;try omega)
   simp[A47,B47,R47_0,R47_1,R47_2,R47_4,R47_6,R47_8,R47_9,hF,Val.av,hi,hs];exact .bool (by simp;try omega)
  simp[A47,B47,R47_0,R47_1,R47_2,R47_4,R47_6,R47_8,R47_9,hF,Val.av,hs];exact .bool (by simp;try omega)
 simp[A47,B47,R47_0,R47_1,R47_2,R47_4,R47_6,R47_8,R47_10,hF,Val.av,h0,h1,h2,h3];exact .bool (by simp;try omega)
mutual
def Ex.sz:Ex->Nat
 | .mk _ _ _ _ _ args=>1+Ex.szL args
def Ex.szL:List Ex->Nat
 | []=>0
 | e::r=>e.sz+Ex.szL r
end
def lim:Nat:=1048576
theorem wrap_nat (i:Nat)(h:i<2147483648):IntKind.i64.wrap ((i:Int)+1)=((i+1:Nat):Int):=by
 simp[IntKind.wrap,IntKind.signed,IntKind.bits];omega
theorem FrzL.app {h:Hf}{a a' b b':List AV}(x:FrzL h a a')(y:FrzL h b b'):FrzL h (a++b) (a'++b'):=by
 induction a generalizing a' with
 | nil=>cases x;exact y
 | cons v r ih=>cases x with
  | cons _ _ _ _ x1 x2=>exact .cons _ _ _ _ x1 (ih x2)
def idxI {α:Type}(p:α->Bool)(l:List α):Int:=match l.findIdx? p with
 | some i=>(i:Int)
 | none => -1
def idxC (s:Nat) (ld:Eff):CF:={res:=[rTmp 4],code:=.seq (.reg [oP (pdT 4) (eMov (constG (.int .i64 0)))]) (.seq (.seq (.reg [oP (pdT 6) (eMov (slotG 0)),oP (pdT 7) (e1 cLenL (slotG 6)),oP (pdT 8) (eMov (constG (.int .i64 0)))]) (.block 0 (.loop
 (.seq (.reg [oP (pdT 9) (e2 (cBin .lss) (slotG 8) (slotG 7))]) (.seq (.cond (slotG 9) .skip (.exit 0)) (.seq (.block 1 (.seq (.reg [oP (pdT 10) (eMov (slotG 8)),oP (pdT 5) (eMov (slotG 10))]) (.seq (.reg [oP (pdT 11) (eMov (slotG 1)),oP (pdT 12) (eMov (slotG 0)),oP (pdT 13) (eMov (slotG 5)),oP (pdT 14) (e2 (cIxa s) (slotG 12) (slotG 13)),oP (pdT 15) ld,vP (pdT 16) (slotG 11) [(slotG 15)]])
  (.cond (slotG 16) (.seq (.reg [oP (pdT 17) (eMov (slotG 5)),oP (pdT 4) (eMov (slotG 17))]) .ret) .skip)))) (.reg [oP (pdT 18) (e2 (cBin .add) (slotG 8) (constG (.int .i64 1))),oP (pdT 8) (eMov (slotG 18))])))))))
 (.seq (.reg [oP (pdT 4) (eMov (constG (.int .i64 (-1))))]) .ret)),nt:=19}
theorem idxI_some {α:Type}{p:α->Bool}{l:List α}{i:Nat}(h:i<l.length)(hp:p l[i]=true)(hn:∀j (hj:j<i),p (l[j]'(by omega))=false):idxI p l=(i:Int):=by
 have:l.findIdx? p=some i:=by
  rw[findIdx?_eq_some_iff_getElem];exact⟨h,hp,λ j hj=>by simpa using hn j hj⟩
 simp[idxI,this]
theorem idxI_none {α:Type}{p:α->Bool}{l:List α}(hn:∀j (hj:j<l.length),p l[j]=false):idxI p l = -1:=by
 have:l.findIdx? p=none:=by
  rw[findIdx?_eq_none_iff];intro x hx;obtain⟨j,hj,rfl⟩:=getElem_of_mem hx;simpa using hn j hj
 simp[idxI,this]
theorem idx_ok {α:Type}{P:Program}{g:FuncId}{s:Nat}{ld:Eff}{v:AV}{el:α->AV}{xs:List α}{f:FuncId}{first cap:List AV}{p:α->Bool}{H:Hp}{n:Nat}(hc:ctF P g=some (idxC s ld))(hl:xs.length<=lim)(hlen:cLenL v=.val (.int .i64 (xs.length:Int)))
  (hx:∀i (h:i<xs.length),∃q,cIxa s v (.int .i64 (i:Int))=.val q/\∀(F:Fr) H n,F.get 14=some q->ld F H n=.val (el xs[i]))
  (hp:∀x∈xs,CallR P f (first++([el x]++cap)) H n (λ u K k=>u=.bool (p x)/\K=H/\k=n)):
  CallR P g [v,.fn (.func f) first cap] H n (λ u K k=>u=.int .i64 (idxI p xs)/\K=H/\k=n):=by
 refine CallR.of hc (by simp[idxC]) λ F hF=>?_;unfold lim at hl;simp[idxC,hF,hlen]
 refine LoopV.of (λ k F K m m_=>∃i,k=xs.length - i/\i<=xs.length/\F.get 0=some v/\F.get 1=some (.fn (.func f) first cap)/\F.get 7=some (.int .i64 (xs.length:Int))/\F.get 8=some (.int .i64 (i:Int)) /\
  K=H/\m=n/\m_=[]/\∀j (hj:j<i) (h:j<xs.length),p xs[j]=false) xs.length ⟨0,by simp[hF]⟩ ?_
 rintro k F K m m_ ⟨i,rfl,hi,f0,f1,f7,f8,rfl,rfl,rfl,hj⟩
 by_cases hlt:i<xs.length
 ·obtain⟨q,hq,hld⟩:=hx i hlt;simp[f0,f1,f7,f8,hlt,hq];rw[hld _ _ _ (by simp)];simp;refine CalV.same (hp xs[i] (getElem_mem hlt)) ?_;simp;refine CondV.ofB (λ hb=>?_) λ hb=>?_
  ·simp;exact(idxI_some hlt hb λ j hj'=>hj j hj' (by omega)).symm
  simp[f0,f1,f7,f8,wrap_nat i (by omega)];refine⟨xs.length - (i+1),by omega,i+1,rfl,hlt,by omega,λ j hj' h=>?_⟩
  by_cases e:j=i
  ·subst e;exact hb
  exact hj j (by omega) h
 simp[f7,f8,hlt];exact(idxI_none λ j h=>hj j (by omega) h).symm
def conC (g:FuncId):CF:={res:=[rTmp 4],code:=.seq (.reg [oP (pdT 4) (eMov (constG (.bool false)))]) (.seq (.reg [oP (pdT 5) (eMov (slotG 0)),oP (pdT 6) (eMov (slotG 1)),cP (pdT 7) g [(slotG 5),(slotG 6)],oP (pdT 8) (e2 (cBin .geq) (slotG 7) (constG (.int .i64 0))),oP (pdT 4) (eMov (slotG 8))]) .ret),nt:=9}
theorem idxI_any {α:Type}(p:α->Bool)(l:List α):decide (0<=idxI p l)=l.any p:=by
 unfold idxI
 cases h:l.findIdx? p with
 | none =>
  rw[findIdx?_eq_none_iff]at h
  have:l.any p=false:=by
   rw[any_eq_false];intro x hx;simpa using h x hx
  simp[this]
 | some i =>
  rw[findIdx?_eq_some_iff_getElem]at h;obtain⟨h1,h2,_⟩:=h;have:l.any p=true:=by rw[any_eq_true];exact⟨_,getElem_mem h1,h2⟩
  simp[this]
theorem con_ok {α:Type}{P:Program}{g c:FuncId}{v fv:AV}{xs:List α}{p:α->Bool}{H:Hp}{n:Nat}(hc:ctF P c=some (conC g))(h:CallR P g [v,fv] H n (λ u K k=>u=.int .i64 (idxI p xs)/\K=H/\k=n)):
  CallR P c [v,fv] H n (λ u K k=>u=.bool (xs.any p)/\K=H/\k=n):=by
 refine CallR.of hc (by simp[conC]) λ F hF=>?_;simp[conC,hF];refine CalV.same h ?_;simp[idxI_any]
structure Col where
 name:List Nat
 kind:Int
 need:Bool
structure Tbl where
 id:Int
 name:List Nat
 cols:List Col
 head:Int
structure Ixd where
 id:Int
 table:Int
 name:List Nat
 cols:List Int
 uniq:Bool
 root:Int
structure Sch where
 tables:List Tbl
 indexes:List Ixd
def eInt:Enc Int 1:=⟨λ i=>[.int .i64 i],λ _=>rfl,λ _=>by simp,λ _=>by simp[allOne,AV.one]⟩
def eCol:Enc Col 3:=⟨λ c=>[.str c.name,.int .i64 c.kind,.bool c.need],λ _=>rfl,λ _=>by simp,λ _=>by simp[allOne,AV.one]⟩
def eTbl:Enc Tbl 4:=⟨λ t=>[.int .u32 t.id,.str t.name,eCol.ds t.cols,.int .u32 t.head],λ _=>rfl,λ _=>by simp,λ _=>by simp[allOne,AV.one,Enc.ds]⟩
def eIxd:Enc Ixd 6:=⟨λ x=>[.int .u32 x.id,.int .u32 x.table,.str x.name,eInt.ds x.cols,.bool x.uniq,.int .u32 x.root],λ _=>rfl,λ _=>by simp,λ _=>by simp[allOne,AV.one,Enc.ds]⟩
def eSch:Enc Sch 2:=⟨λ s=>[eTbl.ds s.tables,eIxd.ds s.indexes],λ _=>rfl,λ _=>by simp,λ _=>by simp[allOne,AV.one,Enc.ds]⟩
theorem eInt_c (i:Int):eInt.cells i=[.int .i64 i]:=rfl
theorem eCol_c (c:Col):eCol.cells c=[.str c.name,.int .i64 c.kind,.bool c.need]:=rfl
theorem eTbl_c (t:Tbl):eTbl.cells t=[.int .u32 t.id,.str t.name,eCol.ds t.cols,.int .u32 t.head]:=rfl
theorem eIxd_c (x:Ixd):eIxd.cells x=[.int .u32 x.id,.int .u32 x.table,.str x.name,eInt.ds x.cols,.bool x.uniq,.int .u32 x.root]:=rfl
theorem eSch_c (s:Sch):eSch.cells s=[eTbl.ds s.tables,eIxd.ds s.indexes]:=rfl
def chr0 (c:Nat):Prop:=97<=c/\c<=122
def chr1 (c:Nat):Prop:=(48<=c/\c<=57)∨c=95
def NameOk (s:List Nat):Prop:=s≠[]/\s.length<=24/\∀j (h:j<s.length),chr0 s[j]∨(0<j/\chr1 s[j])
theorem cIxs_at {l:List Nat}{i:Nat}{k:IntKind}(h:i<l.length):cIxs (.str l) (.int k (i:Int))=.val (.int .u8 (l[i]:Int)):=by
 unfold cIxs;simp[nth_eq,getElem?_eq_getElem h]
theorem name44 (s:List Nat):FnPure pG 79 [.str s] (.bool (decide (NameOk s))):=by
 refine pureV c79 (by simp) (by simp) (by simp[A79]) λ F hF=>?_;simp[A79,B79,R79_0,R79_1,hF]
 by_cases h0:s=[]
 ·have:¬NameOk s:=λ h=>h.1 h0;simp[h0,R79_2];exact .bool (by subst h0;simp[this])
 by_cases h24:s.length<=24
 ·simp[h0,show ¬(24:Int)<(s.length:Int) by omega,R79_3,hF];refine LoopV.of (λ t F K n ms=>∃i,t=s.length - i/\i<=s.length/\F.get 0=some (.str s)/\F.get 13=some (.int .i64 (s.length:Int))/\F.get 14=some (.int .i64 (i:Int))/\K=.nil/\ms=[]/\∀j (h:j<s.length),j<i->chr0 s[j]∨(0<j/\chr1 s[j])) s.length ⟨0,by simp[hF]⟩ ?_;rintro t F K n ms ⟨i,rfl,hi,f0,f13,f14,rfl,rfl,hj⟩
  by_cases hlt:i<s.length
  ·have hx:=cIxs_at (k:=.i64) hlt;have w:=wrap_nat i (by omega)
   have stay:∀F':Fr,F'.get 0=some (.str s)->F'.get 13=some (.int .i64 (s.length:Int))->F'.get 14=some (.int .i64 (i:Int))->(chr0 s[i]∨(0<i/\chr1 s[i]))->VC pG R79_10 F' .nil n [] (RndQ (λ t F K n ms=>∃i,t=s.length - i/\i<=s.length/\F.get 0=some (.str s)/\F.get 13=some (.int .i64 (s.length:Int))/\F.get 14=some (.int .i64 (i:Int))/\K=.nil/\ms=[]/\∀j (h:j<s.length),j<i->chr0 s[j]∨(0<j/\chr1 s[j])) (s.length - i) (BlkQ 0 (SeqV pG (R79_11.seq CT.ret) (RetQ [rTmp 2] λ v1 H' _=>Frz H'.get v1 (.bool (decide (NameOk s))))))):=by
    intro F' g0 g13 g14 hc;simp[R79_10,g0,g13,g14,w];refine⟨s.length - (i+1),by omega,i+1,rfl,hlt,rfl,λ j h hji=>?_⟩
    by_cases e:j=i
    ·subst e;exact hc
    exact hj j h (by omega)
   have no:∀(F':Fr),¬(chr0 s[i]∨(0<i/\chr1 s[i]))->Frz (Tr.nil:Hp).get (.bool false) (.bool (decide (NameOk s))):=λ F' hc=>by
    have:¬NameOk s:=λ h=>hc (h.2.2 i hlt);exact .bool (by simp[this])
   simp[L79_0,R79_4,f13,f14,hlt,R79_5,R79_6,f0,hx,R79_7];generalize hcc:s[i]=c at stay no
   by_cases a1:(97:Int)<=(c:Int)<;>by_cases a2:(c:Int)<=122<;>by_cases z:0<i<;>by_cases b1:(48:Int)<=(c:Int)<;>by_cases b2:(c:Int)<=57<;>by_cases d:c=95 <;>
    first
    | (exfalso;omega)
    | (simp[a1,a2,z,b1,b2,d,show ((c:Int)=95)=(c=95) by simp;omega,R79_8,R79_9];first | simpa using stay _ (by simp[f0]) (by simp[f13]) (by simp[f14]) (by unfold chr0 chr1;omega) | exact no F (by unfold chr0 chr1;omega))
  obtain rfl:i=s.length:=by omega
  have:NameOk s:=⟨h0,h24,λ j h=>hj j h h⟩;simp[L79_0,R79_4,f13,f14,R79_11];exact .bool (by simp[this])
 have:¬NameOk s:=λ h=>h24 h.2.1;simp[h0,hF,show (24:Int)<(s.length:Int) by omega,R79_2];exact .bool (by simp[this])
end Go.Abs
namespace Go.Abs
open List
open Go.Proofs
open Classical
set_option maxRecDepth 100000
def ColsOk (l:List Col):Prop:=l≠[]/\l.length<=16/\∀i (h:i<l.length),NameOk l[i].name/\(1<=l[i].kind/\l[i].kind<=3)/\∀j (hj:j<i),(l[j]'(by omega)).name≠l[i].name
def chrs (l:List Nat)(j:Nat):Prop:=∀h:j<l.length,chr0 l[j]∨(0<j/\chr1 l[j])
theorem name74 (s:List Nat):FnPure pG 36 [.str s] (.bool (decide (NameOk s))):=by
 refine pureV c36 (by simp) (by simp) (by simp[A36]) λ F hF=>?_
 by_cases h0:s=[]
 ·have:¬NameOk s:=λ h=>h.1 h0;simp only[this,decide_false];subst h0;simp[A36,B36,R36_0,R36_1,R36_2,hF];exact .bool rfl
 have hp : 0<s.length:=length_pos_iff.2 h0
 by_cases h24:s.length<=24
 ·have hx0:=cIxs_at (k:=.i64) hp;have hx0':cIxs (.str s) (.int .i64 0)=.val (.int .u8 (s[0]:Int)):=hx0;have hN:NameOk s↔∀j,chrs s j:=⟨λ h j hj=>h.2.2 j hj,λ h=>⟨h0,h24,λ j hj=>h j hj⟩⟩
  by_cases hc:chr0 s[0]
  ·have a1:¬(s[0]:Int)<97:=by have:=hc.1;omega
   have a2:¬(122:Int)<(s[0]:Int):=by have:=hc.2;omega
   simp[A36,B36,R36_0,R36_1,R36_3,hF,show ¬(s.length:Int)<1 by omega,show ¬(24:Int)<(s.length:Int) by omega,show ¬ 24<s.length by omega,hx0',a1,a2];refine LoopV.of (λ t F K n ms=>∃i,t=s.length - i/\1<=i/\i<=s.length/\F.get 0=some (.str s)/\F.get 3=some (.int .i64 (i:Int))/\ms=[]/\∀j,j<i->chrs s j) (s.length - 1) ⟨1,rfl,by omega,by omega,by simp[hF],by simp,rfl,λ j h1 h=>?_⟩ ?_
   ·obtain rfl:j=0:=by omega
    exact .inl hc
   clear hF F;rintro t F K n ms ⟨i,rfl,hi1,hi,f0,f3,rfl,hj⟩
   by_cases hlt:i<s.length
   ·have hx:=cIxs_at (k:=.i64) hlt;have w:=wrap_nat i (by omega)
    have nx:(chr0 s[i]∨chr1 s[i])->∀j,j<i+1->chrs s j:=λ h j hji=>by
     by_cases e:j=i
     ·subst e;exact λ _=>h.imp id λ h=>⟨by omega,h⟩
     exact hj j (by omega)
    have no:¬(chr0 s[i]∨chr1 s[i])->¬NameOk s:=λ h hN'=>by
     rcases(hN.1 hN' i) hlt with h1 | h1
     ·exact h (.inl h1)
     exact h (.inr h1.2)
    generalize s[i]=c at hx nx no
    by_cases b1:(97:Int)<=(c:Int)<;>by_cases b2:(c:Int)<=122<;>by_cases d1:(48:Int)<=(c:Int)<;>by_cases d2:(c:Int)<=57<;>by_cases u:c=95 <;>
     first
     | (exfalso;omega)
     | (simp[L36_0,R36_4,R36_5,R36_6,R36_7,f0,f3,hlt,hx,b1,b2,d1,d2,u,show ((c:Int)=95)=(c=95) by simp;omega];first | (simp[R36_9,f3,w];exact⟨_,by omega,i+1,rfl,by omega,by omega,f0,rfl,nx (by unfold chr0 chr1;omega)⟩) | (simp[R36_8];exact .bool (by simp[no (by unfold chr0 chr1;omega)])))
   obtain rfl:i=s.length:=by omega
   have:NameOk s:=hN.2 λ j hjl=>hj j hjl hjl;simp[L36_0,R36_4,f0,f3,R36_10,this];exact .bool rfl
  have hno:¬NameOk s:=λ h=>by
   rcases(hN.1 h 0) hp with h1 | h1
   ·exact hc h1
   omega
  simp only[hno,decide_false];unfold chr0 at hc
  by_cases a1:(s[0]:Int)<97
  ·simp[A36,B36,R36_0,R36_1,R36_2,hF,show ¬(s.length:Int)<1 by omega,show ¬(24:Int)<(s.length:Int) by omega,show ¬ 24<s.length by omega,hx0',a1];exact .bool rfl
  have a2:(122:Int)<(s[0]:Int):=by omega
  simp[A36,B36,R36_0,R36_1,R36_2,hF,show ¬(s.length:Int)<1 by omega,show ¬(24:Int)<(s.length:Int) by omega,show ¬ 24<s.length by omega,hx0',a1,a2];exact .bool rfl
 have hno:¬NameOk s:=λ h=>h24 h.2.1;simp only[hno,decide_false];simp[A36,B36,R36_0,R36_1,R36_2,hF,show ¬(s.length:Int)<1 by omega,show (24:Int)<(s.length:Int) by omega];exact .bool rfl
theorem may45 (l:List Col):FnPure pG 80 [eCol.ds l] (.bool (decide (ColsOk l))):=by
 refine pureV c80 (by simp) (by simp) (by simp[A80]) λ F hF=>?_
 by_cases h0:l=[]
 ·have:¬ColsOk l:=λ h=>h.1 h0;simp[A80,B80,R80_0,R80_1,hF,Enc.len_ds,h0,R80_2];exact .bool (by subst h0;simp[this])
 by_cases h16:l.length<=16
 ·simp[A80,B80,R80_0,R80_1,hF,Enc.len_ds,h0,show ¬(16:Int)<(l.length:Int) by omega,R80_3];refine LoopV.of (λ t F K n ms=>∃i,t=l.length - i/\i<=l.length/\F.get 0=some (eCol.ds l)/\F.get 15=some (eCol.ds l)/\F.get 16=some (.int .i64 (l.length:Int))/\F.get 17=some (.int .i64 (i:Int))/\ms=[]/\∀k (h:k<l.length),k<i->NameOk l[k].name/\(1<=l[k].kind/\l[k].kind<=3)/\∀j (hj:j<k),(l[j]'(by omega)).name≠l[k].name) l.length ⟨0,by simp[hF]⟩ ?_;rintro t F K n ms ⟨i,rfl,hi,f0,f15,f16,f17,rfl,hk⟩
  by_cases hlt:i<l.length
  ·have hx := eCol.ix (ik:=.i64) hlt;have hld:=eCol.ldN l[i] (eCol.l (l.drop (i+1))) K;simp only[eCol_c,Enc.av,cons_append,nil_append]at hx hld;have hsl:=eCol.slHi (l:=l) (i:=i) hi;simp[L80_1,R80_4,f16,f17,hlt,R80_5,f15,hx,hld,R80_6];refine CalV.pure (name44 l[i].name) ?_;have no:¬(NameOk l[i].name/\(1<=l[i].kind/\l[i].kind<=3))->¬ColsOk l:=λ h h2=>h ⟨(h2.2.2 i hlt).1,(h2.2.2 i hlt).2.1⟩
   by_cases hn:NameOk l[i].name
   ·by_cases h1:l[i].kind<1
    ·have:=no λ h=>by omega
     simp[hn,h1,R80_7];exact .bool (by simp[this])
    by_cases h3:3<l[i].kind
    ·have:=no λ h=>by omega
     simp[hn,h1,h3,R80_7];exact .bool (by simp[this])
    simp[hn,h1,h3,R80_8,f0,eSl,oev,hsl,Enc.len_ds,Nat.min_eq_left hi];refine LoopV.of (λ t F K' n' ms=>∃j,t=i - j/\j<=i/\F.get 0=some (eCol.ds l)/\F.get 15=some (eCol.ds l)/\F.get 16=some (.int .i64 (l.length:Int))/\F.get 17=some (.int .i64 (i:Int))/\F.get 4=some (.ptr n 0)/\F.get 38=some (eCol.ds (l.take i))/\F.get 39=some (.int .i64 (i:Int))/\F.get 40=some (.int .i64 (j:Int))/\n<n'/\K'.get n=some (.cells 3 [] [.str l[i].name,.int .i64 l[i].kind,.bool l[i].need] .nil)/\ms=[]/\∀q (h:q<j) (h2:q<l.length),l[q].name≠l[i].name) i ⟨0,by simp[f0,f15,f16,f17]⟩ ?_;clear f0 f15 f16 f17 F;rintro t F K' n' ms ⟨j,rfl,hj,f0,f15,f16,f17,f4,f38,f39,f40,hn',hb,rfl,hq⟩
    by_cases hji:j<i
    ·have hjt:j<(l.take i).length:=by simp;omega
     have hx:=eCol.ix (ik:=.i64) hjt;have hld:=eCol.ldN (l.take i)[j] (eCol.l ((l.take i).drop (j+1))) K';have hjl:(l.take i)[j]=l[j]:=by rw[getElem_take]
     rw[hjl]at hx hld;simp only[eCol_c,Enc.av,cons_append,nil_append]at hx hld;have hne:¬n=n':=by omega
     simp[L80_0,R80_9,f39,f40,hji,R80_10,f38,hx,hld,R80_11,f4,hb,hne]
     by_cases he:l[j].name=l[i].name
     ·have:¬ColsOk l:=λ h=>(h.2.2 i hlt).2.2 j hji he;simp[he,R80_12];exact .bool (by simp[this])
     simp[he,R80_13,f0,f15,f16,f17,f4,f38,f39,f40,hb,hne,wrap_nat j (by omega)];refine⟨i - (j+1),by omega,j+1,rfl,hji,rfl,by omega,λ q h h2=>?_⟩
     by_cases e:q=j
     ·subst e;exact he
     exact hq q (by omega) h2
    obtain rfl:j=i:=by omega
    simp[L80_0,R80_9,f39,f40,R80_14,f0,f15,f16,f17,wrap_nat j (by omega)];refine⟨l.length - (j+1),by omega,j+1,rfl,hlt,rfl,λ k h hkj=>?_⟩
    by_cases e:k=j
    ·subst e;exact⟨hn,⟨by omega,by omega⟩,λ q hq'=>hq q hq' (by omega)⟩
    exact hk k h (by omega)
   have:=no λ h=>hn h.1;simp[hn,R80_7];exact .bool (by simp[this])
  obtain rfl:i=l.length:=by omega
  have:ColsOk l:=⟨h0,h16,λ k h=>hk k h h⟩;simp[L80_1,R80_4,f16,f17,R80_15];exact .bool (by simp[this])
 have:¬ColsOk l:=λ h=>h16 h.2.1;simp[A80,B80,R80_0,R80_1,hF,Enc.len_ds,h0,show (16:Int)<(l.length:Int) by omega,R80_2];exact .bool (by simp[this])
theorem ixv_ok {α:Type} [DecidableEq α] {g:FuncId}(E:Enc α 1)(el:α->AV)(hE:∀a,E.cells a=[el a])(heq:∀a b,cEq false .num (el a) (el b)=.val (.bool (decide (a=b))))(hel:∀a,Pure (el a))(hc:ctF pG g=some A144)(l:List α)(x:α)(hl:l.length<=lim):FnPure pG g [E.ds l,el x] (.int .i64 (idxI (λ y=>decide (x=y)) l)):=by
 refine pureV hc (by simp[hel]) (by simp) (by simp[A144]) λ F hF=>?_;unfold lim at hl;simp[A144,B144,R144_0,R144_1,hF,Enc.len_ds];refine LoopV.of (λ t F K n ms=>∃i,t=l.length - i/\i<=l.length/\F.get 0=some (E.ds l)/\F.get 1=some (el x)/\F.get 7=some (.int .i64 (l.length:Int))/\F.get 8=some (.int .i64 (i:Int))/\ms=[]/\∀j (hj:j<i) (h:j<l.length),decide (x=l[j])=false) l.length ⟨0,by simp[hF]⟩ ?_;rintro t F K n ms ⟨i,rfl,hi,f0,f1,f7,f8,rfl,hj⟩
 by_cases hlt:i<l.length
 ·have hx:=E.ix (ik:=.i64) hlt;rw[hE]at hx;have hld:∀r H,cLoad1 (.dp ([el l[i]]++r)) H=.val (el l[i]):=λ r H=>rfl;simp[L144_0,R144_2,f7,f8,hlt,R144_3,R144_4,f0,f1,hx];simp only[cons_append,nil_append]at hld;simp[heq]
  by_cases he:x=l[i]
  ·simp[he,R144_5];refine .eq (by simp) ?_
   congr 1
   exact(idxI_some hlt (by simp) λ j hj'=>by have:=hj j hj' (by omega);rw[he]at this;exact this).symm
  simp[he,R144_6,f0,f1,f7,f8,wrap_nat i (by omega)];refine⟨l.length - (i+1),by omega,i+1,rfl,hlt,rfl,λ j hj' h=>?_⟩
  by_cases e:j=i
  ·subst e;exact he
  simpa using hj j (by omega) h
 obtain rfl:i=l.length:=by omega
 simp[L144_0,R144_2,f7,f8,R144_7];refine .eq (by simp) ?_
 congr 1
 exact(idxI_none λ j h=>hj j h h).symm
theorem index102 (l:List Int)(x:Int)(hl:l.length<=lim):FnPure pG 144 [eInt.ds l,.int .i64 x] (.int .i64 (idxI (λ y=>decide (x=y)) l)):=ixv_ok eInt (.int .i64) (λ _=>rfl) (λ a b=>by simp) (λ _=>by simp) c144 l x hl
theorem contains87 (l:List Int)(x:Int)(hl:l.length<=lim):FnPure pG 114 [eInt.ds l,.int .i64 x] (.bool (decide (x∈l))):=by
 refine pureV c114 (by simp) (by simp) (by simp[A114]) λ F hF=>?_;simp[A114,B114,R114_0,R114_1,hF];refine CalV.pure (index102 l x hl) ?_;simp;refine .bool ?_;rw[idxI_any,Bool.eq_iff_iff];simp
mutual
theorem Pure.rlt {n:Nat}:∀ {v:AV},Pure v->RLt n v
 | .int _ _,_=>by simp
 | .bool _,_=>by simp
 | .str _,_=>by simp
 | .cst _,_=>by simp
 | .agg cs _,h=>by simpa using PureL.rlt (by simpa using h)
 | .tup cs,h=>by simpa using PureL.rlt (by simpa using h)
 | .ds cs _ _,h=>by simpa using PureL.rlt (by simpa using h)
 | .dp cs,h=>by simpa using PureL.rlt (by simpa using h)
 | .ifc _ v,h=>by simpa using Pure.rlt (v:=v) (by simpa only [Pure]using h)
 | .fn _ a b,h=>by
  have h:PureL a/\PureL b:=by simpa[Pure]using h
  simpa[RLt]using⟨PureL.rlt h.1,PureL.rlt h.2⟩
theorem PureL.rlt {n:Nat}:∀ {l:List AV},PureL l->RLtL n l
 | [],_=>by simp
 | v::r,h=>by
  have h:Pure v/\PureL r:=by simpa using h
  simpa using⟨Pure.rlt h.1,PureL.rlt h.2⟩
end
theorem CalV.ok {P:Program}{F:Fr}{H H':Hp}{n n':Nat}{m:List Dm}{Q:QA}{f:FuncId}{vs:List AV}{pd:Pd}{r:List (Option GO)}{v:AV}(h:CallOk P f vs H n v H' n')(k:VCO P r (pd.f v F) H' n' m Q):CalV f vs pd r P F H n m Q:=
 CalV.of h.callR λ u K j ⟨a,b,c⟩=>by subst a b c;exact k
theorem OwnS.appA {P:Program}{H:Hp}{n:Nat}{F:Fr}{m:List Dm}{Q:QA}{v x:AV}{l new:List AV}{len sz by_ k:Nat}{pd:Pd}{r:List (Option GO)}(h:OwnS H n v l len sz)(hx:sliceCells H sz x=some new)(hk:sliceLen x=some k)(hn:new.length=k*sz)
  (hs:0<sz)(hk0:0<k)(hbig:len+k<=big)(hby:by_<=4096)(h1:allOne new=true)
  (hgo:∀H',OwnS H' (n+1) (.sl n 0 (len+k) sz) (l++new) (len+k) sz->(∀c,c≠n->blk v≠some c->H'.get c=H.get c)->VCO P r (pd.f (.sl n 0 (len+k) sz) F) H' (n+1) m Q):OpV (Go.Abs.cApp sz by_ n v x H) pd r P F H n m Q:=by
 obtain⟨H',e,h1,h2⟩:=h.cApp hx hk hn hs hk0 hbig hby h1;unfold OpV;rw[e];exact hgo H' h1 λ c hc hb=>h2 c hc λ e=>hb (by rw[e];rfl)
def clC (z:List AV)(sz by_:Nat):CF:={res:=[rTmp 2],code:=.seq (.reg [oP (pdT 2) (eMov (constG (.cst (.slice none 0 0))))]) (.seq (.seq (.reg [oP (pdT 3) (eMov (slotG 0)),oP (pdT 4) (e2 (cEq false .slice) (slotG 3) (constG (.cst (.slice none 0 0))))]) (.cond (slotG 4) (.seq (.reg [oP (pdT 2) (eMov (constG (.cst (.slice none 0 0))))]) .ret) .skip)) (.seq (.reg [oP (pdT 5) (eBslice z 0 sz []),oP (pdT 6) (eMov (slotG 0)),oP (pdT 7) (eApp sz by_ (slotG 5) (slotG 6)),oP (pdT 2) (eMov (slotG 7))]) .ret)),nt:=8}
theorem clone_ok {g:FuncId}{z:List AV}{sz by_:Nat}(hc:ctF pG g=some (clC z sz by_))(hs:0<sz)(hz:sz<=64)(hby:by_<=4096)(cs:List AV)(len:Nat)(hl:len<=lim)(hcs:cs.length=len*sz)(hp:PureL cs)(h1:allOne cs=true):FnPure pG g [.ds cs len sz] (.ds cs len sz):=by
 refine FnPure.ofR (by simp[hp]) (by simp[hp]) ?_
 have A:len=0->CallR pG g [.cst (.slice none 0 0)] .nil 0 (λ v1 H' _=>Frz H'.get v1 (.ds cs len sz)):=λ h0=>by
  subst h0;have:cs=[]:=by simpa using hcs
  subst this;obtain⟨k,rfl⟩:∃k,sz=k+1:=⟨sz - 1,by omega⟩;refine CallR.of hc (by simp[clC]) λ F hF=>?_;simp[clC,hF,cEq,eqVal];exact .nil _
 have B:len=0->CallR pG g [.ds [] 0 0] .nil 0 (λ v1 H' _=>Frz H'.get v1 (.ds cs len sz)):=λ h0=>by
  subst h0;have:cs=[]:=by simpa using hcs
  subst this;refine CallR.of hc (by simp[clC]) λ F hF=>?_;simp[clC,hF,cEq,eqVal,cApp,sliceCells,sliceLen,cApp1];exact .sl 0 0 0 sz 0 [] [] .nil [] [] (by simp) (by simp) .nil
 have C:0<len->CallR pG g [.ds cs len sz] .nil 0 (λ v1 H' _=>Frz H'.get v1 (.ds cs len sz)):=λ h0=>by
  refine CallR.of hc (by simp[clC]) λ F hF=>?_;obtain⟨len,rfl⟩:∃k,len=k+1:=⟨len - 1,by omega⟩;unfold lim at hl;simp[clC,hF,cEq,eqVal];have ow:OwnS (Tr.put Tr.nil 0 (some (ABlk.cells 0 [] [] .nil))) 1 (.sl 0 0 0 sz) [] 0 sz:=⟨by simp,.inr ⟨0,.cells 0 [] [] .nil,rfl,by omega,by simp,.list rfl⟩⟩;refine OwnS.app (x:=.ds cs (len+1) sz) (new:=cs) (k:=len+1) ow (by simp[sliceCells]) (by simp[sliceLen]) hcs hs h0 (by unfold big;omega) hby h1 λ H' ho hk=>?_;simp;simp only[nil_append,Nat.zero_add]at ho;exact ho.frz (FrzL.pure hp) hs
 by_cases h0:len=0
 ·have A:=A h0;have B:=B h0;refine⟨A.1,λ φ D w xs hrel hv hf RR hR=>?_⟩
  cases hv with
  | cons _ y _ ys h1 h2 =>
  cases h2
  have h0:(∃ad cap,y=.slice (some ad) 0 cap)∨y=.slice none 0 0:=by
   subst h0
   cases h1 with
   | ds=>exact .inl ⟨_,_,rfl⟩
   | ds0=>exact .inl ⟨_,_,rfl⟩
   | dsn=>exact .inr rfl
  rcases h0 with⟨ad,cap,rfl⟩ | rfl
  ·exact B.2 φ D w _ hrel (.cons _ _ _ _ (.ds0 _ _ _) .nil) hf RR hR
  exact A.2 φ D w _ hrel (.cons _ _ _ _ (.cst _ rfl) .nil) hf RR hR
 exact C (by omega)
theorem clone60 (l:List Col)(hl:l.length<=lim):FnPure pG 143 [eCol.ds l] (eCol.ds l):=clone_ok (z:=[.str [],.int .i64 0,.bool false]) (sz:=3) (by_:=32) c143 (by omega) (by omega) (by omega) _ _ hl (by simp) (by simp) (by simp)
def firC (z:List AV)(sz:Nat):CF:={res:=[rCelN 4 sz,rTmp 5],code:=(.seq (.reg [oP (pdT 4) (eAlloc z sz),oP (pdT 5) (eMov (constG (.bool false)))]) (.seq (.seq (.reg [oP (pdT 9) (eMov (slotG 0)),oP (pdT 10) (e1 cLenL (slotG 9)),oP (pdT 11) (eMov (constG (.int .i64 0)))]) (.block 0 (.loop (.seq (.reg [oP (pdT 12) (e2 (cBin .lss) (slotG 11) (slotG 10))]) (.seq (.cond (slotG 12) .skip (.exit 0)) (.seq (.block 1 (.seq (.reg [oP (pdT 13) (e2 (cIxa sz) (slotG 9) (slotG 11)),oP (pdT 14) (eLoadN sz (slotG 13)),oP (pdT 7) (eAlloc z sz),oP pdN (eStore sz (slotG 7) (slotG 14))]) (.seq (.reg [oP (pdT 15) (eMov (slotG 1)),oP (pdT 16) (eLoadN sz (slotG 7)),vP (pdT 17) (slotG 15) [(slotG 16)]]) (.cond (slotG 17) (.seq (.reg [oP (pdT 18) (eLoadN sz (slotG 7)),oP pdN (eStore sz (slotG 4) (slotG 18)),oP (pdT 5) (eMov (constG (.bool true)))]) .ret) .skip)))) (.reg [oP (pdT 19) (e2 (cBin .add) (slotG 11) (constG (.int .i64 1))),oP (pdT 11) (eMov (slotG 19))]))))))) (.seq (.reg [oP (pdT 8) (eAlloc z sz)]) (.seq (.reg [oP (pdT 20) (eLoadN sz (slotG 8)),oP pdN (eStore sz (slotG 4) (slotG 20)),oP (pdT 5) (eMov (constG (.bool false)))]) .ret)))),nt:=21}
theorem a68:A112=firC [(.int .u32 0),(.str []),(.cst (.slice none 0 0)),(.int .u32 0)] 4:=rfl
def firstD {α:Type}(zero:α)(p:α->Bool)(l:List α):α×Bool:=match l.find? p with
 | some x=>(x,true)
 | none=>(zero,false)
theorem first_ok {α:Type}{sz:Nat}(E:Enc α sz){g:FuncId}{z:List AV}(hc:ctF pG g=some (firC z sz)) (_hs:1<sz) (hs2:sz<=64) (hz:z.length=sz) (h1:allOne z=true){zero:α}(hzz:∀h,FrzL h z (E.cells zero)){f:FuncId}{b:Nat}{y:ABlk}{p:α->Bool}(xs:List α) (hl:xs.length<=lim) (H:Hp) (n:Nat) (hb:b<n) (hy:H.get b=some y) (hr:RLtB n y)
  (hp:∀x∈xs,∀(K:Hp)(k:Nat),K.get b=some y->Top K k->CallR pG f [E.av x,.ptr b 0] K k (λ u K' k'=>u=.bool (p x)/\K'=K/\k'=k)):
  CallOk pG g [E.ds xs,.fn (.func f) [] [.ptr b 0]] H n (.tup [E.av (firstD zero p xs).1,.bool (firstD zero p xs).2]) H n:=by
 refine CallR.okN [b] (by simp[RLt,hb,Pure.rlt]) (by simpa using hb) (λ c hm k hk=>?_) λ H0 ht hin=>?_
 ·simp at hm;subst hm;rw[hy]at hk;injection hk with hk;subst hk;exact hr
 have hb0:=(hin b (by simp)).trans hy;refine CallR.of hc (by simp[firC]) λ F hF=>?_;simp[firC,hF,Enc.len_ds];unfold lim at hl;refine LoopV.of (λ q F K m ms=>∃i,q=xs.length - i/\i<=xs.length/\F.get 1=some (.fn (.func f) [] [.ptr b 0])/\F.get 4=some (.ptr n 0)/\F.get 9=some (E.ds xs)/\F.get 10=some (.int .i64 (xs.length:Int))/\F.get 11=some (.int .i64 (i:Int))/\n<m/\Top K m/\(∀c,c<n->K.get c=H0.get c)/\K.get n=some (.cells sz [] z .nil)/\(∀j (h:j<xs.length),j<i->p xs[j]=false)/\ms=[]) xs.length ⟨0,by simp,by simp,by simp[hF],by simp,by simp,by simp,by simp,by omega,λ c h3=>?_,λ c h3=>?_,by simp,by simp,rfl⟩ ?_
 ·have q1:¬c=n:=by omega
  simp[q1,ht c (by omega)]
 ·have q1:¬c=n:=by omega
  simp[q1]
 clear hF F;rintro q F K m ms ⟨i,rfl,hi,f1,f4,f9,f10,f11,hm,tp,kf,kn,hj,rfl⟩;have hEl:(E.av zero).len=sz:=Eq.trans rfl rfl
 by_cases hlt:i<xs.length
 ·have hx:=E.ix (ik:=.i64) hlt;have hld:=λ H=>E.ldN xs[i] (E.l (xs.drop (i+1))) H;have hav:∀a,(E.av a).len=sz:=λ a=>Eq.trans rfl rfl;have hac:∀a,(E.av a).cells=E.cells a:=λ a=>Eq.trans rfl rfl;simp[f1,f9,f10,f11,hlt,hx,hld,hz,hs2,hav,hac];generalize hK1:Tr.put _ m (some (ABlk.cells sz [] (E.cells xs[i]) .nil))=K1;have g1:∀c,c<m->K1.get c=K.get c:=λ c hc=>by rw[<-hK1];simp[neC hc]
  have x1:K1.get m=some (.cells sz [] (E.cells xs[i]) .nil):=by rw[<-hK1];simp
  have t1:Top K1 (m+1):=λ c hc=>by
   have q1:¬c=m:=by omega
   rw[<-hK1];simp[q1,tp c (by omega)]
  clear hK1;have b1:=(g1 b (by omega)).trans ((kf b hb).trans hb0);refine CalV.same (hp xs[i] (getElem_mem hlt) K1 (m+1) b1 t1) ?_;have q1:(n=m)=False:=by simp only[eq_iff_iff,iff_false];omega
  have q2:(m=n)=False:=by simp only[eq_iff_iff,iff_false];omega
  cases hpx:p xs[i]with
  | true =>
   have hf:firstD zero p xs=(xs[i],true):=by
    unfold firstD;rw[find?_eq_some_iff_getElem.2 ⟨hpx,i,hlt,rfl,λ j h2=>by simp[hj j (by omega) h2]⟩]
   rw[hf];have kn1:=(g1 n hm).trans kn;simp[f4,x1,kn1,hz,hs2];refine⟨.pure _ (by simp),λ c h3=>?_⟩;have q3:¬c=n:=by omega
   simp[q3,g1 c (by omega),kf c h3]
  | false =>
   simp[f1,f4,f9,f10,f11,wrap_nat i (by omega)];refine⟨_,by omega,i+1,rfl,hlt,rfl,by omega,t1,λ c h3=>(g1 c (by omega)).trans (kf c h3),(g1 n hm).trans kn,λ j h h2=>?_⟩
   by_cases e:j=i
   ·subst e;exact hpx
   exact hj j h (by omega)
 have hie:i=xs.length:=by omega
 subst hie
 have hf:firstD zero p xs=(zero,false):=by
  unfold firstD;rw[find?_eq_none.2 λ x hx=>?_];obtain⟨j,h2,rfl⟩:=getElem_of_mem hx;simp[hj j h2 h2]
 rw[hf];have q1:(n=m)=False:=by simp only[eq_iff_iff,iff_false];omega
 simp[f4,f10,f11,hz,h1,kn,q1,hs2];refine⟨.tup _ _ (.cons _ _ _ _ (.agg _ _ _ (hzz _)) (.cons _ _ _ _ (.pure _ (by simp)) .nil)),λ c h3=>?_⟩;have q3:¬c=n:=by omega
 have q4:¬c=m:=by omega
 simp[q3,q4,kf c h3]
def Tbl.zero:Tbl:=⟨0,[],[],0⟩
def Ixd.zero:Ixd:=⟨0,0,[],[],false,0⟩
theorem own67 (t:Tbl)(b:Bool)(h:t.cols.length<=lim):FnPure pG 111 [eTbl.av t,.bool b] (.tup [eTbl.av t,.bool b]):=by
 refine pureV c111 (by simp) (by simp) (by simp[A111]) λ F hF=>?_;simp[A111,B111,R111_0,R111_1,R111_2,hF,Enc.av,eTbl_c];refine CalV.pure (clone60 t.cols h) ?_;simp[hF,Enc.ds];exact .pure _ (by simp)
theorem tbl69 (t:Tbl)(i:Int)(b:Nat)(H:Hp)(n:Nat)(hb:H.get b=some (.cells 1 [] [.int .u32 i] .nil))(ht:Top H n):CallR pG 113 [eTbl.av t,.ptr b 0] H n (λ u K k=>u=.bool (decide (t.id=i))/\K=H/\k=n):=by
 refine CallR.forget (by simp) (CallR.of c113 (by simp[A113]) λ F hF=>?_);have q:¬b=n:=by have:=ht.lt hb;omega
 simp[A113,B113,R113_0,R113_1,hF,Enc.av,eTbl_c,q,hb];rintro c hc rfl;exact absurd (ht _ (Nat.le_refl _)) hc
def Sch.table (s:Sch)(i:Int):Tbl×Bool:=firstD Tbl.zero (λ t:Tbl=>decide (t.id=i)) s.tables
theorem firstD_len {α:Type}{zero:α}{p:α->Bool}{l:List α}{Q:α->Prop}(h0:Q zero)(hl:∀x∈l,Q x):Q (firstD zero p l).1:=by
 unfold firstD
 split
 ·rename_i x hx;exact hl x (mem_of_find?_eq_some hx)
 exact h0
structure Sch.fine (s:Sch):Prop where
 t:s.tables.length<=lim
 i:s.indexes.length<=lim
 tc:∀t∈s.tables,t.cols.length<=lim
 ic:∀x∈s.indexes,x.cols.length<=lim
theorem zerT (h:Hf):FrzL h [(.int .u32 0),(.str []),(.cst (.slice none 0 0)),(.int .u32 0)] (eTbl.cells Tbl.zero):=
 .cons _ _ _ _ (.pure _ (by simp)) (.cons _ _ _ _ (.pure _ (by simp)) (.cons _ _ _ _ (.nil 2) (.cons _ _ _ _ (.pure _ (by simp)) .nil)))
theorem table23 (s:Sch)(hs:s.fine)(i:Int):FnPure pG 83 [eSch.av s,.int .u32 i] (.tup [eTbl.av (s.table i).1,.bool (s.table i).2]):=by
 refine pureV c83 (by simp) (by simp) (by simp[A83]) λ F hF=>?_;simp[A83,B83,R83_0,R83_1,hF,Enc.av,eSch_c];refine CalV.ok (first_ok eTbl (a68▸c112) (by omega) (by omega) rfl rfl zerT (p:=λ t:Tbl=>decide (t.id=i)) (y:=.cells 1 [] [.int .u32 i] .nil) s.tables hs.t _ _ (by omega) (by simp) (rLtB_list (by simp)) λ x _ K k hb ht=>tbl69 x i _ K k hb ht) ?_;simp;refine CalV.pure (own67 _ _ (firstD_len (Q:=λ t:Tbl=>t.cols.length<=lim) (by simp[Tbl.zero]) hs.tc)) ?_;simp[Enc.av];exact .pure _ (by simp)
@[simp] theorem Enc.ds_len1 {α:Type}{k:Nat}(E:Enc α k)(l:List α):(E.ds l).len=1:=Eq.trans rfl rfl
@[simp] theorem Enc.ds_cells1 {α:Type}{k:Nat}(E:Enc α k)(l:List α):(E.ds l).cells=[E.ds l]:=Eq.trans rfl rfl
@[simp] theorem Enc.ds_one {α:Type}{k:Nat}(E:Enc α k)(l:List α):(E.ds l).one=true:=Eq.trans rfl rfl
def FIL (h:Hf):List AV->List AV->Prop
 | [],[]=>True
 | v::l,v'::l'=>FI h v v'/\FIL h l l'
 | _,_=>False
@[simp] theorem filNil (h:Hf):FIL h [] []=True:=by simp[FIL]
@[simp] theorem filCons (h:Hf)(v v':AV)(l l':List AV):FIL h (v::l) (v'::l')=(FI h v v'/\FIL h l l'):=by simp[FIL]
@[simp] theorem fiRfl (h:Hf)(v:AV):FI h v v=True:=by simp[FI]
@[simp] theorem fiNil {α:Type}{k:Nat}(h:Hf)(E:Enc α (k+1)):FI h (.cst (.slice none 0 0)) (E.ds [])=True:=by
 simp only[eq_iff_iff,iff_true];exact .inr (.nil k)
theorem FIL.at {h:Hf}:∀ {l l':List AV},FIL h l l'->l'.length=l.length/\∀(i:Nat) v',l'[i]?=some v'->∃v,l[i]?=some v/\FI h v v'
 | [],[],_=>⟨rfl,λ i v' hv=>by simp at hv⟩
 | [],_::_,k=>by simp[FIL]at k
 | _::_,[],k=>by simp[FIL]at k
 | v::l,v'::l',k=>by
  simp only[filCons]at k;obtain⟨h1,h2⟩:=FIL.at k.2;refine⟨by simp[h1],λ i w hw=>?_⟩
  cases i with
  | zero=>simp at hw;subst hw;exact⟨v,rfl,k.1⟩
  | succ i=>simpa using h2 i w (by simpa using hw)
theorem CallOk.conv {P:Program}{g:FuncId}{args args':List AV}{H H':Hp}{n n':Nat}{v:AV}(h:CallOk P g args' H n v H' n')(hc:∀ φ D xs,VRs φ D args xs->VRs φ D args' xs):CallOk P g args H n v H' n':=
 ⟨h.1,h.2.1,λ φ D w xs hr hv=>h.2.2 φ D w xs hr (hc φ D xs hv)⟩
theorem FrzL.take {h:Hf}:∀ {a b:List AV}(i:Nat),FrzL h a b->FrzL h (a.take i) (b.take i)
 | _,_,0,_=>by simpa using FrzL.nil
 | _,_,i+1,.nil=>by simpa using FrzL.nil
 | _,_,i+1,.cons _ _ _ _ x y=>by simpa using FrzL.cons _ _ _ _ x (FrzL.take i y)
theorem FrzL.drop {h:Hf}:∀ {a b:List AV}(i:Nat),FrzL h a b->FrzL h (a.drop i) (b.drop i)
 | _,_,0,k=>by simpa using k
 | _,_,i+1,.nil=>by simpa using FrzL.nil
 | _,_,i+1,.cons _ _ _ _ x y=>by simpa using FrzL.drop i y
@[simp] theorem allVal_4 (e:Eff)(F:Fr)(n:Nat)(A B C D:Hp)(As:List Hp):allVal e F n 4 (A::B::C::D::As)=(vE (e F A n)).bind λ v=>eqA v ((vE (e F B n)).bind λ v=>eqA v ((vE (e F C n)).bind λ v=>eqA v (vE (e F D n)))):=by rw[allVal_two e F n 2,allVal_two e F n 1,allVal_two e F n 0,allVal_one]
def NV (v v':AV):Prop:=v=v'∨(v=.cst (.slice none 0 0)/\∃k,v'=.ds [] 0 (k+1))
def NL:List AV->List AV->Prop
 | [],[]=>True
 | v::l,v'::l'=>NV v v'/\NL l l'
 | _,_=>False
@[simp] theorem nlNil:NL [] []=True:=by simp[NL]
@[simp] theorem nlCons (v v':AV)(l l':List AV):NL (v::l) (v'::l')=(NV v v'/\NL l l'):=by simp[NL]
@[simp] theorem nvRfl (v:AV):NV v v=True:=by simp[NV]
@[simp] theorem nvNil {α:Type}{k:Nat}(E:Enc α (k+1)):NV (.cst (.slice none 0 0)) (E.ds [])=True:=by
 simp only[eq_iff_iff,iff_true];exact .inr ⟨rfl,k,rfl⟩
theorem NL.len:∀ {l l':List AV},NL l l'->l'.length=l.length
 | [],[],_=>rfl
 | [],_::_,k=>by simp[NL]at k
 | _::_,[],k=>by simp[NL]at k
 | _::_,_::_,k=>by simp only[nlCons]at k;simp[NL.len k.2]
theorem FnPure.conv {P:Program}{g:FuncId}{args args':List AV}{v:AV}(h:FnPure P g args' v)(hp:PureL args)(hc:∀D xs,VRs PhN D args xs->VRs PhN D args' xs):FnPure P g args v:=
 ⟨h.body,hp,h.pval,λ D w xs hd hv=>h.run D w xs hd (hc D xs hv)⟩
theorem tbl47 (d t:Tbl)(b:Nat)(H:Hp)(n:Nat)(hb:H.get b=some (.cells 4 [] (eTbl.cells t) .nil))(ht:Top H n):CallR pG 82 [eTbl.av d,.ptr b 0] H n (λ u K k=>u=.bool (decide (d.name=t.name))/\K=H/\k=n):=by
 refine CallR.forget (by simp) (CallR.of c82 (by simp[A82]) λ F hF=>?_);have q:¬b=n:=by have:=ht.lt hb;omega
 simp[A82,B82,R82_0,R82_1,hF,Enc.av,eTbl_c,q,hb];rintro c hc rfl;exact absurd (ht _ (Nat.le_refl _)) hc
theorem ixd50 (d t:Ixd)(b:Nat)(H:Hp)(n:Nat)(hb:H.get b=some (.cells 6 [] (eIxd.cells t) .nil))(ht:Top H n):CallR pG 86 [eIxd.av d,.ptr b 0] H n (λ u K k=>u=.bool (decide (d.name=t.name))/\K=H/\k=n):=by
 refine CallR.forget (by simp) (CallR.of c86 (by simp[A86]) λ F hF=>?_);have q:¬b=n:=by have:=ht.lt hb;omega
 simp[A86,B86,R86_0,R86_1,hF,Enc.av,eIxd_c,q,hb];rintro c hc rfl;exact absurd (ht _ (Nat.le_refl _)) hc
theorem conTbl {f:FuncId}{first cap:List AV}{p:Tbl->Bool}{H:Hp}{n:Nat}(l:List Tbl)(hl:l.length<=lim)(hp:∀x∈l,CallR pG f (first++([eTbl.av x]++cap)) H n (λ u K k=>u=.bool (p x)/\K=H/\k=n)):
  CallR pG 81 [eTbl.ds l,.fn (.func f) first cap] H n (λ u K k=>u=.bool (l.any p)/\K=H/\k=n):=
 con_ok c81 (idx_ok (el:=eTbl.av) c110 hl (eTbl.len_ds _) (λ i h=>⟨_,eTbl.ix h,λ F H n h14=>by simp[h14,eTbl.ldN]⟩) hp)
theorem conIxd {f:FuncId}{first cap:List AV}{p:Ixd->Bool}{H:Hp}{n:Nat}(l:List Ixd)(hl:l.length<=lim)(hp:∀x∈l,CallR pG f (first++([eIxd.av x]++cap)) H n (λ u K k=>u=.bool (p x)/\K=H/\k=n)):
  CallR pG 85 [eIxd.ds l,.fn (.func f) first cap] H n (λ u K k=>u=.bool (l.any p)/\K=H/\k=n):=
 con_ok c85 (idx_ok (el:=eIxd.av) c115 hl (eIxd.len_ds _) (λ i h=>⟨_,eIxd.ix h,λ F H n h14=>by simp[h14,eIxd.ldN]⟩) hp)
def PlacesOk (t:Tbl)(l:List Int):Prop:=l≠[]/\l.length<=16/\∀i (h:i<l.length),0<=l[i]/\l[i]<(t.cols.length:Int)/\l[i]∉l.take i
theorem places48 (t:Tbl) (l:List Int) (_hc:t.cols.length<=lim):FnPure pG 84 [eTbl.av t,eInt.ds l] (.bool (decide (PlacesOk t l))):=by
 refine pureV c84 (by simp) (by simp) (by simp[A84]) λ F hF=>?_
 by_cases h0:l=[]
 ·have:¬PlacesOk t l:=λ h=>h.1 h0;simp[A84,B84,R84_0,R84_1,hF,Enc.av,Enc.len_ds,h0,R84_2];exact .bool (by subst h0;simp[this])
 by_cases h16:l.length<=16
 ·simp[A84,B84,R84_0,R84_1,hF,Enc.av,Enc.len_ds,h0,show ¬(16:Int)<(l.length:Int) by omega,R84_3,eTbl_c];generalize hK:Tr.put _ 0 _=K;have k0:K.get 0=some (.cells 4 [] [.int .u32 t.id,.str t.name,eCol.ds t.cols,.int .u32 t.head] .nil):=by rw[<-hK];simp
  clear hK;refine LoopV.of (λ q F K' n ms=>∃i,q=l.length - i/\i<=l.length/\F.get 1=some (eInt.ds l)/\F.get 2=some (.ptr 0 0)/\F.get 15=some (eInt.ds l)/\F.get 16=some (.int .i64 (l.length:Int))/\F.get 17=some (.int .i64 (i:Int))/\ms=[]/\K'=K/\∀k (h:k<i) (h2:k<l.length),0<=l[k]/\l[k]<(t.cols.length:Int)/\l[k]∉l.take k) l.length ⟨0,by simp,by simp,by simp[hF],by simp,by simp,by simp,by simp,rfl,rfl,λ k h=>by omega⟩ ?_;rintro q F K' n ms ⟨i,rfl,hi,f1,f2,f15,f16,f17,rfl,rfl,hk⟩
  by_cases hlt:i<l.length
  ·have hx:=eInt.ix (ik:=.i64) hlt;rw[eInt_c]at hx;have hsl:=eInt.slHi (l:=l) (i:=i) hi;have no:∀P:Prop,(PlacesOk t l->P)->¬P->¬PlacesOk t l:=λ P h1 h2 h3=>h2 (h1 h3);simp[L84_0,R84_4,f16,f17,hlt,R84_5,f15,hx,R84_6]
   by_cases hn:l[i]<0
   ·have:=no (0<=l[i]) (λ h=>(h.2.2 i hlt).1) (by omega);simp[hn,R84_7];exact .bool (by simp[this])
   by_cases hb:(t.cols.length:Int)<=l[i]
   ·have:=no (l[i]<(t.cols.length:Int)) (λ h=>(h.2.2 i hlt).2.1) (by omega);simp[hn,f2,k0,Enc.len_ds,hb,R84_7];exact .bool (by simp[this])
   simp[hn,f2,k0,Enc.len_ds,hb,f1,eSl,oev,hsl];refine CalV.pure (contains87 (l.take i) l[i] (by simp;unfold lim;omega)) ?_
   by_cases hm:l[i]∈l.take i
   ·have:=no (l[i]∉l.take i) (λ h=>(h.2.2 i hlt).2.2) (by simpa using hm);simp[hm,R84_7];exact .bool (by simp[this])
   simp[hm,R84_8,f1,f2,f15,f16,f17,wrap_nat i (by omega)];refine⟨l.length - (i+1),by omega,i+1,rfl,hlt,rfl,λ k h h2=>?_⟩
   by_cases e:k=i
   ·subst e;exact⟨by omega,by omega,hm⟩
   exact hk k (by omega) h2
  obtain rfl:i=l.length:=by omega
  have:PlacesOk t l:=⟨h0,h16,λ j h=>hk j h h⟩;simp[L84_0,R84_4,f16,f17,R84_9];exact .bool (by simp[this])
 have:¬PlacesOk t l:=λ h=>h16 h.2.1;simp[A84,B84,R84_0,R84_1,hF,Enc.av,Enc.len_ds,h0,show (16:Int)<(l.length:Int) by omega,R84_2];exact .bool (by simp[this])
end Go.Abs
