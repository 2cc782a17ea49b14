/- A part. -/
import Derived.Test.YtfdoeenlgkkaiaaGreatAbs6
noncomputable section
namespace Go.Abs
open List
set_option maxRecDepth 100000
structure al (α:Type)(k:Nat) where
 cells:α->List AV
 len:∀a,(cells a).length=k
 Di:∀a,aL (cells a)
 one:∀a,bm (cells a)=true
variable {α:Type}{k:Nat}
def al.l (E:al α k)(l:List α):List AV:=l.flatMap E.cells
def al.ds (E:al α k)(l:List α):AV:=.ds (E.l l) l.length k
def al.av (E:al α k)(a:α):AV:=.agg (E.cells a) k
@[simp] theorem al.aA (E:al α k)(a:α):(E.cells a).length=k:=E.len a
@[simp] theorem al.akf (E:al α k)(a:α):aL (E.cells a):=E.Di a
@[simp] theorem al.cells_one (E:al α k)(a:α):bm (E.cells a)=true:=E.one a
@[simp] theorem al.axF (E:al α k):E.l []=[]:=rfl
theorem al.lH (E:al α k)(a:α)(r:List α):E.l (a::r)=E.cells a++E.l r:=rfl
theorem al.bo (E:al α k)(a b:List α):E.l (a++b)=E.l a++E.l b:=by simp[al.l]
theorem al.dF (E:al α k)(a:α):E.l [a]=E.cells a:=by simp[al.l]
@[simp] theorem al.anZ (E:al α k)(l:List α):(E.l l).length=l.length*k:=by
 induction l with
 | nil=>simp
 | cons a r ih=>simp[al.lH,ih,Nat.add_mul];omega
@[simp] theorem al.mY (E:al α k)(l:List α):aL (E.l l):=aL.vg λ v hv=>by
 obtain⟨a,_,ha⟩:=mem_flatMap.1 hv;exact(E.Di a).mem v ha
@[simp] theorem al.an0 (E:al α k)(l:List α):bm (E.l l)=true:=by
 induction l with
 | nil=>rfl
 | cons a r ih=>simp[al.lH,ih]
@[simp] theorem al.atB (E:al α k)(l:List α):Pure (E.ds l):=by simp[al.ds]
@[simp] theorem al.atO (E:al α k)(a:α):Pure (E.av a):=by simp[al.av]
theorem al.QV (E:al α k){l:List α}{i:Nat}(h:i<l.length):(E.l l).drop (i*k)=E.cells l[i]++E.l (l.drop (i+1)):=by
 induction l generalizing i with
 | nil=>simp at h
 | cons a r ih =>
  cases i with
  | zero=>simp[al.lH]
  | succ i =>
   have e1:(i+1)*k=k+i*k:=by rw[Nat.add_mul];omega
   rw[al.lH,e1,<-drop_drop,drop_left' (E.len a)];simpa using ih (by simpa using h)
theorem al.JQ (E:al α k)(l:List α)(i:Nat):(E.l l).drop (i*k)=E.l (l.drop i):=by
 induction l generalizing i with
 | nil=>simp
 | cons a r ih =>
  cases i with
  | zero=>simp
  | succ i =>
   have e1:(i+1)*k=k+i*k:=by rw[Nat.add_mul];omega
   rw[al.lH,e1,<-drop_drop,drop_left' (E.len a),ih];rfl
theorem al.QO (E:al α k)(l:List α)(i:Nat):(E.l l).take (i*k)=E.l (l.take i):=by
 induction l generalizing i with
 | nil=>simp
 | cons a r ih =>
  cases i with
  | zero=>simp
  | succ i =>
   have e1:(i+1)*k=k+i*k:=by rw[Nat.add_mul];omega
   rw[al.lH,e1,take_add,take_left' (E.len a),drop_left' (E.len a),ih];rfl
theorem al.ix (E:al α k){l:List α}{i:Nat}{ik:IntKind}(h:i<l.length):cO k (E.ds l) (.int ik (i:Int))=.val (.dp (E.cells l[i]++E.l (l.drop (i+1)))):=by
 rw[al.ds,Bj h,E.QV h]
theorem al.gM (E:al α k)(a:α)(r:List AV)(H:Hp):eo k (.dp (E.cells a++r)) H=.val (E.av a):=zj r (E.len a)
theorem al.ag (E:al α k)(l:List α):aX (E.ds l)=.val (.int .i64 (l.length:Int)):=by simp[al.ds]
theorem al.xJ (E:al α k){l:List α}{i:Nat}(h:i<=l.length):jZ k none (some (.int .i64 (i:Int))) none (E.ds l)=.val (E.ds (l.take i)):=by
 unfold jZ al.ds
 have:Bl l.length none (some (.int .i64 (i:Int))) none=some (0,i):=by
  simp[Bl,show Kl l.length (some (.int .i64 (i:Int)))=some i from rfl,show Kl l.length none=some l.length from rfl,show Kl 0 none=some 0 from rfl,h]
 simp only[this];simp[E.QO,Nat.min_eq_left h]
theorem al.auu (E:al α k){l:List α}{i:Nat}(h:i<=l.length):jZ k (some (.int .i64 (i:Int))) none none (E.ds l)=.val (E.ds (l.drop i)):=by
 unfold jZ al.ds
 have:Bl l.length (some (.int .i64 (i:Int))) none none=some (i,l.length):=by
  simp[Bl,show Kl 0 (some (.int .i64 (i:Int)))=some i from rfl,show Kl l.length none=some l.length from rfl,h]
 simp only[this];simp;rw[E.JQ,take_of_length_le (by simp)]
end Go.Abs
