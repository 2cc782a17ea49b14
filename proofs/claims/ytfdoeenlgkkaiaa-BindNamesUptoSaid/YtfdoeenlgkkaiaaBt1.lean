/- Records of a fixed number of cells, one behind the other. -/
import Derived.Test.YtfdoeenlgkkaiaaAbs6
namespace Go.Abs
set_option maxRecDepth 100000
structure Enc (α : Type) (k : Nat) where
 cells : α → List AV
 len : ∀ a,(cells a).length = k
 pur : ∀ a,PureL (cells a)
 one : ∀ a,allOne (cells a) = true
variable {α : Type} {k : Nat}
def Enc.l (E : Enc α k) (l : List α) : List AV:=l.flatMap E.cells
def Enc.ds (E : Enc α k) (l : List α) : AV:=.ds (E.l l) l.length k
def Enc.av (E : Enc α k) (a : α) : AV:=.agg (E.cells a) k
@[simp] theorem Enc.cells_len (E : Enc α k) (a : α) : (E.cells a).length = k:=E.len a
@[simp] theorem Enc.cells_pure (E : Enc α k) (a : α) : PureL (E.cells a):=E.pur a
@[simp] theorem Enc.cells_one (E : Enc α k) (a : α) : allOne (E.cells a) = true:=E.one a
@[simp] theorem Enc.l_nil (E : Enc α k) : E.l [] = []:=rfl
theorem Enc.l_cons (E : Enc α k) (a : α) (r : List α) : E.l (a :: r) = E.cells a ++ E.l r:=rfl
theorem Enc.l_append (E : Enc α k) (a b : List α) : E.l (a ++ b) = E.l a ++ E.l b:=by simp [Enc.l]
theorem Enc.l_one (E : Enc α k) (a : α) : E.l [a] = E.cells a:=by simp [Enc.l]
@[simp] theorem Enc.l_len (E : Enc α k) (l : List α) : (E.l l).length = l.length * k:=by
 induction l with
 | nil => simp
 | cons a r ih => simp [Enc.l_cons,ih,Nat.add_mul]; omega
@[simp] theorem Enc.l_pure (E : Enc α k) (l : List α) : PureL (E.l l):=PureL.of_mem fun v hv => by
 obtain ⟨a,_,ha⟩:=List.mem_flatMap.1 hv
 exact (E.pur a).mem v ha
@[simp] theorem Enc.l_allOne (E : Enc α k) (l : List α) : allOne (E.l l) = true:=by
 induction l with
 | nil => rfl
 | cons a r ih => simp [Enc.l_cons,ih]
@[simp] theorem Enc.ds_pure (E : Enc α k) (l : List α) : Pure (E.ds l):=by simp [Enc.ds]
@[simp] theorem Enc.av_pure (E : Enc α k) (a : α) : Pure (E.av a):=by simp [Enc.av]
theorem Enc.l_drop (E : Enc α k) {l : List α} {i : Nat} (h : i < l.length) : (E.l l).drop (i * k) = E.cells l[i] ++ E.l (l.drop (i + 1)):=by
 induction l generalizing i with
 | nil => simp at h
 | cons a r ih =>
  cases i with
  | zero => simp [Enc.l_cons]
  | succ i =>
   have e1 : (i + 1) * k = k + i * k:=by rw [Nat.add_mul]; omega
   rw [Enc.l_cons,e1,← List.drop_drop,List.drop_left' (E.len a)]
   simpa using ih (by simpa using h)
theorem Enc.l_dropA (E : Enc α k) (l : List α) (i : Nat) : (E.l l).drop (i * k) = E.l (l.drop i):=by
 induction l generalizing i with
 | nil => simp
 | cons a r ih =>
  cases i with
  | zero => simp
  | succ i =>
   have e1 : (i + 1) * k = k + i * k:=by rw [Nat.add_mul]; omega
   rw [Enc.l_cons,e1,← List.drop_drop,List.drop_left' (E.len a),ih]
   rfl
theorem Enc.l_take (E : Enc α k) (l : List α) (i : Nat) : (E.l l).take (i * k) = E.l (l.take i):=by
 induction l generalizing i with
 | nil => simp
 | cons a r ih =>
  cases i with
  | zero => simp
  | succ i =>
   have e1 : (i + 1) * k = k + i * k:=by rw [Nat.add_mul]; omega
   rw [Enc.l_cons,e1,List.take_add,List.take_left' (E.len a),List.drop_left' (E.len a),ih]
   rfl
theorem Enc.ix (E : Enc α k) {l : List α} {i : Nat} {ik : IntKind} (h : i < l.length) : cIxa k (E.ds l) (.int ik (i : Int)) = .val (.dp (E.cells l[i] ++ E.l (l.drop (i + 1)))):=by
 rw [Enc.ds,cIxa_ds h,E.l_drop h]
theorem Enc.ldN (E : Enc α k) (a : α) (r : List AV) (H : Hp) : cLoadN k (.dp (E.cells a ++ r)) H = .val (E.av a):=cLoadN_dp r (E.len a)
theorem Enc.len_ds (E : Enc α k) (l : List α) : cLenL (E.ds l) = .val (.int .i64 (l.length : Int)):=by simp [Enc.ds]
theorem Enc.slHi (E : Enc α k) {l : List α} {i : Nat} (h : i ≤ l.length) : cSlc k none (some (.int .i64 (i : Int))) none (E.ds l) = .val (E.ds (l.take i)):=by
 unfold cSlc Enc.ds
 have : bnds l.length none (some (.int .i64 (i : Int))) none = some (0,i):=by
  simp [bnds,show bnd l.length (some (.int .i64 (i : Int))) = some i from rfl,show bnd l.length none = some l.length from rfl,show bnd 0 none = some 0 from rfl,h]
 simp only [this]
 simp [E.l_take,Nat.min_eq_left h]
theorem Enc.slLo (E : Enc α k) {l : List α} {i : Nat} (h : i ≤ l.length) : cSlc k (some (.int .i64 (i : Int))) none none (E.ds l) = .val (E.ds (l.drop i)):=by
 unfold cSlc Enc.ds
 have : bnds l.length (some (.int .i64 (i : Int))) none none = some (i,l.length):=by
  simp [bnds,show bnd 0 (some (.int .i64 (i : Int))) = some i from rfl,show bnd l.length none = some l.length from rfl,h]
 simp only [this]
 simp
 rw [E.l_dropA,List.take_of_length_le (by simp)]
end Go.Abs
