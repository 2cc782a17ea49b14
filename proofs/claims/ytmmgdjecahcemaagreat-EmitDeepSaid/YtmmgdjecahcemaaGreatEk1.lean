/- A part of the proof. -/
import Derived.Test.YtmmgdjecahcemaaGreatEd7
namespace Go.Abs
open Go.Proofs
set_option maxRecDepth 100000

theorem wrap_sm (i : Int) (h1 : -2147483648 ≤ i) (h2 : i < 2147483648) : IntKind.i64.wrap i = i := by
  simp [IntKind.wrap, IntKind.signed, IntKind.bits]
  omega
theorem may18 (v : Val) : FnPure Tryz.prog 45 [v.av] (.bool v.may) := by
  obtain ⟨k, i, s⟩ := v
  refine pureV c45 (by simp) (by simp) (by simp [A45]) fun F hF => ?_
  simp only [Val.may]
  by_cases h0 : k = 0
  · subst h0
    by_cases hi : i = 0
    · simp [A45, B45, R45_0, R45_1, R45_2, hF, Val.av, hi]
      exact .bool (by simp)
    · simp [A45, B45, R45_0, R45_1, R45_2, hF, Val.av, hi]
      exact .bool (by simp)
  by_cases h1 : k = 1
  · subst h1
    simp [A45, B45, R45_0, R45_1, R45_3, R45_4, hF, Val.av]
    exact .bool (by simp)
  by_cases h2 : k = 2
  · subst h2
    by_cases hi : i = 0
    · simp [A45, B45, R45_0, R45_1, R45_3, R45_5, R45_6, hF, Val.av, hi]
      exact .bool (by simp; omega)
    · simp [A45, B45, R45_0, R45_1, R45_3, R45_5, R45_6, hF, Val.av, hi]
      exact .bool (by simp)
  by_cases h3 : k = 3
  · subst h3
    by_cases hs : s = []
    · by_cases hi : 0 ≤ i
      · simp [A45, B45, R45_0, R45_1, R45_3, R45_5, R45_7, hF, Val.av, hi, hs]
        exact .bool (by rw [Bool.eq_iff_iff]; simp; omega)
      · simp [A45, B45, R45_0, R45_1, R45_3, R45_5, R45_7, hF, Val.av, hi, hs]
        exact .bool (by simp; omega)
    · simp [A45, B45, R45_0, R45_1, R45_3, R45_5, R45_7, hF, Val.av, hs]
      exact .bool (by simp)
  simp [A45, B45, R45_0, R45_1, R45_3, R45_5, R45_7, hF, Val.av, h0, h1, h2, h3]
  exact .bool (by simp)


/-! ### instructions -/
structure Ins where
  op : Int
  a : Int
  b : Int
  c : Int
  n : Int
  j : Int
  ex : Int
  id : Int
  lo : Int
  hi : Int
  loIn : Bool
  hiIn : Bool
  v : Val
def Ins.cells (x : Ins) : List AV := [.int .i64 x.op, .int .i64 x.a, .int .i64 x.b, .int .i64 x.c, .int .i64 x.n, .int .i64 x.j, .int .i64 x.ex, .int .u32 x.id, .int .i64 x.lo, .int .i64 x.hi, .bool x.loIn, .bool x.hiIn, .int .i64 x.v.kind, .int .i64 x.v.num, .str x.v.s]
def Ins.av (x : Ins) : AV := .agg x.cells 15
def insC : List Ins → List AV
  | [] => []
  | x :: r => x.cells ++ insC r
@[simp] theorem Ins.cells_len (x : Ins) : x.cells.length = 15 := by simp [Ins.cells]
@[simp] theorem insC_len (l : List Ins) : (insC l).length = l.length * 15 := by
  induction l with
  | nil => simp [insC]
  | cons e r ih => simp [insC, ih]; omega
theorem insC_drop (l : List Ins) (i : Nat) (h : i < l.length) : (insC l).drop (i * 15) = l[i].cells ++ insC (l.drop (i + 1)) := by
  induction l generalizing i with
  | nil => simp at h
  | cons e r ih =>
    cases i with
    | zero => simp [insC]
    | succ i =>
      have : (i + 1) * 15 = e.cells.length + i * 15 := by simp; omega
      rw [insC, this, ← List.drop_drop, List.drop_left' rfl]
      simpa using ih i (by simpa using h)
theorem insC_pure (l : List Ins) : PureL (insC l) := by
  induction l with
  | nil => simp [insC]
  | cons e r ih => simp [insC, Ins.cells, ih]
structure Cod where
  regs : Int
  cur : Int
  l : List Ins
def Cod.cells (c : Cod) : List AV := [.int .i64 c.regs, .int .i64 c.cur, .ds (insC c.l) c.l.length 15]
def Cod.av (c : Cod) : AV := .agg c.cells 3
@[simp] theorem Cod.pure (c : Cod) : Pure c.av := by simp [Cod.av, Cod.cells, insC_pure]
@[simp] theorem Ins.pure (x : Ins) : Pure x.av := by simp [Ins.av, Ins.cells]
def Cod.reg (c : Cod) (n : Int) : Bool := decide (0 ≤ n) && decide (n < c.regs)
def Cod.rgs (c : Cod) (f n : Int) : Bool := decide (0 ≤ n) && (decide (n ≤ 16) && (decide (0 ≤ f) && decide (f ≤ c.regs - n)))
def Cod.cursor (c : Cod) (n : Int) : Bool := decide (0 ≤ n) && decide (n < c.cur)
def Cod.target (c : Cod) (n : Int) : Bool := decide (0 ≤ n) && decide (n ≤ (c.l.length : Int))
def Cod.ok (c : Cod) (x : Ins) : Bool :=
  if x.op = 1 then c.cursor x.a else
  if x.op = 2 then c.cursor x.a && (c.rgs x.b x.n && ((decide (x.lo = -1) || c.reg x.lo) && (decide (x.hi = -1) || c.reg x.hi))) else
  if x.op = 3 then c.cursor x.a && c.target x.j else
  if x.op = 4 then c.reg x.a && (c.cursor x.b && (decide (0 ≤ x.c) && decide (x.c < 16))) else
  if x.op = 5 then c.reg x.a && x.v.may else
  if x.op = 6 then c.reg x.a && (c.reg x.b && (decide (4 ≤ x.ex) && (decide (x.ex ≤ 21) && ((decide (x.ex < 8) || c.reg x.c) && c.target x.j)))) else
  if x.op = 7 then c.reg x.a && c.target x.j else
  if x.op = 8 then c.rgs x.a x.n else
  if x.op = 9 then c.cursor x.a && c.rgs x.b x.n else
  if x.op = 10 then c.target x.j else decide (x.op = 11)

theorem cur14 (c : Cod) (n : Int) : FnPure Tryz.prog 41 [c.av, .int .i64 n] (.bool (c.cursor n)) := by
  refine pureV c41 (by simp) (by simp) (by simp [A41]) fun F hF => ?_
  by_cases h0 : 0 ≤ n
  · simp [A41, B41, R41_0, R41_1, hF, h0, Cod.av, Cod.cells]
    exact .bool (by simp [Cod.cursor, h0])
  · simp [A41, B41, R41_0, R41_1, hF, h0, Cod.av, Cod.cells]
    exact .bool (by simp [Cod.cursor, h0])
theorem reg16 (c : Cod) (n : Int) : FnPure Tryz.prog 43 [c.av, .int .i64 n] (.bool (c.reg n)) := by
  refine pureV c43 (by simp) (by simp) (by simp [A43]) fun F hF => ?_
  by_cases h0 : 0 ≤ n
  · simp [A43, B43, R43_0, R43_1, hF, h0, Cod.av, Cod.cells]
    exact .bool (by simp [Cod.reg, h0])
  · simp [A43, B43, R43_0, R43_1, hF, h0, Cod.av, Cod.cells]
    exact .bool (by simp [Cod.reg, h0])
theorem tgt17 (c : Cod) (n : Int) : FnPure Tryz.prog 44 [c.av, .int .i64 n] (.bool (c.target n)) := by
  refine pureV c44 (by simp) (by simp) (by simp [A44]) fun F hF => ?_
  by_cases h0 : 0 ≤ n
  · simp [A44, B44, R44_0, R44_1, hF, h0, Cod.av, Cod.cells]
    exact .bool (by simp [Cod.target, h0])
  · simp [A44, B44, R44_0, R44_1, hF, h0, Cod.av, Cod.cells]
    exact .bool (by simp [Cod.target, h0])
theorem rgs15 (c : Cod) (hc : 0 ≤ c.regs ∧ c.regs ≤ 256) (f n : Int) : FnPure Tryz.prog 42 [c.av, .int .i64 f, .int .i64 n] (.bool (c.rgs f n)) := by
  refine pureV c42 (by simp) (by simp) (by simp [A42]) fun F hF => ?_
  by_cases h0 : 0 ≤ n
  · by_cases h1 : n ≤ 16
    · by_cases h2 : 0 ≤ f
      · by_cases h3 : f ≤ c.regs
        · simp [A42, B42, R42_0, R42_1, hF, h0, h1, h2, h3, Cod.av, Cod.cells, wrap_sm (c.regs - f) (by omega) (by omega)]
          exact .bool (by simp [Cod.rgs, h0, h1, h2]; omega)
        · simp [A42, B42, R42_0, R42_1, hF, h0, h1, h2, h3, Cod.av, Cod.cells]
          exact .bool (by simp [Cod.rgs, h0, h1, h2]; omega)
      · simp [A42, B42, R42_0, R42_1, hF, h0, h1, h2, Cod.av, Cod.cells]
        exact .bool (by simp [Cod.rgs, h0, h1, h2])
    · simp [A42, B42, R42_0, R42_1, hF, h0, h1, Cod.av, Cod.cells]
      exact .bool (by simp [Cod.rgs, h0, h1])
  · simp [A42, B42, R42_0, R42_1, hF, h0, Cod.av, Cod.cells]
    exact .bool (by simp [Cod.rgs, h0])
end Go.Abs
