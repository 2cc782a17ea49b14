/- A part of the proof. -/
import Derived.Test.YtdcihdajoidkfaaGreatEm3
namespace Go.Abs
open Go.Proofs
set_option maxRecDepth 100000

def Cod.shape (c : Cod) : Bool := decide (0 ≤ c.regs) && (decide (c.regs ≤ 256) && (decide (0 ≤ c.cur) && (decide (c.cur ≤ 4) && decide (c.l.length ≤ 8192))))
def Cod.chk (c : Cod) : Int := if c.shape then (if c.l.all c.ok then 0 else 1) else 1
theorem ixa_ins {l : List Ins} {i : Nat} {k : IntKind} (h : i < l.length) : cIxa 15 (.ds (insC l) l.length 15) (.int k (i : Int)) = .val (.dp (l[i].cells ++ insC (l.drop (i + 1)))) := by
  rw [cIxa_ds h, insC_drop l i h]
theorem ld_ins (x : Ins) (r : List AV) (H : Hp) : cLoadN 15 (.dp (x.cells ++ r)) H = .val x.av := cLoadN_dp r (Ins.cells_len x)
theorem all_take {l : List Ins} {p : Ins → Bool} (h : ∀ j (hj : j < l.length), p l[j] = true) : l.all p = true := by
  rw [List.all_eq_true]
  intro x hx
  obtain ⟨j, hj, rfl⟩ := List.getElem_of_mem hx
  exact h j hj
theorem all_not {l : List Ins} {p : Ins → Bool} {i : Nat} (hi : i < l.length) (h : p l[i] = false) : l.all p = false := by
  rw [List.all_eq_false]
  exact ⟨l[i], List.getElem_mem hi, by simp [h]⟩

theorem chk4 (c : Cod) : FnPure Tryz.prog 4 [c.av] (.int .i64 c.chk) := by
  refine pureV c4 (by simp) (by simp) (by simp [A4]) fun F hF => ?_
  by_cases g1 : c.regs < 0
  · have : c.chk = 1 := by simp [Cod.chk, Cod.shape]; omega
    simp [A4, B4, R4_0, R4_1, R4_2, hF, Cod.av, Cod.cells, g1, this]
    exact .pure _ (by simp)
  by_cases g2 : 256 < c.regs
  · have : c.chk = 1 := by simp [Cod.chk, Cod.shape]; omega
    simp [A4, B4, R4_0, R4_1, R4_2, hF, Cod.av, Cod.cells, g1, g2, this]
    exact .pure _ (by simp)
  by_cases g3 : c.cur < 0
  · have : c.chk = 1 := by simp [Cod.chk, Cod.shape]; omega
    simp [A4, B4, R4_0, R4_1, R4_2, hF, Cod.av, Cod.cells, g1, g2, g3, this]
    exact .pure _ (by simp)
  by_cases g4 : 4 < c.cur
  · have : c.chk = 1 := by simp [Cod.chk, Cod.shape]; omega
    simp [A4, B4, R4_0, R4_1, R4_2, hF, Cod.av, Cod.cells, g1, g2, g3, g4, this]
    exact .pure _ (by simp)
  by_cases g5 : (8192 : Int) < (c.l.length : Int)
  · have : c.chk = 1 := by simp [Cod.chk, Cod.shape]; omega
    simp [A4, B4, R4_0, R4_1, R4_2, hF, Cod.av, Cod.cells, g1, g2, g3, g4, g5, this]
    exact .pure _ (by simp)
  have hs : c.shape = true := by simp [Cod.shape]; omega
  simp [A4, B4, R4_0, R4_1, R4_3, hF, Cod.av, Cod.cells, g1, g2, g3, g4, g5]
  refine LoopV.of (fun k F K m ms => ∃ i, k = c.l.length - i ∧ i ≤ c.l.length ∧ F.get 1 = some (.ptr 0 0) ∧ F.get 30 = some (.ds (insC c.l) c.l.length 15) ∧ F.get 31 = some (.int .i64 (c.l.length : Int)) ∧ F.get 32 = some (.int .i64 (i : Int)) ∧
    K.get 0 = some (.cells 3 [] c.cells .nil) ∧ 1 ≤ m ∧ ms = [] ∧ ∀ j (hj : j < i) (h : j < c.l.length), c.ok c.l[j] = true) c.l.length ⟨0, by simp [hF, Cod.cells]⟩ ?_
  rintro k F K m ms ⟨i, rfl, hi, f1, f30, f31, f32, hK, hm, rfl, hj⟩
  by_cases hlt : i < c.l.length
  · have hx := ixa_ins (k := .i64) hlt
    have hK' := hK
    simp only [Cod.cells] at hK'
    have hm0 : ¬ 0 = m := by omega
    generalize hxe : c.l[i] = x at hx
    simp [L4_0, R4_4, R4_5, R4_6, f1, f30, f31, f32, hlt, hx, ld_ins, hK', hm0]
    rw [show (decide (x.av.len = 15) && allOne x.av.cells) = true by simp [Ins.av, Ins.cells]]
    rw [show patch [AV.int IntKind.i64 0, AV.int IntKind.i64 0, AV.int IntKind.i64 0, AV.int IntKind.i64 0, AV.int IntKind.i64 0, AV.int IntKind.i64 0, AV.int IntKind.i64 0, AV.int IntKind.u32 0, AV.int IntKind.i64 0, AV.int IntKind.i64 0, AV.bool false, AV.bool false, AV.int IntKind.i64 0, AV.int IntKind.i64 0, AV.str []] 0 x.av.cells = some x.cells from rfl]
    simp [f1, hK', hm0]
    refine CalV.pure (may7 c (by omega) x) ?_
    simp
    cases hok : c.ok x with
    | false =>
      have : c.chk = 1 := by
        simp only [Cod.chk, hs, if_true]; rw [all_not hlt (by rw [hxe]; exact hok)]; simp
      simp [R4_7, this]
      exact .pure _ (by simp)
    | true =>
      simp [R4_8, f32, wrap_nat i (by omega)]
      refine ⟨c.l.length - (i + 1), by omega, i + 1, rfl, hlt, f1, f30, f31, by omega, by simp [hm0, hK], fun j hj' h => ?_⟩
      by_cases e : j = i
      · subst e; rw [hxe]; exact hok
      · exact hj j (by omega) h
  · simp [L4_0, R4_4, R4_9, f31, f32, hlt]
    have : i = c.l.length := by omega
    subst this
    have : c.chk = 0 := by simp only [Cod.chk, hs, if_true]; rw [all_take fun j h => hj j h h]; simp
    rw [this]
    exact .pure _ (by simp)
theorem chk5 (c : Cod) : FnPure Tryz.prog 5 [c.av] (.int .i64 c.chk) := by
  refine pureV c5 (by simp) (by simp) (by simp [A5]) fun F hF => ?_
  by_cases g1 : c.regs < 0
  · have : c.chk = 1 := by simp [Cod.chk, Cod.shape]; omega
    simp [A5, B5, R5_0, R5_1, R5_2, hF, Cod.av, Cod.cells, g1, this]
    exact .pure _ (by simp)
  by_cases g2 : 256 < c.regs
  · have : c.chk = 1 := by simp [Cod.chk, Cod.shape]; omega
    simp [A5, B5, R5_0, R5_1, R5_2, hF, Cod.av, Cod.cells, g1, g2, this]
    exact .pure _ (by simp)
  by_cases g3 : c.cur < 0
  · have : c.chk = 1 := by simp [Cod.chk, Cod.shape]; omega
    simp [A5, B5, R5_0, R5_1, R5_2, hF, Cod.av, Cod.cells, g1, g2, g3, this]
    exact .pure _ (by simp)
  by_cases g4 : 4 < c.cur
  · have : c.chk = 1 := by simp [Cod.chk, Cod.shape]; omega
    simp [A5, B5, R5_0, R5_1, R5_2, hF, Cod.av, Cod.cells, g1, g2, g3, g4, this]
    exact .pure _ (by simp)
  by_cases g5 : (8192 : Int) < (c.l.length : Int)
  · have : c.chk = 1 := by simp [Cod.chk, Cod.shape]; omega
    simp [A5, B5, R5_0, R5_1, R5_2, hF, Cod.av, Cod.cells, g1, g2, g3, g4, g5, this]
    exact .pure _ (by simp)
  have hs : c.shape = true := by simp [Cod.shape]; omega
  simp [A5, B5, R5_0, R5_1, R5_3, hF, Cod.av, Cod.cells, g1, g2, g3, g4, g5]
  refine LoopV.of (fun k F K m ms => ∃ i, k = c.l.length - i ∧ i ≤ c.l.length ∧ F.get 1 = some (.ptr 0 0) ∧ F.get 3 = some (.int .i64 (i : Int)) ∧
    K.get 0 = some (.cells 3 [] c.cells .nil) ∧ ms = [] ∧ ∀ j (hj : j < i) (h : j < c.l.length), c.ok c.l[j] = true) c.l.length ⟨0, by simp [hF, Cod.cells]⟩ ?_
  rintro k F K m ms ⟨i, rfl, hi, f1, f3, hK, rfl, hj⟩
  have hK' := hK
  simp only [Cod.cells] at hK'
  by_cases hlt : i < c.l.length
  · have hx := ixa_ins (k := .i64) hlt
    generalize hxe : c.l[i] = x at hx
    simp [L5_0, R5_4, f1, f3, hlt, hK', R5_5]
    refine DrwV.of (ceT_ok (l := [(8, [c.av, x.av], fun H n => .mk (.bool (c.ok x)) H n)]) ?_) ?_
    · simp only [List.mem_singleton]; rintro y rfl; exact ceT_pure (ins8 c (by omega) x)
    · simp [clearF_get, f1, f3, hK', hx, ld_ins]
      rw [show [AV.agg [AV.int IntKind.i64 c.regs, AV.int IntKind.i64 c.cur, AV.ds (insC c.l) c.l.length 15] 3, x.av] = [c.av, x.av] from rfl, ceT_hd]
      cases hok : c.ok x with
      | false =>
        have : c.chk = 1 := by
          simp only [Cod.chk, hs, if_true]; rw [all_not hlt (by rw [hxe]; exact hok)]; simp
        simp [clearF_get, R5_6, this]
        exact .pure _ (by simp)
      | true =>
        simp [clearF_get, R5_7, f1, f3, wrap_nat i (by omega)]
        refine ⟨c.l.length - (i + 1), by omega, i + 1, rfl, hlt, by omega, hK, fun j hj' h => ?_⟩
        by_cases e : j = i
        · subst e; rw [hxe]; exact hok
        · exact hj j (by omega) h
  · simp [L5_0, R5_4, R5_8, f1, f3, hK', hlt]
    have : i = c.l.length := by omega
    subst this
    have : c.chk = 0 := by simp only [Cod.chk, hs, if_true]; rw [all_take fun j h => hj j h h]; simp
    rw [this]
    exact .pure _ (by simp)
end Go.Abs
