/- A part of the proof. -/
import Derived.Test.YtmmgdjecahcemaaGreatEk2
namespace Go.Abs
open Go.Proofs
set_option maxRecDepth 100000

def Cod.shape (c : Cod) : Bool := decide (0 ≤ c.regs) && (decide (c.regs ≤ 256) && (decide (0 ≤ c.cur) && (decide (c.cur ≤ 4) && decide (c.l.length ≤ 8192))))
def Cod.chk (c : Cod) : Int := if c.shape then (if c.l.all c.ok then 0 else 1) else 1
theorem ixa_ins {l : List Ins} {i : Nat} {k : IntKind} (h : i < l.length) : cIxa 15 (.ds (insC l) l.length 15) (.int k (i : Int)) = .val (.dp (l[i].cells ++ insC (l.drop (i + 1)))) := by
  rw [cIxa_ds h, insC_drop l i h]
theorem ld_ins (x : Ins) (r : List AV) (H : Hp) : cLoadN 15 (.dp (x.cells ++ r)) H = .val x.av := cLoadN_dp r (Ins.cells_len x)
theorem all_take {l : List Ins} {p : Ins → Bool} (h : ∀ j (hj : j < l.length), p l[j] = true) : l.all p = true := by
  rw [List.all_eq_true]
  intro x hx
  obtain ⟨j, hj, rfl⟩ := List.getElem_of_mem hx
  exact h j hj
theorem all_not {l : List Ins} {p : Ins → Bool} {i : Nat} (hi : i < l.length) (h : p l[i] = false) : l.all p = false := by
  rw [List.all_eq_false]
  exact ⟨l[i], List.getElem_mem hi, by simp [h]⟩

theorem chk5 (c : Cod) : FnPure Tryz.prog 6 [c.av] (.int .i64 c.chk) := by
  refine pureV c6 (by simp) (by simp) (by simp [A6]) fun F hF => ?_
  by_cases g1 : c.regs < 0
  · have : c.chk = 1 := by simp [Cod.chk, Cod.shape]; omega
    simp [A6, B6, R6_0, R6_1, R6_2, hF, Cod.av, Cod.cells, g1, this]
    exact .pure _ (by simp)
  by_cases g2 : 256 < c.regs
  · have : c.chk = 1 := by simp [Cod.chk, Cod.shape]; omega
    simp [A6, B6, R6_0, R6_1, R6_2, hF, Cod.av, Cod.cells, g1, g2, this]
    exact .pure _ (by simp)
  by_cases g3 : c.cur < 0
  · have : c.chk = 1 := by simp [Cod.chk, Cod.shape]; omega
    simp [A6, B6, R6_0, R6_1, R6_2, hF, Cod.av, Cod.cells, g1, g2, g3, this]
    exact .pure _ (by simp)
  by_cases g4 : 4 < c.cur
  · have : c.chk = 1 := by simp [Cod.chk, Cod.shape]; omega
    simp [A6, B6, R6_0, R6_1, R6_2, hF, Cod.av, Cod.cells, g1, g2, g3, g4, this]
    exact .pure _ (by simp)
  by_cases g5 : (8192 : Int) < (c.l.length : Int)
  · have : c.chk = 1 := by simp [Cod.chk, Cod.shape]; omega
    simp [A6, B6, R6_0, R6_1, R6_2, hF, Cod.av, Cod.cells, g1, g2, g3, g4, g5, this]
    exact .pure _ (by simp)
  have hs : c.shape = true := by simp [Cod.shape]; omega
  simp [A6, B6, R6_0, R6_1, R6_3, hF, Cod.av, Cod.cells, g1, g2, g3, g4, g5]
  refine LoopV.of (fun k F K m ms => ∃ i, k = c.l.length - i ∧ i ≤ c.l.length ∧ F.get 1 = some (.ptr 0 0) ∧ F.get 3 = some (.int .i64 (i : Int)) ∧
    K.get 0 = some (.cells 3 [] c.cells .nil) ∧ ms = [] ∧ ∀ j (hj : j < i) (h : j < c.l.length), c.ok c.l[j] = true) c.l.length ⟨0, by simp [Cod.cells]⟩ ?_
  rintro k F K m ms ⟨i, rfl, hi, f1, f3, hK, rfl, hj⟩
  have hK' := hK
  simp only [Cod.cells] at hK'
  by_cases hlt : i < c.l.length
  · have hx := ixa_ins (k := .i64) hlt
    generalize hxe : c.l[i] = x at hx
    simp [L6_0, R6_4, f1, f3, hlt, hK', R6_5]
    refine DrwV.of (ceT_ok (l := [(17, [c.av, x.av], fun H n => .mk (.bool (c.ok x)) H n)]) ?_) ?_
    · simp only [List.mem_singleton]; rintro y rfl; exact ceT_pure (ins8 c (by omega) x)
    · simp [clearF_get, f1, f3, hK', hx, ld_ins]
      rw [show [AV.agg [AV.int IntKind.i64 c.regs, AV.int IntKind.i64 c.cur, AV.ds (insC c.l) c.l.length 15] 3, x.av] = [c.av, x.av] from rfl, ceT_hd]
      cases hok : c.ok x with
      | false =>
        have : c.chk = 1 := by
          simp only [Cod.chk, hs, if_true]; rw [all_not hlt (by rw [hxe]; exact hok)]; simp
        simp [R6_6, this]
        exact .pure _ (by simp)
      | true =>
        simp [clearF_get, R6_7, f1, f3, wrap_nat i (by omega)]
        refine ⟨c.l.length - (i + 1), by omega, i + 1, rfl, hlt, by omega, hK, fun j hj' h => ?_⟩
        by_cases e : j = i
        · subst e; rw [hxe]; exact hok
        · exact hj j (by omega) h
  · simp [L6_0, R6_4, R6_8, f1, f3, hK', hlt]
    have : i = c.l.length := by omega
    subst this
    have : c.chk = 0 := by simp only [Cod.chk, hs, if_true]; rw [all_take fun j h => hj j h h]; simp
    rw [this]
    exact .pure _ (by simp)
end Go.Abs
