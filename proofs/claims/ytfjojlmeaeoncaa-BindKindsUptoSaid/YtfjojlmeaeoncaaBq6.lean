/- A part of the proof. -/
import Derived.Test.YtfjojlmeaeoncaaBq5
namespace Go.Abs
open Go.Proofs
set_option maxRecDepth 100000

theorem any_take {l : List Int} {p : Int → Bool} (h : ∀ j (hj : j < l.length), p l[j] = false) : l.any p = false := by
  rw [List.any_eq_false]
  intro x hx
  obtain ⟨j, hj, rfl⟩ := List.getElem_of_mem hx
  simp [h j hj]
theorem made_loop {F : Fr} {Q : QA} (l : List Int) (hl : l.length ≤ lim) (wk : Int) (g0 : F.get 1 = some (.ds (intsC l) l.length 1)) (g6 : F.get 6 = some (.int .i64 wk)) (g7 : F.get 7 = some (.int .i64 0)) 
    (hf : (l.any fun k => decide (k ≠ 0) && decide (k ≠ wk)) = true → ∀ F : Fr, F.get 4 = some (.int .i64 0) → F.get 5 = some (.bool false) → Q .ret F .nil 0 [])
    (ht : (l.any fun k => decide (k ≠ 0) && decide (k ≠ wk)) = false → ∀ F : Fr, F.get 6 = some (.int .i64 wk) → Q (.exit 0) F .nil 0 []) : LoopV L25_0 Try.prog F .nil 0 [] Q := by
  unfold lim at hl
  refine LoopV.of (fun j F K m_ ms => ∃ i, j = l.length - i ∧ i ≤ l.length ∧ F.get 1 = some (.ds (intsC l) l.length 1) ∧ F.get 6 = some (.int .i64 wk) ∧ F.get 7 = some (.int .i64 (i : Int)) ∧ K = .nil ∧ m_ = 0 ∧ ms = [] ∧
    ∀ j (hj : j < i) (h : j < l.length), (decide (l[j] ≠ 0) && decide (l[j] ≠ wk)) = false) l.length ⟨0, by simp [g0, g6, g7]⟩ ?_
  rintro j F K m_ ms ⟨i, rfl, hi, f1, f6, f7, rfl, rfl, rfl, hj⟩
  by_cases hlt : i < l.length
  · have hx := ixa_int (k := .i64) hlt
    by_cases hz : l[i] = 0
    · simp [L25_0, R25_11, R25_12, f1, f6, f7, hlt, hx, hz, R25_14, wrap_nat i (by omega)]
      refine ⟨l.length - (i + 1), by omega, i + 1, rfl, hlt, by omega, fun j hj' h => ?_⟩
      by_cases e : j = i
      · subst e; exact fun hh => absurd hz hh
      · have := hj j (by omega) h
        simpa using this
    · by_cases hw : l[i] = wk
      · subst hw
        simp [L25_0, R25_11, R25_12, f1, f6, f7, hlt, hx, hz, R25_14, wrap_nat i (by omega)]
        refine ⟨l.length - (i + 1), by omega, i + 1, rfl, hlt, by omega, fun j hj' h => ?_⟩
        by_cases e : j = i
        · subst e; exact fun _ => rfl
        · have := hj j (by omega) h
          simpa using this
      · simp [L25_0, R25_11, R25_12, f1, f6, f7, hlt, hx, hz, hw, R25_13]
        refine hf ?_ _ (by simp) (by simp)
        rw [List.any_eq_true]
        exact ⟨l[i], List.getElem_mem hlt, by simp [hz, hw]⟩
  · simp [L25_0, R25_11, f1, f6, f7, hlt]
    exact ht (any_take fun j h => hj j (by omega) h) _ (by simp [f6])
/-- what an operator makes of its parts' kinds -/
def madeK (op : Int) (l : List Int) : Int × Bool := if (wantE op).1.any = true then (3, (wantE op).1.fits l) else if (wantE op).1.fits l = true then ((wantE op).1.kind, true) else (0, false)
theorem made25 (op : Int) (l : List Int) (ho : 4 ≤ op ∧ op ≤ 21) (hl : l.length ≤ lim) (hn : (l.length : Int) = (wantE op).1.n) : FnPure Try.prog 25 [.int .i64 op, .ds (intsC l) l.length 1] (.tup [.int .i64 (madeK op l).1, .bool (madeK op l).2]) := by
  have : op = 4 ∨ op = 5 ∨ op = 6 ∨ op = 7 ∨ op = 8 ∨ op = 9 ∨ op = 10 ∨ op = 11 ∨ op = 12 ∨ op = 13 ∨ op = 14 ∨ op = 15 ∨ op = 16 ∨ op = 17 ∨ op = 18 ∨ op = 19 ∨ op = 20 ∨ op = 21 := by omega
  refine pureV c25 (by simp) (by simp) (by simp [A25]) fun F hF => ?_
  have fin : ∀ (wn wk : Int) (F : Fr), (wantE op).1 = ⟨wn, wk, wk, false, false⟩ → F.get 1 = some (.ds (intsC l) l.length 1) → F.get 6 = some (.int .i64 wk) → F.get 7 = some (.int .i64 0) →
      LoopV L25_0 Try.prog F .nil 0 [] (BlkQ 0 (SeqV Try.prog (.seq R25_15 .ret) (RetQ [rTmp 4, rTmp 5] fun v1 H' _ => Frz H'.get v1 (.tup [.int .i64 (madeK op l).1, .bool (madeK op l).2])))) := by
    intro wn wk F hw g1 g6 g7
    refine made_loop l hl wk g1 g6 g7 (fun ha F g4 g5 => ?_) fun ha F g6 => ?_
    · have : madeK op l = (0, false) := by unfold madeK; rw [hw]; simp only [Want.fits, ha]; simp
      rw [this]
      simp [g4, g5]
      exact .pure _ (by simp)
    · have : madeK op l = (wk, true) := by unfold madeK; rw [hw]; simp only [Want.fits, ha]; simp
      rw [this]
      simp [R25_15, g6]
      exact .pure _ (by simp)
  rcases this with h | h | h | h | h | h | h | h | h | h | h | h | h | h | h | h | h | h <;> subst h
  · simp [A25, B25, R25_0, R25_1, R25_3, R25_5, R25_6, R25_7, R25_8, R25_9, R25_10, hF]
    exact fin 1 1 _ rfl (by simp [hF]) (by simp) (by simp)
  · simp [A25, B25, R25_0, R25_1, R25_3, R25_5, R25_6, R25_7, R25_8, R25_9, R25_10, hF]
    exact fin 1 3 _ rfl (by simp [hF]) (by simp) (by simp)
  · simp [A25, B25, R25_0, R25_1, R25_2, hF]
    exact .pure _ (by simp)
  · simp [A25, B25, R25_0, R25_1, R25_2, hF]
    exact .pure _ (by simp)
  iterate 5
    · simp [A25, B25, R25_0, R25_1, R25_3, R25_5, R25_6, R25_7, R25_8, R25_9, R25_10, hF]
      exact fin 2 1 _ rfl (by simp [hF]) (by simp) (by simp)
  · simp [A25, B25, R25_0, R25_1, R25_3, R25_5, R25_6, R25_7, R25_8, R25_9, R25_10, hF]
    exact fin 2 2 _ rfl (by simp [hF]) (by simp) (by simp)
  iterate 6
    · have hn2 : l.length = 2 := by have : ((l.length : Int)) = 2 := hn; omega
      match l, hn2 with
      | [a, b], _ =>
        have x0 : cIxa 1 (.ds (intsC [a, b]) 2 1) (.int .i64 0) = .val (.dp (.int .i64 a :: intsC [b])) := by
          have := ixa_int (l := [a, b]) (i := 0) (k := .i64) (by simp)
          simpa using this
        have x1 : cIxa 1 (.ds (intsC [a, b]) 2 1) (.int .i64 1) = .val (.dp (.int .i64 b :: intsC [])) := by
          have := ixa_int (l := [a, b]) (i := 1) (k := .i64) (by simp)
          simpa using this
        simp [A25, B25, R25_0, R25_1, R25_3, R25_4, hF]
        refine DrwV.of (ce0_ok (P := Try.prog)) ?_
        by_cases e1 : a = b
        · subst e1
          simp [clearF_get, hF, x0, x1]
          exact .eq (by simp) (by simp [madeK, wantE, Want.fits])
        · by_cases e2 : a = 0
          · subst e2
            simp [clearF_get, hF, x0, x1, e1]
            exact .eq (by simp) (by simp [madeK, wantE, Want.fits])
          · simp [clearF_get, hF, x0, x1, e1, e2]
            exact .eq (by simp) (by simp [madeK, wantE, Want.fits, e1, e2])
  · simp [A25, B25, R25_0, R25_1, R25_3, R25_5, R25_6, R25_7, R25_8, R25_9, R25_10, hF]
    exact fin 2 3 _ rfl (by simp [hF]) (by simp) (by simp)
  · simp [A25, B25, R25_0, R25_1, R25_3, R25_5, R25_6, R25_7, R25_8, R25_9, R25_10, hF]
    exact fin 2 3 _ rfl (by simp [hF]) (by simp) (by simp)
end Go.Abs
