/- The order of rows, as the model has it. -/
import Derived.Test.YtlnbbokmibfegaaGreatMs1
namespace Go.Abs
open Go.Proofs
set_option maxRecDepth 100000

theorem order17 (l m : List Val) (hl : l.length ≤ 1048576) (hm : m.length ≤ 1048576) : FnPure Tryz.prog 41 [rowAV l, rowAV m] (.int .i64 (rowO l m)) := by
  refine pureV c41 (by simp) (by simp) (by simp [A41]) fun F hF => ?_
  have hmin : minR .i64 (l.length : Int) [.int .i64 (m.length : Int)] = some (.int .i64 ((min l.length m.length : Nat) : Int)) := by
    unfold minR
    simp [minR]
    omega
  obtain ⟨M, hM⟩ : ∃ M, M = min l.length m.length := ⟨_, rfl⟩
  rw [← hM] at hmin
  simp [A41, B41, R41_0, R41_1, hF, rowAV, eMnx, minI, hmin]
  refine LoopV.of (fun k F K n ms => ∃ i, k = M - i ∧ i ≤ l.length ∧ i ≤ m.length ∧ F.get 0 = some (rowAV l) ∧ F.get 1 = some (rowAV m) ∧ F.get 12 = some (.int .i64 (M : Int)) ∧ F.get 13 = some (.int .i64 (i : Int)) ∧ K = .nil ∧ ms = [] ∧ rowO l m = rowO (l.drop i) (m.drop i)) M ⟨0, by simp [hF, rowAV]⟩ ?_
  rintro k F K n ms ⟨i, rfl, hi, hib, f0, f1, f12, f13, rfl, rfl, he⟩
  by_cases hlt : i < M
  · have h1 : i < l.length := by omega
    have h2 : i < m.length := by omega
    have hx := ixa_val (k := .i64) h1
    have hy := ixa_val (k := .i64) h2
    rw [rowO_drop h1 h2] at he
    simp [L41_0, R41_2, f12, f13, hlt, R41_3, R41_4]
    refine DrwV.of (ceT_ok (l := [(22, [l[i].av, m[i].av], fun H n => .mk (.tup [.int .i64 (l[i].cmp m[i]).1, .int .i64 (l[i].cmp m[i]).2]) H n)]) ?_) ?_
    · intro x hx
      simp only [List.mem_cons, List.not_mem_nil, or_false] at hx
      subst hx
      exact ceT_pure (compare28 l[i] m[i])
    · simp [clearF_get, f0, f1, rowAV, hx, hy, ld_val]
      rw [ceT_hd]
      have w := wrap_nat i (by omega)
      unfold cV at he
      unfold Val.cmp
      by_cases ha : l[i].may = true
      · by_cases hb : m[i].may = true
        · rw [ha, hb] at he ⊢
          simp at he ⊢
          by_cases hc : l[i].ord m[i] = 0
          · rw [if_pos hc] at he
            simp [R41_5, R41_11, hc, R41_13, clearF_get, f13, w, f0, f1, f12, rowAV]
            exact ⟨M - (i + 1), by omega, i + 1, rfl, by omega, by omega, by omega, he⟩
          · rw [if_neg hc] at he
            simp [R41_5, R41_11, hc, R41_12, he]
            exact .pure _ (by simp)
        · have hb : m[i].may = false := by simpa using hb
          rw [ha, hb] at he ⊢
          simp at he ⊢
          simp [R41_5, R41_6, R41_7, clearF_get, f0, rowAV, hx, ld_val]
          refine CalV.pure (may29 l[i]) ?_
          simp [ha, R41_8, R41_11, R41_12, he]
          exact .pure _ (by simp)
      · have ha : l[i].may = false := by simpa using ha
        rw [ha] at he ⊢
        simp at he ⊢
        simp [R41_5, R41_6, R41_7, clearF_get, f0, rowAV, hx, ld_val]
        refine CalV.pure (may29 l[i]) ?_
        simp [ha, R41_9, clearF_get, f1, rowAV, hy, ld_val]
        refine CalV.pure (may29 m[i]) ?_
        by_cases hb : m[i].may = true
        · rw [hb] at he ⊢
          simp at he
          simp [R41_10, R41_11, R41_12, he]
          exact .pure _ (by simp)
        · have hb : m[i].may = false := by simpa using hb
          rw [hb] at he ⊢
          simp at he
          simp [R41_11, R41_13, clearF_get, f13, w, f0, f1, f12, rowAV]
          exact ⟨M - (i + 1), by omega, i + 1, rfl, by omega, by omega, by omega, he⟩
  · have e : i = M := by omega
    rw [rowO_end hi hib (by omega)] at he
    simp [L41_0, R41_2, f12, f13, hlt, R41_14, f0, f1, rowAV, wrap_sm ((l.length : Int) - (m.length : Int)) (by omega) (by omega), he]
    exact .pure _ (by simp)
end Go.Abs
