/- The order of rows, as the document has it; rows that are the same. -/
import Derived.Test.YtlnbbokmibfegaaGreatMs2
namespace Go.Abs
open Go.Proofs
set_option maxRecDepth 100000

theorem Order31 (l m : List Val) (hl : l.length ≤ 1048576) (_hm : m.length ≤ 1048576) (al : ∀ v ∈ l, v.may = true) (am : ∀ v ∈ m, v.may = true) : FnPure Tryz.prog 88 [rowAV l, rowAV m] (.int .i64 (rowR l m)) := by
  refine pureV c88 (by simp) (by simp) (by simp [A88]) fun F hF => ?_
  obtain ⟨M, hM⟩ : ∃ M, M = min l.length m.length := ⟨_, rfl⟩
  simp [A88, B88, R88_0, R88_1]
  refine LoopV.of (fun k F K n ms => ∃ i, k = M - i ∧ i ≤ l.length ∧ i ≤ m.length ∧ F.get 0 = some (rowAV l) ∧ F.get 1 = some (rowAV m) ∧ F.get 5 = some (.int .i64 (i : Int)) ∧ K = .nil ∧ ms = [] ∧ rowR l m = rowR (l.drop i) (m.drop i)) M ⟨0, by simp [hF, rowAV]⟩ ?_
  rintro k F K n ms ⟨i, rfl, hi, hib, f0, f1, f5, rfl, rfl, he⟩
  by_cases hlt : i < M
  · have h1 : i < l.length := by omega
    have h2 : i < m.length := by omega
    have hx := ixa_val (k := .i64) h1
    have hy := ixa_val (k := .i64) h2
    rw [rowR_drop h1 h2] at he
    simp [L88_0, R88_2, f0, f1, f5, rowAV, h1, h2, R88_3]
    refine DrwV.of (ceT_ok (l := [(87, [l[i].av, m[i].av], fun H n => .mk (.int .i64 (l[i].ord m[i])) H n)]) ?_) ?_
    · intro x hx
      simp only [List.mem_cons, List.not_mem_nil, or_false] at hx
      subst hx
      exact ceT_pure (Order30 l[i] m[i] (al _ (List.getElem_mem _)) (am _ (List.getElem_mem _)))
    · simp [clearF_get, f0, f1, f5, rowAV, hx, hy, ld_val]
      rw [ceT_hd]
      have w := wrap_nat i (by omega)
      simp [R88_4]
      by_cases hc : l[i].ord m[i] = 0
      · rw [if_neg (by simp [hc])] at he
        simp [hc, R88_6, clearF_get, f0, f1, f5, w, rowAV]
        exact ⟨M - (i + 1), by omega, i + 1, rfl, by omega, by omega, by omega, he⟩
      · rw [if_pos hc] at he
        simp [hc, R88_5, he]
        exact .pure _ (by simp)
  · rw [rowR_end hi hib (by omega)] at he
    by_cases c1 : i < l.length
    · have c2 : ¬ i < m.length := by omega
      have c9003 : m.length < l.length := by omega
      have c4 : ¬ l.length < m.length := by omega
      simp [L88_0, R88_2, f0, f1, f5, rowAV, c1, c2, c9003, c4, R88_7, R88_9, R88_10, he]
      exact .pure _ (by simp)
    · by_cases c2 : l.length < m.length
      · simp [L88_0, R88_2, f0, f1, f5, rowAV, c1, c2, R88_7, R88_8, he]
        exact .pure _ (by simp)
      · have c9003 : ¬ m.length < l.length := by omega
        simp [L88_0, R88_2, f0, f1, f5, rowAV, c1, c2, c9003, R88_7, R88_9, R88_11, he]
        exact .pure _ (by simp)

theorem Order19 (l m : List Val) (hl : l.length ≤ 1048576) (hm : m.length ≤ 1048576) (al : ∀ v ∈ l, v.may = true) (am : ∀ v ∈ m, v.may = true) : FnPure Tryz.prog 45 [rowAV l, rowAV m, .cst (.slice none 0 0)] (.int .i64 (rowR l m)) := by
  refine pureV c45 (by simp) (by simp) (by simp [A45]) fun F hF => ?_
  simp [A45, B45, R45_0, R45_1]
  refine LoopV.of (fun k F K n ms => k = 0 ∧ F.get 0 = some (rowAV l) ∧ F.get 1 = some (rowAV m) ∧ F.get 2 = some (.cst (.slice none 0 0)) ∧ F.get 7 = some (.int .i64 0) ∧ K = .nil ∧ ms = []) 0 (by simp [hF]) ?_
  rintro k F K n ms ⟨rfl, f0, f1, f2, f7, rfl, rfl⟩
  simp [L45_0, R45_2, f2, f7, R45_9, f0, f1]
  refine CalV.pure (Order31 l m hl hm al am) ?_
  simp
  exact .pure _ (by simp)

theorem Same18 (l m : List Val) (hl : l.length ≤ 1048576) : FnPure Tryz.prog 16 [rowAV l, rowAV m] (.bool (decide (l = m))) := by
  refine pureV c16 (by simp) (by simp) (by simp [A16]) fun F hF => ?_
  simp [A16, B16, R16_0, R16_1, hF, rowAV]
  by_cases hlm : l.length = m.length
  · simp [hlm, R16_3]
    refine LoopV.of (fun k F K n ms => ∃ i, k = l.length - i ∧ i ≤ l.length ∧ F.get 0 = some (rowAV l) ∧ F.get 1 = some (rowAV m) ∧ F.get 5 = some (.int .i64 (i : Int)) ∧ K = .nil ∧ ms = [] ∧ (l = m ↔ l.drop i = m.drop i)) l.length ⟨0, by simp [hF, rowAV]⟩ ?_
    rintro k F K n ms ⟨i, rfl, hi, f0, f1, f5, rfl, rfl, he⟩
    by_cases hlt : i < l.length
    · have h2 : i < m.length := by omega
      have hx := ixa_val (k := .i64) hlt
      have hy := ixa_val (k := .i64) h2
      rw [List.drop_eq_getElem_cons hlt, List.drop_eq_getElem_cons h2, List.cons.injEq] at he
      simp [L16_0, R16_4, f0, f5, rowAV, hlt, R16_5]
      refine DrwV.of (ce0_ok (P := Tryz.prog)) ?_
      simp [clearF_get, f0, f1, f5, rowAV, hx, hy, ld_val, eqA_val]
      by_cases hc : l[i] = m[i]
      · have w := wrap_nat i (by omega)
        simp [hc, R16_7, clearF_get, f0, f1, f5, w, rowAV]
        exact ⟨l.length - (i + 1), by omega, i + 1, rfl, by omega, by omega, by rw [he]; simp [hc]⟩
      · have : ¬ l = m := fun e => hc (he.1 e).1
        simp [hc, R16_6, this]
        exact .pure _ (by simp)
    · have e : i = l.length := by omega
      have : l = m := he.2 (by rw [e, List.drop_length, hlm, List.drop_length])
      subst this
      simp [L16_0, R16_4, f0, f5, rowAV, hlt, R16_8]
      exact .pure _ (by simp)
  · have : ¬ l = m := fun e => hlm (by rw [e])
    simp [hlm, R16_2, this]
    exact .pure _ (by simp)
end Go.Abs
