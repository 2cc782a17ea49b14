/- ModelSorts: what it answers. -/
import Derived.Test.YtdcnkelfcmofdaaGreatMsS
import Derived.Test.YtdcnkelfcmofdaaGreatMs9
namespace Go.Abs
open Go.Proofs
set_option maxRecDepth 100000

theorem rowR_ord : OrdL rowR rMay := by
  refine ⟨fun a b ha hb h => ?_, fun a b c ha hb hc h k => ?_⟩
  · rw [rowR_le ha hb] at h
    rw [rowR_le hb ha]
    have := rowO_neg ha hb
    omega
  · rw [rowR_le ha hb] at h
    rw [rowR_le hb hc] at k
    rw [rowR_le ha hc]
    exact rowO_trans ha hb hc h k
theorem sorts3 (L : List (List Val)) (hL : L.length ≤ 1048576) (hl : ∀ l ∈ L, l.length ≤ 1048576) : FnPure Tryz.prog 3 [.ds (rowsC L) L.length 1] (.bool true) := by
  refine pureV c3 (by simp) (by simp) (by simp [A3]) fun F hF => ?_
  simp [A3, B3, R3_0, R3_1, hF]
  by_cases h5 : L.length ≤ 500
  · simp [show ¬ (500 : Int) < (L.length : Int) by omega, R3_3]
    refine LoopV.of (fun t F K n ms => ∃ i, t = L.length - i ∧ i ≤ L.length ∧ F.get 0 = some (.ds (rowsC L) L.length 1) ∧ F.get 3 = some (.int .i64 (i : Int)) ∧ K = .nil ∧ ms = [] ∧ ∀ j (h : j < L.length), j < i → rMay L[j]) L.length ⟨0, by simp [hF]⟩ ?_
    clear hF F
    rintro t F K n ms ⟨i, rfl, hi, f0, f3, rfl, rfl, hm⟩
    by_cases hlt : i < L.length
    · have hx := ixa_row (k := .i64) hlt
      simp [L3_1, R3_4, f0, f3, hlt, R3_5]
      refine LoopV.of (fun t F K n ms => ∃ k, t = L[i].length - k ∧ k ≤ L[i].length ∧ F.get 0 = some (.ds (rowsC L) L.length 1) ∧ F.get 3 = some (.int .i64 (i : Int)) ∧ F.get 4 = some (.int .i64 (k : Int)) ∧ K = .nil ∧ ms = [] ∧ ∀ j (h : j < L[i].length), j < k → L[i][j].may = true) L[i].length ⟨0, by simp [f0, f3]⟩ ?_
      clear f0 f3 F n
      rintro t F K n ms ⟨k, rfl, hk, f0, f3, f4, rfl, rfl, hmk⟩
      have hb := hl L[i] (List.getElem_mem _)
      by_cases hkl : k < L[i].length
      · have hy := ixa_val (k := .i64) hkl
        simp [L3_0, R3_6, f0, f3, f4, hx, rowAV, hkl, R3_7]
        simp [hy, ld_val]
        refine CalV.pure (may5 L[i][k]) ?_
        by_cases hv : L[i][k].may = true
        · simp [hv, R3_9, f4, f0, f3, wrap_nat k (by omega)]
          refine ⟨L[i].length - (k + 1), by omega, k + 1, rfl, hkl, rfl, fun j h hj => ?_⟩
          by_cases e : j = k
          · subst e; exact hv
          · exact hmk j h (by omega)
        · have hv : L[i][k].may = false := by simpa using hv
          simp [hv, R3_8, f0]
          refine CalV.of (sorted6 L h5 hl .nil n) fun v K n' hs => ?_
          obtain ⟨q1, q2, b, vs, T, rfl, q3⟩ := hs
          simp [f0]
          refine CalV.pure awake4 ?_
          simp
          exact .pure _ (by simp)
      · obtain rfl : k = L[i].length := by omega
        simp [L3_0, R3_6, f0, f3, f4, hx, rowAV, R3_10, wrap_nat i (by omega)]
        refine ⟨L.length - (i + 1), by omega, i + 1, rfl, hlt, rfl, fun j h hj => ?_⟩
        by_cases e : j = i
        · subst e
          intro x hx
          obtain ⟨m, hm1, rfl⟩ := List.mem_iff_getElem.1 hx
          exact hmk m hm1 hm1
        · exact hm j h (by omega)
    · obtain rfl : i = L.length := by omega
      have hall : ∀ r ∈ L, rMay r := by
        intro r hr
        obtain ⟨m, hm1, rfl⟩ := List.mem_iff_getElem.1 hr
        exact hm m hm1 hm1
      simp [L3_1, R3_4, f0, f3, R3_11]
      refine CalV.of (sorted6 L h5 hl .nil n) fun v K n' hs => ?_
      simp [f0]
      refine CalV.of (sorted8 (od := rowR) (S := fun r => rMay r ∧ r.length ≤ 1048576) ⟨fun a b ha hb => rowR_ord.tot a b ha.1 hb.1, fun a b c ha hb hc => rowR_ord.trans a b c ha.1 hb.1 hc.1⟩ (fun l m hl hm => Order19 l m hl.2 hm.2 hl.1 hm.1) _ L rfl hL (fun r hr => ⟨hall r hr, hl r hr⟩) K n') fun w K2 n2 ⟨q1, q2, q3, M, q4, q5, q6⟩ => ?_
      obtain ⟨L', p1, p2, p3⟩ := hs.frz (K' := K2) q2
      have hLM : L' = M := sorted_one (p1.trans q4.symm) (fun r hr => hall r (p1.mem_iff.1 hr)) (p2 hall) (q5.imp_of_mem fun ha hb h => (rowR_le (hall _ (q4.mem_iff.1 ha)) (hall _ (q4.mem_iff.1 hb))).1 h)
      subst hLM
      have hlen : L'.length = L.length := p1.length_eq
      rw [← hlen] at p3 q6
      simp
      refine CalV.frz (SameRows7 L' L' (by omega) (fun r hr => hl r (p1.mem_iff.1 hr))) (by simp) (.cons _ _ _ _ p3 (.cons _ _ _ _ (q6.frz (FrzL.pure (by simp))) .nil)) ?_
      simp
      refine CalV.pure awake4 ?_
      simp
      exact .pure _ (by simp)
  · simp [show (500 : Int) < (L.length : Int) by omega, R3_2]
    refine CalV.pure awake4 ?_
    simp
    exact .pure _ (by simp)
end Go.Abs
