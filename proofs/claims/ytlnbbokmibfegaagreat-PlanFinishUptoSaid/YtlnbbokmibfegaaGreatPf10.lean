/- PlanFinish: what it answers. -/
import Derived.Test.YtlnbbokmibfegaaGreatPfS
import Derived.Test.YtlnbbokmibfegaaGreatPf7
import Derived.Test.YtlnbbokmibfegaaGreatPf8
namespace Go.Abs
open Go.Proofs
set_option maxRecDepth 100000

theorem ldN_bn {B : Bn} (hB : B.Ok) {K : Hp} {bb : Nat} (hb : K.get bb = some B.blk) : cLoadN 25 (.ptr bb 0) K = .val B.av := by
  have hO : OwnB (.cells 25 [] B.cells .nil) B.cells := .list (Bn.cells_len hB).symm
  obtain ⟨u, z, bs, t, e, hg⟩ := hO.grab (o := 0) (c := 25) (by rw [Bn.cells_len hB]; omega)
  injection e with e1 e2 e3 e4
  subst e1 e2 e3 e4
  rw [List.drop_zero, List.take_of_length_le (by rw [Bn.cells_len hB]; omega)] at hg
  simp [hb, Bn.blk, Bn.av]
theorem finish3 (B : Bn) (hB : B.Ok) (L : List (List Val)) (hL : L.length ≤ 1048576) (hl : ∀ l ∈ L, l.length ≤ 1048576) (hks : B.ks.length ≤ 1048576) : FnPure Tryz.prog 3 [B.av, .ds (rowsC L) L.length 1] (.bool true) := by
  refine pureV c3 (by simp [Bn.pure hB]) (by simp) (by simp [A3]) fun F hF => ?_
  simp [A3, B3, R3_0, hF, Bn.av, R3_1]
  have hH0 : ((Tr.nil : Hp).put 0 (some (.cells 25 [] B.cells .nil))).get 0 = some B.blk := by simp [Bn.blk]
  generalize ((Tr.nil : Hp).put 0 (some (.cells 25 [] B.cells .nil))) = H0 at hH0
  have ldO := Bn.ld hB hH0 (i := 0) rfl
  simp only [Nat.add_zero] at ldO
  by_cases h3 : L.length ≤ 300
  · simp [show ¬ (300 : Int) < (L.length : Int) by omega, R3_3]
    refine LoopV.of (fun t F K n ms => ∃ i, t = L.length - i ∧ i ≤ L.length ∧ F.get 1 = some (.ds (rowsC L) L.length 1) ∧ F.get 2 = some (.ptr 0 0) ∧ F.get 5 = some (.int .i64 (i : Int)) ∧ H0 = K ∧ ms = [] ∧ ∀ j (h : j < L.length), j < i → KyS B.ks L[j]) L.length ⟨0, by simp [hF]⟩ ?_
    clear hF F
    rintro t F H0 n ms ⟨i, rfl, hi, f1, f2, f5, hHK, rfl, hm⟩
    subst hHK
    by_cases hlt : i < L.length
    · have hx := ixa_row (k := .i64) hlt
      have hli := hl L[i] (List.getElem_mem _)
      simp [L3_1, R3_4, f1, f5, hlt, R3_5, hx]
      refine CalV.pure (whole5 L[i] hli) ?_
      cases hw : L[i].all Val.may with
      | false =>
        simp [R3_6]
        refine CalV.pure awake4 ?_
        simp
        exact .pure _ (by simp)
      | true =>
        have hmay : rMay L[i] := fun v hv => List.all_eq_true.1 hw v hv
        simp [R3_7]
        refine LoopV.of (fun t F K n ms => ∃ k, t = B.ks.length - k ∧ k ≤ B.ks.length ∧ F.get 1 = some (.ds (rowsC L) L.length 1) ∧ F.get 2 = some (.ptr 0 0) ∧ F.get 5 = some (.int .i64 (i : Int)) ∧ F.get 6 = some (.int .i64 (k : Int)) ∧ H0 = K ∧ ms = [] ∧ ∀ j (h : j < B.ks.length), j < k → 0 ≤ B.ks[j].at_ ∧ B.ks[j].at_ < (L[i].length : Int)) B.ks.length ⟨0, by simp [f1, f2, f5]⟩ ?_
        clear f1 f2 f5 F n
        rintro t F K n ms ⟨k, rfl, hk, f1, f2, f5, f6, rfl, rfl, hmk⟩
        by_cases hkl : k < B.ks.length
        · have hy := ixa_key (k := .i64) hkl
          simp [L3_0, R3_8, f2, f6, ldO, kAV, hkl, R3_9]
          refine DrwV.of (ce0_ok (P := Tryz.prog)) ?_
          simp [clearF_get, f2, f6, ldO, kAV, hy]
          by_cases h0 : B.ks[k].at_ < 0
          · simp [h0, R3_10]
            refine CalV.pure awake4 ?_
            simp
            exact .pure _ (by simp)
          · by_cases h1 : (L[i].length : Int) ≤ B.ks[k].at_
            · simp [h0, h1, clearF_get, f1, f2, f5, f6, ldO, kAV, hy, hx, rowAV, R3_10]
              refine CalV.pure awake4 ?_
              simp
              exact .pure _ (by simp)
            · simp [h0, h1, R3_11, clearF_get, f1, f2, f5, f6, ldO, kAV, hy, hx, rowAV, wrap_nat k (by omega)]
              refine ⟨B.ks.length - (k + 1), by omega, k + 1, rfl, hkl, rfl, fun j h hj => ?_⟩
              by_cases e : j = k
              · subst e; exact ⟨by omega, by omega⟩
              · exact hmk j h (by omega)
        · obtain rfl : k = B.ks.length := by omega
          simp [L3_0, R3_8, f2, f6, ldO, kAV, R3_12, f1, f5, wrap_nat i (by omega)]
          refine ⟨L.length - (i + 1), by omega, i + 1, rfl, hlt, rfl, fun j h hj => ?_⟩
          by_cases e : j = i
          · subst e
            refine ⟨hmay, fun k hk => ?_⟩
            obtain ⟨m, hm1, rfl⟩ := List.mem_iff_getElem.1 hk
            exact hmk m hm1 hm1
          · exact hm j h (by omega)
    · obtain rfl : i = L.length := by omega
      have hky : ∀ r ∈ L, KyS B.ks r := by
        intro r hr
        obtain ⟨m, hm1, rfl⟩ := List.mem_iff_getElem.1 hr
        exact hm m hm1 hm1
      obtain ⟨S, hS⟩ : ∃ S, S = cutL B.lim B.k (finL B.ks B.d L) := ⟨_, rfl⟩
      have c7' := finish7 B hB L (by omega) hl hks hky
      have c8' := finish8 B hB L (by omega) hl hks hky
      rw [← hS] at c7' c8'
      have hSm : ∀ r ∈ S, r ∈ L := fun r hr => by
        have h1 : r ∈ finL B.ks B.d L := by
          rw [hS] at hr
          unfold cutL at hr
          split at hr
          · exact List.mem_of_mem_take hr
          · exact hr
        unfold finL at h1
        split at h1
        · exact (srtL_perm _ L).mem_iff.1 ((once_mem _ r).1 h1)
        · exact (srtL_perm _ L).mem_iff.1 h1
      have hSl : S.length ≤ 1048576 := by
        have h1 : (finL B.ks B.d L).length ≤ L.length := by
          unfold finL
          have := (srtL_perm (ordK B.ks) L).length_eq
          split
          · have h2 := (once_sub (srtL (ordK B.ks) L)).length_le; omega
          · omega
        have h2 : S.length ≤ (finL B.ks B.d L).length := by
          rw [hS]; unfold cutL
          split
          · simp; omega
          · omega
        omega
      have ldA := ldN_bn hB hH0
      simp [L3_1, R3_4, f1, f5, R3_13]
      refine DrwV.of (ceT_ok (l := [(7, [B.av, .ds (rowsC L) L.length 1], fun H n => .mk (.ds (rowsC S) S.length 1) H n), (8, [B.av, .ds (rowsC L) L.length 1], fun H n => .mk (.ds (rowsC S) S.length 1) H n), (6, [.ds (rowsC S) S.length 1, .ds (rowsC S) S.length 1], fun H n => .mk (.bool true) H n), (4, [], fun H n => .mk (.bool true) H n)]) ?_) ?_
      · intro x hx
        simp only [List.mem_cons, List.not_mem_nil, or_false] at hx
        rcases hx with rfl | rfl | rfl | rfl
        · exact ceT_pure c7'
        · exact ceT_pure c8'
        · exact ceT_pure (by simpa using SameRows7 S S hSl fun r hr => hl r (hSm r hr))
        · exact ceT_pure awake4
      · simp [clearF_get, f1, f2, ldA]
        rw [ceT_hd]
        simp [clearF_get, f1, f2, ldA]
        rw [ceT_tl (by simp), ceT_hd]
        simp
        rw [ceT_tl (by simp), ceT_tl (by simp), ceT_hd]
        simp
        rw [ceT_tl (by simp), ceT_tl (by simp), ceT_tl (by simp), ceT_hd]
        simp
        exact .pure _ (by simp)
  · simp [show (300 : Int) < (L.length : Int) by omega, R3_2]
    refine CalV.pure awake4 ?_
    simp
    exact .pure _ (by simp)
end Go.Abs
