/- A part of the proof. -/
import Derived.Test.YtknkdhilieabnaaGreatVm4
namespace Go.Abs
open Go.Proofs
set_option maxRecDepth 100000

set_option maxHeartbeats 2000000 in
theorem in6 (x : Idx) (s : Spn) (row : List Val) (h1 : x.cols.length ≤ 1048576) (h2 : s.eq.length ≤ 1048576) (h3 : row.length ≤ 1048576) : FnPure Tryz.prog 6 [x.av, s.av, rowAV row] (.bool (inB x s row)) := by
  refine pureV c6 (by simp) (by simp) (by simp [A6]) fun F hF => ?_
  by_cases hn : s.n ≤ x.cols.length
  · have g1 : ¬ x.cols.length < s.eq.length := by unfold Spn.n at hn; split at hn <;> omega
    -- behind the places that must be equal
    have contHi : ∀ (F : Fr) (H : Hp) (m c : Nat) (v : Val), F.get 2 = some (rowAV row) → F.get 4 = some (.ptr 1 0) → F.get 11 = some (.int .i64 (c : Int)) →
        H.get 1 = some (.cells 11 [] s.cells .nil) → (∀ i, i < s.n → okAt x.cols s.eq row i) → (hc : c < row.length) → x.cols[s.eq.length]? = some (c : Int) → row[c] = v → (s.hasLo || s.hasHi) = true →
        (s.hasLo = true → lowOk v s.lo s.loIn = true) →
        VC Tryz.prog (.seq (.seq R6_20 (.cond (slotG 137) (.seq R6_21 (.seq R6_22 (.cond (slotG 168) (.seq R6_23 .ret) .skip))) .skip)) (.seq R6_24 .ret)) F H m []
          (RetQ [rTmp 6] fun v1 H' _ => Frz H'.get v1 (.bool (inB x s row))) := by
      intro F H m c v f2 f4 f11 k1 hall hc hcc hrv hends hlow
      have k1' := k1
      simp only [Spn.cells] at k1'
      cases hh : s.hasHi with
      | false =>
        rw [inB_true ⟨hn, hall, fun _ => ⟨c, hc, hcc, fun hl => by rw [hrv]; exact hlow hl, fun h => by rw [hh] at h; cases h⟩⟩]
        simp [R6_20, R6_24, f4, k1', hh]
        exact .bool rfl
      | true =>
        have hr := ixa_val (k := .i64) hc
        rw [hrv] at hr
        simp [R6_20, R6_21, f4, k1', hh]
        refine DrwV.of (ceT_ok (l := [(14, [v.av, s.hi.av], fun H n => .mk (.tup [.int .i64 (v.cmp s.hi).1, .int .i64 (v.cmp s.hi).2]) H n)]) ?_) ?_
        · simp only [List.mem_singleton]; rintro y rfl; exact ceT_pure (compare14 v s.hi)
        · simp [clearF_get, f2, f4, f11, k1', rowAV, hr, ld_val]
          rw [show [v.av, AV.agg [AV.int IntKind.i64 s.hi.kind, AV.int IntKind.i64 s.hi.num, AV.str s.hi.s] 3] = [v.av, s.hi.av] from rfl, ceT_hd]
          have hbad : highOk v s.hi s.hiIn = false → ¬ inP x s row := fun hb h => by
            obtain ⟨c', hc', e1, _, e2⟩ := h.2.2 hends
            rw [hcc] at e1; injection e1 with e1
            have : c = c' := by omega
            subst this
            rw [hrv, hb] at e2; exact absurd (e2 hh) (by simp)
          have hgood : highOk v s.hi s.hiIn = true → inP x s row := fun hb => ⟨hn, hall, fun _ => ⟨c, hc, hcc, fun hl => by rw [hrv]; exact hlow hl, fun _ => by rw [hrv]; exact hb⟩⟩
          generalize hq : v.cmp s.hi = q
          obtain ⟨q1, q2⟩ := q
          simp only [highOk, hq] at hbad hgood
          by_cases a1 : q2 = 0
          · by_cases a2 : s.hi.kind = 0
            · rw [inB_false (hbad (by simp [a2]))]
              simp [clearF_get, f2, f4, k1', R6_22, R6_23, a1, a2]
              exact .bool rfl
            · by_cases a3 : 0 < q1
              · rw [inB_false (hbad (by simp [a3]))]
                simp [clearF_get, f2, f4, k1', R6_22, R6_23, a1, a2, a3]
                exact .bool rfl
              · by_cases a4 : q1 = 0
                · cases a5 : s.hiIn with
                  | false =>
                    rw [inB_false (hbad (by simp [a4, a5]))]
                    simp [clearF_get, f2, f4, k1', R6_22, R6_23, a1, a2, a4, a5]
                    exact .bool rfl
                  | true =>
                    rw [inB_true (hgood (by simp [a1, a2, a4, a5]))]
                    simp [clearF_get, f2, f4, k1', R6_22, R6_24, a1, a2, a4, a5]
                    exact .bool rfl
                · rw [inB_true (hgood (by simp [a1, a2, a3, a4]))]
                  simp [clearF_get, f2, f4, k1', R6_22, R6_24, a1, a2, a3, a4]
                  exact .bool rfl
          · rw [inB_false (hbad (by simp [a1]))]
            simp [clearF_get, f2, f4, k1', R6_22, R6_23, a1]
            exact .bool rfl
    have cont : ∀ (F : Fr) (H : Hp) (m : Nat), F.get 2 = some (rowAV row) → F.get 3 = some (.ptr 0 0) → F.get 4 = some (.ptr 1 0) → F.get 7 = some (.int .i64 (s.eq.length : Int)) → F.get 8 = some (.bool (s.hasLo || s.hasHi)) →
        H.get 0 = some (.cells 6 [] x.cells .nil) → H.get 1 = some (.cells 11 [] s.cells .nil) →
        VC Tryz.prog (.seq (.seq R6_5 (.block 0 (.loop L6_0))) (.seq (.seq R6_11 (.cond (slotG 81) (.seq R6_12 .ret) .skip)) (.seq R6_13 (.seq (.seq R6_14 (.cond (slotG 102) (.seq R6_15 .ret) .skip)) (.seq (.seq R6_16 (.cond (slotG 104) (.seq R6_17 (.seq R6_18 (.cond (slotG 135) (.seq R6_19 .ret) .skip))) .skip)) (.seq (.seq R6_20 (.cond (slotG 137) (.seq R6_21 (.seq R6_22 (.cond (slotG 168) (.seq R6_23 .ret) .skip))) .skip)) (.seq R6_24 .ret))))))) F H m []
          (RetQ [rTmp 6] fun v1 H' _ => Frz H'.get v1 (.bool (inB x s row))) := by
      intro F H m f2 f3 f4 f7 f8 k0 k1
      simp [R6_5]
      refine LoopV.of (fun k F K m ms => ∃ i, k = s.eq.length - i ∧ i ≤ s.eq.length ∧ F.get 2 = some (rowAV row) ∧ F.get 3 = some (.ptr 0 0) ∧ F.get 4 = some (.ptr 1 0) ∧ F.get 7 = some (.int .i64 (s.eq.length : Int)) ∧
        F.get 8 = some (.bool (s.hasLo || s.hasHi)) ∧ F.get 9 = some (.int .i64 (i : Int)) ∧
        K.get 0 = some (.cells 6 [] x.cells .nil) ∧ K.get 1 = some (.cells 11 [] s.cells .nil) ∧ ms = [] ∧ ∀ j, j < i → okAt x.cols s.eq row j) s.eq.length ⟨0, by simp [f2, f3, f4, f7, f8, k0, k1]⟩ ?_
      rintro k F K m ms ⟨i, rfl, hi, f2, f3, f4, f7, f8, f9, k0, k1, rfl, hj⟩
      have k0' := k0
      have k1' := k1
      simp only [Idx.cells] at k0'
      simp only [Spn.cells] at k1'
      have hnn : s.eq.length ≤ s.n := by unfold Spn.n; split <;> omega
      by_cases hlt : i < s.eq.length
      · have hic : i < x.cols.length := by omega
        have hx := ixa_int (l := x.cols) (k := .i64) hic
        have hcc : x.cols[i]? = some x.cols[i] := List.getElem?_eq_getElem hic
        simp [L6_0, R6_6, R6_7, f3, f7, f9, k0', hlt, hx, R6_8]
        refine DrwV.of (ce0_ok (P := Tryz.prog)) ?_
        generalize hcv : x.cols[i] = c at hcc
        by_cases c0 : c < 0
        · rw [inB_false fun h => by
            obtain ⟨cn, _, h1, _⟩ := h.2.1 i (by omega)
            rw [hcc] at h1; injection h1 with h1; omega]
          simp [clearF_get, f2, c0, R6_9, rowAV]
          exact .bool rfl
        · obtain ⟨cn, rfl⟩ := Int.eq_ofNat_of_zero_le (show 0 ≤ c by omega)
          have hneg : ¬ ((cn : Int) < 0) := by omega
          by_cases c1 : cn < row.length
          · have c1' : ¬ row.length ≤ cn := by omega
            have hr := ixa_val (k := .i64) c1
            generalize hrv : row[cn] = v at hr
            have he := ixa_val (k := .i64) hlt
            generalize hev : s.eq[i] = u at he
            by_cases c2 : u.kind = 0
            · rw [inB_false fun h => by
                obtain ⟨cm, _, h1, h2, h4⟩ := h.2.1 i (by omega)
                rw [hcc] at h1; injection h1 with h1
                have : cn = cm := by omega
                subst this; have h4 := h4 hlt; rw [hev] at h4; rw [h4] at h2; exact h2 c2]
              simp [clearF_get, f2, f4, f9, k1', R6_9, rowAV, c1, c1', hneg, he, ld_kind, c2]
              exact .bool rfl
            · by_cases c3 : v = u
              · subst c3
                simp [clearF_get, f2, f3, f4, f7, f8, f9, k1', rowAV, c1, c1', hneg, hr, ld_kind, c2, he, ld_val, eqA_val, R6_10, wrap_nat i (by omega)]
                refine ⟨s.eq.length - (i + 1), by omega, i + 1, rfl, hlt, by omega, k0, rfl, fun j hj' => ?_⟩
                by_cases e : j = i
                · subst e; exact ⟨cn, c1, hcc, by rw [hrv]; exact c2, fun h => by rw [hrv, hev]⟩
                · exact hj j (by omega)
              · rw [inB_false fun h => by
                  obtain ⟨cm, _, h1, _, h2⟩ := h.2.1 i (by omega)
                  rw [hcc] at h1; injection h1 with h1
                  have : cn = cm := by omega
                  subst this; have h2 := h2 hlt; rw [hrv, hev] at h2; exact c3 h2]
                simp [clearF_get, f2, f4, f9, k1', R6_9, rowAV, c1, c1', hneg, hr, ld_kind, c2, he, ld_val, eqA_val, c3]
                exact .bool rfl
          · rw [inB_false fun h => by
              obtain ⟨cm, h0, h1, _⟩ := h.2.1 i (by omega)
              rw [hcc] at h1; injection h1 with h1; omega]
            have : row.length ≤ cn := by omega
            simp [clearF_get, f2, R6_9, rowAV, hneg, this]
            exact .bool rfl
      · have : i = s.eq.length := by omega
        subst this
        simp [L6_0, R6_6, f7, f9, R6_11, f8]
        cases hends : (s.hasLo || s.hasHi) with
        | false =>
          have e : s.n = s.eq.length := by simp [Spn.n, hends]
          rw [inB_true ⟨hn, by rw [e]; exact hj, fun h => by rw [hends] at h; cases h⟩]
          have hl : s.hasLo = false := by cases hq : s.hasLo <;> simp [hq] at hends ⊢
          have hh : s.hasHi = false := by cases hq : s.hasHi <;> simp [hq] at hends ⊢
          simp [hl, hh, R6_12]
          exact .bool rfl
        | true =>
          have e : s.n = s.eq.length + 1 := by simp only [Spn.n, hends, if_true]
          have hic : s.eq.length < x.cols.length := by omega
          have hx := ixa_int (l := x.cols) (k := .i64) hic
          have hcc : x.cols[s.eq.length]? = some x.cols[s.eq.length] := List.getElem?_eq_getElem hic
          have hnot : (!s.hasLo && !s.hasHi) = false := by
            cases hq : s.hasLo <;> cases hq' : s.hasHi <;> simp [hq, hq'] at hends ⊢
          generalize hcv : x.cols[s.eq.length] = c at hcc hx
          have hlast : okAt x.cols s.eq row s.eq.length → ∃ (cn : Nat) (h : cn < row.length), c = (cn : Int) ∧ row[cn].kind ≠ 0 := fun h => by
            obtain ⟨cn, h0, h1, h2, _⟩ := h
            rw [hcc] at h1; injection h1 with h1
            exact ⟨cn, h0, h1, h2⟩
          by_cases c0 : c < 0
          · rw [inB_false fun h => by
              obtain ⟨cn, _, h1, _⟩ := hlast (h.2.1 s.eq.length (by omega))
              omega]
            simp [hnot, R6_13, f2, f3, f7, k0', hx, R6_14, R6_15, c0, rowAV]
            exact .bool rfl
          · obtain ⟨cn, rfl⟩ := Int.eq_ofNat_of_zero_le (show 0 ≤ c by omega)
            have hneg : ¬ ((cn : Int) < 0) := by omega
            by_cases c1 : cn < row.length
            · have c1' : ¬ row.length ≤ cn := by omega
              have hr := ixa_val (k := .i64) c1
              generalize hrv : row[cn] = v at hr
              by_cases c2 : v.kind = 0
              · rw [inB_false fun h => by
                  obtain ⟨cm, _, h1, h2⟩ := hlast (h.2.1 s.eq.length (by omega))
                  have : cn = cm := by omega
                  subst this; rw [hrv] at h2; exact h2 c2]
                simp [hnot, R6_13, f2, f3, f7, k0', hx, R6_14, R6_15, rowAV, c1, c1', hneg, hr, ld_kind, c2]
                exact .bool rfl
              · have hall : ∀ i, i < s.n → okAt x.cols s.eq row i := fun j hj' => by
                  by_cases ej : j = s.eq.length
                  · subst ej; exact ⟨cn, c1, hcc, by rw [hrv]; exact c2, fun h => absurd h (Nat.lt_irrefl _)⟩
                  · exact hj j (by omega)
                cases hl : s.hasLo with
                | false =>
                  have hh : s.hasHi = true := by simpa [hl] using hends
                  simp [hl, hh, R6_13, f2, f3, f4, f7, k0', k1', hx, R6_14, R6_16, rowAV, c1, c1', hneg, hr, ld_kind, c2]
                  refine contHi _ _ _ cn v ?_ ?_ ?_ ?_ hall c1 hcc hrv hends (fun h => by rw [hl] at h; cases h) <;> simp [f2, f4, k1, rowAV]
                | true =>
                  simp [hl, R6_13, f2, f3, f4, f7, k0', k1', hx, R6_14, R6_16, rowAV, c1, c1', hneg, hr, ld_kind, c2, R6_17]
                  refine DrwV.of (ceT_ok (l := [(14, [v.av, s.lo.av], fun H n => .mk (.tup [.int .i64 (v.cmp s.lo).1, .int .i64 (v.cmp s.lo).2]) H n)]) ?_) ?_
                  · simp only [List.mem_singleton]; rintro y rfl; exact ceT_pure (compare14 v s.lo)
                  · simp [clearF_get, f2, f3, f4, f7, k0', k1', rowAV, hr, ld_val]
                    rw [show [v.av, AV.agg [AV.int IntKind.i64 s.lo.kind, AV.int IntKind.i64 s.lo.num, AV.str s.lo.s] 3] = [v.av, s.lo.av] from rfl, ceT_hd]
                    have hbad : lowOk v s.lo s.loIn = false → ¬ inP x s row := fun hb h => by
                      obtain ⟨c', hc', e1, e2, _⟩ := h.2.2 hends
                      rw [hcc] at e1; injection e1 with e1
                      have : cn = c' := by omega
                      subst this
                      rw [hrv, hb] at e2; exact absurd (e2 hl) (by simp)
                    generalize hq : v.cmp s.lo = q
                    obtain ⟨q1, q2⟩ := q
                    have hgood : lowOk v s.lo s.loIn = true → s.hasLo = true → lowOk v s.lo s.loIn = true := fun hb _ => hb
                    have hlo : lowOk v s.lo s.loIn = (!(decide (q2 ≠ 0) || decide (s.lo.kind = 0) || decide (q1 < 0) || (decide (q1 = 0) && !s.loIn))) := by simp only [lowOk, hq]
                    rw [hlo] at hbad
                    by_cases a1 : q2 = 0
                    · by_cases a2 : s.lo.kind = 0
                      · rw [inB_false (hbad (by simp [a2]))]
                        simp [clearF_get, f2, f4, k1', R6_18, R6_19, a1, a2]
                        exact .bool rfl
                      · by_cases a3 : q1 < 0
                        · rw [inB_false (hbad (by simp [a3]))]
                          simp [clearF_get, f2, f4, k1', R6_18, R6_19, a1, a2, a3]
                          exact .bool rfl
                        · by_cases a4 : q1 = 0
                          · cases a5 : s.loIn with
                            | false =>
                              rw [inB_false (hbad (by simp [a4, a5]))]
                              simp [clearF_get, f2, f4, k1', R6_18, R6_19, a1, a2, a4, a5]
                              exact .bool rfl
                            | true =>
                              simp [clearF_get, f2, f4, k1', R6_18, a1, a2, a4, a5]
                              refine contHi _ _ _ cn v ?_ ?_ ?_ ?_ hall c1 hcc hrv hends (hgood (by rw [hlo]; simp [a1, a2, a4, a5])) <;> simp [clearF_get, f2, f4, k1, rowAV]
                          · simp [clearF_get, f2, f4, k1', R6_18, a1, a2, a3, a4]
                            refine contHi _ _ _ cn v ?_ ?_ ?_ ?_ hall c1 hcc hrv hends (hgood (by rw [hlo]; simp [a1, a2, a3, a4])) <;> simp [clearF_get, f2, f4, k1, rowAV]
                    · rw [inB_false (hbad (by simp [a1]))]
                      simp [clearF_get, f2, f4, k1', R6_18, R6_19, a1]
                      exact .bool rfl
            · rw [inB_false fun h => by
                obtain ⟨cm, h0, h1, _⟩ := hlast (h.2.1 s.eq.length (by omega))
                omega]
              have : row.length ≤ cn := by omega
              simp [hnot, R6_13, f2, f3, f7, k0', hx, R6_14, R6_15, hneg, this, rowAV]
              exact .bool rfl
    cases hl : s.hasLo with
    | true =>
      have e : s.n = s.eq.length + 1 := by simp [Spn.n, hl]
      have g2 : ¬ x.cols.length < s.eq.length + 1 := by omega
      simp [A6, B6, R6_0, R6_1, R6_2, R6_3, hF, Idx.av, Idx.cells, Spn.av, Spn.cells, g1, hl, wrap_nat _ (show s.eq.length < 2147483648 by omega)]
      rw [show decide ((x.cols.length : Int) < (s.eq.length : Int) + 1) = false by simp; omega]
      refine cont _ _ _ ?_ ?_ ?_ ?_ ?_ ?_ ?_ <;> simp [hF, Idx.cells, Spn.cells, hl]
    | false =>
      cases hh : s.hasHi with
      | true =>
        have e : s.n = s.eq.length + 1 := by simp [Spn.n, hh]
        simp [A6, B6, R6_0, R6_1, R6_2, R6_3, hF, Idx.av, Idx.cells, Spn.av, Spn.cells, g1, hl, hh, wrap_nat _ (show s.eq.length < 2147483648 by omega)]
        rw [show decide ((x.cols.length : Int) < (s.eq.length : Int) + 1) = false by simp; omega]
        refine cont _ _ _ ?_ ?_ ?_ ?_ ?_ ?_ ?_ <;> simp [hF, Idx.cells, Spn.cells, hl, hh]
      | false =>
        simp [A6, B6, R6_0, R6_1, R6_2, R6_3, hF, Idx.av, Idx.cells, Spn.av, Spn.cells, g1, hl, hh]
        refine cont _ _ _ ?_ ?_ ?_ ?_ ?_ ?_ ?_ <;> simp [hF, Idx.cells, Spn.cells, hl, hh]
  · rw [inB_false fun h => hn h.1]
    by_cases g1 : x.cols.length < s.eq.length
    · cases hl : s.hasLo <;> cases hh : s.hasHi <;>
      · simp [A6, B6, R6_0, R6_1, R6_2, R6_3, R6_4, hF, Idx.av, Idx.cells, Spn.av, Spn.cells, g1, hl, hh]
        exact .bool rfl
    · simp only [Nat.not_lt] at g1
      have g2 : s.eq.length = x.cols.length := by unfold Spn.n at hn; split at hn <;> omega
      have g3 : (s.hasLo || s.hasHi) = true := by
        unfold Spn.n at hn; split at hn
        · assumption
        · omega
      have hw := wrap_nat _ (show s.eq.length < 2147483648 by omega)
      have g4 : ¬ x.cols.length < s.eq.length := by omega
      cases hl : s.hasLo with
      | true =>
        simp [A6, B6, R6_0, R6_1, R6_2, R6_3, R6_4, hF, Idx.av, Idx.cells, Spn.av, Spn.cells, g4, hl, hw]
        rw [show decide ((x.cols.length : Int) < (s.eq.length : Int) + 1) = true by simp; omega]
        simp
        exact .bool rfl
      | false =>
        have hh : s.hasHi = true := by simpa [hl] using g3
        simp [A6, B6, R6_0, R6_1, R6_2, R6_3, R6_4, hF, Idx.av, Idx.cells, Spn.av, Spn.cells, g4, hl, hh, hw]
        rw [show decide ((x.cols.length : Int) < (s.eq.length : Int) + 1) = true by simp; omega]
        simp
        exact .bool rfl
end Go.Abs
