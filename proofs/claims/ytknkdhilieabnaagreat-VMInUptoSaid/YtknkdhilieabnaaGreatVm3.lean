/- A part of the proof. -/
import Derived.Test.YtknkdhilieabnaaGreatVm2
namespace Go.Abs
open Go.Proofs
set_option maxRecDepth 100000

def Val.ord (v u : Val) : Int := if v.kind = u.kind then (if v.kind = 2 then cmpL v.s u.s else if v.num < u.num then -1 else if u.num < v.num then 1 else 0) else (if rk v.kind < rk u.kind then -1 else 1)
theorem order21 (v u : Val) : FnPure Tryz.prog 21 [v.av, u.av] (.int .i64 (v.ord u)) := by
  refine pureV c21 (by simp) (by simp) (by simp [A21]) fun F hF => ?_
  obtain ⟨k, a, s⟩ := v
  obtain ⟨q, b, t⟩ := u
  simp only [Val.ord]
  by_cases hk : k = q
  · subst hk
    by_cases h2 : k = 2
    · subst h2
      simp [A21, B21, R21_0, R21_1, R21_5, R21_6, hF, Val.av]
      refine CalV.pure (comp43 s t) ?_
      simp
      exact .pure _ (by simp)
    · by_cases h3 : a < b
      · simp [A21, B21, R21_0, R21_1, R21_5, R21_7, R21_8, hF, Val.av, h2, h3]
        exact .pure _ (by simp)
      · by_cases h4 : b < a
        · simp [A21, B21, R21_0, R21_1, R21_5, R21_7, R21_9, R21_10, hF, Val.av, h2, h3, h4]
          exact .pure _ (by simp)
        · simp [A21, B21, R21_0, R21_1, R21_5, R21_7, R21_9, R21_11, hF, Val.av, h2, h3, h4]
          exact .pure _ (by simp)
  · simp [A21, B21, R21_0, R21_1, R21_2, hF, Val.av, hk]
    refine DrwV.of (ceT_ok (l := [(42, [.int .i64 k], fun H n => .mk (.int .i64 (rk k)) H n), (42, [.int .i64 q], fun H n => .mk (.int .i64 (rk q)) H n)]) ?_) ?_
    · intro x hx
      simp only [List.mem_cons, List.not_mem_nil, or_false] at hx
      rcases hx with rfl | rfl
      · exact ceT_pure (rank42 k)
      · exact ceT_pure (rank42 q)
    · simp [clearF_get, hF]
      rw [ceT_hd]
      simp [clearF_get, hF]
      rw [ceT_tl (fun _ h => by simp at h; exact absurd h.symm hk), ceT_hd]
      simp [clearF_get, hF]
      by_cases hr : rk k < rk q
      · simp [hr, R21_3]
        exact .pure _ (by simp)
      · simp [hr, R21_4]
        exact .pure _ (by simp)
theorem rk_pl {k : Int} (h : k = 0 ∨ k = 1 ∨ k = 2 ∨ k = 3) : rk k = pl k := by
  rcases h with rfl | rfl | rfl | rfl <;> rfl
theorem Val.may_kind {v : Val} (h : v.may = true) : v.kind = 0 ∨ v.kind = 1 ∨ v.kind = 2 ∨ v.kind = 3 := by
  unfold Val.may at h
  by_cases h0 : v.kind = 0
  · exact .inl h0
  by_cases h1 : v.kind = 1
  · exact .inr (.inl h1)
  by_cases h2 : v.kind = 2
  · exact .inr (.inr (.inl h2))
  by_cases h3 : v.kind = 3
  · exact .inr (.inr (.inr h3))
  simp [h0, h1, h2, h3] at h
theorem Val.may_len {v : Val} (h : v.may = true) (h2 : v.kind = 2) : v.s.length ≤ 64 := by
  unfold Val.may at h
  simp [h2] at h
  exact h.2
theorem Order23 (v u : Val) (hv : v.may = true) (hu : u.may = true) : FnPure Tryz.prog 23 [v.av, u.av] (.int .i64 (v.ord u)) := by
  refine pureV c23 (by simp) (by simp) (by simp [A23]) fun F hF => ?_
  have kv := Val.may_kind hv
  have ku := Val.may_kind hu
  have lv := Val.may_len hv
  have lu := Val.may_len hu
  clear hv hu
  obtain ⟨k, a, s⟩ := v
  obtain ⟨q, b, t⟩ := u
  simp only at kv ku lv lu
  simp only [Val.ord]
  have ev := rk_pl kv
  have eu := rk_pl ku
  have inj : pl k = pl q ↔ k = q := by
    rcases kv with rfl | rfl | rfl | rfl <;> rcases ku with rfl | rfl | rfl | rfl <;> decide
  rw [ev, eu]
  have fin : ∀ (F : Fr) (H : Hp) (m : Nat), F.get 2 = some (.ptr 0 0) → F.get 3 = some (.ptr 1 0) → F.get 5 = some (.int .i64 (pl k)) → F.get 6 = some (.int .i64 (pl q)) →
      H.get 0 = some (.cells 3 [] [.int .i64 k, .int .i64 a, .str s] .nil) → H.get 1 = some (.cells 3 [] [.int .i64 q, .int .i64 b, .str t] .nil) →
      VC Tryz.prog (.seq (.seq R23_2 (.cond (slotG 15) (.seq R23_3 .ret) .skip)) (.seq (.seq R23_4 (.cond (slotG 18) (.seq R23_5 .ret) .skip)) (.seq (.seq R23_6 (.cond (slotG 21) (.seq R23_7 .ret) .skip)) (.seq (.seq R23_8 (.cond (slotG 31) (.seq R23_9 .ret) .skip)) (.seq (.seq R23_10 (.cond (slotG 36) (.seq R23_11 .ret) .skip)) (.seq R23_12 .ret)))))) F H m []
        (RetQ [rTmp 4] fun v1 H' _ => Frz H'.get v1 (.int .i64 (if k = q then (if k = 2 then cmpL s t else if a < b then -1 else if b < a then 1 else 0) else (if pl k < pl q then -1 else 1)))) := by
    intro F H m f2 f3 f5 f6 h0 h1
    by_cases hk : k = q
    · subst hk
      by_cases h2 : k = 2
      · subst h2
        simp [R23_2, R23_4, R23_6, R23_7, f2, f3, f5, f6, h0, h1]
        have := lv rfl
        have := lu rfl
        refine CalV.pure (bytes45 s t (by omega) (by omega)) ?_
        simp
        exact .pure _ (by simp)
      · by_cases h3 : a < b
        · simp [R23_2, R23_4, R23_6, R23_8, R23_9, f2, f3, f5, f6, h0, h1, h2, h3]
          exact .pure _ (by simp)
        · by_cases h4 : b < a
          · simp [R23_2, R23_4, R23_6, R23_8, R23_10, R23_11, f2, f3, f5, f6, h0, h1, h2, h3, h4]
            exact .pure _ (by simp)
          · simp [R23_2, R23_4, R23_6, R23_8, R23_10, R23_12, f2, f3, f5, f6, h0, h1, h2, h3, h4]
            exact .pure _ (by simp)
    · by_cases hr : pl k < pl q
      · simp [R23_2, R23_3, f5, f6, hr, hk]
        exact .pure _ (by simp)
      · have : pl q < pl k := by
          have : pl k ≠ pl q := fun e => hk (inj.1 e)
          omega
        simp [R23_2, R23_4, R23_5, f5, f6, hr, this, hk]
        exact .pure _ (by simp)
  simp [A23, B23, R23_0, R23_1, hF, Val.av]
  refine DrwV.of (ceT_ok (l := [(44, [.int .i64 k], fun H n => .mk (.int .i64 (pl k)) H n), (44, [.int .i64 q], fun H n => .mk (.int .i64 (pl q)) H n)]) ?_) ?_
  · intro x hx
    simp only [List.mem_cons, List.not_mem_nil, or_false] at hx
    rcases hx with rfl | rfl
    · exact ceT_pure (place44 k)
    · exact ceT_pure (place44 q)
  · simp [clearF_get, hF]
    rw [ceT_hd]
    simp [clearF_get, hF]
    rw [ceT_tl (fun _ h H n => by simp at h; subst h; rw [ceT_hd]), ceT_hd]
    simp [clearF_get, hF]
    refine fin _ _ _ ?_ ?_ ?_ ?_ ?_ ?_ <;> simp [clearF_get, hF]
def Val.cmp (v u : Val) : Int × Int := if v.may && u.may then (v.ord u, 0) else (0, 5)
theorem compare13 (v u : Val) : FnPure Tryz.prog 13 [v.av, u.av] (.tup [.int .i64 (v.cmp u).1, .int .i64 (v.cmp u).2]) := by
  refine pureV c13 (by simp) (by simp) (by simp [A13]) fun F hF => ?_
  unfold Val.cmp
  simp [A13, B13, R13_0, R13_1, hF, Val.av]
  refine CalV.pure (may20 v) ?_
  generalize hv : v.may = p
  cases p with
  | false =>
    simp [R13_2]
    exact .pure _ (by simp)
  | true =>
    simp [hF]
    refine CalV.pure (may20 u) ?_
    generalize hu : u.may = p
    cases p with
    | false =>
      simp [R13_2]
      exact .pure _ (by simp)
    | true =>
      simp [R13_3]
      refine CalV.pure (order21 v u) ?_
      simp
      exact .pure _ (by simp)
theorem compare14 (v u : Val) : FnPure Tryz.prog 14 [v.av, u.av] (.tup [.int .i64 (v.cmp u).1, .int .i64 (v.cmp u).2]) := by
  refine pureV c14 (by simp) (by simp) (by simp [A14]) fun F hF => ?_
  unfold Val.cmp
  simp [A14, B14, R14_0, R14_1, hF, Val.av]
  refine CalV.pure (may22 v) ?_
  generalize hv : v.may = p
  cases p with
  | false =>
    simp [R14_2]
    exact .pure _ (by simp)
  | true =>
    simp [hF]
    refine CalV.pure (may22 u) ?_
    generalize hu : u.may = p
    cases p with
    | false =>
      simp [R14_2]
      exact .pure _ (by simp)
    | true =>
      simp [R14_3]
      refine CalV.pure (Order23 v u hv hu) ?_
      simp
      exact .pure _ (by simp)
end Go.Abs
