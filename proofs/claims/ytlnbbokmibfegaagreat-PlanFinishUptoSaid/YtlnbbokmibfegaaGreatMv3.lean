/- A part of the proof. -/
import Derived.Test.YtlnbbokmibfegaaGreatMv2
namespace Go.Abs
open Go.Proofs
set_option maxRecDepth 100000

def Val.ord (v u : Val) : Int := if v.kind = u.kind then (if v.kind = 2 then cmpL v.s u.s else if v.num < u.num then -1 else if u.num < v.num then 1 else 0) else (if rk v.kind < rk u.kind then -1 else 1)
theorem order69 (v u : Val) : FnPure Tryz.prog 44 [v.av, u.av] (.int .i64 (v.ord u)) := by
  refine pureV c44 (by simp) (by simp) (by simp [A44]) fun F hF => ?_
  obtain ⟨k, a, s⟩ := v
  obtain ⟨q, b, t⟩ := u
  simp only [Val.ord]
  by_cases hk : k = q
  · subst hk
    by_cases h2 : k = 2
    · subst h2
      simp [A44, B44, R44_0, R44_1, R44_5, R44_6, hF, Val.av]
      refine CalV.pure (comp129 s t) ?_
      simp
      exact .pure _ (by simp)
    · by_cases h3 : a < b
      · simp [A44, B44, R44_0, R44_1, R44_5, R44_7, R44_8, hF, Val.av, h2, h3]
        exact .pure _ (by simp)
      · by_cases h4 : b < a
        · simp [A44, B44, R44_0, R44_1, R44_5, R44_7, R44_9, R44_10, hF, Val.av, h2, h3, h4]
          exact .pure _ (by simp)
        · simp [A44, B44, R44_0, R44_1, R44_5, R44_7, R44_9, R44_11, hF, Val.av, h2, h3, h4]
          exact .pure _ (by simp)
  · simp [A44, B44, R44_0, R44_1, R44_2, hF, Val.av, hk]
    refine DrwV.of (ceT_ok (l := [(85, [.int .i64 k], fun H n => .mk (.int .i64 (rk k)) H n), (85, [.int .i64 q], fun H n => .mk (.int .i64 (rk q)) H n)]) ?_) ?_
    · intro x hx
      simp only [List.mem_cons, List.not_mem_nil, or_false] at hx
      rcases hx with rfl | rfl
      · exact ceT_pure (rank128 k)
      · exact ceT_pure (rank128 q)
    · simp [clearF_get]
      rw [ceT_hd]
      simp [clearF_get]
      rw [ceT_tl (fun _ h => by simp at h; exact absurd h.symm hk), ceT_hd]
      simp
      by_cases hr : rk k < rk q
      · simp [hr, R44_3]
        exact .pure _ (by simp)
      · simp [hr, R44_4]
        exact .pure _ (by simp)
theorem rk_pl {k : Int} (h : k = 0 ∨ k = 1 ∨ k = 2 ∨ k = 3) : rk k = pl k := by
  rcases h with rfl | rfl | rfl | rfl <;> rfl
theorem Val.may_kind {v : Val} (h : v.may = true) : v.kind = 0 ∨ v.kind = 1 ∨ v.kind = 2 ∨ v.kind = 3 := by
  unfold Val.may at h
  by_cases h0 : v.kind = 0
  · exact .inl h0
  by_cases h1 : v.kind = 1
  · exact .inr (.inl h1)
  by_cases h2 : v.kind = 2
  · exact .inr (.inr (.inl h2))
  by_cases h3 : v.kind = 3
  · exact .inr (.inr (.inr h3))
  simp [h0, h1, h2, h3] at h
theorem Val.may_len {v : Val} (h : v.may = true) (h2 : v.kind = 2) : v.s.length ≤ 64 := by
  unfold Val.may at h
  simp [h2] at h
  exact h.2
theorem Order30 (v u : Val) (hv : v.may = true) (hu : u.may = true) : FnPure Tryz.prog 87 [v.av, u.av] (.int .i64 (v.ord u)) := by
  refine pureV c87 (by simp) (by simp) (by simp [A87]) fun F hF => ?_
  have kv := Val.may_kind hv
  have ku := Val.may_kind hu
  have lv := Val.may_len hv
  have lu := Val.may_len hu
  clear hv hu
  obtain ⟨k, a, s⟩ := v
  obtain ⟨q, b, t⟩ := u
  simp only at kv ku lv lu
  simp only [Val.ord]
  have ev := rk_pl kv
  have eu := rk_pl ku
  have inj : pl k = pl q ↔ k = q := by
    rcases kv with rfl | rfl | rfl | rfl <;> rcases ku with rfl | rfl | rfl | rfl <;> decide
  rw [ev, eu]
  have fin : ∀ (F : Fr) (H : Hp) (m : Nat), F.get 2 = some (.ptr 0 0) → F.get 3 = some (.ptr 1 0) → F.get 5 = some (.int .i64 (pl k)) → F.get 6 = some (.int .i64 (pl q)) →
      H.get 0 = some (.cells 3 [] [.int .i64 k, .int .i64 a, .str s] .nil) → H.get 1 = some (.cells 3 [] [.int .i64 q, .int .i64 b, .str t] .nil) →
      VC Tryz.prog (.seq (.seq R87_2 (.cond (slotG 15) (.seq R87_3 .ret) .skip)) (.seq (.seq R87_4 (.cond (slotG 18) (.seq R87_5 .ret) .skip)) (.seq (.seq R87_6 (.cond (slotG 21) (.seq R87_7 .ret) .skip)) (.seq (.seq R87_8 (.cond (slotG 31) (.seq R87_9 .ret) .skip)) (.seq (.seq R87_10 (.cond (slotG 36) (.seq R87_11 .ret) .skip)) (.seq R87_12 .ret)))))) F H m []
        (RetQ [rTmp 4] fun v1 H' _ => Frz H'.get v1 (.int .i64 (if k = q then (if k = 2 then cmpL s t else if a < b then -1 else if b < a then 1 else 0) else (if pl k < pl q then -1 else 1)))) := by
    intro F H m f2 f3 f5 f6 h0 h1
    by_cases hk : k = q
    · subst hk
      by_cases h2 : k = 2
      · subst h2
        simp [R87_2, R87_4, R87_6, R87_7, f2, f3, f5, f6, h0, h1]
        have := lv rfl
        have := lu rfl
        refine CalV.pure (bytes71 s t (by omega) (by omega)) ?_
        simp
        exact .pure _ (by simp)
      · by_cases h3 : a < b
        · simp [R87_2, R87_4, R87_6, R87_8, R87_9, f2, f3, f5, f6, h0, h1, h2, h3]
          exact .pure _ (by simp)
        · by_cases h4 : b < a
          · simp [R87_2, R87_4, R87_6, R87_8, R87_10, R87_11, f2, f3, f5, f6, h0, h1, h2, h3, h4]
            exact .pure _ (by simp)
          · simp [R87_2, R87_4, R87_6, R87_8, R87_10, R87_12, f2, f3, f5, f6, h0, h1, h2, h3, h4]
            exact .pure _ (by simp)
    · by_cases hr : pl k < pl q
      · simp [R87_2, R87_3, f5, f6, hr, hk]
        exact .pure _ (by simp)
      · have : pl q < pl k := by
          have : pl k ≠ pl q := fun e => hk (inj.1 e)
          omega
        simp [R87_2, R87_4, R87_5, f5, f6, hr, this, hk]
        exact .pure _ (by simp)
  simp [A87, B87, R87_0, R87_1, hF, Val.av]
  refine DrwV.of (ceT_ok (l := [(148, [.int .i64 k], fun H n => .mk (.int .i64 (pl k)) H n), (148, [.int .i64 q], fun H n => .mk (.int .i64 (pl q)) H n)]) ?_) ?_
  · intro x hx
    simp only [List.mem_cons, List.not_mem_nil, or_false] at hx
    rcases hx with rfl | rfl
    · exact ceT_pure (place70 k)
    · exact ceT_pure (place70 q)
  · simp [clearF_get]
    rw [ceT_hd]
    simp [clearF_get]
    rw [ceT_tl (fun _ h H n => by simp at h; subst h; rw [ceT_hd]), ceT_hd]
    simp
    refine fin _ _ _ ?_ ?_ ?_ ?_ ?_ ?_ <;> simp [clearF_get]
def Val.cmp (v u : Val) : Int × Int := if v.may && u.may then (v.ord u, 0) else (0, 5)
theorem compare28 (v u : Val) : FnPure Tryz.prog 22 [v.av, u.av] (.tup [.int .i64 (v.cmp u).1, .int .i64 (v.cmp u).2]) := by
  refine pureV c22 (by simp) (by simp) (by simp [A22]) fun F hF => ?_
  unfold Val.cmp
  simp [A22, B22, R22_0, R22_1, hF, Val.av]
  refine CalV.pure (may29 v) ?_
  generalize hv : v.may = p
  cases p with
  | false =>
    simp [R22_2]
    exact .pure _ (by simp)
  | true =>
    simp
    refine CalV.pure (may29 u) ?_
    generalize hu : u.may = p
    cases p with
    | false =>
      simp [R22_2]
      exact .pure _ (by simp)
    | true =>
      simp [R22_3]
      refine CalV.pure (order69 v u) ?_
      simp
      exact .pure _ (by simp)
end Go.Abs
