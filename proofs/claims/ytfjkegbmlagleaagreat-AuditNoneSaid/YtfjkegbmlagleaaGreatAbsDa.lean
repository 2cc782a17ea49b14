/- The abstract machine: regions that draw their order. Part four: the plan's checks. -/
import Derived.Test.YtfjkegbmlagleaaGreatAbsI
namespace Go.Abs

theorem ancE_spec {T : Tr Nat} : ∀ (es : List Edge) (s p : Nat), tb (ancE T es s) p = true → tb s p = true ∨ ∃ e ∈ es, Region.binds .any e = true ∧ (p = e.on ∨ ∃ m, T.get e.on = some m ∧ tb m p = true)
  | [], s, p, h => .inl h
  | e :: es, s, p, h => by
    simp only [ancE] at h
    split at h
    · rename_i hb
      rcases ancE_spec es _ p h with h1 | ⟨e', h1, h2⟩
      · rw [tb_lor, tb_lor, tb_one] at h1
        simp only [Bool.or_eq_true, decide_eq_true_eq] at h1
        rcases h1 with (h1 | h1) | h1
        · exact .inl h1
        · exact .inr ⟨e, by simp, hb, .inl h1.symm⟩
        · cases hm : T.get e.on with
          | none => rw [hm] at h1; simp [tb_zero] at h1
          | some m => rw [hm] at h1; exact .inr ⟨e, by simp, hb, .inr ⟨m, hm, h1⟩⟩
      · exact .inr ⟨e', by simp [h1], h2⟩
    · rcases ancE_spec es _ p h with h1 | ⟨e', h1, h2⟩
      · exact .inl h1
      · exact .inr ⟨e', by simp [h1], h2⟩

theorem ancT_spec : ∀ (l : List Oper) (i : Nat) (T : Tr Nat), (∀ x, i ≤ x → T.get x = none) → (∀ x, x < i → (ancT l i T).get x = T.get x) ∧
    ∀ k o, l[k]? = some o → ∃ T', (ancT l i T).get (i + k) = some (ancE T' o.after.toList 0) ∧ ∀ x m, T'.get x = some m → (ancT l i T).get x = some m
  | [], i, T, h => ⟨fun x _ => rfl, fun k o hk => by simp at hk⟩
  | o :: l, i, T, h => by
    have e0 : ancT (o :: l) i T = ancT l (i + 1) (T.put i (some (ancE T o.after.toList 0))) := by simp only [ancT, forceN_eq]
    rw [e0]
    obtain ⟨h1, h2⟩ := ancT_spec l (i + 1) (T.put i (some (ancE T o.after.toList 0))) (fun x hx => by rw [Tr.get_put, if_neg (by omega)]; exact h x (by omega))
    refine ⟨fun x hx => ?_, fun k o' hk => ?_⟩
    · rw [h1 x (by omega), Tr.get_put, if_neg (by omega)]
    · cases k with
      | zero =>
        simp at hk; subst hk
        refine ⟨T, ?_, fun x m hm => ?_⟩
        · rw [show i + 0 = i from rfl, h1 i (by omega), Tr.get_put, if_pos rfl]
        · have hx : x < i := by
            rcases Nat.lt_or_ge x i with hx | hx
            · exact hx
            · rw [h x hx] at hm; cases hm
          rw [h1 x (by omega), Tr.get_put, if_neg (by omega)]; exact hm
      | succ k =>
        obtain ⟨T', h3, h4⟩ := h2 k o' (by simpa using hk)
        exact ⟨T', by rw [show i + (k + 1) = i + 1 + k by omega]; exact h3, h4⟩

theorem anc_spec {ops : Array Oper} {i : Nat} {o : Oper} (ho : ops[i]? = some o) {p : Nat} (h : tb (ancOf (ancT ops.toList 0 .nil) i) p = true) :
    ∃ e ∈ o.after, Region.binds .any e = true ∧ (p = e.on ∨ tb (ancOf (ancT ops.toList 0 .nil) e.on) p = true) := by
  obtain ⟨_, h2⟩ := ancT_spec ops.toList 0 .nil (fun x _ => rfl)
  obtain ⟨T', h3, h4⟩ := h2 i o (by simpa using ho)
  rw [Nat.zero_add] at h3
  unfold ancOf at h
  rw [h3] at h
  rcases ancE_spec _ _ _ h with h5 | ⟨e, he, hb, h6⟩
  · rw [tb_zero] at h5; cases h5
  · refine ⟨e, by simpa using he, hb, ?_⟩
    rcases h6 with h6 | ⟨m, h7, h8⟩
    · exact .inl h6
    · right; unfold ancOf; rw [h4 _ _ h7]; exact h8

theorem dstT_spec : ∀ (l : List Oper) (i : Nat) (T D : Tr Nat), dstT l i T = some D → (∀ t p, T.get t = some p → D.get t = some p) ∧ ∀ k o d, l[k]? = some o → o.dst = some d → D.get d = some (i + k)
  | [], i, T, D, h => by
    simp only [dstT] at h; injection h with h; subst h
    exact ⟨fun _ _ h => h, fun k o d hk => by simp at hk⟩
  | o :: l, i, T, D, h => by
    simp only [dstT] at h
    split at h
    · rename_i hn
      obtain ⟨h1, h2⟩ := dstT_spec l (i + 1) T D h
      refine ⟨h1, fun k o' d hk hd => ?_⟩
      cases k with
      | zero => simp at hk; subst hk; rw [hn] at hd; cases hd
      | succ k => rw [h2 k o' d (by simpa using hk) hd]; congr 1; omega
    · rename_i d0 hn
      split at h
      · rename_i hg
        obtain ⟨h1, h2⟩ := dstT_spec l (i + 1) _ D h
        refine ⟨fun t p hp => h1 t p ?_, fun k o' d hk hd => ?_⟩
        · rw [Tr.get_put]
          split
          · rename_i e; subst e; rw [hg] at hp; cases hp
          · exact hp
        · cases k with
          | zero =>
            simp at hk; subst hk
            rw [hn] at hd; injection hd with hd; subst hd
            rw [h1 d0 i (by rw [Tr.get_put, if_pos rfl])]; rfl
          | succ k => rw [h2 k o' d (by simpa using hk) hd]; congr 1; omega
      · cases h
theorem dok_of {ops : Array Oper} {D : Tr Nat} (h : dstT ops.toList 0 .nil = some D) : DOk D ops := by
  intro i o d ho hd
  obtain ⟨_, h2⟩ := dstT_spec _ _ _ _ h
  rw [h2 i o d (by simpa using ho) hd]; simp

theorem backE_spec : ∀ (es : List Edge) (i : Nat), backE es i = true → ∀ e ∈ es, Region.binds .any e = true → e.on < i
  | [], i, _, e, he => by cases he
  | x :: es, i, h, e, he => by
    intro hb
    simp only [backE] at h
    split at h
    · cases hx : Nat.blt x.on i with
      | false => rw [hx] at h; cases h
      | true =>
        rw [hx] at h
        rcases List.mem_cons.1 he with rfl | he
        · exact Nat.le_of_ble_eq_true hx
        · exact backE_spec es i h e he hb
    · rename_i hx
      rcases List.mem_cons.1 he with rfl | he
      · rw [hb] at hx; cases hx
      · exact backE_spec es i h e he hb
theorem backs_spec : ∀ (l : List Oper) (i : Nat), backs l i = true → ∀ k o, l[k]? = some o → ∀ e ∈ o.after, Region.binds .any e = true → e.on < i + k
  | [], i, _, k, o, hk => by simp at hk
  | x :: l, i, h, k, o, hk => by
    intro e he hb
    simp only [backs, Bool.and_eq_true] at h
    cases k with
    | zero => simp at hk; subst hk; exact backE_spec _ _ h.1 e (by simpa using he) hb
    | succ k => have := backs_spec l (i + 1) h.2 k o (by simpa using hk) e he hb; omega

theorem onceIn_spec : ∀ (l : List PItem) (s s' : Nat), onceIn l s = some s' → (l.map idxOf).Nodup ∧ (∀ x ∈ l, tb s (idxOf x) = false) ∧ ∀ p, tb s' p = true → tb s p = true ∨ p ∈ l.map idxOf
  | [], s, s', h => by
    simp only [onceIn] at h; injection h with h; subst h
    exact ⟨by simp, fun x hx => (by cases hx), fun p hp => .inl hp⟩
  | x :: l, s, s', h => by
    simp only [onceIn] at h
    cases hx : tb s (idxOf x) with
    | true => rw [hx] at h; cases h
    | false =>
      rw [hx] at h
      obtain ⟨h1, h2, h3⟩ := onceIn_spec l _ s' h
      have h4 : ∀ y ∈ l, tb s (idxOf y) = false ∧ idxOf x ≠ idxOf y := by
        intro y hy
        have := h2 y hy
        rw [tb_lor, tb_one] at this
        simp only [Bool.or_eq_false_iff, decide_eq_false_iff_not] at this
        exact this
      refine ⟨?_, ?_, ?_⟩
      · rw [List.map_cons, List.nodup_cons]
        refine ⟨fun hm => ?_, h1⟩
        obtain ⟨y, hy, e⟩ := List.mem_map.1 hm
        exact (h4 y hy).2 e.symm
      · intro y hy
        rcases List.mem_cons.1 hy with rfl | hy
        · exact hx
        · exact (h4 y hy).1
      · intro p hp
        rcases h3 p hp with h5 | h5
        · rw [tb_lor, tb_one] at h5
          simp only [Bool.or_eq_true, decide_eq_true_eq] at h5
          rcases h5 with h5 | h5
          · exact .inl h5
          · exact .inr (by rw [List.map_cons, h5]; simp)
        · exact .inr (by rw [List.map_cons]; exact List.mem_cons_of_mem _ h5)

theorem clearF_get : ∀ (l : List Nat) (F : Fr) (t : Nat), (clearF l F).get t = if t ∈ l then none else F.get t
  | [], F, t => by simp [clearF]
  | s :: l, F, t => by
    simp only [clearF]
    rw [clearF_get l, Tr.get_putK _ _ _ _ _ (Nat.lt_succ_self s)]
    by_cases h : t = s
    · subst h; simp
    · simp [h]
theorem dstsOf_mem : ∀ (l : List Oper) (k : Nat) (o : Oper) (d : Nat), l[k]? = some o → isAsg o.op = false → o.dst = some d → d ∈ dstsOf l
  | [], k, o, d, h, _, _ => by simp at h
  | x :: l, k, o, d, h, hn, hd => by
    simp only [dstsOf]
    cases k with
    | zero => simp at h; subst h; rw [hn, hd]; simp
    | succ k =>
      have := dstsOf_mem l k o d (by simpa using h) hn hd
      split
      · exact this
      · split
        · exact List.mem_cons_of_mem _ this
        · exact this
theorem asgT_keep : ∀ (l : List Oper) (T : Tr Nat) (d : Nat), T.get d ≠ none → (asgT l T).get d ≠ none
  | [], T, d, h => h
  | o :: l, T, d, h => by
    simp only [asgT]
    split
    · split
      · refine asgT_keep l _ d ?_
        rw [Tr.get_put]
        split
        · simp
        · exact h
      · exact asgT_keep l T d h
    · exact asgT_keep l T d h
theorem asgT_spec : ∀ (l : List Oper) (T : Tr Nat) (k : Nat) (o : Oper) (d : Nat), l[k]? = some o → isAsg o.op = true → o.dst = some d → (asgT l T).get d ≠ none
  | [], T, k, o, d, h, _, _ => by simp at h
  | x :: l, T, k, o, d, h, ha, hd => by
    cases k with
    | zero =>
      simp at h; subst h
      simp only [asgT]
      split
      · rw [hd]; exact asgT_keep l _ d (by rw [Tr.get_put, if_pos rfl]; simp)
      · rename_i hn
        exfalso
        unfold isAsg at ha
        split at ha
        · rename_i y hy; exact hn y hy
        · cases ha
    | succ k =>
      simp only [asgT]
      split
      · split
        · exact asgT_spec l _ k o d (by simpa using h) ha hd
        · exact asgT_spec l _ k o d (by simpa using h) ha hd
      · exact asgT_spec l _ k o d (by simpa using h) ha hd
theorem dstT_conv : ∀ (l : List Oper) (i : Nat) (T D : Tr Nat), dstT l i T = some D → ∀ t p, D.get t = some p → T.get t = some p ∨ ∃ k o, l[k]? = some o ∧ o.dst = some t ∧ p = i + k
  | [], i, T, D, h => by
    simp only [dstT] at h; injection h with h; subst h
    exact fun t p hp => .inl hp
  | o :: l, i, T, D, h => by
    intro t p hp
    simp only [dstT] at h
    split at h
    · rcases dstT_conv l (i + 1) T D h t p hp with h1 | ⟨k, o', h1, h2, h3⟩
      · exact .inl h1
      · exact .inr ⟨k + 1, o', by simpa using h1, h2, by omega⟩
    · rename_i d0 hn
      split at h
      · rcases dstT_conv l (i + 1) _ D h t p hp with h1 | ⟨k, o', h1, h2, h3⟩
        · rw [Tr.get_put] at h1
          split at h1
          · rename_i e; subst e; injection h1 with h1
            exact .inr ⟨0, o, by simp, hn, by omega⟩
          · exact .inl h1
        · exact .inr ⟨k + 1, o', by simpa using h1, h2, by omega⟩
      · cases h
theorem eok_of {ops : Array Oper} {D : Tr Nat} (h : dstT ops.toList 0 .nil = some D) (F : Fr) : EOk D (asgT ops.toList .nil) (clearF (dstsOf ops.toList) F) := by
  intro t p hp hE
  rcases dstT_conv _ _ _ _ h t p hp with h1 | ⟨k, o, h1, h2, _⟩
  · simp at h1
  · cases ha : isAsg o.op with
    | true => exact absurd hE (asgT_spec _ _ k o t h1 ha h2)
    | false => rw [clearF_get, if_pos (dstsOf_mem _ k o t h1 ha h2)]
end Go.Abs
