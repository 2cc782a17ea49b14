/- The abstract machine: each operation's effect is what the model does. Part twelve: 'len', 'min', 'max'. -/
import Derived.Test.YtfjkegbmlagleaaGreatAbsEq
namespace Go.Abs
section
variable {P : Program}

theorem ok_lenConst {o : Oper} {c : Call} {t : TypeId} {x : Operand} {k : Nat} {d : TypeDesc} (ho : o.op = .call c) (hcb : c.callee = .builtin .len) (h0 : c.argTypes[0]? = some t) (a0 : c.args[0]? = some x)
    (hu : P.underlying t = some d) (hd : (∃ e, d = .array k e) ∨ ∃ arr e, d = .pointer arr ∧ P.underlying arr = some (.array k e)) : EffOk P o (fun _ _ _ => .val (.int .i64 (Int.ofNat k))) := by
  intro F H n φ D a w hr hF hf hne
  obtain ⟨cs, hrun⟩ := call_builtin (P := P) (ρ := a.eval) ho hcb w
  refine Does.val hr (cv := .int .i64 k) ?_ (.int _ _)
  rw [hrun]
  rcases hd with ⟨e, rfl⟩ | ⟨arr, e, rfl, ha⟩
  · simp [builtin, Builtin.len_, h0, a0, run_underlying hu, goInt]
  · simp [builtin, Builtin.len_, h0, a0, run_underlying hu, run_underlying ha, goInt]

theorem ok_lenS {o : Oper} {c : Call} {t : TypeId} {x : Operand} {g : G} (ho : o.op = .call c) (hcb : c.callee = .builtin .len) (h0 : c.argTypes[0]? = some t) (a0 : c.args[0]? = some x) (hg : opd x = some g)
    (hu : P.underlying t = some .string) : EffOk P o (e1 cLenS g) := by
  refine eff1 hg _ fun φ D h w n ρ v xv hr hx hv hf hne => ?_
  obtain ⟨cs, hrun⟩ := call_builtin (P := P) (ρ := ρ) ho hcb w
  unfold cLenS at hne ⊢
  split at hne
  · cases hv with
    | str s _ hs =>
    have hl : lenAcc (s.data.toList.map UInt8.toNat) 0 = s.size := by rw [lenAcc_zero, List.length_map]; rfl
    subst hs
    refine Does.val hr (cv := .int .i64 s.size) ?_ (by rw [hl]; exact .int _ _)
    rw [hrun]
    simp [builtin, Builtin.len_, h0, a0, run_underlying hu, hx, goInt]
  · exact absurd rfl hne
theorem ok_lenL {o : Oper} {c : Call} {t e : TypeId} {x : Operand} {g : G} (ho : o.op = .call c) (hcb : c.callee = .builtin .len) (h0 : c.argTypes[0]? = some t) (a0 : c.args[0]? = some x) (hg : opd x = some g)
    (hu : P.underlying t = some (.slice e)) : EffOk P o (e1 cLenL g) := by
  refine eff1 hg _ fun φ D h w n ρ v xv hr hx hv hf hne => ?_
  obtain ⟨cs, hrun⟩ := call_builtin (P := P) (ρ := ρ) ho hcb w
  have go : ∀ a k c, xv = .slice a k c → Does P (execOp ρ o) φ D h w n (.val (.int .i64 (Int.ofNat k))) := by
    intro a k c' e
    refine Does.val hr (cv := .int .i64 k) ?_ (.int _ _)
    rw [hrun]
    simp [builtin, Builtin.len_, h0, a0, run_underlying hu, hx, goInt, e]
  unfold cLenL at hne ⊢
  split at hne
  · cases hv; exact go _ _ _ rfl
  · cases hv <;> exact go _ _ _ rfl
  · rename_i p c
    split at hne
    · cases hv with
      | cst _ ha =>
      have : p = 0 := by
        unfold atom at ha
        split at ha <;> simp_all
      subst this
      exact go none 0 0 rfl
    · exact absurd rfl hne
  · exact absurd rfl hne

theorem min_run {φ : Ph} {D : Da} {k : IntKind} (w : World) : ∀ (l : List AV) (xs : List Value) (a : Int) (r : AV), VRs φ D l xs → minR k a l = some r → ∃ i, r = .int k i ∧ (xs.foldlM Builtin.min2 (.int k a)).run P w = .ok (.int k i) w
  | [], xs, a, r, hx, h => by
    cases hx
    simp only [minR] at h; injection h with h; subst h
    exact ⟨_, rfl, by simp⟩
  | v :: l, xs, a, r, hx, h => by
    unfold minR at h
    split at h
    · rename_i e; cases e
    · rename_i j b r' e
      injection e with e1 e2; subst e1 e2
      split at h
      · rename_i e; subst e
        cases hx with
        | cons _ y _ ys h1 h2 =>
        cases h1
        obtain ⟨i, hi, hrun⟩ := min_run w l ys _ _ h2 h
        exact ⟨i, hi, by simp only [List.foldlM_cons, Builtin.min2, Sem.run_bind, Sem.run_pure, Result.andThen_ok]; exact hrun⟩
      · cases h
    · cases h
theorem max_run {φ : Ph} {D : Da} {k : IntKind} (w : World) : ∀ (l : List AV) (xs : List Value) (a : Int) (r : AV), VRs φ D l xs → maxR k a l = some r → ∃ i, r = .int k i ∧ (xs.foldlM Builtin.max2 (.int k a)).run P w = .ok (.int k i) w
  | [], xs, a, r, hx, h => by
    cases hx
    simp only [maxR] at h; injection h with h; subst h
    exact ⟨_, rfl, by simp⟩
  | v :: l, xs, a, r, hx, h => by
    unfold maxR at h
    split at h
    · rename_i e; cases e
    · rename_i j b r' e
      injection e with e1 e2; subst e1 e2
      split at h
      · rename_i e; subst e
        cases hx with
        | cons _ y _ ys h1 h2 =>
        cases h1
        obtain ⟨i, hi, hrun⟩ := max_run w l ys _ _ h2 h
        exact ⟨i, hi, by simp only [List.foldlM_cons, Builtin.max2, Sem.run_bind, Sem.run_pure, Result.andThen_ok]; exact hrun⟩
      · cases h
    · cases h
theorem ok_min {o : Oper} {c : Call} {gs : List G} (ho : o.op = .call c) (hcb : c.callee = .builtin .min) (hg : opds c.args.toList = some gs) : EffOk P o (eMnx minI gs) := by
  intro F H n φ D a w hr hF hf hne
  obtain ⟨cs, hrun⟩ := call_builtin (P := P) (ρ := a.eval) ho hcb w
  unfold eMnx at hf hne ⊢
  cases hv : evs F gs with
  | none => rw [hv] at hne; exact absurd rfl hne
  | some l =>
    rw [hv] at hne
    have hl := opds_sound hg F φ D a hF l hv
    dsimp only at hne ⊢
    cases hm : minI l with
    | none => rw [hm] at hne; exact absurd rfl hne
    | some r =>
      unfold minI at hm
      split at hm
      · rename_i k i rest
        cases hxs : c.args.toList.map a.eval with
        | nil => rw [hxs] at hl; cases hl
        | cons x xs =>
          rw [hxs] at hl
          cases hl with
          | cons _ _ _ _ h1 h2 =>
          cases h1
          obtain ⟨j, rfl, hj⟩ := min_run (P := P) w rest xs i r h2 hm
          refine Does.val hr (cv := .int k j) ?_ (.int _ _)
          rw [hrun]
          simp [builtin, Builtin.min_, hxs, hj]
      · cases hm
theorem ok_max {o : Oper} {c : Call} {gs : List G} (ho : o.op = .call c) (hcb : c.callee = .builtin .max) (hg : opds c.args.toList = some gs) : EffOk P o (eMnx maxI gs) := by
  intro F H n φ D a w hr hF hf hne
  obtain ⟨cs, hrun⟩ := call_builtin (P := P) (ρ := a.eval) ho hcb w
  unfold eMnx at hf hne ⊢
  cases hv : evs F gs with
  | none => rw [hv] at hne; exact absurd rfl hne
  | some l =>
    rw [hv] at hne
    have hl := opds_sound hg F φ D a hF l hv
    dsimp only at hne ⊢
    cases hm : maxI l with
    | none => rw [hm] at hne; exact absurd rfl hne
    | some r =>
      unfold maxI at hm
      split at hm
      · rename_i k i rest
        cases hxs : c.args.toList.map a.eval with
        | nil => rw [hxs] at hl; cases hl
        | cons x xs =>
          rw [hxs] at hl
          cases hl with
          | cons _ _ _ _ h1 h2 =>
          cases h1
          obtain ⟨j, rfl, hj⟩ := max_run (P := P) w rest xs i r h2 hm
          refine Does.val hr (cv := .int k j) ?_ (.int _ _)
          rw [hrun]
          simp [builtin, Builtin.max_, hxs, hj]
      · cases hm
end
end Go.Abs
