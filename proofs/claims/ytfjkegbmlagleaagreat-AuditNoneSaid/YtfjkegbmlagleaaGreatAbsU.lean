/- The abstract machine: each operation's effect is what the model does. Part five: cuts, lengths, bytes, numbers. -/
import Derived.Test.YtfjkegbmlagleaaGreatAbsS
namespace Go.Abs
section
variable {P : Program}

theorem nat?_spec {φ : Ph} {D : Da} {v : AV} {x : Value} {n : Nat} (h : nat? v = some n) (hv : VR φ D v x) : ∃ k, x = .int k (Int.ofNat n) := by
  unfold nat? at h
  split at h
  · injection h with h; subst h; cases hv; exact ⟨_, rfl⟩
  · cases h

/-- a bound, and its operand -/
def BR (φ : Ph) (D : Da) : Option AV → Option Value → Prop
  | none, none => True
  | some v, some x => VR φ D v x
  | _, _ => False
theorem oopd_sound {x : Option Operand} {g : Option G} (h : oopd x = some g) {F : Fr} {φ : Ph} {D : Da} {a : Act} (hF : FR φ D F.get a.tmps) {v : Option AV} (hv : oev F g = some v) : BR φ D v (x.map a.eval) := by
  cases x with
  | none =>
    simp only [oopd] at h; injection h with h; subst h
    simp only [oev] at hv; injection hv with hv; subst hv
    trivial
  | some x =>
    simp only [oopd] at h
    cases ho : opd x with
    | none => rw [ho] at h; cases h
    | some g' =>
      rw [ho] at h; injection h with h; subst h
      simp only [oev] at hv
      cases hg : g'.f F with
      | none => rw [hg] at hv; cases hv
      | some u => rw [hg] at hv; injection hv with hv; subst hv; exact opd_sound ho F φ D a hF u hg

theorem bnds_run {len : Nat} {lo hi mx : Option AV} {φ : Ph} {D : Da} {lo' hi' mx' : Option Value} (h1 : BR φ D lo lo') (h2 : BR φ D hi hi') (h3 : BR φ D mx mx') (hm : mx = none ∨ hi ≠ none)
    (isSlice : Bool) (cap : Nat) (hc : len ≤ cap) (w : World) (m h' l' : Nat) (hm1 : bnd len mx = some m) (hh : bnd len hi = some h') (hl : bnd 0 lo = some l') (c1 : l' ≤ h') (c2 : h' ≤ len) (c3 : h' ≤ m) (c4 : m ≤ len) :
    ∃ m, (Instr.sliceBounds isSlice len cap lo' hi' mx').run P w = .ok (l', h', m) w ∧ l' ≤ h' ∧ h' ≤ len ∧ h' ≤ m ∧ m ≤ cap := by
  have bound : ∀ (v : Option AV) (x : Option Value) (n : Nat), BR φ D v x → (∃ u, v = some u ∧ nat? u = some n) → ∃ k, x = some (.int k (Int.ofNat n)) := by
    intro v x n hv ⟨u, e, hu⟩
    subst e
    cases x with
    | none => exact hv.elim
    | some y => obtain ⟨k, rfl⟩ := nat?_spec hu hv; exact ⟨k, rfl⟩
  have run1 : ∀ (k : IntKind) (n y : Nat) (code : BoundsCode), n ≤ y → (Instr.sliceBound (.int k (n : Int)) y code).run P w = .ok n w := by
    intro k n y code hle
    simp [Instr.sliceBound, asIntOf, hle]
  have hlo : (lo' = none ∧ l' = 0) ∨ ∃ k, lo' = some (.int k (Int.ofNat l')) := by
    cases lo with
    | none => cases lo' with
      | none => simp [bnd] at hl; exact .inl ⟨rfl, hl.symm⟩
      | some x => exact h1.elim
    | some u => exact .inr (bound _ _ _ h1 ⟨u, rfl, hl⟩)
  have hhi : (hi' = none ∧ h' = len) ∨ ∃ k, hi' = some (.int k (Int.ofNat h')) := by
    cases hi with
    | none => cases hi' with
      | none => simp [bnd] at hh; exact .inl ⟨rfl, hh.symm⟩
      | some x => exact h2.elim
    | some u => exact .inr (bound _ _ _ h2 ⟨u, rfl, hh⟩)
  have hmx : (mx' = none ∧ m = len) ∨ ∃ k k2, mx' = some (.int k (Int.ofNat m)) ∧ hi' = some (.int k2 (Int.ofNat h')) := by
    cases mx with
    | none => cases mx' with
      | none => simp [bnd] at hm1; exact .inl ⟨rfl, hm1.symm⟩
      | some x => exact h3.elim
    | some u =>
      obtain ⟨k, hk⟩ := bound _ _ _ h3 ⟨u, rfl, hm1⟩
      cases hi with
      | none => simp at hm
      | some y => obtain ⟨k2, hk2⟩ := bound _ _ _ h2 ⟨y, rfl, hh⟩; exact .inr ⟨k, k2, hk, hk2⟩
  rcases hmx with ⟨rfl, rfl⟩ | ⟨k, k2, rfl, rfl⟩
  · refine ⟨cap, ?_, c1, c2, by omega, Nat.le_refl _⟩
    rcases hhi with ⟨rfl, rfl⟩ | ⟨k, rfl⟩ <;> rcases hlo with ⟨rfl, rfl⟩ | ⟨j, rfl⟩
    · simp [Instr.sliceBounds]
    · simp [Instr.sliceBounds, run1 j _ _ _ c1]
    · simp [Instr.sliceBounds, run1 k h' cap _ (by omega)]
    · simp [Instr.sliceBounds, run1 k h' cap _ (by omega), run1 j _ _ _ c1]
  · refine ⟨m, ?_, c1, c2, c3, by omega⟩
    rcases hlo with ⟨rfl, rfl⟩ | ⟨j, rfl⟩
    · simp [Instr.sliceBounds, run1 k m cap _ (by omega), run1 k2 h' m _ c3]
    · simp [Instr.sliceBounds, run1 k m cap _ (by omega), run1 k2 h' m _ c3, run1 j _ _ _ c1]

theorem bnds_spec {len : Nat} {lo hi mx : Option AV} {l h : Nat} (hb : bnds len lo hi mx = some (l, h)) {φ : Ph} {D : Da} {lo' hi' mx' : Option Value} (h1 : BR φ D lo lo') (h2 : BR φ D hi hi') (h3 : BR φ D mx mx') (hm : mx = none ∨ hi ≠ none)
    (isSlice : Bool) (cap : Nat) (hc : len ≤ cap) (w : World) : ∃ m, (Instr.sliceBounds isSlice len cap lo' hi' mx').run P w = .ok (l, h, m) w ∧ l ≤ h ∧ h ≤ len ∧ h ≤ m ∧ m ≤ cap := by
  unfold bnds at hb
  split at hb
  · rename_i m hm1
    split at hb
    · rename_i h' hh
      split at hb
      · rename_i l' hl
        split at hb
        · rename_i hc1
          simp only [Bool.and_eq_true] at hc1
          have c1 := Nat.le_of_ble_eq_true hc1.1.1.1
          have c2 := Nat.le_of_ble_eq_true hc1.1.1.2
          have c3 := Nat.le_of_ble_eq_true hc1.1.2
          have c4 := Nat.le_of_ble_eq_true hc1.2
          injection hb with hb
          injection hb with e1 e2
          subst e1 e2
          clear hc1
          exact bnds_run h1 h2 h3 hm isSlice cap hc w m h' l' hm1 hh hl c1 c2 c3 c4
        · cases hb
      · cases hb
    · cases hb
  · cases hb

/-- a slice expression over whatever -/
theorem effSl {o : Oper} {x : Operand} {g : G} {lo hi mx : Option Operand} {gl gh gm : Option G} (hg : opd x = some g) (hl : oopd lo = some gl) (hh : oopd hi = some gh) (hm : oopd mx = some gm) (c : Hp → Option AV → Option AV → Option AV → AV → ERes)
    (hc : ∀ (φ : Ph) (D : Da) (H : Hp) (w : World) (n : Nat) (ρ : Operand → Value) (l h m : Option AV) (v : AV) (xv : Value), Rel φ D H.get w → ρ x = xv → VR φ D v xv → BR φ D l (lo.map ρ) → BR φ D h (hi.map ρ) → BR φ D m (mx.map ρ) → (gh = none → h = none) → (gm = none → m = none) → (gh ≠ none → h ≠ none) → c H l h m v ≠ .fail →
      ∃ u, c H l h m v = .val u ∧ Does P (execOp ρ o) φ D H.get w n (.val u)) :
    EffOk P o (fun F H n => eSl (c H) g gl gh gm F H n) := by
  intro F H n φ D a w hr hF hf hne
  dsimp only at hf hne ⊢
  unfold eSl at hf hne ⊢
  cases h1 : oev F gl with
  | none => rw [h1] at hne; exact absurd rfl hne
  | some l =>
    rw [h1] at hne hf; dsimp only at hne hf ⊢
    cases h2 : oev F gh with
    | none => rw [h2] at hne; exact absurd rfl hne
    | some h =>
      rw [h2] at hne hf; dsimp only at hne hf ⊢
      cases h3 : oev F gm with
      | none => rw [h3] at hne; exact absurd rfl hne
      | some m =>
        rw [h3] at hne hf; dsimp only at hne hf ⊢
        cases hv : g.f F with
        | none => rw [hv] at hne; exact absurd rfl hne
        | some v =>
          rw [hv] at hne hf; dsimp only at hne hf ⊢
          obtain ⟨u, hu, hd⟩ := hc φ D H w n a.eval l h m v _ hr rfl (opd_sound hg F φ D a hF v hv) (oopd_sound hl hF h1) (oopd_sound hh hF h2) (oopd_sound hm hF h3)
            (fun e => by subst e; simp [oev] at h2; exact h2.symm) (fun e => by subst e; simp [oev] at h3; exact h3.symm)
            (fun e => by cases gh with
              | none => exact absurd rfl e
              | some y => simp only [oev] at h2; cases hy : y.f F <;> rw [hy] at h2 <;> simp at h2; rw [← h2]; simp) hne
          rw [hu]; exact hd

theorem ok_slc {o : Oper} {t e : TypeId} {sz : Nat} {x : Operand} {g : G} {lo hi mx : Option Operand} {gl gh gm : Option G} (ho : o.op = .slice t x lo hi mx) (hg : opd x = some g) (hl : oopd lo = some gl) (hh : oopd hi = some gh) (hm : oopd mx = some gm)
    (hu : P.underlying t = some (.slice e)) (hs : sizeT P e = some sz) (hmx : gm = none ∨ gh ≠ none) : EffOk P o (eSl (cSlc sz) g gl gh gm) := by
  refine effSl hg hl hh hm (fun _ => cSlc sz) fun φ D H w n ρ l h m v xv hr hx hv b1 b2 b3 n1 n2 n3 hne => ?_
  have hmx' : m = none ∨ h ≠ none := by
    rcases hmx with e | e
    · exact .inl (n2 e)
    · exact .inr (n3 e)
  unfold cSlc at hne ⊢
  split at hne
  · rename_i b off len s
    split at hne
    · rename_i l' h' hb
      split at hne
      · rename_i hs'
        have hs' := Nat.eq_of_beq_eq_true hs'
        subst hs'
        simp only [forceN_eq]
        refine ⟨_, rfl, ?_⟩
        cases hv with
        | sl _ _ _ _ cb co cz cap ad hp hle hex =>
        obtain ⟨mm, hrun, q1, q2, q3, q4⟩ := bnds_spec (P := P) hb b1 b2 b3 hmx' true cap hle w
        refine Does.val hr (cv := .slice (some (if mm = l' then ad else ad.add (l' * s))) (h' - l') (mm - l')) ?_ ?_
        · simp only [execOp, ho, hx, Instr.sliceAt, Sem.run_bind, run_underlying hu, Result.andThen_ok, Instr.slice, hrun, sizeT_run hs, Sem.run_pure]
          by_cases hml : mm = l' <;> simp [hml]
        · refine .sl _ _ _ _ cb co cz _ _ hp (by omega) fun hpos => ?_
          obtain ⟨e1, e2⟩ := hex (by omega)
          subst e1
          rw [if_neg (by omega), add_at]
          refine ⟨by rw [Nat.add_assoc], ?_⟩
          have : (mm - l') * s + l' * s ≤ cap * s := by rw [← Nat.add_mul]; exact Nat.mul_le_mul_right _ (by omega)
          omega
      · exact absurd rfl hne
    · exact absurd rfl hne
  · rename_i cs len s
    split at hne
    · rename_i l' h' hb
      split at hne
      · rename_i hs'
        have hs' := Nat.eq_of_beq_eq_true hs'
        subst hs'
        refine ⟨_, rfl, ?_⟩
        cases hv with
        | ds _ _ _ cap cb co cells ll hD hll hcs hvs hle =>
          obtain ⟨mm, hrun, q1, q2, q3, q4⟩ := bnds_spec (P := P) hb b1 b2 b3 hmx' true cap hle w
          refine Does.val hr (cv := .slice (some (if mm = l' then ⟨cb, co, none⟩ else (⟨cb, co, none⟩ : Addr).add (l' * s))) (h' - l') (mm - l')) ?_ ?_
          · simp only [execOp, ho, hx, Instr.sliceAt, Sem.run_bind, run_underlying hu, Result.andThen_ok, Instr.slice, hrun, sizeT_run hs, Sem.run_pure]
            by_cases hml : mm = l' <;> simp [hml]
          · by_cases hz : h' - l' = 0
            · rw [hz]; simp only [Nat.zero_mul, List.take_zero]; exact .ds0 _ _ _
            · rw [if_neg (by omega), add_at]
              have hmul : (h' - l') * s + l' * s ≤ len * s := by rw [← Nat.add_mul]; exact Nat.mul_le_mul_right _ (by omega)
              refine .ds _ _ _ _ _ _ _ _ hD rfl (by simp [hcs]; omega) ?_ (by omega)
              have := (hvs.drop (l' * s)).take ((h' - l') * s)
              rw [hll, List.drop_take, List.drop_drop, List.take_take] at this
              rw [show min ((h' - l') * s) (len * s - l' * s) = (h' - l') * s from by omega] at this
              exact this
        | ds0 _ cap ad =>
          obtain ⟨mm, hrun, q1, q2, q3, q4⟩ := bnds_spec (P := P) hb b1 b2 b3 hmx' true cap (Nat.zero_le _) w
          refine Does.val hr (cv := .slice (some (if mm = l' then ad else ad.add (l' * s))) (h' - l') (mm - l')) ?_ ?_
          · simp only [execOp, ho, hx, Instr.sliceAt, Sem.run_bind, run_underlying hu, Result.andThen_ok, Instr.slice, hrun, sizeT_run hs, Sem.run_pure]
            by_cases hml : mm = l' <;> simp [hml]
          · rw [show h' - l' = 0 from by omega]; simp; exact .ds0 _ _ _
        | dsn =>
          obtain ⟨mm, hrun, q1, q2, q3, q4⟩ := bnds_spec (P := P) hb b1 b2 b3 hmx' true 0 (Nat.zero_le _) w
          have e1 : l' = 0 := by omega
          have e2 : h' = 0 := by omega
          have e3 : mm = 0 := by omega
          subst e1 e2 e3
          refine Does.val hr (cv := .slice none 0 0) ?_ (by simp; exact .dsn _)
          simp only [execOp, ho, hx, Instr.sliceAt, Sem.run_bind, run_underlying hu, Result.andThen_ok, Instr.slice, hrun, sizeT_run hs, Sem.run_pure]
          simp
      · exact absurd rfl hne
    · exact absurd rfl hne
  · split at hne
    · rename_i hb
      refine ⟨_, rfl, ?_⟩
      cases hv with
      | cst _ hat =>
      rename_i x2
      obtain ⟨l', h'⟩ := x2
      obtain ⟨mm, hrun, q1, q2, q3, q4⟩ := bnds_spec (P := P) hb b1 b2 b3 hmx' true 0 (Nat.le_refl _) w
      have e1 : l' = 0 := by omega
      have e2 : h' = 0 := by omega
      have e3 : mm = 0 := by omega
      subst e1 e2 e3
      refine Does.val hr (cv := .slice none 0 0) ?_ (.cst _ hat)
      simp only [execOp, ho, hx, Instr.sliceAt, Sem.run_bind, run_underlying hu, Result.andThen_ok, Instr.slice, hrun, sizeT_run hs, Sem.run_pure]
      simp
    · exact absurd rfl hne
  · exact absurd rfl hne

theorem ok_slca {o : Oper} {t e : TypeId} {k sz : Nat} {x : Operand} {g : G} {lo hi mx : Option Operand} {gl gh gm : Option G} (ho : o.op = .slice t x lo hi mx) (hg : opd x = some g) (hl : oopd lo = some gl) (hh : oopd hi = some gh) (hm : oopd mx = some gm)
    (hu : P.underlying t = some (.array k e)) (hs : sizeT P e = some sz) (hmx : gm = none ∨ gh ≠ none) : EffOk P o (eSlca k sz g gl gh gm) := by
  refine effSl hg hl hh hm (fun H => cSlca k sz H) fun φ D H w n ρ l h m v xv hr hx hv b1 b2 b3 n1 n2 n3 hne => ?_
  have hmx' : m = none ∨ h ≠ none := by
    rcases hmx with e | e
    · exact .inl (n2 e)
    · exact .inr (n3 e)
  unfold cSlca at hne ⊢
  split at hne
  · rename_i b off
    split at hne
    · rename_i u z bs tt hbk
      split at hne
      · rename_i l' h' hb
        split at hne
        · rename_i hle
          have hle := Nat.le_of_ble_eq_true hle
          refine ⟨_, rfl, ?_⟩
          cases hv with
          | ptr _ _ cb co cz hp =>
          obtain ⟨_, c, e', fr, p1, p2, p3, p4, p5, p6⟩ := hr.block hbk hp
          dsimp only at p6
          obtain ⟨mm, hrun, q1, q2, q3, q4⟩ := bnds_spec (P := P) hb b1 b2 b3 hmx' false k (Nat.le_refl _) w
          refine Does.val hr (cv := .slice (some (if mm = l' then ⟨cb, co + off, none⟩ else (⟨cb, co + off, none⟩ : Addr).add (l' * sz))) (h' - l') (mm - l')) ?_ ?_
          · simp only [execOp, ho, hx, Instr.sliceAt, Sem.run_bind, run_underlying hu, Result.andThen_ok, Instr.sureAddr, hrun, sizeT_run hs, Sem.run_pure]
          · refine .sl _ _ _ _ cb co cz _ _ hp (by omega) fun hpos => ?_
            rw [if_neg (by omega), add_at]
            refine ⟨by rw [Nat.add_assoc], ?_⟩
            have : (mm - l') * sz + l' * sz ≤ k * sz := by rw [← Nat.add_mul]; exact Nat.mul_le_mul_right _ (by omega)
            omega
        · exact absurd rfl hne
      · exact absurd rfl hne
    · exact absurd rfl hne
  · exact absurd rfl hne

theorem bytes_list {s : ByteArray} {l : List Nat} (h : s.data.toList.map UInt8.toNat = l) : s.size = l.length := by
  rw [← h, List.length_map, Array.length_toList]; rfl

theorem ok_slcs {o : Oper} {t : TypeId} {x : Operand} {g : G} {lo hi : Option Operand} {gl gh : Option G} (ho : o.op = .slice t x lo hi none) (hg : opd x = some g) (hl : oopd lo = some gl) (hh : oopd hi = some gh)
    (hu : P.underlying t = some .string) : EffOk P o (eSl cSlcs g gl gh none) := by
  refine effSl (mx := none) hg hl hh rfl (fun _ => cSlcs) fun φ D H w n ρ l h m v xv hr hx hv b1 b2 b3 n1 n2 n3 hne => ?_
  have hm := n2 rfl
  subst hm
  unfold cSlcs at hne ⊢
  split at hne
  · rename_i s
    split at hne
    · rename_i l' h' hb
      refine ⟨_, rfl, ?_⟩
      rw [lenAcc_zero] at hb
      cases hv with
      | str bs _ hs =>
      have hsz := bytes_list hs
      rw [← hsz] at hb
      obtain ⟨mm, hrun, q1, q2, q3, q4⟩ := bnds_spec (P := P) hb b1 b2 b3 (.inl rfl) false bs.size (Nat.le_refl _) w
      refine Does.val hr (cv := .string (bs.extract l' h')) ?_ (.str _ _ ?_)
      · have hs1 : (Instr.slice t (.string bs) (lo.map ρ) (hi.map ρ) none).run P w = .ok (.string (bs.extract l' h')) w := by
          unfold Instr.slice
          rw [Sem.run_bind, run_underlying hu, Result.andThen_ok]
          have hrun' : (Instr.sliceBounds false bs.size bs.size (lo.map ρ) (hi.map ρ) none).run P w = .ok (l', h', mm) w := hrun
          dsimp only
          rw [if_neg (by simp), Sem.run_bind, hrun', Result.andThen_ok]
          rfl
        have hs2 : (Instr.sliceAt t (.string bs) (lo.map ρ) (hi.map ρ) none).run P w = .ok (.string (bs.extract l' h')) w := by
          unfold Instr.sliceAt
          rw [Sem.run_bind, run_underlying hu, Result.andThen_ok]
          exact hs1
        have hx2 : execOp ρ o = (do pure (.value (← Instr.sliceAt t (.string bs) (lo.map ρ) (hi.map ρ) none)) : Sem Next) := by
          unfold execOp; rw [ho]; dsimp only; rw [hx]; rfl
        rw [hx2, Sem.run_bind, hs2, Result.andThen_ok]
        rfl
      · rw [← hs, ByteArray.data_extract]
        simp only [Array.toList_extract, List.extract_eq_take_drop, List.map_take, List.map_drop]
    · exact absurd rfl hne
  · exact absurd rfl hne
end
end Go.Abs
