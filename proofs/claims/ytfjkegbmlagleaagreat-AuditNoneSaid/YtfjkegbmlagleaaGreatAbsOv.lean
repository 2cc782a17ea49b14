/- The abstract machine: runs in which a function known by its contract is not walked. -/
import Derived.Test.YtfjkegbmlagleaaGreatAbsCr
namespace Go.Abs

noncomputable def runO (P : Program) (ov : FuncId → List AV → Hp → Option AV) : Nat → Ce
  | 0 => { call := fun _ _ _ _ => .fail, code := fun _ _ _ _ _ => .fail }
  | f + 1 => {
      call := fun g args H n => match ov g args H with
        | some v => .mk v H n
        | none => fnCall P (runO P ov f) g args H n
      code := fun nt c F H n => (comp P nt true c).f (runO P ov f) F H n [] }
section
variable {P : Program}
theorem runO_ok {ov : FuncId → List AV → Hp → Option AV} (hov : ∀ g args H n v, ov g args H = some v → CallOk P g args H n v H n) : ∀ k, CeOk P (runO P ov k)
  | 0 => ⟨fun _ _ _ _ _ _ _ h => by (simp only [runO] at h; cases h), fun _ _ _ _ _ _ _ _ _ _ h => by (simp only [runO] at h; cases h)⟩
  | k + 1 => by
    have ih := runO_ok hov k
    refine ⟨fun g args H n v H' n' h => ?_, fun nt c F H n o F' H' n' m' h => ?_⟩
    · simp only [runO] at h
      split at h
      · rename_i u hu
        injection h with e1 e2 e3
        subst e1 e2 e3
        exact hov g args H n u hu
      · exact fnCall_ok ih h
    · simp only [runO] at h
      obtain ⟨hn, _⟩ := comp_sound (P := P) (nt := nt) (r := some 0) ih c _ _ _ _ _ _ _ _ _ h
      refine ⟨hn, fun l => ?_⟩
      exact (comp_sound (P := P) (nt := nt) (r := some l) ih c _ _ _ _ _ _ _ _ _ h).2
theorem FnPure.byRunO {ov : FuncId → List AV → Hp → Option AV} (hov : ∀ g args H n v, ov g args H = some v → CallOk P g args H n v H n) {g : FuncId} {args : List AV} {v : AV} (k : Nat) (hp : PureL args) (hv : Pure v) (h : getV (fnCall P (runO P ov k) g args .nil 0) = some v) : FnPure P g args v := by
  refine FnPure.of (runO_ok hov k) hp ?_
  cases hr : fnCall P (runO P ov k) g args .nil 0 with
  | fail => rw [hr] at h; cases h
  | mk v1 H' n' => rw [hr] at h; injection h with h; subst h; exact ⟨_, _, _, rfl, .pure _ hv⟩

/-! ### sums -/
def u8of : List AV → Option (List Nat)
  | [] => some []
  | .int .u8 (.ofNat x) :: r => match Nat.blt x 256 with
    | true => match u8of r with
      | some l => some (x :: l)
      | none => none
    | false => none
  | _ :: _ => none
theorem u8of_spec : ∀ {l : List AV} {bs : List Nat}, u8of l = some bs → l = u8s bs ∧ ∀ x ∈ bs, x < 256
  | [], bs, h => by simp only [u8of] at h; injection h with h; subst h; exact ⟨rfl, fun x hx => by cases hx⟩
  | a :: r, bs, h => by
    unfold u8of at h
    split at h
    · rename_i e; cases e
    · rename_i x r' e
      injection e with e1 e2
      subst e1 e2
      split at h
      · rename_i hx
        rw [Nat.blt_eq] at hx
        split at h
        · rename_i l hl
          injection h with h; subst h
          obtain ⟨h1, h2⟩ := u8of_spec hl
          refine ⟨by rw [h1]; rfl, fun y hy => ?_⟩
          rcases List.mem_cons.1 hy with rfl | hy
          · exact hx
          · exact h2 y hy
        · cases h
      · cases h
    · cases h
noncomputable def ovSum (gM g : FuncId) (args : List AV) (H : Hp) : Option AV := match Nat.beq g gM with
  | true => match args with
    | [.int .u32 (.ofNat s), .sl b o len 1] => match H.get b with
      | some (.cells u z bs t) => match grab u z bs t o (len * 1) with
        | some cs => match u8of cs with
          | some l => match Nat.blt s 4294967296 && Nat.beq (lenAcc l 0) len && Nat.blt len 2147483648 with
            | true => some (.int .u32 (Int.ofNat (sumM s l)))
            | false => none
          | none => none
        | none => none
      | _ => none
    | _ => none
  | false => none
theorem FrzL.refl {h : Hf} : ∀ {l : List AV}, PureL l → FrzL h l l
  | [], _ => .nil
  | v :: l, hp => .cons _ _ _ _ (.pure _ (by simp only [PureL] at hp; exact hp.1)) (FrzL.refl (by simp only [PureL] at hp; exact hp.2))
theorem ovSum_ok {gM : FuncId} (hc : ctF P gM = some AS) : ∀ g args H n v, ovSum gM g args H = some v → CallOk P g args H n v H n := by
  intro g args H n v h
  unfold ovSum at h
  split at h
  · rename_i hg
    have hg := Nat.eq_of_beq_eq_true hg
    subst hg
    split at h
    · rename_i s b o len
      split at h
      · rename_i u z bs t hb
        split at h
        · rename_i cs hcs
          split at h
          · rename_i l hl
            split at h
            · rename_i hcond
              simp only [Bool.and_eq_true] at hcond
              obtain ⟨⟨d1, d2⟩, d3⟩ := hcond
              rw [Nat.blt_eq] at d1 d3
              have d2 := Nat.eq_of_beq_eq_true d2
              rw [lenAcc_zero] at d2
              obtain ⟨e1, e2⟩ := u8of_spec hl
              injection h with h; subst h
              subst d2
              refine FnPure.callFOk (more_pure hc s l d1 e2 d3) (by simp [Flat]) n (.cons _ _ _ _ (.pure _ (by simp)) (.cons _ _ _ _ ?_ .nil))
              subst e1
              exact .sl b o l.length 1 u z bs t (u8s l) (u8s l) hb hcs (FrzL.refl (u8s_pure l))
            · cases h
          · cases h
        · cases h
      · cases h
    · cases h
  · cases h
end
end Go.Abs
