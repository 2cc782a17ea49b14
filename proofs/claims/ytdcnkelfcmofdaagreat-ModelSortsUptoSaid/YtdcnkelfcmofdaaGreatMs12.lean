/- Rows are sorted by their order, each as often as it was: ModelSorts is true of whatever rows. Condition: what is read is of bulk at most 1048576 (the second form of the statement). -/
import Derived.Test.YtdcnkelfcmofdaaGreatMs11
import Derived.Test.YtdcnkelfcmofdaaGreatMsJ7
import Derived.Test.YtdcnkelfcmofdaaGreatRows
namespace Go.Proofs.YtdcnkelfcmofdaaGreat
open Go.Abs
open Go.ChangeShapes Go.WideShapes Go.ChangeAt Go.RowKit
set_option maxRecDepth 100000

theorem gb0 (D : Da) : GB D := fun c x h => by simp [GD, gInt, gRaw] at h
theorem own : ownKnob Tryz.prog.godebug = none := by kernel_rfl
theorem laid : laidOutB Tryz.prog = true := jLaid
theorem par3 : ∀ t ∈ Tryz.f3.params.toList, Tryz.prog.readableRec t = true ∧ t < Tryz.prog.types.size := by
  intro t ht
  rw [Tryz.params3] at ht
  obtain rfl : t = 22 := by simpa using ht
  exact ⟨by kernel_rfl, of_decide_eq_true (by kernel_rfl)⟩
theorem contract3 (H : Type) (enc : TypeId × Value → H) (W : World) (base : Nat) (args : Array Value) (ds gs : List (DataW H)) (before : List MemPlace)
    (hval : ∀ (j : Nat) t v, Tryz.f3.params[j]? = some t → args[j]? = some v → Value.okWide Tryz.prog W .any base t v)
    (hW : DataW.Whole enc Tryz.prog Tryz.f3.params.toList Rows.modelSortsSpec.vars false W args.toList ds gs before) (hk : Rows.uptoSmall H (ds ++ gs) = true) :
    Calls Tryz.prog 3 args W fun e W' => ∃ v, e = .returned v ∧ Rows.modelSortsSpec.post enc Tryz.prog Tryz.f3 false true false false W args v W' := by
  have hW' := hW
  obtain ⟨p, q, hA, hV, rfl, hfz, hnd⟩ := hW
  rw [Tryz.params3] at hA hval
  obtain ⟨v0, vs0, d0, ds0, p0, q0, hargs, rfl, rfl, h0, r0⟩ := trodAll_cons hA
  obtain ⟨rfl, rfl, rfl⟩ := trodAll_nil r0
  obtain rfl : args = #[v0] := by cases args; simp_all
  obtain ⟨rfl, rfl⟩ := trodVars_none hV
  obtain ⟨fuel, hf⟩ := h0
  obtain ⟨v, L, hv, hVR, b1, b2⟩ := read_rows (H := H) hf
  have hb : Rows.uptoBulkAll [d0] ≤ 1048576 := of_decide_eq_true hk
  simp only [Rows.uptoBulkAll] at hb
  simp only at b1 b2
  have hv0 : v0 = v := by
    cases v0 with
    | agg xs =>
      have hh := hval 0 22 _ rfl rfl
      simp [Value.okWide, Tryz.underlying22, Cell.okWide, Cell.ok] at hh
    | _ => simpa [Value.cells] using hv
  subst hv0
  refine callsIn_wide.1 ((sorts3 L (by omega) (fun r hr => by have := b2 r hr; omega)).run (DofW W) W [v0] (dofW_dat W (gb0 _)) (.cons _ _ _ _ hVR .nil) _ fun D' W' x hkp _ hx => ?_)
  cases hx with
  | bool =>
    exact ⟨_, rfl, law_post laid par3 rfl (tb := 4) (by kernel_rfl) Tryz.underlying4 rfl hW' hkp.os hkp.out hkp.keep⟩

theorem lifted3 (os : Os) (started : os.Started) (H : Type) (enc : TypeId × Value → H) (F : Stop.Interp) :
    ReturnsInHanded {} Tryz.checked os 3 .any ((Rows.OpenSpec.upto Rows.modelSortsSpec).pre6 enc Tryz.prog Tryz.f3 Rows.modelSortsUptoRow.domain false) (((Rows.OpenSpec.upto Rows.modelSortsSpec).at F).post enc Tryz.prog Tryz.f3 false true false false) := by
  refine returnsInHanded_of_cond (C := Tryz.checked) (s := Rows.OpenSpec.upto Rows.modelSortsSpec) (k := Rows.uptoSmall) rfl own started (by kernel_rfl) Tryz.func3
    (OpenSpec.witness (enc := enc) (C := Tryz.checked) (s := Rows.OpenSpec.upto Rows.modelSortsSpec) (k := Rows.uptoSmall) rfl false ⟨#[], #[.slice none 0 0], []⟩ 8 (by kernel_rfl) (by kernel_rfl) (by kernel_rfl)
      (x := ([.nil], [], [])) (by kernel_rfl) rfl (by kernel_rfl)) ?_
  intro W base args ds gs before hval hW _ hk _
  exact contract3 H enc W base args ds gs before hval hW hk

theorem sorts_holds : Rows.ModelSortsUptoSaid :=
  OpenClaim.holds_of_cond 3 Tryz.f3 rfl rfl rfl rfl rfl rfl rfl ⟨rfl, rfl, rfl, rfl, rfl⟩ rfl rfl rfl rfl rfl (by kernel_rfl) Tryz.func3 closed
    (of_decide_eq_true (by kernel_rfl)) (by unfold Func.isWrapper; first | (rw [if_pos (by decide +kernel)]; kernel_rfl) | (rw [if_neg (by decide +kernel)]; exact ⟨rfl, rfl⟩))
    (fun os started H enc _ F => lifted3 os started H enc F)
end Go.Proofs.YtdcnkelfcmofdaaGreat
