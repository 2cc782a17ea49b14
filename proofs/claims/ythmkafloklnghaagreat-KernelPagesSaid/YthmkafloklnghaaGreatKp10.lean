/- Whoever uses, takes and releases pages, which ones are told is what the document says: KernelPages is true of whatever wants. No condition: the first form of the statement. -/
import Derived.Test.YthmkafloklnghaaGreatKp9
import Derived.Test.YthmkafloklnghaaGreatAbs5
import Derived.Test.YthmkafloklnghaaGreatKnJ7
import Derived.Test.YthmkafloklnghaaGreatRows
namespace Go.Proofs.YthmkafloklnghaaGreat
open Go.Abs
open Go.ChangeShapes Go.WideShapes Go.ChangeAt Go.RowKit
set_option maxRecDepth 100000

theorem gb0 (D : Da) : GB D := fun c x h => by simp [GD, gInt, gRaw] at h
theorem own : ownKnob Tryz.prog.godebug = none := by kernel_rfl
theorem laid : laidOutB Tryz.prog = true := jLaid
theorem par3 : ∀ t ∈ Tryz.f3.params.toList, Tryz.prog.readableRec t = true ∧ t < Tryz.prog.types.size := by
  intro t ht
  rw [Tryz.params3] at ht
  obtain rfl : t = 22 := by simpa using ht
  exact ⟨by kernel_rfl, of_decide_eq_true (by kernel_rfl)⟩
theorem contract3 (H : Type) (enc : TypeId × Value → H) (W : World) (base : Nat) (args : Array Value) (ds gs : List (DataW H)) (before : List MemPlace)
    (hval : ∀ (j : Nat) t v, Tryz.f3.params[j]? = some t → args[j]? = some v → Value.okWide Tryz.prog W .any base t v)
    (hW : DataW.Whole enc Tryz.prog Tryz.f3.params.toList Rows.kernelPagesSpec.vars false W args.toList ds gs before) :
    Calls Tryz.prog 3 args W fun e W' => ∃ v, e = .returned v ∧ Rows.kernelPagesSpec.post enc Tryz.prog Tryz.f3 false true false false W args v W' := by
  have hW' := hW
  obtain ⟨p, q, hA, hV, rfl, hfz, hnd⟩ := hW
  rw [Tryz.params3] at hA hval
  obtain ⟨v0, vs0, d0, ds0, p0, q0, hargs, rfl, rfl, h0, r0⟩ := trodAll_cons hA
  obtain ⟨rfl, rfl, rfl⟩ := trodAll_nil r0
  obtain rfl : args = #[v0] := by cases args; simp_all
  obtain ⟨rfl, rfl⟩ := trodVars_none hV
  obtain ⟨fuel, hf⟩ := h0
  obtain ⟨v, l, hv, hVR, hok⟩ := read_wns (H := H) hf
  have hv0 : v0 = v := by
    cases v0 with
    | agg xs =>
      have hh := hval 0 22 _ rfl rfl
      simp [Value.okWide, Tryz.underlying22, Cell.okWide, Cell.ok] at hh
    | _ => simpa [Value.cells] using hv
  subst hv0
  refine callsIn_wide.1 ((pages3 l hok).run (DofW W) W [v0] (dofW_dat W (gb0 _)) (.cons _ _ _ _ hVR .nil) _ fun D' W' x hkp _ hx => ?_)
  cases hx with
  | bool =>
    exact ⟨_, rfl, law_post laid par3 rfl (tb := 4) (by kernel_rfl) Tryz.underlying4 rfl hW' hkp.os hkp.out hkp.keep⟩

theorem lifted3 (os : Os) (started : os.Started) (H : Type) (enc : TypeId × Value → H) :
    ReturnsInHanded {} Tryz.checked os 3 .any (Rows.kernelPagesSpec.pre6 enc Tryz.prog Tryz.f3 Rows.kernelPagesRow.domain false) (Rows.kernelPagesSpec.post enc Tryz.prog Tryz.f3 false true false false) := by
  refine returnsInHanded_of_change (C := Tryz.checked) own started (by kernel_rfl) Tryz.func3
    (ChangeSpec.witness6 (enc := enc) (C := Tryz.checked) false ⟨#[], #[.slice none 0 0], []⟩ 8 (by kernel_rfl) (by kernel_rfl) (by kernel_rfl) (by kernel_rfl)) ?_
  intro W base args ds gs before hval hW _ _
  exact contract3 H enc W base args ds gs before hval hW

theorem pages_holds : Rows.KernelPagesSaid :=
  OpenClaim.holds_of_wide 3 Tryz.f3 rfl rfl rfl rfl rfl rfl rfl ⟨rfl, rfl, rfl, rfl, rfl⟩ rfl rfl rfl rfl rfl (by kernel_rfl) Tryz.func3 closed
    (of_decide_eq_true (by kernel_rfl)) (by unfold Func.isWrapper; first | (rw [if_pos (by decide +kernel)]; kernel_rfl) | (rw [if_neg (by decide +kernel)]; exact ⟨rfl, rfl⟩))
    (fun os started H enc _ => lifted3 os started H enc)
end Go.Proofs.YthmkafloklnghaaGreat
