/- Of a query of one item, so many sums to the left or to the right of one another: whether it has a program is told by the count; EmitDeep is true of whatever two numbers. No condition: the first form of the statement. -/
import Derived.Test.YtmmgdjecahcemaaGreatEe4
import Derived.Test.YtmmgdjecahcemaaGreatEdS
import Derived.Test.YtmmgdjecahcemaaGreatAbs5
import Derived.Test.YtmmgdjecahcemaaGreatEdJ7
import Derived.Test.YtmmgdjecahcemaaGreatRows
namespace Go.Proofs.YtmmgdjecahcemaaGreat
open Go.Abs
open Go.ChangeShapes Go.WideShapes Go.ChangeAt Go.RowKit
set_option maxRecDepth 100000

theorem deep3 (n m : Int) : FnPure Tryz.prog 3 [.int .i64 n, .int .i64 m] (.bool true) := law3 n m awake4 may23e
theorem gb0 (D : Da) : GB D := fun c x h => by simp [GD, gInt, gRaw] at h
theorem own : ownKnob Tryz.prog.godebug = none := by kernel_rfl
theorem laid : laidOutB Tryz.prog = true := jLaid
theorem cells3 : Tryz.prog.cellsOf 3 = 1 := by kernel_rfl
theorem par3 : ∀ t ∈ Tryz.f3.params.toList, Tryz.prog.readableRec t = true ∧ t < Tryz.prog.types.size := by
  intro t ht
  rw [Tryz.params3] at ht
  obtain rfl : t = 3 := by simpa using ht
  exact ⟨by kernel_rfl, of_decide_eq_true (by kernel_rfl)⟩
theorem contract3 (H : Type) (enc : TypeId × Value → H) (W : World) (base : Nat) (args : Array Value) (ds gs : List (DataW H)) (before : List MemPlace)
    (hval : ∀ (j : Nat) t v, Tryz.f3.params[j]? = some t → args[j]? = some v → Value.okWide Tryz.prog W .any base t v)
    (hW : DataW.Whole enc Tryz.prog Tryz.f3.params.toList Rows.emitDeepSpec.vars false W args.toList ds gs before) :
    Calls Tryz.prog 3 args W fun e W' => ∃ v, e = .returned v ∧ Rows.emitDeepSpec.post enc Tryz.prog Tryz.f3 false true false false W args v W' := by
  have hW' := hW
  obtain ⟨p, q, hA, hV, rfl, hfz, hnd⟩ := hW
  rw [Tryz.params3] at hA hval
  obtain ⟨v0, vs0, d0, ds0, p0, q0, hargs, rfl, rfl, h0, r0⟩ := trodAll_cons hA
  obtain ⟨v1, vs1, d1, ds1, p1, q1, rfl, rfl, rfl, h1, r1⟩ := trodAll_cons r0
  obtain ⟨rfl, rfl, rfl⟩ := trodAll_nil r1
  obtain rfl : args = #[v0, v1] := by cases args; simp_all
  obtain ⟨rfl, rfl⟩ := trodVars_none hV
  obtain ⟨fuel0, hf0⟩ := h0
  obtain ⟨fuel1, hf1⟩ := h1
  obtain ⟨i0, e0, _⟩ := DataW.trod_int Tryz.underlying3 hf0
  obtain ⟨i1, e1, _⟩ := DataW.trod_int Tryz.underlying3 hf1
  have hv0 : v0 = .int .i64 i0 := by
    cases v0 with
    | agg xs =>
      have hh := hval 0 3 _ rfl rfl
      simp [Value.okWide, Tryz.underlying3, Cell.okWide, Cell.ok] at hh
    | int k a => simpa [Value.cells] using e0
    | _ => simp [Value.cells] at e0
  have hv1 : v1 = .int .i64 i1 := by
    cases v1 with
    | agg xs =>
      have hh := hval 1 3 _ rfl rfl
      simp [Value.okWide, Tryz.underlying3, Cell.okWide, Cell.ok] at hh
    | int k a => simpa [Value.cells] using e1
    | _ => simp [Value.cells] at e1
  subst hv0 hv1
  refine callsIn_wide.1 ((deep3 i0 i1).run (DofW W) W [.int .i64 i0, .int .i64 i1] (dofW_dat W (gb0 _)) (.cons _ _ _ _ (.int _ _) (.cons _ _ _ _ (.int _ _) .nil)) _ fun D' W' x hkp _ hx => ?_)
  cases hx with
  | bool =>
    exact ⟨_, rfl, law_post laid par3 rfl (tb := 4) (by kernel_rfl) Tryz.underlying4 rfl hW' hkp.os hkp.out hkp.keep⟩

theorem lifted3 (os : Os) (started : os.Started) (H : Type) (enc : TypeId × Value → H) :
    ReturnsInHanded {} Tryz.checked os 3 .any (Rows.emitDeepSpec.pre6 enc Tryz.prog Tryz.f3 Rows.emitDeepRow.domain false) (Rows.emitDeepSpec.post enc Tryz.prog Tryz.f3 false true false false) := by
  refine returnsInHanded_of_change (C := Tryz.checked) own started (by kernel_rfl) Tryz.func3
    (ChangeSpec.witness6 (enc := enc) (C := Tryz.checked) false ⟨#[], #[.int .i64 0, .int .i64 0], []⟩ 8 (by kernel_rfl) (by kernel_rfl) (by kernel_rfl) (by kernel_rfl)) ?_
  intro W base args ds gs before hval hW _ _
  exact contract3 H enc W base args ds gs before hval hW

theorem deep_holds : Rows.EmitDeepSaid :=
  OpenClaim.holds_of_wide 3 Tryz.f3 rfl rfl rfl rfl rfl rfl rfl ⟨rfl, rfl, rfl, rfl, rfl⟩ rfl rfl rfl rfl rfl (by kernel_rfl) Tryz.func3 closed
    (of_decide_eq_true (by kernel_rfl)) (by unfold Func.isWrapper; first | (rw [if_pos (by decide +kernel)]; kernel_rfl) | (rw [if_neg (by decide +kernel)]; exact ⟨rfl, rfl⟩))
    (fun os started H enc _ => lifted3 os started H enc)
end Go.Proofs.YtmmgdjecahcemaaGreat
