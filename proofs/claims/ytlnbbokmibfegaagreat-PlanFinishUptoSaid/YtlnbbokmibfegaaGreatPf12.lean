/- The rows of an answer, sorted, once, the first ones, are what the document says: PlanFinish is true of whatever query and rows. Condition: what is read is of bulk at most 1048576 (the second form of the statement). -/
import Derived.Test.YtlnbbokmibfegaaGreatPf11
import Derived.Test.YtlnbbokmibfegaaGreatPfJ7
import Derived.Test.YtlnbbokmibfegaaGreatRows
namespace Go.Proofs.YtlnbbokmibfegaaGreat
open Go.Abs
open Go.ChangeShapes Go.WideShapes Go.ChangeAt Go.RowKit
set_option maxRecDepth 100000

theorem gb0 (D : Da) : GB D := fun c x h => by simp [GD, gInt, gRaw] at h
theorem own : ownKnob Tryz.prog.godebug = none := by kernel_rfl
theorem laid : laidOutB Tryz.prog = true := jLaid
theorem par3 : ∀ t ∈ Tryz.f3.params.toList, Tryz.prog.readableRec t = true ∧ t < Tryz.prog.types.size := by
  intro t ht
  rw [Tryz.params3] at ht
  have : t = 35 ∨ t = 36 := by simpa using ht
  rcases this with rfl | rfl
  · exact ⟨by kernel_rfl, of_decide_eq_true (by kernel_rfl)⟩
  · exact ⟨by kernel_rfl, of_decide_eq_true (by kernel_rfl)⟩
theorem contract3 (H : Type) (enc : TypeId × Value → H) (W : World) (base : Nat) (args : Array Value) (ds gs : List (DataW H)) (before : List MemPlace)
    (hval : ∀ (j : Nat) t v, Tryz.f3.params[j]? = some t → args[j]? = some v → Value.okWide Tryz.prog W .any base t v)
    (hW : DataW.Whole enc Tryz.prog Tryz.f3.params.toList Rows.planFinishSpec.vars false W args.toList ds gs before) (hk : Rows.uptoSmall H (ds ++ gs) = true) :
    Calls Tryz.prog 3 args W fun e W' => ∃ v, e = .returned v ∧ Rows.planFinishSpec.post enc Tryz.prog Tryz.f3 false true false false W args v W' := by
  have hW' := hW
  obtain ⟨p, q, hA, hV, rfl, hfz, hnd⟩ := hW
  rw [Tryz.params3] at hA hval
  obtain ⟨v0, vs0, d0, ds0, p0, q0, hargs, rfl, rfl, h0, r0⟩ := trodAll_cons hA
  obtain ⟨v1, vs1, d1, ds1, p1, q1, rfl, rfl, rfl, h1, r1⟩ := trodAll_cons r0
  obtain ⟨rfl, rfl, rfl⟩ := trodAll_nil r1
  obtain rfl : args = #[v0, v1] := by cases args; simp_all
  obtain ⟨rfl, rfl⟩ := trodVars_none hV
  obtain ⟨fuel0, hf0⟩ := h0
  obtain ⟨fuel1, hf1⟩ := h1
  obtain ⟨B, hB, hBv, b0⟩ := read_bn (H := H) hf0
  obtain ⟨v, L, hv, hVR, b1, b2⟩ := read_rows (H := H) hf1
  have hb : Rows.uptoBulkAll [d0, d1] ≤ 1048576 := of_decide_eq_true hk
  simp only [Rows.uptoBulkAll] at hb
  simp only at b0 b1 b2
  have hv0 : VR PhN (DofW W) B.av v0 := read_agg (by simp [Bn.cells, hB.len]) (by omega) hBv
  have hv1 : v1 = v := by
    cases v1 with
    | agg xs =>
      have hh := hval 1 36 _ rfl rfl
      simp [Value.okWide, Tryz.underlying36, Cell.okWide, Cell.ok] at hh
    | _ => simpa [Value.cells] using hv
  subst hv1
  refine callsIn_wide.1 ((finish3 B hB L (by omega) (fun r hr => by have := b2 r hr; omega) (by omega)).run (DofW W) W [v0, v1] (dofW_dat W (gb0 _)) (.cons _ _ _ _ hv0 (.cons _ _ _ _ hVR .nil)) _ fun D' W' x hkp _ hx => ?_)
  cases hx with
  | bool =>
    exact ⟨_, rfl, law_post laid par3 rfl (tb := 4) (by kernel_rfl) Tryz.underlying4 rfl hW' hkp.os hkp.out hkp.keep⟩

theorem lifted3 (os : Os) (started : os.Started) (H : Type) (enc : TypeId × Value → H) (F : Stop.Interp) :
    ReturnsInHanded {} Tryz.checked os 3 .any ((Rows.OpenSpec.upto Rows.planFinishSpec).pre6 enc Tryz.prog Tryz.f3 Rows.planFinishUptoRow.domain false) (((Rows.OpenSpec.upto Rows.planFinishSpec).at F).post enc Tryz.prog Tryz.f3 false true false false) := by
  refine returnsInHanded_of_cond (C := Tryz.checked) (s := Rows.OpenSpec.upto Rows.planFinishSpec) (k := Rows.uptoSmall) rfl own started (by kernel_rfl) Tryz.func3
    (OpenSpec.witness (enc := enc) (C := Tryz.checked) (s := Rows.OpenSpec.upto Rows.planFinishSpec) (k := Rows.uptoSmall) rfl false ⟨#[], #[.agg #[.int .i64 0, .string .empty, .int .u32 0, .string .empty, .slice none 0 0, .int .u32 0, .int .u32 0, .int .u32 0, .string .empty, .slice none 0 0, .bool false, .int .u32 0, .slice none 0 0, .slice none 0 0, .slice none 0 0, .slice none 0 0, .slice none 0 0, .slice none 0 0, .slice none 0 0, .slice none 0 0, .slice none 0 0, .slice none 0 0, .bool false, .bool false, .int .i64 0], .slice none 0 0], []⟩ 8 (by kernel_rfl) (by kernel_rfl) (by kernel_rfl)
      (x := ([.agg [.lit (.int .i64 0), .lit (.string []), .agg [.lit (.int .u32 0), .lit (.string []), .nil, .lit (.int .u32 0)], .agg [.lit (.int .u32 0), .lit (.int .u32 0), .lit (.string []), .nil, .lit (.bool false), .lit (.int .u32 0)], .nil, .nil, .nil, .nil, .nil, .nil, .nil, .nil, .nil, .nil, .lit (.bool false), .lit (.bool false), .lit (.int .i64 0)], .nil], [], [])) (by kernel_rfl) rfl (by kernel_rfl)) ?_
  intro W base args ds gs before hval hW _ hk _
  exact contract3 H enc W base args ds gs before hval hW hk

theorem finish_holds : Rows.PlanFinishUptoSaid :=
  OpenClaim.holds_of_cond 3 Tryz.f3 rfl rfl rfl rfl rfl rfl rfl ⟨rfl, rfl, rfl, rfl, rfl⟩ rfl rfl rfl rfl rfl (by kernel_rfl) Tryz.func3 closed
    (of_decide_eq_true (by kernel_rfl)) (by unfold Func.isWrapper; first | (rw [if_pos (by decide +kernel)]; kernel_rfl) | (rw [if_neg (by decide +kernel)]; exact ⟨rfl, rfl⟩))
    (fun os started H enc _ F => lifted3 os started H enc F)
end Go.Proofs.YtlnbbokmibfegaaGreat
