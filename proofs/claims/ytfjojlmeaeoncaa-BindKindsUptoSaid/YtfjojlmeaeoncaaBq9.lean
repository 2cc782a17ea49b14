/- What Kind answers is what the document says, of every expression and whatever the places' kinds. Condition: what is read is of bulk at most 1048576 (the second form of the statement). -/
import Derived.Test.YtfjojlmeaeoncaaBp7
import Derived.Test.YtfjojlmeaeoncaaBq8
namespace Go.Proofs.Ytfjojlmeaeoncaa
open Go.Abs
open Go.ChangeShapes Go.WideShapes Go.ChangeAt Go.RowKit
set_option maxRecDepth 100000

theorem own : ownKnob Try.prog.godebug = none := by kernel_rfl
theorem laid : laidOutB Try.prog = true := by kernel_rfl
theorem par3 : ∀ t ∈ Try.f3.params.toList, Try.prog.readableRec t = true ∧ t < Try.prog.types.size := by
  intro t ht
  rw [Try.params3] at ht
  have : t = 26 ∨ t = 27 := by simpa using ht
  rcases this with rfl | rfl
  · exact ⟨by kernel_rfl, of_decide_eq_true (by kernel_rfl)⟩
  · exact ⟨by kernel_rfl, of_decide_eq_true (by kernel_rfl)⟩
theorem all2_len {H : Type} {l : List Int} {ds : List (DataW H)} (h : All2 (fun (_ : Int) d => 1 ≤ Rows.uptoBulk d) l ds) : l.length ≤ Rows.uptoBulkAll ds := by
  induction h with
  | nil => simp [Rows.uptoBulkAll]
  | cons h1 _ ih => simp [Rows.uptoBulkAll]; omega
theorem flat_ints (l : List Int) : (l.flatMap fun i => [AV.int .i64 i]) = intsC l := by
  induction l with
  | nil => rfl
  | cons a r ih => simp only [List.flatMap_cons, ih]; rfl
theorem read_ints {H : Type} {enc : TypeId × Value → H} {w : World} {fuel : Nat} {cs : List Value} {x : DataW H × List MemPlace} (h : DataW.trod enc Try.prog w 0 (fun _ => true) true fuel 27 cs = some x) : ∃ v l, cs = [v] ∧ VR PhN (DofW w) (.ds (intsC l) l.length 1) v ∧ l.length ≤ Rows.uptoBulk x.1 := by
  obtain ⟨v, l, e, hv, hr⟩ := read_slice (α := Int) (av := fun i => [.int .i64 i]) (R := fun _ d => 1 ≤ Rows.uptoBulk d) Try.underlying27 cells3 (by omega) (fun _ => rfl) (fun n' cs' y _ hy => by
    obtain ⟨i, e, ey, _⟩ := DataW.trod_int Try.underlying3 hy
    subst e ey
    exact ⟨i, .cons _ _ _ _ (.int _ _) .nil, by simp [Rows.uptoBulk]⟩) h
  rw [flat_ints] at hv
  refine ⟨v, l, e, hv, ?_⟩
  rcases hr with ⟨rfl, _⟩ | ⟨ds, rest, e, ha⟩
  · simp
  · rw [e]
    have := all2_len ha
    simp [Rows.uptoBulk]; omega
theorem contract3 (H : Type) (enc : TypeId × Value → H) (W : World) (base : Nat) (args : Array Value) (ds gs : List (DataW H)) (before : List MemPlace)
    (hval : ∀ (j : Nat) t v, Try.f3.params[j]? = some t → args[j]? = some v → Value.okWide Try.prog W .any base t v)
    (hW : DataW.Whole enc Try.prog Try.f3.params.toList Rows.bindKindsSpec.vars false W args.toList ds gs before) (hk : Rows.uptoSmall H (ds ++ gs) = true) :
    Calls Try.prog 3 args W fun e W' => ∃ v, e = .returned v ∧ Rows.bindKindsSpec.post enc Try.prog Try.f3 false true false false W args v W' := by
  have hW' := hW
  obtain ⟨p, q, hA, hV, rfl, hfz, hnd⟩ := hW
  rw [Try.params3] at hA hval
  obtain ⟨v0, vs0, d0, ds0, p0, q0, hargs, rfl, rfl, h0, r0⟩ := trodAll_cons hA
  obtain ⟨v1, vs1, d1, ds1, p1, q1, rfl, rfl, rfl, h1, r1⟩ := trodAll_cons r0
  obtain ⟨rfl, rfl, rfl⟩ := trodAll_nil r1
  obtain rfl : args = #[v0, v1] := by cases args; simp_all
  obtain ⟨rfl, rfl⟩ := trodVars_none hV
  obtain ⟨fuel, hf⟩ := h0
  obtain ⟨fuel1, hf1⟩ := h1
  obtain ⟨e, he, hs⟩ := read_ex (H := H) fuel fuel _ _ (Nat.le_refl _) hf
  obtain ⟨v, l, el, hl, hln⟩ := read_ints hf1
  have hb : Rows.uptoBulkAll [d0, d1] ≤ 1048576 := of_decide_eq_true hk
  simp only [Rows.uptoBulkAll] at hb
  simp only at hs hln
  have hv : VR PhN (DofW W) e.av v0 := read_agg (Ex.cells_len e) (by omega) he
  have hv1 : v1 = v := by
    have := hl.cells
    cases v1 with
    | agg xs =>
      have hh := hval 1 27 _ rfl rfl
      simp [Value.okWide, Try.underlying27, Cell.okWide, Cell.ok] at hh
    | _ => simpa [Value.cells] using el
  subst hv1
  refine callsIn_wide.1 ((kinds3 e l (by unfold lim; omega) (by unfold lim; omega)).run (DofW W) W [v0, v1] (dofW_dat W) (.cons _ _ _ _ hv (.cons _ _ _ _ hl .nil)) _ fun D' W' x hkp _ hx => ?_)
  cases hx with
  | bool =>
    exact ⟨_, rfl, law_post laid par3 rfl (tb := 4) (by kernel_rfl) Try.underlying4 rfl hW' hkp.os hkp.out hkp.keep⟩

theorem lifted3 (os : Os) (started : os.Started) (H : Type) (enc : TypeId × Value → H) (F : Stop.Interp) :
    ReturnsInHanded {} Try.checked os 3 .any ((Rows.OpenSpec.upto Rows.bindKindsSpec).pre6 enc Try.prog Try.f3 Rows.bindKindsUptoRow.domain false) (((Rows.OpenSpec.upto Rows.bindKindsSpec).at F).post enc Try.prog Try.f3 false true false false) := by
  refine returnsInHanded_of_cond (C := Try.checked) (s := Rows.OpenSpec.upto Rows.bindKindsSpec) (k := Rows.uptoSmall) rfl own started (by kernel_rfl) Try.func3
    (OpenSpec.witness (enc := enc) (C := Try.checked) (s := Rows.OpenSpec.upto Rows.bindKindsSpec) (k := Rows.uptoSmall) rfl false ⟨#[], #[.agg #[.int .i64 0, .int .i64 0, .int .i64 0, .string .empty, .string .empty, .string .empty, .int .i64 0, .slice none 0 0], .slice none 0 0], []⟩ 8 (by kernel_rfl) (by kernel_rfl) (by kernel_rfl)
      (x := ([.agg [.lit (.int .i64 0), .agg [.lit (.int .i64 0), .lit (.int .i64 0), .lit (.string [])], .lit (.string []), .lit (.string []), .lit (.int .i64 0), .nil], .nil], [], [])) (by kernel_rfl) rfl (by kernel_rfl)) ?_
  intro W base args ds gs before hval hW _ hk _
  exact contract3 H enc W base args ds gs before hval hW hk

theorem kinds_holds : Rows.BindKindsUptoSaid :=
  OpenClaim.holds_of_cond 3 Try.f3 rfl rfl rfl rfl rfl rfl rfl ⟨rfl, rfl, rfl, rfl, rfl⟩ rfl rfl rfl rfl rfl (by kernel_rfl) Try.func3 (by kernel_rfl)
    (of_decide_eq_true (by kernel_rfl)) (by unfold Func.isWrapper; first | (rw [if_pos (by decide +kernel)]; kernel_rfl) | (rw [if_neg (by decide +kernel)]; exact ⟨rfl, rfl⟩))
    (fun os started H enc _ F => lifted3 os started H enc F)
end Go.Proofs.Ytfjojlmeaeoncaa
