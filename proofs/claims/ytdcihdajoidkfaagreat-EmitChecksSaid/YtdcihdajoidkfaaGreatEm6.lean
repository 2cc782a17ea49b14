/- Check answers what the document says, of every program: whether it may be. No condition: the first form of the statement. -/
import Derived.Test.YtdcihdajoidkfaaGreatEm5
import Derived.Test.YtdcihdajoidkfaaGreatAbsRd
import Derived.Test.YtdcihdajoidkfaaGreatRows
namespace Go.Abs
open Go.Proofs Go.Proofs.YtdcihdajoidkfaaGreat
set_option maxRecDepth 100000

theorem insC_flat (l : List Ins) : insC l = l.flatMap Ins.cells := by
  induction l with
  | nil => rfl
  | cons e r ih => simp [insC, ih]
theorem cells24 : Tryz.prog.cellsOf 24 = 3 := by kernel_rfl
theorem cells33 : Tryz.prog.cellsOf 33 = 15 := by kernel_rfl
theorem cells31 : Tryz.prog.cellsOf 31 = 3 := by kernel_rfl
theorem cells22 : Tryz.prog.cellsOf 22 = 1 := by kernel_rfl
theorem cells3 : Tryz.prog.cellsOf 3 = 1 := by kernel_rfl
theorem cells2 : Tryz.prog.cellsOf 2 = 1 := by kernel_rfl
theorem cells9 : Tryz.prog.cellsOf 9 = 1 := by kernel_rfl
theorem cells4 : Tryz.prog.cellsOf 4 = 1 := by kernel_rfl
theorem cells29 : Tryz.prog.cellsOf 29 = 1 := by kernel_rfl
section
variable {H : Type} {enc : TypeId × Value → H} {w : World} {base : Nat} {spare : Nat → Bool} {held : Bool}
theorem read_val {fuel : Nat} {cs : List Value} {x : DataW H × List MemPlace} (h : DataW.trod enc Tryz.prog w base spare held fuel 31 cs = some x) : ∃ v : Val, ∀ D : Da, VRs PhN D v.cells cs := by
  obtain ⟨xs, n, rfl, rfl, hl, hx, hf⟩ := DataW.trod_struct Tryz.underlying31 h
  rw [cells31] at hl
  match cs, hl with
  | [c0, c1, c2], _ =>
    match xs, hx with
    | [x0, x1, x2], _ =>
      have f0 := hf 0 _ rfl
      have f1 := hf 1 _ rfl
      have f2 := hf 2 _ rfl
      simp [cells3, cells2, cells9] at f0 f1 f2
      obtain ⟨i0, e0, _⟩ := DataW.trod_int Tryz.underlying3 f0
      obtain ⟨i1, e1, _⟩ := DataW.trod_int Tryz.underlying2 f1
      obtain ⟨s2, e2, _⟩ := DataW.trod_string Tryz.underlying9 f2
      simp at e0 e1 e2
      subst e0 e1 e2
      exact ⟨⟨i0, i1, s2.data.toList.map UInt8.toNat⟩, fun D => .cons _ _ _ _ (.int _ _) (.cons _ _ _ _ (.int _ _) (.cons _ _ _ _ (.str _ _ rfl) .nil))⟩
theorem read_ins {fuel : Nat} {cs : List Value} {x : DataW H × List MemPlace} (h : DataW.trod enc Tryz.prog w base spare held fuel 33 cs = some x) : ∃ v : Ins, ∀ D : Da, VRs PhN D v.cells cs := by
  obtain ⟨xs, n, rfl, rfl, hl, hx, hf⟩ := DataW.trod_struct Tryz.underlying33 h
  rw [cells33] at hl
  match cs, hl with
  | [c0, c1, c2, c3, c4, c5, c6, c7, c8, c9, c10, c11, c12, c13, c14], _ =>
    match xs, hx with
    | [x0, x1, x2, x3, x4, x5, x6, x7, x8, x9, x10, x11, x12], _ =>
      have f0 := hf 0 _ rfl
      have f1 := hf 1 _ rfl
      have f2 := hf 2 _ rfl
      have f3 := hf 3 _ rfl
      have f4 := hf 4 _ rfl
      have f5 := hf 5 _ rfl
      have f6 := hf 6 _ rfl
      have f7 := hf 7 _ rfl
      have f8 := hf 8 _ rfl
      have f9 := hf 9 _ rfl
      have f10 := hf 10 _ rfl
      have f11 := hf 11 _ rfl
      have f12 := hf 12 _ rfl
      simp [cells3, cells4, cells29, cells31] at f0 f1 f2 f3 f4 f5 f6 f7 f8 f9 f10 f11 f12
      obtain ⟨i0, e0, _⟩ := DataW.trod_int Tryz.underlying3 f0
      obtain ⟨i1, e1, _⟩ := DataW.trod_int Tryz.underlying3 f1
      obtain ⟨i2, e2, _⟩ := DataW.trod_int Tryz.underlying3 f2
      obtain ⟨i3, e3, _⟩ := DataW.trod_int Tryz.underlying3 f3
      obtain ⟨i4, e4, _⟩ := DataW.trod_int Tryz.underlying3 f4
      obtain ⟨i5, e5, _⟩ := DataW.trod_int Tryz.underlying3 f5
      obtain ⟨i6, e6, _⟩ := DataW.trod_int Tryz.underlying3 f6
      obtain ⟨i7, e7, _⟩ := DataW.trod_int Tryz.underlying29 f7
      obtain ⟨i8, e8, _⟩ := DataW.trod_int Tryz.underlying3 f8
      obtain ⟨i9, e9, _⟩ := DataW.trod_int Tryz.underlying3 f9
      obtain ⟨i10, e10, _⟩ := DataW.trod_bool Tryz.underlying4 f10
      obtain ⟨i11, e11, _⟩ := DataW.trod_bool Tryz.underlying4 f11
      obtain ⟨v, ev⟩ := read_val f12
      simp at e0 e1 e2 e3 e4 e5 e6 e7 e8 e9 e10 e11
      subst e0 e1 e2 e3 e4 e5 e6 e7 e8 e9 e10 e11
      refine ⟨⟨i0, i1, i2, i3, i4, i5, i6, i7, i8, i9, i10, i11, v⟩, fun D => ?_⟩
      simp only [Ins.cells]
      refine .cons _ _ _ _ (.int _ _) ?_
      refine .cons _ _ _ _ (.int _ _) ?_
      refine .cons _ _ _ _ (.int _ _) ?_
      refine .cons _ _ _ _ (.int _ _) ?_
      refine .cons _ _ _ _ (.int _ _) ?_
      refine .cons _ _ _ _ (.int _ _) ?_
      refine .cons _ _ _ _ (.int _ _) ?_
      refine .cons _ _ _ _ (.int _ _) ?_
      refine .cons _ _ _ _ (.int _ _) ?_
      refine .cons _ _ _ _ (.int _ _) ?_
      refine .cons _ _ _ _ (.bool _) ?_
      refine .cons _ _ _ _ (.bool _) ?_
      exact ev D
theorem read_cod {fuel : Nat} {cs : List Value} {x : DataW H × List MemPlace} (h : DataW.trod enc Tryz.prog w base spare held fuel 24 cs = some x) : ∃ c : Cod, VRs PhN (DofW w) c.cells cs := by
  obtain ⟨xs, n, rfl, rfl, hl, hx, hf⟩ := DataW.trod_struct Tryz.underlying24 h
  rw [cells24] at hl
  match cs, hl with
  | [c0, c1, c2], _ =>
    match xs, hx with
    | [x0, x1, x2], _ =>
      have f0 := hf 0 _ rfl
      have f1 := hf 1 _ rfl
      have f2 := hf 2 _ rfl
      simp [cells3, cells22] at f0 f1 f2
      obtain ⟨i0, e0, _⟩ := DataW.trod_int Tryz.underlying3 f0
      obtain ⟨i1, e1, _⟩ := DataW.trod_int Tryz.underlying3 f1
      obtain ⟨v, l, e2, hv, hr⟩ := read_slice (α := Ins) (av := Ins.cells) (R := fun _ _ => True) Tryz.underlying22 cells33 (by omega) Ins.cells_len (fun n' cs' y hn' hy => by
        obtain ⟨a, ha⟩ := read_ins hy
        exact ⟨a, ha _, trivial⟩) f2
      simp at e0 e1 e2
      subst e0 e1 e2
      refine ⟨⟨i0, i1, l⟩, ?_⟩
      simp only [Cod.cells]
      refine .cons _ _ _ _ (.int _ _) (.cons _ _ _ _ (.int _ _) (.cons _ _ _ _ ?_ .nil))
      rw [insC_flat]; exact hv
end
end Go.Abs
namespace Go.Proofs.YtdcihdajoidkfaaGreat
open Go.Abs
open Go.ChangeShapes Go.WideShapes Go.ChangeAt Go.RowKit
set_option maxRecDepth 100000

theorem own : ownKnob Tryz.prog.godebug = none := by kernel_rfl
theorem laid : laidOutB Tryz.prog = true := by kernel_rfl
theorem par3 : ∀ t ∈ Tryz.f3.params.toList, Tryz.prog.readableRec t = true ∧ t < Tryz.prog.types.size := by
  intro t ht
  rw [Tryz.params3] at ht
  obtain rfl : t = 24 := by simpa using ht
  exact ⟨by kernel_rfl, of_decide_eq_true (by kernel_rfl)⟩
theorem contract3 (H : Type) (enc : TypeId × Value → H) (W : World) (args : Array Value) (ds gs : List (DataW H)) (before : List MemPlace)
    (hW : DataW.Whole enc Tryz.prog Tryz.f3.params.toList Rows.emitChecksSpec.vars false W args.toList ds gs before) :
    Calls Tryz.prog 3 args W fun e W' => ∃ v, e = .returned v ∧ Rows.emitChecksSpec.post enc Tryz.prog Tryz.f3 false true false false W args v W' := by
  have hW' := hW
  obtain ⟨p, q, hA, hV, rfl, hfz, hnd⟩ := hW
  rw [Tryz.params3] at hA
  obtain ⟨v0, vs0, d0, ds0, p0, q0, hargs, rfl, rfl, h0, r0⟩ := trodAll_cons hA
  obtain ⟨rfl, rfl, rfl⟩ := trodAll_nil r0
  obtain rfl : args = #[v0] := by cases args; simp_all
  obtain ⟨rfl, rfl⟩ := trodVars_none hV
  obtain ⟨fuel, hf⟩ := h0
  obtain ⟨c, hc⟩ := read_cod (H := H) hf
  have hv : VR PhN (DofW W) c.av v0 := read_agg (by simp [Cod.cells]) (by omega) hc
  refine callsIn_wide.1 ((checks3 c).run (DofW W) W [v0] (dofW_dat W) (.cons _ _ _ _ hv .nil) _ fun D' W' x hkp _ hx => ?_)
  cases hx with
  | bool =>
    exact ⟨_, rfl, law_post laid par3 rfl (tb := 4) (by kernel_rfl) Tryz.underlying4 rfl hW' hkp.os hkp.out hkp.keep⟩

theorem lifted3 (os : Os) (started : os.Started) (H : Type) (enc : TypeId × Value → H) :
    ReturnsInHanded {} Tryz.checked os 3 .any (Rows.emitChecksSpec.pre6 enc Tryz.prog Tryz.f3 Rows.emitChecksRow.domain false) (Rows.emitChecksSpec.post enc Tryz.prog Tryz.f3 false true false false) := by
  refine returnsInHanded_of_change (C := Tryz.checked) own started (by kernel_rfl) Tryz.func3
    (ChangeSpec.witness6 (enc := enc) (C := Tryz.checked) false ⟨#[], #[.agg #[.int .i64 0, .int .i64 0, .slice none 0 0]], []⟩ 8 (by kernel_rfl) (by kernel_rfl) (by kernel_rfl) (by kernel_rfl)) ?_
  intro W base args ds gs before hval hW _ _
  exact contract3 H enc W args ds gs before hW

theorem checks_holds : Rows.EmitChecksSaid :=
  OpenClaim.holds_of_wide 3 Tryz.f3 rfl rfl rfl rfl rfl rfl rfl ⟨rfl, rfl, rfl, rfl, rfl⟩ rfl rfl rfl rfl rfl (by kernel_rfl) Tryz.func3 (by kernel_rfl)
    (of_decide_eq_true (by kernel_rfl)) (by unfold Func.isWrapper; first | (rw [if_pos (by decide +kernel)]; kernel_rfl) | (rw [if_neg (by decide +kernel)]; exact ⟨rfl, rfl⟩))
    (fun os started H enc _ => lifted3 os started H enc)
end Go.Proofs.YtdcihdajoidkfaaGreat
