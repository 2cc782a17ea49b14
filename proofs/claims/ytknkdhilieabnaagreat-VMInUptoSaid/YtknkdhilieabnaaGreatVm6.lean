/- In answers what the document says, whatever the index, the span and the row. Condition: what is read is of bulk at most 1048576 (the second form of the statement). -/
import Derived.Test.YtknkdhilieabnaaGreatVm5
import Derived.Test.YtknkdhilieabnaaGreatAbsRd
import Derived.Test.YtknkdhilieabnaaGreatRows
namespace Go.Abs
open Go.Proofs Go.Proofs.YtknkdhilieabnaaGreat
set_option maxRecDepth 100000

theorem awake7 : FnPure Tryz.prog 7 [] (.bool true) := FnPure.byRun 1000 (by simp) (by simp) (by kernel_rfl)
theorem vmin3 (x : Idx) (s : Spn) (row : List Val) (h1 : x.cols.length ≤ 1048576) (h2 : s.eq.length ≤ 1048576) (h3 : row.length ≤ 1048576) : FnPure Tryz.prog 3 [x.av, s.av, rowAV row] (.bool true) := by
  refine pureV c3 (by simp) (by simp) (by simp [A3]) fun F hF => ?_
  simp [A3, B3, R3_0, hF, Idx.av, Idx.cells, Spn.av, Spn.cells, R3_1]
  refine DrwV.of (ceT_ok (l := [(5, [x.av, s.av, rowAV row], fun H n => .mk (.bool (inB x s row)) H n), (6, [x.av, s.av, rowAV row], fun H n => .mk (.bool (inB x s row)) H n), (7, [], fun H n => .mk (.bool true) H n)]) ?_) ?_
  · intro y hy
    simp only [List.mem_cons, List.not_mem_nil, or_false] at hy
    rcases hy with rfl | rfl | rfl
    · exact ceT_pure (in5 x s row h1 h2 h3)
    · exact ceT_pure (in6 x s row h1 h2 h3)
    · exact ceT_pure awake7
  · simp [clearF_get, hF]
    rw [show [AV.agg [AV.int IntKind.u32 x.id, AV.int IntKind.u32 x.table, AV.str x.name, AV.ds (intsC x.cols) x.cols.length 1, AV.bool x.uniq, AV.int IntKind.u32 x.root] 6, AV.agg [AV.ds (valsC s.eq) s.eq.length 3, AV.bool s.hasLo, AV.int IntKind.i64 s.lo.kind, AV.int IntKind.i64 s.lo.num, AV.str s.lo.s, AV.bool s.loIn, AV.bool s.hasHi, AV.int IntKind.i64 s.hi.kind, AV.int IntKind.i64 s.hi.num, AV.str s.hi.s, AV.bool s.hiIn] 11, rowAV row] = [x.av, s.av, rowAV row] from rfl, ceT_hd]
    simp [clearF_get, hF]
    rw [show [AV.agg [AV.int IntKind.u32 x.id, AV.int IntKind.u32 x.table, AV.str x.name, AV.ds (intsC x.cols) x.cols.length 1, AV.bool x.uniq, AV.int IntKind.u32 x.root] 6, AV.agg [AV.ds (valsC s.eq) s.eq.length 3, AV.bool s.hasLo, AV.int IntKind.i64 s.lo.kind, AV.int IntKind.i64 s.lo.num, AV.str s.lo.s, AV.bool s.loIn, AV.bool s.hasHi, AV.int IntKind.i64 s.hi.kind, AV.int IntKind.i64 s.hi.num, AV.str s.hi.s, AV.bool s.hiIn] 11, rowAV row] = [x.av, s.av, rowAV row] from rfl, ceT_tl (fun h => absurd h (by decide)), ceT_hd]
    simp [clearF_get, hF]
    rw [ceT_tl (fun h => absurd h (by decide)), ceT_tl (fun h => absurd h (by decide)), ceT_hd]
    simp [clearF_get, hF]
    exact .bool rfl

theorem valsC_flat (l : List Val) : valsC l = l.flatMap Val.cells := by
  induction l with
  | nil => rfl
  | cons e r ih => simp [valsC, ih]
theorem intsC_flat (l : List Int) : intsC l = l.flatMap fun i => [AV.int .i64 i] := by
  induction l with
  | nil => rfl
  | cons a r ih => simp only [List.flatMap_cons, ← ih]; rfl
theorem all2_len {α H : Type} {l : List α} {ds : List (DataW H)} (h : All2 (fun (_ : α) d => 1 ≤ Rows.uptoBulk d) l ds) : l.length ≤ Rows.uptoBulkAll ds := by
  induction h with
  | nil => simp [Rows.uptoBulkAll]
  | cons h1 _ ih => simp [Rows.uptoBulkAll]; omega
theorem cells28 : Tryz.prog.cellsOf 28 = 3 := by kernel_rfl
theorem cells25 : Tryz.prog.cellsOf 25 = 6 := by kernel_rfl
theorem cells30 : Tryz.prog.cellsOf 30 = 11 := by kernel_rfl
theorem cells3 : Tryz.prog.cellsOf 3 = 1 := by kernel_rfl
theorem cells2 : Tryz.prog.cellsOf 2 = 1 := by kernel_rfl
theorem cells9 : Tryz.prog.cellsOf 9 = 1 := by kernel_rfl
theorem cells4 : Tryz.prog.cellsOf 4 = 1 := by kernel_rfl
theorem cells22 : Tryz.prog.cellsOf 22 = 1 := by kernel_rfl
theorem cells23 : Tryz.prog.cellsOf 23 = 1 := by kernel_rfl
theorem cells26 : Tryz.prog.cellsOf 26 = 1 := by kernel_rfl
section
variable {H : Type} {enc : TypeId × Value → H} {w : World} {base : Nat} {spare : Nat → Bool} {held : Bool}
theorem read_val {fuel : Nat} {cs : List Value} {x : DataW H × List MemPlace} (h : DataW.trod enc Tryz.prog w base spare held fuel 28 cs = some x) : ∃ v : Val, (∀ D : Da, VRs PhN D v.cells cs) ∧ 1 ≤ Rows.uptoBulk x.1 := by
  obtain ⟨xs, n, rfl, rfl, hl, hx, hf⟩ := DataW.trod_struct Tryz.underlying28 h
  rw [cells28] at hl
  match cs, hl with
  | [c0, c1, c2], _ =>
    match xs, hx with
    | [x0, x1, x2], _ =>
      have f0 := hf 0 _ rfl
      have f1 := hf 1 _ rfl
      have f2 := hf 2 _ rfl
      simp [cells3, cells2, cells9] at f0 f1 f2
      obtain ⟨i0, e0, _⟩ := DataW.trod_int Tryz.underlying3 f0
      obtain ⟨i1, e1, _⟩ := DataW.trod_int Tryz.underlying2 f1
      obtain ⟨s2, e2, _⟩ := DataW.trod_string Tryz.underlying9 f2
      simp at e0 e1 e2
      subst e0 e1 e2
      exact ⟨⟨i0, i1, s2.data.toList.map UInt8.toNat⟩, fun D => .cons _ _ _ _ (.int _ _) (.cons _ _ _ _ (.int _ _) (.cons _ _ _ _ (.str _ _ rfl) .nil)), by simp [Rows.uptoBulk]⟩
theorem read_vals {fuel : Nat} {cs : List Value} {x : DataW H × List MemPlace} (h : DataW.trod enc Tryz.prog w base spare held fuel 26 cs = some x) : ∃ v l, cs = [v] ∧ VR PhN (DofW w) (.ds (valsC l) l.length 3) v ∧ l.length ≤ Rows.uptoBulk x.1 := by
  obtain ⟨v, l, e, hv, hr⟩ := read_slice (α := Val) (av := Val.cells) (R := fun _ d => 1 ≤ Rows.uptoBulk d) Tryz.underlying26 cells28 (by omega) Val.cells_len (fun n' cs' y _ hy => by
    obtain ⟨a, ha, hb⟩ := read_val hy
    exact ⟨a, ha _, hb⟩) h
  refine ⟨v, l, e, by rw [valsC_flat]; exact hv, ?_⟩
  rcases hr with ⟨rfl, _⟩ | ⟨ds, rest, e, ha⟩
  · simp
  · rw [e]
    have := all2_len ha
    simp [Rows.uptoBulk]; omega
theorem read_ints {fuel : Nat} {cs : List Value} {x : DataW H × List MemPlace} (h : DataW.trod enc Tryz.prog w base spare held fuel 23 cs = some x) : ∃ v l, cs = [v] ∧ VR PhN (DofW w) (.ds (intsC l) l.length 1) v ∧ l.length ≤ Rows.uptoBulk x.1 := by
  obtain ⟨v, l, e, hv, hr⟩ := read_slice (α := Int) (av := fun i => [.int .i64 i]) (R := fun _ d => 1 ≤ Rows.uptoBulk d) Tryz.underlying23 cells3 (by omega) (fun _ => rfl) (fun n' cs' y _ hy => by
    obtain ⟨i, e, ey, _⟩ := DataW.trod_int Tryz.underlying3 hy
    subst e ey
    exact ⟨i, .cons _ _ _ _ (.int _ _) .nil, by simp [Rows.uptoBulk]⟩) h
  refine ⟨v, l, e, by rw [intsC_flat]; exact hv, ?_⟩
  rcases hr with ⟨rfl, _⟩ | ⟨ds, rest, e, ha⟩
  · simp
  · rw [e]
    have := all2_len ha
    simp [Rows.uptoBulk]; omega
theorem read_idx {fuel : Nat} {cs : List Value} {x : DataW H × List MemPlace} (h : DataW.trod enc Tryz.prog w base spare held fuel 25 cs = some x) : ∃ i : Idx, VRs PhN (DofW w) i.cells cs ∧ i.cols.length ≤ Rows.uptoBulk x.1 := by
  obtain ⟨xs, n, rfl, rfl, hl, hx, hf⟩ := DataW.trod_struct Tryz.underlying25 h
  rw [cells25] at hl
  match cs, hl with
  | [c0, c1, c2, c3, c4, c5], _ =>
    match xs, hx with
    | [x0, x1, x2, x3, x4, x5], _ =>
      have f0 := hf 0 _ rfl
      have f1 := hf 1 _ rfl
      have f2 := hf 2 _ rfl
      have f3 := hf 3 _ rfl
      have f4 := hf 4 _ rfl
      have f5 := hf 5 _ rfl
      simp [cells22, cells9, cells23, cells4] at f0 f1 f2 f3 f4 f5
      obtain ⟨i0, e0, _⟩ := DataW.trod_int Tryz.underlying22 f0
      obtain ⟨i1, e1, _⟩ := DataW.trod_int Tryz.underlying22 f1
      obtain ⟨s2, e2, _⟩ := DataW.trod_string Tryz.underlying9 f2
      obtain ⟨v, l, e3, hv, hb⟩ := read_ints f3
      obtain ⟨i4, e4, _⟩ := DataW.trod_bool Tryz.underlying4 f4
      obtain ⟨i5, e5, _⟩ := DataW.trod_int Tryz.underlying22 f5
      simp at e0 e1 e2 e3 e4 e5
      subst e0 e1 e2 e3 e4 e5
      refine ⟨⟨i0, i1, s2.data.toList.map UInt8.toNat, l, i4, i5⟩, .cons _ _ _ _ (.int _ _) (.cons _ _ _ _ (.int _ _) (.cons _ _ _ _ (.str _ _ rfl) (.cons _ _ _ _ hv (.cons _ _ _ _ (.bool _) (.cons _ _ _ _ (.int _ _) .nil))))), ?_⟩
      simp [Rows.uptoBulk, Rows.uptoBulkAll]
      omega
theorem read_spn {fuel : Nat} {cs : List Value} {x : DataW H × List MemPlace} (h : DataW.trod enc Tryz.prog w base spare held fuel 30 cs = some x) : ∃ s : Spn, VRs PhN (DofW w) s.cells cs ∧ s.eq.length ≤ Rows.uptoBulk x.1 := by
  obtain ⟨xs, n, rfl, rfl, hl, hx, hf⟩ := DataW.trod_struct Tryz.underlying30 h
  rw [cells30] at hl
  match cs, hl with
  | [c0, c1, c2, c3, c4, c5, c6, c7, c8, c9, c10], _ =>
    match xs, hx with
    | [x0, x1, x2, x3, x4, x5, x6], _ =>
      have f0 := hf 0 _ rfl
      have f1 := hf 1 _ rfl
      have f2 := hf 2 _ rfl
      have f3 := hf 3 _ rfl
      have f4 := hf 4 _ rfl
      have f5 := hf 5 _ rfl
      have f6 := hf 6 _ rfl
      simp [cells26, cells4, cells28] at f0 f1 f2 f3 f4 f5 f6
      obtain ⟨v, l, e0, hv, hb⟩ := read_vals f0
      obtain ⟨i1, e1, _⟩ := DataW.trod_bool Tryz.underlying4 f1
      obtain ⟨v2, e2, _⟩ := read_val f2
      obtain ⟨i3, e3, _⟩ := DataW.trod_bool Tryz.underlying4 f3
      obtain ⟨i4, e4, _⟩ := DataW.trod_bool Tryz.underlying4 f4
      obtain ⟨v5, e5, _⟩ := read_val f5
      obtain ⟨i6, e6, _⟩ := DataW.trod_bool Tryz.underlying4 f6
      simp at e0 e1 e3 e4 e6
      subst e0 e1 e3 e4 e6
      refine ⟨⟨l, i1, v2, i3, i4, v5, i6⟩, .cons _ _ _ _ hv (.cons _ _ _ _ (.bool _) (VRs.append (a := v2.cells) (x := [c2, c3, c4]) (e2 _) (.cons _ _ _ _ (.bool _) (.cons _ _ _ _ (.bool _) (VRs.append (a := v5.cells) (x := [c7, c8, c9]) (e5 _) (.cons _ _ _ _ (.bool _) .nil)))))), ?_⟩
      simp [Rows.uptoBulk, Rows.uptoBulkAll]
      omega
end
end Go.Abs
namespace Go.Proofs.YtknkdhilieabnaaGreat
open Go.Abs
open Go.ChangeShapes Go.WideShapes Go.ChangeAt Go.RowKit
set_option maxRecDepth 100000

theorem own : ownKnob Tryz.prog.godebug = none := by kernel_rfl
theorem laid : laidOutB Tryz.prog = true := by kernel_rfl
theorem par3 : ∀ t ∈ Tryz.f3.params.toList, Tryz.prog.readableRec t = true ∧ t < Tryz.prog.types.size := by
  intro t ht
  rw [Tryz.params3] at ht
  have : t = 25 ∨ t = 30 ∨ t = 26 := by simpa using ht
  rcases this with rfl | rfl | rfl
  · exact ⟨by kernel_rfl, of_decide_eq_true (by kernel_rfl)⟩
  · exact ⟨by kernel_rfl, of_decide_eq_true (by kernel_rfl)⟩
  · exact ⟨by kernel_rfl, of_decide_eq_true (by kernel_rfl)⟩
theorem contract3 (H : Type) (enc : TypeId × Value → H) (W : World) (base : Nat) (args : Array Value) (ds gs : List (DataW H)) (before : List MemPlace)
    (hval : ∀ (j : Nat) t v, Tryz.f3.params[j]? = some t → args[j]? = some v → Value.okWide Tryz.prog W .any base t v)
    (hW : DataW.Whole enc Tryz.prog Tryz.f3.params.toList Rows.vMInSpec.vars false W args.toList ds gs before) (hk : Rows.uptoSmall H (ds ++ gs) = true) :
    Calls Tryz.prog 3 args W fun e W' => ∃ v, e = .returned v ∧ Rows.vMInSpec.post enc Tryz.prog Tryz.f3 false true false false W args v W' := by
  have hW' := hW
  obtain ⟨p, q, hA, hV, rfl, hfz, hnd⟩ := hW
  rw [Tryz.params3] at hA hval
  obtain ⟨v0, vs0, d0, ds0, p0, q0, hargs, rfl, rfl, h0, r0⟩ := trodAll_cons hA
  obtain ⟨v1, vs1, d1, ds1, p1, q1, rfl, rfl, rfl, h1, r1⟩ := trodAll_cons r0
  obtain ⟨v2, vs2, d2, ds2, p2, q2, rfl, rfl, rfl, h2, r2⟩ := trodAll_cons r1
  obtain ⟨rfl, rfl, rfl⟩ := trodAll_nil r2
  obtain rfl : args = #[v0, v1, v2] := by cases args; simp_all
  obtain ⟨rfl, rfl⟩ := trodVars_none hV
  obtain ⟨fuel0, hf0⟩ := h0
  obtain ⟨fuel1, hf1⟩ := h1
  obtain ⟨fuel2, hf2⟩ := h2
  obtain ⟨x, hx, bx⟩ := read_idx (H := H) hf0
  obtain ⟨s, hs, bs⟩ := read_spn (H := H) hf1
  obtain ⟨v, l, el, hl, bl⟩ := read_vals (H := H) hf2
  have hb : Rows.uptoBulkAll [d0, d1, d2] ≤ 1048576 := of_decide_eq_true hk
  simp only [Rows.uptoBulkAll] at hb
  simp only at bx bs bl
  have hv0 : VR PhN (DofW W) x.av v0 := read_agg (by simp [Idx.cells]) (by omega) hx
  have hv1 : VR PhN (DofW W) s.av v1 := read_agg (by simp [Spn.cells]) (by omega) hs
  have hv2 : v2 = v := by
    cases v2 with
    | agg xs =>
      have hh := hval 2 26 _ rfl rfl
      simp [Value.okWide, Tryz.underlying26, Cell.okWide, Cell.ok] at hh
    | _ => simpa [Value.cells] using el
  subst hv2
  refine callsIn_wide.1 ((vmin3 x s l (by omega) (by omega) (by omega)).run (DofW W) W [v0, v1, v2] (dofW_dat W) (.cons _ _ _ _ hv0 (.cons _ _ _ _ hv1 (.cons _ _ _ _ hl .nil))) _ fun D' W' y hkp _ hy => ?_)
  cases hy with
  | bool =>
    exact ⟨_, rfl, law_post laid par3 rfl (tb := 4) (by kernel_rfl) Tryz.underlying4 rfl hW' hkp.os hkp.out hkp.keep⟩

theorem lifted3 (os : Os) (started : os.Started) (H : Type) (enc : TypeId × Value → H) (F : Stop.Interp) :
    ReturnsInHanded {} Tryz.checked os 3 .any ((Rows.OpenSpec.upto Rows.vMInSpec).pre6 enc Tryz.prog Tryz.f3 Rows.vMInUptoRow.domain false) (((Rows.OpenSpec.upto Rows.vMInSpec).at F).post enc Tryz.prog Tryz.f3 false true false false) := by
  refine returnsInHanded_of_cond (C := Tryz.checked) (s := Rows.OpenSpec.upto Rows.vMInSpec) (k := Rows.uptoSmall) rfl own started (by kernel_rfl) Tryz.func3
    (OpenSpec.witness (enc := enc) (C := Tryz.checked) (s := Rows.OpenSpec.upto Rows.vMInSpec) (k := Rows.uptoSmall) rfl false ⟨#[], #[.agg #[.int .u32 0, .int .u32 0, .string .empty, .slice none 0 0, .bool false, .int .u32 0], .agg #[.slice none 0 0, .bool false, .int .i64 0, .int .i64 0, .string .empty, .bool false, .bool false, .int .i64 0, .int .i64 0, .string .empty, .bool false], .slice none 0 0], []⟩ 8 (by kernel_rfl) (by kernel_rfl) (by kernel_rfl)
      (x := ([.agg [.lit (.int .u32 0), .lit (.int .u32 0), .lit (.string []), .nil, .lit (.bool false), .lit (.int .u32 0)], .agg [.nil, .lit (.bool false), .agg [.lit (.int .i64 0), .lit (.int .i64 0), .lit (.string [])], .lit (.bool false), .lit (.bool false), .agg [.lit (.int .i64 0), .lit (.int .i64 0), .lit (.string [])], .lit (.bool false)], .nil], [], [])) (by kernel_rfl) rfl (by kernel_rfl)) ?_
  intro W base args ds gs before hval hW _ hk _
  exact contract3 H enc W base args ds gs before hval hW hk

theorem vmin_holds : Rows.VMInUptoSaid :=
  OpenClaim.holds_of_cond 3 Tryz.f3 rfl rfl rfl rfl rfl rfl rfl ⟨rfl, rfl, rfl, rfl, rfl⟩ rfl rfl rfl rfl rfl (by kernel_rfl) Tryz.func3 (by kernel_rfl)
    (of_decide_eq_true (by kernel_rfl)) (by unfold Func.isWrapper; first | (rw [if_pos (by decide +kernel)]; kernel_rfl) | (rw [if_neg (by decide +kernel)]; exact ⟨rfl, rfl⟩))
    (fun os started H enc _ F => lifted3 os started H enc F)
end Go.Proofs.YtknkdhilieabnaaGreat
