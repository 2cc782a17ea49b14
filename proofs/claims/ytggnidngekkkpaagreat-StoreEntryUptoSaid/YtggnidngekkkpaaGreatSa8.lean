/- The entry of any row in any index is what the document says. Condition: what is read is of bulk at most 1048576 (the second form of the statement). -/
import Derived.Test.YtggnidngekkkpaaGreatSa6
import Derived.Test.YtggnidngekkkpaaGreatSeJ7
import Derived.Test.YtggnidngekkkpaaGreatAbs5
import Derived.Test.YtggnidngekkkpaaGreatRows
namespace Go.Abs
open Go.Proofs Go.Proofs.YtggnidngekkkpaaGreat
set_option maxRecDepth 100000

theorem all2_len {α H : Type} {l : List α} {ds : List (DataW H)} (h : All2 (fun (_ : α) d => 1 ≤ Rows.uptoBulk d) l ds) : l.length ≤ Rows.uptoBulkAll ds := by
  induction h with
  | nil => simp [Rows.uptoBulkAll]
  | cons h1 _ ih => simp [Rows.uptoBulkAll]; omega
theorem cells58 : Tryz.prog.cellsOf 58 = 3 := by kernel_rfl
theorem cells69 : Tryz.prog.cellsOf 69 = 6 := by kernel_rfl
theorem cells54 : Tryz.prog.cellsOf 54 = 2 := by kernel_rfl
theorem cells3 : Tryz.prog.cellsOf 3 = 1 := by kernel_rfl
theorem cells2 : Tryz.prog.cellsOf 2 = 1 := by kernel_rfl
theorem cells9 : Tryz.prog.cellsOf 9 = 1 := by kernel_rfl
theorem cells4 : Tryz.prog.cellsOf 4 = 1 := by kernel_rfl
theorem cells28 : Tryz.prog.cellsOf 28 = 1 := by kernel_rfl
theorem cells63 : Tryz.prog.cellsOf 63 = 1 := by kernel_rfl
theorem ints_flat (l : List Int) : ints l = l.flatMap fun i => [AV.int .i64 i] := by
  induction l with
  | nil => rfl
  | cons a r ih => simp only [List.flatMap_cons, ← ih]; rfl
section
variable {H : Type} {enc : TypeId × Value → H} {w : World} {base : Nat} {spare : Nat → Bool} {held : Bool}
theorem byte_lt (s : ByteArray) : ∀ c ∈ s.data.toList.map UInt8.toNat, c < 256 := by
  intro c hc
  obtain ⟨b, _, rfl⟩ := List.mem_map.1 hc
  exact b.toNat_lt
theorem read_val {fuel : Nat} {cs : List Value} {x : DataW H × List MemPlace} (h : DataW.trod enc Tryz.prog w base spare held fuel 58 cs = some x) : ∃ v : Val, (∀ D : Da, VRs PhN D v.cells cs) ∧ (1 ≤ Rows.uptoBulk x.1 ∧ ∀ c ∈ v.s, c < 256) := by
  obtain ⟨xs, n, rfl, rfl, hl, hx, hf⟩ := DataW.trod_struct Tryz.underlying58 h
  rw [cells58] at hl
  match cs, hl with
  | [c0, c1, c2], _ =>
    match xs, hx with
    | [x0, x1, x2], _ =>
      have f0 := hf 0 _ rfl
      have f1 := hf 1 _ rfl
      have f2 := hf 2 _ rfl
      simp [cells3, cells2, cells9] at f0 f1 f2
      obtain ⟨i0, e0, _⟩ := DataW.trod_int Tryz.underlying3 f0
      obtain ⟨i1, e1, _⟩ := DataW.trod_int Tryz.underlying2 f1
      obtain ⟨s2, e2, _⟩ := DataW.trod_string Tryz.underlying9 f2
      simp at e0 e1 e2
      subst e0 e1 e2
      exact ⟨⟨i0, i1, s2.data.toList.map UInt8.toNat⟩, fun D => .cons _ _ _ _ (.int _ _) (.cons _ _ _ _ (.int _ _) (.cons _ _ _ _ (.str _ _ rfl) .nil)), by simp [Rows.uptoBulk], byte_lt s2⟩
theorem all2_both {l : List Val} {ds : List (DataW H)} (h : All2 (fun (v : Val) d => 1 ≤ Rows.uptoBulk d ∧ ∀ c ∈ v.s, c < 256) l ds) : l.length ≤ Rows.uptoBulkAll ds ∧ ∀ v ∈ l, ∀ c ∈ v.s, c < 256 := by
  induction h with
  | nil => simp [Rows.uptoBulkAll]
  | cons h1 _ ih =>
    refine ⟨by simp [Rows.uptoBulkAll]; omega, fun v hv => ?_⟩
    rcases List.mem_cons.1 hv with rfl | hv
    · exact h1.2
    · exact ih.2 v hv
theorem read_vals {fuel : Nat} {cs : List Value} {x : DataW H × List MemPlace} (h : DataW.trod enc Tryz.prog w base spare held fuel 59 cs = some x) : ∃ v l, cs = [v] ∧ VR PhN (DofW w) (.ds (VL l) l.length 3) v ∧ ∀ v ∈ l, ∀ c ∈ v.s, c < 256 := by
  obtain ⟨v, l, e, hv, hr⟩ := read_slice (α := Val) (av := Val.cells) (R := fun v d => 1 ≤ Rows.uptoBulk d ∧ ∀ c ∈ v.s, c < 256) Tryz.underlying59 cells58 (by omega) Val.cells_len (fun n' cs' y _ hy => by
    obtain ⟨a, ha, hb⟩ := read_val hy
    exact ⟨a, ha _, hb⟩) h
  refine ⟨v, l, e, by rw [VL_flat]; exact hv, ?_⟩
  rcases hr with ⟨rfl, _⟩ | ⟨ds, rest, e, ha⟩
  · simp
  · exact (all2_both ha).2
theorem read_ints {fuel : Nat} {cs : List Value} {x : DataW H × List MemPlace} (h : DataW.trod enc Tryz.prog w base spare held fuel 63 cs = some x) : ∃ v l, cs = [v] ∧ VR PhN (DofW w) (.ds (ints l) l.length 1) v ∧ l.length ≤ Rows.uptoBulk x.1 := by
  obtain ⟨v, l, e, hv, hr⟩ := read_slice (α := Int) (av := fun i => [.int .i64 i]) (R := fun _ d => 1 ≤ Rows.uptoBulk d) Tryz.underlying63 cells3 (by omega) (fun _ => rfl) (fun n' cs' y _ hy => by
    obtain ⟨i, e, ey, _⟩ := DataW.trod_int Tryz.underlying3 hy
    subst e ey
    exact ⟨i, .cons _ _ _ _ (.int _ _) .nil, by simp [Rows.uptoBulk]⟩) h
  refine ⟨v, l, e, by rw [ints_flat]; exact hv, ?_⟩
  rcases hr with ⟨rfl, _⟩ | ⟨ds, rest, e, ha⟩
  · simp
  · rw [e]
    have := all2_len ha
    simp [Rows.uptoBulk]; omega
theorem read_ix {fuel : Nat} {cs : List Value} {x : DataW H × List MemPlace} (h : DataW.trod enc Tryz.prog w base spare held fuel 69 cs = some x) : ∃ i : Ix, VRs PhN (DofW w) i.cells cs ∧ i.cols.length ≤ Rows.uptoBulk x.1 := by
  obtain ⟨xs, n, rfl, rfl, hl, hx, hf⟩ := DataW.trod_struct Tryz.underlying69 h
  rw [cells69] at hl
  match cs, hl with
  | [c0, c1, c2, c3, c4, c5], _ =>
    match xs, hx with
    | [x0, x1, x2, x3, x4, x5], _ =>
      have f0 := hf 0 _ rfl
      have f1 := hf 1 _ rfl
      have f2 := hf 2 _ rfl
      have f3 := hf 3 _ rfl
      have f4 := hf 4 _ rfl
      have f5 := hf 5 _ rfl
      simp [cells28, cells9, cells63, cells4] at f0 f1 f2 f3 f4 f5
      obtain ⟨i0, e0, _⟩ := DataW.trod_int Tryz.underlying28 f0
      obtain ⟨i1, e1, _⟩ := DataW.trod_int Tryz.underlying28 f1
      obtain ⟨s2, e2, _⟩ := DataW.trod_string Tryz.underlying9 f2
      obtain ⟨v, l, e3, hv, hb⟩ := read_ints f3
      obtain ⟨i4, e4, _⟩ := DataW.trod_bool Tryz.underlying4 f4
      obtain ⟨i5, e5, _⟩ := DataW.trod_int Tryz.underlying28 f5
      simp at e0 e1 e2 e3 e4 e5
      subst e0 e1 e2 e3 e4 e5
      refine ⟨⟨i0, i1, s2.data.toList.map UInt8.toNat, l, i4, i5⟩, .cons _ _ _ _ (.int _ _) (.cons _ _ _ _ (.int _ _) (.cons _ _ _ _ (.str _ _ rfl) (.cons _ _ _ _ hv (.cons _ _ _ _ (.bool _) (.cons _ _ _ _ (.int _ _) .nil))))), ?_⟩
      simp [Rows.uptoBulk, Rows.uptoBulkAll]
      omega
theorem read_rid {fuel : Nat} {cs : List Value} {x : DataW H × List MemPlace} (h : DataW.trod enc Tryz.prog w base spare held fuel 54 cs = some x) : ∃ (p : Nat) (s : Int), p < 4294967296 ∧ VRs PhN (DofW w) [.int .u32 (p : Int), .int .i64 s] cs := by
  obtain ⟨xs, n, rfl, rfl, hl, hx, hf⟩ := DataW.trod_struct Tryz.underlying54 h
  rw [cells54] at hl
  match cs, hl with
  | [c0, c1], _ =>
    match xs, hx with
    | [x0, x1], _ =>
      have f0 := hf 0 _ rfl
      have f1 := hf 1 _ rfl
      simp [cells28, cells3] at f0 f1
      obtain ⟨i0, e0, _, hw⟩ := DataW.trod_int Tryz.underlying28 f0
      obtain ⟨i1, e1, _⟩ := DataW.trod_int Tryz.underlying3 f1
      simp at e0 e1
      subst e0 e1
      have hw' : 0 ≤ i0 ∧ i0 < 4294967296 := by
        simp [Lit.wf, IntKind.min, IntKind.max, IntKind.signed, IntKind.bits] at hw
        omega
      obtain ⟨p, rfl⟩ : ∃ p : Nat, i0 = (p : Int) := ⟨i0.toNat, by omega⟩
      exact ⟨p, i1, by omega, .cons _ _ _ _ (.int _ _) (.cons _ _ _ _ (.int _ _) .nil)⟩
end
end Go.Abs
namespace Go.Proofs.YtggnidngekkkpaaGreat
open Go.Abs
open Go.ChangeShapes Go.WideShapes Go.ChangeAt Go.RowKit
set_option maxRecDepth 100000

theorem own : ownKnob Tryz.prog.godebug = none := by kernel_rfl
theorem laid : laidOutB Tryz.prog = true := jLaid
theorem par4 : ∀ t ∈ Tryz.f4.params.toList, Tryz.prog.readableRec t = true ∧ t < Tryz.prog.types.size := by
  intro t ht
  rw [Tryz.params4] at ht
  have : t = 69 ∨ t = 59 ∨ t = 54 := by simpa using ht
  rcases this with rfl | rfl | rfl
  · exact ⟨by kernel_rfl, of_decide_eq_true (by kernel_rfl)⟩
  · exact ⟨by kernel_rfl, of_decide_eq_true (by kernel_rfl)⟩
  · exact ⟨by kernel_rfl, of_decide_eq_true (by kernel_rfl)⟩
theorem contract4 (H : Type) (enc : TypeId × Value → H) (W : World) (base : Nat) (args : Array Value) (ds gs : List (DataW H)) (before : List MemPlace)
    (hval : ∀ (j : Nat) t v, Tryz.f4.params[j]? = some t → args[j]? = some v → Value.okWide Tryz.prog W .any base t v)
    (hW : DataW.Whole enc Tryz.prog Tryz.f4.params.toList Rows.storeEntrySpec.vars false W args.toList ds gs before) (hk : Rows.uptoSmall H (ds ++ gs) = true) :
    Calls Tryz.prog 4 args W fun e W' => ∃ v, e = .returned v ∧ Rows.storeEntrySpec.post enc Tryz.prog Tryz.f4 false true false false W args v W' := by
  have hW' := hW
  obtain ⟨p, q, hA, hV, rfl, hfz, hnd⟩ := hW
  rw [Tryz.params4] at hA hval
  obtain ⟨v0, vs0, d0, ds0, p0, q0, hargs, rfl, rfl, h0, r0⟩ := trodAll_cons hA
  obtain ⟨v1, vs1, d1, ds1, p1, q1, rfl, rfl, rfl, h1, r1⟩ := trodAll_cons r0
  obtain ⟨v2, vs2, d2, ds2, p2, q2, rfl, rfl, rfl, h2, r2⟩ := trodAll_cons r1
  obtain ⟨rfl, rfl, rfl⟩ := trodAll_nil r2
  obtain rfl : args = #[v0, v1, v2] := by cases args; simp_all
  obtain ⟨rfl, rfl⟩ := trodVars_none hV
  obtain ⟨fuel0, hf0⟩ := h0
  obtain ⟨fuel1, hf1⟩ := h1
  obtain ⟨fuel2, hf2⟩ := h2
  obtain ⟨x, hx, bx⟩ := read_ix (H := H) hf0
  obtain ⟨v, l, el, hl, hs⟩ := read_vals (H := H) hf1
  obtain ⟨pg, s, hpg, hr⟩ := read_rid (H := H) hf2
  have hb : Rows.uptoBulkAll [d0, d1, d2] ≤ 1048576 := of_decide_eq_true hk
  simp only [Rows.uptoBulkAll] at hb
  simp only at bx
  have hv0 : VR PhN (DofW W) x.av v0 := read_agg (by simp [Ix.cells]) (by omega) hx
  have hv2 : VR PhN (DofW W) (.agg [.int .u32 (pg : Int), .int .i64 s] 2) v2 := read_agg (by simp) (by omega) hr
  have hv1 : v1 = v := by
    cases v1 with
    | agg xs =>
      have hh := hval 1 59 _ rfl rfl
      simp [Value.okWide, Tryz.underlying59, Cell.okWide, Cell.ok] at hh
    | _ => simpa [Value.cells] using el
  subst hv1
  refine callsIn_wide.1 ((law4 x l pg s hs (by omega) hpg).run (DofW W) W [v0, v1, v2] (dofW_dat W) (.cons _ _ _ _ hv0 (.cons _ _ _ _ hl (.cons _ _ _ _ hv2 .nil))) _ fun D' W' y hkp _ hy => ?_)
  cases hy with
  | bool =>
    exact ⟨_, rfl, law_post laid par4 rfl (tb := 4) (by kernel_rfl) Tryz.underlying4 rfl hW' hkp.os hkp.out hkp.keep⟩

theorem lifted4 (os : Os) (started : os.Started) (H : Type) (enc : TypeId × Value → H) (F : Stop.Interp) :
    ReturnsInHanded {} Tryz.checked os 4 .any ((Rows.OpenSpec.upto Rows.storeEntrySpec).pre6 enc Tryz.prog Tryz.f4 Rows.storeEntryUptoRow.domain false) (((Rows.OpenSpec.upto Rows.storeEntrySpec).at F).post enc Tryz.prog Tryz.f4 false true false false) := by
  refine returnsInHanded_of_cond (C := Tryz.checked) (s := Rows.OpenSpec.upto Rows.storeEntrySpec) (k := Rows.uptoSmall) rfl own started (by kernel_rfl) Tryz.func4
    (OpenSpec.witness (enc := enc) (C := Tryz.checked) (s := Rows.OpenSpec.upto Rows.storeEntrySpec) (k := Rows.uptoSmall) rfl false ⟨#[], #[.agg #[.int .u32 0, .int .u32 0, .string .empty, .slice none 0 0, .bool false, .int .u32 0], .slice none 0 0, .agg #[.int .u32 0, .int .i64 0]], []⟩ 8 (by kernel_rfl) (by kernel_rfl) (by kernel_rfl)
      (x := ([.agg [.lit (.int .u32 0), .lit (.int .u32 0), .lit (.string []), .nil, .lit (.bool false), .lit (.int .u32 0)], .nil, .agg [.lit (.int .u32 0), .lit (.int .i64 0)]], [], [])) (by kernel_rfl) rfl (by kernel_rfl)) ?_
  intro W base args ds gs before hval hW _ hk _
  exact contract4 H enc W base args ds gs before hval hW hk

theorem entry_holds : Rows.StoreEntryUptoSaid :=
  OpenClaim.holds_of_cond 4 Tryz.f4 rfl rfl rfl rfl rfl rfl rfl ⟨rfl, rfl, rfl, rfl, rfl⟩ rfl rfl rfl rfl rfl (by kernel_rfl) Tryz.func4 closed
    (of_decide_eq_true (by kernel_rfl)) (by unfold Func.isWrapper; first | (rw [if_pos (by decide +kernel)]; kernel_rfl) | (rw [if_neg (by decide +kernel)]; exact ⟨rfl, rfl⟩))
    (fun os started H enc _ F => lifted4 os started H enc F)
end Go.Proofs.YtggnidngekkkpaaGreat
