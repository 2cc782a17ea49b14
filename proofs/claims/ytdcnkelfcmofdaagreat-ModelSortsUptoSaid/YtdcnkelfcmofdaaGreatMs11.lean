/- ModelSorts: what is read. Condition: of bulk at most 1048576 (the second form of the statement). -/
import Derived.Test.YtdcnkelfcmofdaaGreatMs10
import Derived.Test.YtdcnkelfcmofdaaGreatAbs5
import Derived.Test.YtdcnkelfcmofdaaGreatRows
namespace Go.Abs
open Go.Proofs Go.Proofs.YtdcnkelfcmofdaaGreat
set_option maxRecDepth 100000

theorem all2_len {α H : Type} {R : α → DataW H → Prop} (hR : ∀ a d, R a d → 1 ≤ Rows.uptoBulk d) {l : List α} {ds : List (DataW H)} (h : All2 R l ds) : l.length ≤ Rows.uptoBulkAll ds := by
  induction h with
  | nil => simp [Rows.uptoBulkAll]
  | cons h1 _ ih => have := hR _ _ h1; simp [Rows.uptoBulkAll]; omega
theorem cells27 : Tryz.prog.cellsOf 27 = 3 := by kernel_rfl
theorem cells24 : Tryz.prog.cellsOf 24 = 1 := by kernel_rfl
theorem cells3 : Tryz.prog.cellsOf 3 = 1 := by kernel_rfl
theorem cells2 : Tryz.prog.cellsOf 2 = 1 := by kernel_rfl
theorem cells9 : Tryz.prog.cellsOf 9 = 1 := by kernel_rfl
section
variable {H : Type} {enc : TypeId × Value → H} {w : World} {base : Nat} {spare : Nat → Bool} {held : Bool}
theorem read_val {fuel : Nat} {cs : List Value} {x : DataW H × List MemPlace} (h : DataW.trod enc Tryz.prog w base spare held fuel 27 cs = some x) : ∃ v : Val, (∀ D : Da, VRs PhN D v.cells cs) ∧ 1 ≤ Rows.uptoBulk x.1 := by
  obtain ⟨xs, n, rfl, rfl, hl, hx, hf⟩ := DataW.trod_struct Tryz.underlying27 h
  rw [cells27] at hl
  match cs, hl with
  | [c0, c1, c2], _ =>
    match xs, hx with
    | [x0, x1, x2], _ =>
      have f0 := hf 0 _ rfl
      have f1 := hf 1 _ rfl
      have f2 := hf 2 _ rfl
      simp [cells3, cells2, cells9] at f0 f1 f2
      obtain ⟨i0, e0, _⟩ := DataW.trod_int Tryz.underlying3 f0
      obtain ⟨i1, e1, _⟩ := DataW.trod_int Tryz.underlying2 f1
      obtain ⟨s2, e2, _⟩ := DataW.trod_string Tryz.underlying9 f2
      simp at e0 e1 e2
      subst e0 e1 e2
      exact ⟨⟨i0, i1, s2.data.toList.map UInt8.toNat⟩, fun D => .cons _ _ _ _ (.int _ _) (.cons _ _ _ _ (.int _ _) (.cons _ _ _ _ (.str _ _ rfl) .nil)), by simp [Rows.uptoBulk]⟩
theorem read_row {fuel : Nat} {cs : List Value} {x : DataW H × List MemPlace} (h : DataW.trod enc Tryz.prog w base spare held fuel 24 cs = some x) : ∃ l : List Val, VRs PhN (DofW w) [rowAV l] cs ∧ l.length ≤ Rows.uptoBulk x.1 ∧ 1 ≤ Rows.uptoBulk x.1 := by
  obtain ⟨v, l, e, hv, hr⟩ := read_slice (α := Val) (av := Val.cells) (R := fun _ d => 1 ≤ Rows.uptoBulk d) Tryz.underlying24 cells27 (by omega) Val.cells_len (fun n' cs' y _ hy => by
    obtain ⟨a, ha, hb⟩ := read_val hy
    exact ⟨a, ha _, hb⟩) h
  subst e
  refine ⟨l, .cons _ _ _ _ (by rw [rowAV, ← valsC_flat]; exact hv) .nil, ?_⟩
  rcases hr with ⟨rfl, e⟩ | ⟨ds, rest, e, ha⟩
  · rw [e]; simp [Rows.uptoBulk]
  · rw [e]
    have := all2_len (fun _ _ h => h) ha
    simp [Rows.uptoBulk]; omega
theorem all2_rows {l : List (List Val)} {ds : List (DataW H)} (h : All2 (fun (r : List Val) d => r.length ≤ Rows.uptoBulk d ∧ 1 ≤ Rows.uptoBulk d) l ds) : ∀ r ∈ l, r.length ≤ Rows.uptoBulkAll ds := by
  induction h with
  | nil => simp
  | cons h1 _ ih =>
    intro x hx
    simp only [Rows.uptoBulkAll]
    rcases List.mem_cons.1 hx with rfl | hx
    · omega
    · have := ih x hx; omega
theorem read_rows {fuel : Nat} {cs : List Value} {x : DataW H × List MemPlace} (h : DataW.trod enc Tryz.prog w base spare held fuel 22 cs = some x) : ∃ v L, cs = [v] ∧ VR PhN (DofW w) (.ds (rowsC L) L.length 1) v ∧ L.length ≤ Rows.uptoBulk x.1 ∧ ∀ r ∈ L, r.length ≤ Rows.uptoBulk x.1 := by
  obtain ⟨v, L, e, hv, hr⟩ := read_slice (α := List Val) (av := fun r => [rowAV r]) (R := fun r d => r.length ≤ Rows.uptoBulk d ∧ 1 ≤ Rows.uptoBulk d) Tryz.underlying22 cells24 (by omega) (fun _ => rfl) (fun n' cs' y _ hy => by
    obtain ⟨l, h1, h2⟩ := read_row hy
    exact ⟨l, h1, h2⟩) h
  have hfl : L.flatMap (fun r => [rowAV r]) = rowsC L := by
    clear hr hv
    induction L with
    | nil => rfl
    | cons a r ih => simp only [List.flatMap_cons, ih]; rfl
  rw [hfl] at hv
  refine ⟨v, L, e, hv, ?_⟩
  rcases hr with ⟨rfl, _⟩ | ⟨ds, rest, e, ha⟩
  · simp
  · rw [e]
    have h1 := all2_len (fun _ _ h => h.2) ha
    have h2 := all2_rows ha
    simp only [Rows.uptoBulk]
    exact ⟨by omega, fun r hr => by have := h2 r hr; omega⟩
end
end Go.Abs
