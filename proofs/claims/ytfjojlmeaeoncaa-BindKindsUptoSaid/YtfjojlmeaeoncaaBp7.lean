/- A part of the proof. -/
import Derived.Test.YtfjojlmeaeoncaaBp6
import Derived.Test.YtfjojlmeaeoncaaAbsRd
import Derived.Test.YtfjojlmeaeoncaaRows
namespace Go.Abs
open Go.Proofs Go.Proofs.Ytfjojlmeaeoncaa
set_option maxRecDepth 100000

theorem Ex.cellsL_flat (l : List Ex) : Ex.cellsL l = l.flatMap Ex.cells := by
  induction l with
  | nil => rfl
  | cons e r ih => simp [Ex.cellsL, ih]
theorem all2_sz {H : Type} {l : List Ex} {ds : List (DataW H)} (h : All2 (fun (e : Ex) d => e.sz ≤ Rows.uptoBulk d) l ds) : Ex.szL l ≤ Rows.uptoBulkAll ds := by
  induction h with
  | nil => simp [Ex.szL, Rows.uptoBulkAll]
  | cons h1 _ ih => simp [Ex.szL, Rows.uptoBulkAll]; omega
theorem cells26 : Try.prog.cellsOf 26 = 8 := by kernel_rfl
theorem cells3 : Try.prog.cellsOf 3 = 1 := by kernel_rfl
theorem cells2 : Try.prog.cellsOf 2 = 1 := by kernel_rfl
theorem cells9 : Try.prog.cellsOf 9 = 1 := by kernel_rfl
theorem cells23 : Try.prog.cellsOf 23 = 3 := by kernel_rfl
theorem cells24 : Try.prog.cellsOf 24 = 1 := by kernel_rfl
section
variable {H : Type} {enc : TypeId × Value → H} {w : World} {base : Nat} {spare : Nat → Bool} {held : Bool}
theorem read_val {fuel : Nat} {cs : List Value} {x : DataW H × List MemPlace} (h : DataW.trod enc Try.prog w base spare held fuel 23 cs = some x) : ∃ v : Val, ∀ D : Da, VRs PhN D v.cells cs := by
  obtain ⟨xs, n, rfl, rfl, hl, hx, hf⟩ := DataW.trod_struct Try.underlying23 h
  rw [cells23] at hl
  match cs, hl with
  | [c0, c1, c2], _ =>
    match xs, hx with
    | [x0, x1, x2], _ =>
      have f0 := hf 0 _ rfl
      have f1 := hf 1 _ rfl
      have f2 := hf 2 _ rfl
      simp [cells3, cells2, cells9] at f0 f1 f2
      obtain ⟨i0, e0, _⟩ := DataW.trod_int Try.underlying3 f0
      obtain ⟨i1, e1, _⟩ := DataW.trod_int Try.underlying2 f1
      obtain ⟨s2, e2, _⟩ := DataW.trod_string Try.underlying9 f2
      simp at e0 e1 e2
      subst e0 e1 e2
      exact ⟨⟨i0, i1, s2.data.toList.map UInt8.toNat⟩, fun D => .cons _ _ _ _ (.int _ _) (.cons _ _ _ _ (.int _ _) (.cons _ _ _ _ (.str _ _ rfl) .nil))⟩
theorem read_ex : ∀ (N fuel : Nat) (cs : List Value) (x : DataW H × List MemPlace), fuel ≤ N → DataW.trod enc Try.prog w base spare held fuel 26 cs = some x → ∃ e : Ex, VRs PhN (DofW w) e.cells cs ∧ e.sz ≤ Rows.uptoBulk x.1
  | 0, fuel, cs, x, hN, h => by
    obtain rfl : fuel = 0 := by omega
    simp [DataW.trod] at h
  | N + 1, fuel, cs, x, hN, h => by
    obtain ⟨xs, n, rfl, rfl, hl, hx, hf⟩ := DataW.trod_struct Try.underlying26 h
    rw [cells26] at hl
    match cs, hl with
    | [c0, c1, c2, c3, c4, c5, c6, c7], _ =>
      match xs, hx with
      | [x0, x1, x2, x3, x4, x5], _ =>
        have f0 := hf 0 _ rfl
        have f1 := hf 1 _ rfl
        have f2 := hf 2 _ rfl
        have f3 := hf 3 _ rfl
        have f4 := hf 4 _ rfl
        have f5 := hf 5 _ rfl
        simp [cells3, cells9, cells23, cells24] at f0 f1 f2 f3 f4 f5
        obtain ⟨i0, e0, _⟩ := DataW.trod_int Try.underlying3 f0
        obtain ⟨v1, e1⟩ := read_val f1
        obtain ⟨s2, e2, _⟩ := DataW.trod_string Try.underlying9 f2
        obtain ⟨s3, e3, _⟩ := DataW.trod_string Try.underlying9 f3
        obtain ⟨i4, e4, _⟩ := DataW.trod_int Try.underlying3 f4
        obtain ⟨v, l, e5, hv, hr⟩ := read_slice (α := Ex) (av := Ex.cells) (R := fun e d => e.sz ≤ Rows.uptoBulk d) Try.underlying24 cells26 (by omega) Ex.cells_len (fun n' cs' y hn' hy => read_ex N n' cs' y (by omega) hy) f5
        simp at e0 e2 e3 e4 e5
        subst e0 e2 e3 e4 e5
        refine ⟨.mk i0 v1 (s2.data.toList.map UInt8.toNat) (s3.data.toList.map UInt8.toNat) i4 l, ?_, ?_⟩
        · simp only [Ex.cells]
          refine .cons _ _ _ _ (.int _ _) ?_
          refine VRs.append (a := [.int .i64 v1.kind, .int .i64 v1.num, .str v1.s]) (x := [c1, c2, c3]) (e1 _) ?_
          refine .cons _ _ _ _ (.str _ _ rfl) (.cons _ _ _ _ (.str _ _ rfl) (.cons _ _ _ _ (.int _ _) (.cons _ _ _ _ ?_ .nil)))
          rw [Ex.cellsL_flat]; exact hv
        · have : Ex.szL l ≤ Rows.uptoBulk x5.1 := by
            rcases hr with ⟨rfl, _⟩ | ⟨ds, rest, e, ha⟩
            · simp [Ex.szL]
            · rw [e]
              have := all2_sz ha
              simp [Rows.uptoBulk]; omega
          simp [Ex.sz, Rows.uptoBulk, Rows.uptoBulkAll]
          omega
end
end Go.Abs
