/- KernelPages: what is read. No condition. -/
import Derived.Test.YthmkafloklnghaaGreatKp8
import Derived.Test.YthmkafloklnghaaGreatAbs5
namespace Go.Abs
open Go.Proofs
set_option maxRecDepth 100000

theorem wnC_flat (l : List Wn) : wnC l = l.flatMap Wn.cells := by
  induction l with
  | nil => rfl
  | cons e r ih => simp [wnC, ih]
theorem u32s_flat (l : List Nat) : u32s l = l.flatMap fun x => [AV.int .u32 (Int.ofNat x)] := by
  induction l with
  | nil => rfl
  | cons a r ih => simp only [List.flatMap_cons, ← ih]; rfl
theorem cells30 : Tryz.prog.cellsOf 30 = 3 := by kernel_rfl
theorem cells28 : Tryz.prog.cellsOf 28 = 1 := by kernel_rfl
theorem cells31 : Tryz.prog.cellsOf 31 = 1 := by kernel_rfl
theorem cells3 : Tryz.prog.cellsOf 3 = 1 := by kernel_rfl
section
variable {H : Type} {enc : TypeId × Value → H} {w : World} {base : Nat} {spare : Nat → Bool} {held : Bool}
theorem all2_lt {l : List Nat} {ds : List (DataW H)} (h : All2 (fun (x : Nat) (_ : DataW H) => x < 4294967296) l ds) : ∀ x ∈ l, x < 4294967296 := by
  induction h with
  | nil => simp
  | cons h1 _ ih =>
    intro x hx
    rcases List.mem_cons.1 hx with rfl | hx
    · exact h1
    · exact ih x hx
theorem read_pgs {fuel : Nat} {cs : List Value} {x : DataW H × List MemPlace} (h : DataW.trod enc Tryz.prog w base spare held fuel 28 cs = some x) : ∃ v l, cs = [v] ∧ VR PhN (DofW w) (.ds (u32s l) l.length 1) v ∧ ∀ x ∈ l, x < 4294967296 := by
  obtain ⟨v, l, e, hv, hr⟩ := read_slice (α := Nat) (av := fun x => [.int .u32 (Int.ofNat x)]) (R := fun x _ => x < 4294967296) Tryz.underlying28 cells31 (by omega) (fun _ => rfl) (fun n' cs' y _ hy => by
    obtain ⟨i, e, ey, hw⟩ := DataW.trod_int Tryz.underlying31 hy
    have hw' : 0 ≤ i ∧ i < 4294967296 := by
      simp [Lit.wf, IntKind.min, IntKind.max, IntKind.signed, IntKind.bits] at hw
      omega
    obtain ⟨p, rfl⟩ : ∃ p : Nat, i = (p : Int) := ⟨i.toNat, by omega⟩
    subst e
    exact ⟨p, .cons _ _ _ _ (.int _ _) .nil, by omega⟩) h
  refine ⟨v, l, e, by rw [u32s_flat]; exact hv, ?_⟩
  rcases hr with ⟨rfl, _⟩ | ⟨ds, rest, e, ha⟩
  · simp
  · exact all2_lt ha
theorem read_wn {fuel : Nat} {cs : List Value} {x : DataW H × List MemPlace} (h : DataW.trod enc Tryz.prog w base spare held fuel 30 cs = some x) : ∃ a : Wn, VRs PhN (DofW w) a.cells cs ∧ a.ok := by
  obtain ⟨xs, n, rfl, rfl, hl, hx, hf⟩ := DataW.trod_struct Tryz.underlying30 h
  rw [cells30] at hl
  match cs, hl with
  | [c0, c1, c2], _ =>
    match xs, hx with
    | [x0, x1, x2], _ =>
      have f0 := hf 0 _ rfl
      have f1 := hf 1 _ rfl
      have f2 := hf 2 _ rfl
      simp [cells3, cells28] at f0 f1 f2
      obtain ⟨i0, e0, _⟩ := DataW.trod_int Tryz.underlying3 f0
      obtain ⟨v, l, e1, hv, hlt⟩ := read_pgs f1
      obtain ⟨i2, e2, _⟩ := DataW.trod_int Tryz.underlying3 f2
      simp at e0 e1 e2
      subst e0 e1 e2
      exact ⟨⟨i0, l, i2⟩, .cons _ _ _ _ (.int _ _) (.cons _ _ _ _ hv (.cons _ _ _ _ (.int _ _) .nil)), hlt⟩
theorem all2_ok {l : List Wn} {ds : List (DataW H)} (h : All2 (fun (x : Wn) (_ : DataW H) => x.ok) l ds) : ∀ x ∈ l, x.ok := by
  induction h with
  | nil => simp
  | cons h1 _ ih =>
    intro x hx
    rcases List.mem_cons.1 hx with rfl | hx
    · exact h1
    · exact ih x hx
theorem read_wns {fuel : Nat} {cs : List Value} {x : DataW H × List MemPlace} (h : DataW.trod enc Tryz.prog w base spare held fuel 22 cs = some x) : ∃ v l, cs = [v] ∧ VR PhN (DofW w) (.ds (wnC l) l.length 3) v ∧ ∀ x ∈ l, x.ok := by
  obtain ⟨v, l, e, hv, hr⟩ := read_slice (α := Wn) (av := Wn.cells) (R := fun x _ => x.ok) Tryz.underlying22 cells30 (by omega) Wn.cells_len (fun n' cs' y _ hy => by
    obtain ⟨a, ha, hb⟩ := read_wn hy
    exact ⟨a, ha, hb⟩) h
  refine ⟨v, l, e, by rw [wnC_flat]; exact hv, ?_⟩
  rcases hr with ⟨rfl, _⟩ | ⟨ds, rest, e, ha⟩
  · simp
  · exact all2_ok ha
end
end Go.Abs
