/- PlanFinish: what is read. Condition: of bulk at most 1048576 (the second form of the statement). -/
import Derived.Test.YtlnbbokmibfegaaGreatPf10
import Derived.Test.YtlnbbokmibfegaaGreatAbs6
import Derived.Test.YtlnbbokmibfegaaGreatRows
namespace Go.Abs
open Go.Proofs Go.Proofs.YtlnbbokmibfegaaGreat
set_option maxRecDepth 100000

theorem all2_len {α H : Type} {R : α → DataW H → Prop} (hR : ∀ a d, R a d → 1 ≤ Rows.uptoBulk d) {l : List α} {ds : List (DataW H)} (h : All2 R l ds) : l.length ≤ Rows.uptoBulkAll ds := by
  induction h with
  | nil => simp [Rows.uptoBulkAll]
  | cons h1 _ ih => have := hR _ _ h1; simp [Rows.uptoBulkAll]; omega
theorem cells58 : Tryz.prog.cellsOf 58 = 3 := by kernel_rfl
theorem cells39 : Tryz.prog.cellsOf 39 = 1 := by kernel_rfl
theorem cells41 : Tryz.prog.cellsOf 41 = 2 := by kernel_rfl
theorem cells33 : Tryz.prog.cellsOf 33 = 1 := by kernel_rfl
theorem cells35 : Tryz.prog.cellsOf 35 = 25 := by kernel_rfl
theorem cells3 : Tryz.prog.cellsOf 3 = 1 := by kernel_rfl
theorem cells4 : Tryz.prog.cellsOf 4 = 1 := by kernel_rfl
theorem cells2 : Tryz.prog.cellsOf 2 = 1 := by kernel_rfl
theorem cells9 : Tryz.prog.cellsOf 9 = 1 := by kernel_rfl
def simS : List TypeId := [2, 3, 4, 9, 22, 23, 98, 25, 26, 28, 29, 30, 31, 32, 60, 58]
theorem simS_ok : chkS Tryz.prog simS = true := by kernel_rfl
section
variable {H : Type} {enc : TypeId × Value → H} {w : World} {base : Nat} {spare : Nat → Bool} {held : Bool}
theorem read_val {fuel : Nat} {cs : List Value} {x : DataW H × List MemPlace} (h : DataW.trod enc Tryz.prog w base spare held fuel 58 cs = some x) : ∃ v : Val, (∀ D : Da, VRs PhN D v.cells cs) ∧ 1 ≤ Rows.uptoBulk x.1 := by
  obtain ⟨xs, n, rfl, rfl, hl, hx, hf⟩ := DataW.trod_struct Tryz.underlying58 h
  rw [cells58] at hl
  match cs, hl with
  | [c0, c1, c2], _ =>
    match xs, hx with
    | [x0, x1, x2], _ =>
      have f0 := hf 0 _ rfl
      have f1 := hf 1 _ rfl
      have f2 := hf 2 _ rfl
      simp [cells3, cells2, cells9] at f0 f1 f2
      obtain ⟨i0, e0, _⟩ := DataW.trod_int Tryz.underlying3 f0
      obtain ⟨i1, e1, _⟩ := DataW.trod_int Tryz.underlying2 f1
      obtain ⟨s2, e2, _⟩ := DataW.trod_string Tryz.underlying9 f2
      simp at e0 e1 e2
      subst e0 e1 e2
      exact ⟨⟨i0, i1, s2.data.toList.map UInt8.toNat⟩, fun D => .cons _ _ _ _ (.int _ _) (.cons _ _ _ _ (.int _ _) (.cons _ _ _ _ (.str _ _ rfl) .nil)), by simp [Rows.uptoBulk]⟩
theorem read_key {fuel : Nat} {cs : List Value} {x : DataW H × List MemPlace} (h : DataW.trod enc Tryz.prog w base spare held fuel 41 cs = some x) : ∃ k : Ky, (∀ D : Da, VRs PhN D k.cells cs) ∧ 1 ≤ Rows.uptoBulk x.1 := by
  obtain ⟨xs, n, rfl, rfl, hl, hx, hf⟩ := DataW.trod_struct Tryz.underlying41 h
  rw [cells41] at hl
  match cs, hl with
  | [c0, c1], _ =>
    match xs, hx with
    | [x0, x1], _ =>
      have f0 := hf 0 _ rfl
      have f1 := hf 1 _ rfl
      simp [cells3, cells4] at f0 f1
      obtain ⟨i0, e0, _⟩ := DataW.trod_int Tryz.underlying3 f0
      obtain ⟨i1, e1, _⟩ := DataW.trod_bool Tryz.underlying4 f1
      simp at e0 e1
      subst e0 e1
      exact ⟨⟨i0, i1⟩, fun D => .cons _ _ _ _ (.int _ _) (.cons _ _ _ _ (.bool _) .nil), by simp [Rows.uptoBulk]⟩
theorem read_row {fuel : Nat} {cs : List Value} {x : DataW H × List MemPlace} (h : DataW.trod enc Tryz.prog w base spare held fuel 39 cs = some x) : ∃ l : List Val, VRs PhN (DofW w) [rowAV l] cs ∧ l.length ≤ Rows.uptoBulk x.1 ∧ 1 ≤ Rows.uptoBulk x.1 := by
  obtain ⟨v, l, e, hv, hr⟩ := read_slice (α := Val) (av := Val.cells) (R := fun _ d => 1 ≤ Rows.uptoBulk d) Tryz.underlying39 cells58 (by omega) Val.cells_len (fun n' cs' y _ hy => by
    obtain ⟨a, ha, hb⟩ := read_val hy
    exact ⟨a, ha _, hb⟩) h
  subst e
  refine ⟨l, .cons _ _ _ _ (by rw [rowAV, ← valsC_flat]; exact hv) .nil, ?_⟩
  rcases hr with ⟨rfl, e⟩ | ⟨ds, rest, e, ha⟩
  · rw [e]; simp [Rows.uptoBulk]
  · rw [e]
    have := all2_len (fun _ _ h => h) ha
    simp [Rows.uptoBulk]; omega
theorem all2_rows {l : List (List Val)} {ds : List (DataW H)} (h : All2 (fun (r : List Val) d => r.length ≤ Rows.uptoBulk d ∧ 1 ≤ Rows.uptoBulk d) l ds) : ∀ r ∈ l, r.length ≤ Rows.uptoBulkAll ds := by
  induction h with
  | nil => simp
  | cons h1 _ ih =>
    intro x hx
    simp only [Rows.uptoBulkAll]
    rcases List.mem_cons.1 hx with rfl | hx
    · omega
    · have := ih x hx; omega
theorem read_rows {fuel : Nat} {cs : List Value} {x : DataW H × List MemPlace} (h : DataW.trod enc Tryz.prog w base spare held fuel 36 cs = some x) : ∃ v L, cs = [v] ∧ VR PhN (DofW w) (.ds (rowsC L) L.length 1) v ∧ L.length ≤ Rows.uptoBulk x.1 ∧ ∀ r ∈ L, r.length ≤ Rows.uptoBulk x.1 := by
  obtain ⟨v, L, e, hv, hr⟩ := read_slice (α := List Val) (av := fun r => [rowAV r]) (R := fun r d => r.length ≤ Rows.uptoBulk d ∧ 1 ≤ Rows.uptoBulk d) Tryz.underlying36 cells39 (by omega) (fun _ => rfl) (fun n' cs' y _ hy => by
    obtain ⟨l, h1, h2⟩ := read_row hy
    exact ⟨l, h1, h2⟩) h
  have hfl : L.flatMap (fun r => [rowAV r]) = rowsC L := by
    clear hr hv
    induction L with
    | nil => rfl
    | cons a r ih => simp only [List.flatMap_cons, ih]; rfl
  rw [hfl] at hv
  refine ⟨v, L, e, hv, ?_⟩
  rcases hr with ⟨rfl, _⟩ | ⟨ds, rest, e, ha⟩
  · simp
  · rw [e]
    have h1 := all2_len (fun _ _ h => h.2) ha
    have h2 := all2_rows ha
    simp only [Rows.uptoBulk]
    exact ⟨by omega, fun r hr => by have := h2 r hr; omega⟩
theorem read_keys {fuel : Nat} {cs : List Value} {x : DataW H × List MemPlace} (h : DataW.trod enc Tryz.prog w base spare held fuel 33 cs = some x) : ∃ v l, cs = [v] ∧ VR PhN (DofW w) (kAV l) v ∧ l.length ≤ Rows.uptoBulk x.1 := by
  obtain ⟨v, l, e, hv, hr⟩ := read_slice (α := Ky) (av := Ky.cells) (R := fun _ d => 1 ≤ Rows.uptoBulk d) Tryz.underlying33 cells41 (by omega) Ky.cells_len (fun n' cs' y _ hy => by
    obtain ⟨a, ha, hb⟩ := read_key hy
    exact ⟨a, ha _, hb⟩) h
  refine ⟨v, l, e, by rw [kAV, ← keysC_flat]; exact hv, ?_⟩
  rcases hr with ⟨rfl, e⟩ | ⟨ds, rest, e, ha⟩
  · simp
  · rw [e]
    have := all2_len (fun _ _ h => h) ha
    simp [Rows.uptoBulk]; omega
theorem bulk_mem {d : DataW H} : ∀ {l : List (DataW H)}, d ∈ l → Rows.uptoBulk d ≤ Rows.uptoBulkAll l
  | a :: r, h => by
    simp only [Rows.uptoBulkAll]
    rcases List.mem_cons.1 h with rfl | h
    · omega
    · have := bulk_mem h; omega
theorem read_preA {P : Program} {S : List TypeId} {n e k : Nat} {cs : List Value} {fs : Array Field} {xs : List (DataW H × List MemPlace)} (hS : chkS P S = true) (hc : chkF P S (fs.toList.take k) 0 e = true) (he : e ≤ cs.length) (hx : xs.length = fs.size)
    (hf : ∀ (i : Nat) (f : Field), fs[i]? = some f → DataW.trod enc P w base spare held n f.type ((cs.drop f.offset).take (P.cellsOf f.type)) = xs[i]?) : ∃ vs, VRs PhN (DofW w) vs (cs.take e) ∧ PureL vs ∧ vs.length = e := by
  obtain ⟨vs, h1, h2, h3⟩ := read_pre (cs := cs) (fun t cs x ht hd => read_any hS n t cs x ht hd) (fs.toList.take k) 0 e hc he fun f hfm => by
    obtain ⟨i, hi, rfl⟩ := List.mem_iff_getElem.1 (List.mem_of_mem_take hfm)
    have hi' : i < fs.size := by simpa using hi
    have := hf i fs[i] (by simp [hi'])
    rw [List.getElem?_eq_getElem (by omega)] at this
    exact ⟨_, by simpa using this⟩
  exact ⟨vs, by simpa using h1, h2, by omega⟩
theorem read_bn {fuel : Nat} {cs : List Value} {x : DataW H × List MemPlace} (h : DataW.trod enc Tryz.prog w base spare held fuel 35 cs = some x) : ∃ B : Bn, B.Ok ∧ VRs PhN (DofW w) B.cells cs ∧ B.ks.length ≤ Rows.uptoBulk x.1 := by
  obtain ⟨xs, n, rfl, rfl, hl, hx, hf⟩ := DataW.trod_struct Tryz.underlying35 h
  rw [cells35] at hl
  obtain ⟨vs, p1, p2, p3⟩ := read_preA (k := 13) (e := 21) simS_ok (by kernel_rfl) (by omega) hx hf
  have hx17 : xs.length = 17 := hx
  have g13 : DataW.trod enc Tryz.prog w base spare held n 33 ((cs.drop 21).take (Tryz.prog.cellsOf 33)) = xs[13]? := hf 13 ⟨_, 33, 21, _, _, _, _⟩ rfl
  have g14 : DataW.trod enc Tryz.prog w base spare held n 4 ((cs.drop 22).take (Tryz.prog.cellsOf 4)) = xs[14]? := hf 14 ⟨_, 4, 22, _, _, _, _⟩ rfl
  have g15 : DataW.trod enc Tryz.prog w base spare held n 4 ((cs.drop 23).take (Tryz.prog.cellsOf 4)) = xs[15]? := hf 15 ⟨_, 4, 23, _, _, _, _⟩ rfl
  have g16 : DataW.trod enc Tryz.prog w base spare held n 3 ((cs.drop 24).take (Tryz.prog.cellsOf 3)) = xs[16]? := hf 16 ⟨_, 3, 24, _, _, _, _⟩ rfl
  rw [cells33, List.getElem?_eq_getElem (by omega)] at g13
  rw [cells4, List.getElem?_eq_getElem (by omega)] at g14
  rw [cells4, List.getElem?_eq_getElem (by omega)] at g15
  rw [cells3, List.getElem?_eq_getElem (by omega)] at g16
  obtain ⟨v, ks, e13, hv, hb⟩ := read_keys g13
  obtain ⟨b14, e14, _⟩ := DataW.trod_bool Tryz.underlying4 g14
  obtain ⟨b15, e15, _⟩ := DataW.trod_bool Tryz.underlying4 g15
  obtain ⟨i16, e16, _⟩ := DataW.trod_int Tryz.underlying3 g16
  have hd : cs.drop 21 = [v, .bool b14, .bool b15, .int .i64 i16] := by
    have h4 : (cs.drop 21).length = 4 := by rw [List.length_drop]; omega
    have d22 : cs.drop 22 = (cs.drop 21).drop 1 := by rw [List.drop_drop]
    have d23 : cs.drop 23 = (cs.drop 21).drop 2 := by rw [List.drop_drop]
    have d24 : cs.drop 24 = (cs.drop 21).drop 3 := by rw [List.drop_drop]
    rw [d22] at e14
    rw [d23] at e15
    rw [d24] at e16
    generalize cs.drop 21 = l at h4 e13 e14 e15 e16
    match l, h4 with
    | [a, b, c, d], _ =>
      simp at e13 e14 e15 e16
      rw [e13, e14, e15, e16]
  refine ⟨⟨vs, ks, b14, b15, i16⟩, ⟨p3, p2⟩, ?_, ?_⟩
  · have e : cs = cs.take 21 ++ [v, .bool b14, .bool b15, .int .i64 i16] := by rw [← hd, List.take_append_drop]
    rw [e]
    exact p1.append (.cons _ _ _ _ hv (.cons _ _ _ _ (.bool _) (.cons _ _ _ _ (.bool _) (.cons _ _ _ _ (.int _ _) .nil))))
  · have : xs[13].1 ∈ xs.map (·.1) := List.mem_map.2 ⟨xs[13], List.getElem_mem _, rfl⟩
    have := bulk_mem this
    simp only [Rows.uptoBulk]
    omega
end
end Go.Abs
