/- Names, columns, tables, indexes: what they are, how they lie. -/
import Derived.Test.YtmmgdjecahcemaaGreatBq4
namespace Go.Abs
open Go.Proofs
open Classical
set_option maxRecDepth 100000

structure Col where
  name : List Nat
  kind : Int
  need : Bool
structure Tbl where
  id : Int
  name : List Nat
  cols : List Col
  head : Int
structure Ixd where
  id : Int
  table : Int
  name : List Nat
  cols : List Int
  uniq : Bool
  root : Int
structure Sch where
  tables : List Tbl
  indexes : List Ixd
def eStr : Enc (List Nat) 1 := ⟨fun s => [.str s], fun _ => rfl, fun _ => by simp, fun _ => by simp [allOne, AV.one]⟩
def eInt : Enc Int 1 := ⟨fun i => [.int .i64 i], fun _ => rfl, fun _ => by simp, fun _ => by simp [allOne, AV.one]⟩
def eCol : Enc Col 3 := ⟨fun c => [.str c.name, .int .i64 c.kind, .bool c.need], fun _ => rfl, fun _ => by simp, fun _ => by simp [allOne, AV.one]⟩
def eTbl : Enc Tbl 4 := ⟨fun t => [.int .u32 t.id, .str t.name, eCol.ds t.cols, .int .u32 t.head], fun _ => rfl, fun _ => by simp, fun _ => by simp [allOne, AV.one, Enc.ds]⟩
def eIxd : Enc Ixd 6 := ⟨fun x => [.int .u32 x.id, .int .u32 x.table, .str x.name, eInt.ds x.cols, .bool x.uniq, .int .u32 x.root], fun _ => rfl, fun _ => by simp, fun _ => by simp [allOne, AV.one, Enc.ds]⟩
def eSch : Enc Sch 2 := ⟨fun s => [eTbl.ds s.tables, eIxd.ds s.indexes], fun _ => rfl, fun _ => by simp, fun _ => by simp [allOne, AV.one, Enc.ds]⟩
theorem eStr_c (s : List Nat) : eStr.cells s = [.str s] := rfl
theorem eInt_c (i : Int) : eInt.cells i = [.int .i64 i] := rfl
theorem eCol_c (c : Col) : eCol.cells c = [.str c.name, .int .i64 c.kind, .bool c.need] := rfl
theorem eTbl_c (t : Tbl) : eTbl.cells t = [.int .u32 t.id, .str t.name, eCol.ds t.cols, .int .u32 t.head] := rfl
theorem eIxd_c (x : Ixd) : eIxd.cells x = [.int .u32 x.id, .int .u32 x.table, .str x.name, eInt.ds x.cols, .bool x.uniq, .int .u32 x.root] := rfl
theorem eSch_c (s : Sch) : eSch.cells s = [eTbl.ds s.tables, eIxd.ds s.indexes] := rfl

/-! ### names -/
def chr0 (c : Nat) : Prop := 97 ≤ c ∧ c ≤ 122
def chr1 (c : Nat) : Prop := (48 ≤ c ∧ c ≤ 57) ∨ c = 95
def NameOk (s : List Nat) : Prop := s ≠ [] ∧ s.length ≤ 24 ∧ ∀ j (h : j < s.length), chr0 s[j] ∨ (0 < j ∧ chr1 s[j])
theorem cIxs_at {l : List Nat} {i : Nat} {k : IntKind} (h : i < l.length) : cIxs (.str l) (.int k (i : Int)) = .val (.int .u8 (l[i] : Int)) := by
  unfold cIxs
  simp [nth_eq, List.getElem?_eq_getElem h]
theorem name44 (s : List Nat) : FnPure Tryz.prog 54 [.str s] (.bool (decide (NameOk s))) := by
  refine pureV c54 (by simp) (by simp) (by simp [A54]) fun F hF => ?_
  simp [A54, B54, R54_0, R54_1, hF]
  by_cases h0 : s = []
  · have : ¬ NameOk s := fun h => h.1 h0
    simp [h0, R54_2]
    exact .bool (by subst h0; simp [this])
  by_cases h24 : s.length ≤ 24
  · simp [h0, show ¬ (24 : Int) < (s.length : Int) by omega, R54_3, hF]
    refine LoopV.of (fun t F K n ms => ∃ i, t = s.length - i ∧ i ≤ s.length ∧ F.get 0 = some (.str s) ∧ F.get 13 = some (.int .i64 (s.length : Int)) ∧ F.get 14 = some (.int .i64 (i : Int)) ∧ K = .nil ∧ ms = [] ∧ ∀ j (h : j < s.length), j < i → chr0 s[j] ∨ (0 < j ∧ chr1 s[j])) s.length ⟨0, by simp [hF]⟩ ?_
    rintro t F K n ms ⟨i, rfl, hi, f0, f13, f14, rfl, rfl, hj⟩
    by_cases hlt : i < s.length
    · have hx := cIxs_at (k := .i64) hlt
      have w := wrap_nat i (by omega)
      have stay : ∀ F' : Fr, F'.get 0 = some (.str s) → F'.get 13 = some (.int .i64 (s.length : Int)) → F'.get 14 = some (.int .i64 (i : Int)) → (chr0 s[i] ∨ (0 < i ∧ chr1 s[i])) → VC Tryz.prog R54_10 F' .nil n [] (RndQ (fun t F K n ms => ∃ i, t = s.length - i ∧ i ≤ s.length ∧ F.get 0 = some (.str s) ∧ F.get 13 = some (.int .i64 (s.length : Int)) ∧ F.get 14 = some (.int .i64 (i : Int)) ∧ K = .nil ∧ ms = [] ∧ ∀ j (h : j < s.length), j < i → chr0 s[j] ∨ (0 < j ∧ chr1 s[j])) (s.length - i) (BlkQ 0 (SeqV Tryz.prog (R54_11.seq CT.ret) (RetQ [rTmp 2] fun v1 H' _ => Frz H'.get v1 (.bool (decide (NameOk s))))))) := by
        intro F' g0 g13 g14 hc
        simp [R54_10, g0, g13, g14, w]
        refine ⟨s.length - (i + 1), by omega, i + 1, rfl, hlt, rfl, fun j h hji => ?_⟩
        by_cases e : j = i
        · subst e; exact hc
        · exact hj j h (by omega)
      have no : ∀ (F' : Fr), ¬ (chr0 s[i] ∨ (0 < i ∧ chr1 s[i])) → Frz (Tr.nil : Hp).get (.bool false) (.bool (decide (NameOk s))) := fun F' hc => by
        have : ¬ NameOk s := fun h => hc (h.2.2 i hlt)
        exact .bool (by simp [this])
      simp [L54_0, R54_4, f13, f14, hlt, R54_5, R54_6, f0, hx, R54_7]
      generalize hcc : s[i] = c at stay no
      by_cases a1 : (97 : Int) ≤ (c : Int) <;> by_cases a2 : (c : Int) ≤ 122 <;> by_cases z : 0 < i <;> by_cases b1 : (48 : Int) ≤ (c : Int) <;> by_cases b2 : (c : Int) ≤ 57 <;> by_cases d : c = 95 <;>
        first
        | (exfalso; omega)
        | (simp [a1, a2, z, b1, b2, d, show ((c : Int) = 95) = (c = 95) by simp; omega, R54_8, R54_9]
           first
           | simpa using stay _ (by simp [f0]) (by simp [f13]) (by simp [f14]) (by unfold chr0 chr1; omega)
           | exact no F (by unfold chr0 chr1; omega))
    · obtain rfl : i = s.length := by omega
      have : NameOk s := ⟨h0, h24, fun j h => hj j h h⟩
      simp [L54_0, R54_4, f13, f14, R54_11]
      exact .bool (by simp [this])
  · have : ¬ NameOk s := fun h => h24 h.2.1
    simp [h0, hF, show (24 : Int) < (s.length : Int) by omega, R54_2]
    exact .bool (by simp [this])
end Go.Abs
