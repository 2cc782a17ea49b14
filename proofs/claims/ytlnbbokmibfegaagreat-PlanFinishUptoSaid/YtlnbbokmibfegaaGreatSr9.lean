/- Stable sorting: blocks, and what merging makes of them, in plain lists. -/
import Derived.Test.YtlnbbokmibfegaaGreatSr8
namespace Go.Abs
variable {α : Type} {c : α → α → Int} {tg : α → Nat} {Pd : α → Prop}
def TL (tg : α → Nat) (X Y : List α) : Prop := ∀ x ∈ X, ∀ y ∈ Y, tg x < tg y
/-- blocks, each sorted, one behind the other -/
def Bs (c : α → α → Int) (tg : α → Nat) (bs : List (List α)) : Prop := (∀ X ∈ bs, X.Pairwise (Srt.Le c tg)) ∧ bs.Pairwise (TL tg)
/-- their lengths -/
def Sh (B : Nat) (bs : List (List α)) : Prop := bs = [] ∨ ∃ init last, bs = init ++ [last] ∧ (∀ X ∈ init, X.length = B) ∧ 0 < last.length ∧ last.length ≤ B
theorem flat_len {B : Nat} {bs : List (List α)} (h : ∀ X ∈ bs, X.length = B) : bs.flatten.length = bs.length * B := by
  induction bs with
  | nil => simp
  | cons X r ih =>
    have h1 := h X (by simp)
    have h2 := ih fun Y hY => h Y (by simp [hY])
    simp only [List.flatten_cons, List.length_append, List.length_cons, h1, h2, Nat.add_mul, Nat.one_mul]
    omega
theorem Bs.merge {D r : List (List α)} {X Y M : List α} (h : Bs c tg (D ++ X :: Y :: r)) (hp : ∀ x ∈ X ++ Y, Pd x) (g : Srt.Good c tg Pd X Y M) : Bs c tg (D ++ M :: r) := by
  obtain ⟨h1, h2⟩ := h
  rw [List.pairwise_append] at h2
  obtain ⟨p1, p2, p3⟩ := h2
  rw [List.pairwise_cons] at p2
  obtain ⟨q1, q2⟩ := p2
  rw [List.pairwise_cons] at q2
  have mem : ∀ z ∈ M, z ∈ X ∨ z ∈ Y := fun z hz => List.mem_append.1 (g.1.mem_iff.1 hz)
  refine ⟨fun Z hZ => ?_, ?_⟩
  · rcases List.mem_append.1 hZ with hZ | hZ
    · exact h1 Z (by simp [hZ])
    · rcases List.mem_cons.1 hZ with rfl | hZ
      · exact g.2 hp (h1 X (by simp)) (h1 Y (by simp)) (q1 Y (by simp))
      · exact h1 Z (by simp [hZ])
  · rw [List.pairwise_append]
    refine ⟨p1, ?_, fun Z hZ W hW => ?_⟩
    · rw [List.pairwise_cons]
      refine ⟨fun W hW z hz w hw => ?_, q2.2⟩
      rcases mem z hz with h | h
      · exact q1 W (by simp [hW]) z h w hw
      · exact q2.1 W hW z h w hw
    · rcases List.mem_cons.1 hW with rfl | hW
      · intro z hz w hw
        rcases mem w hw with h | h
        · exact p3 Z hZ X (by simp) z hz w h
        · exact p3 Z hZ Y (by simp) z hz w h
      · exact p3 Z hZ W (by simp [hW])
/-- how blocks that are left can be -/
theorem Sh.cases {B : Nat} {bs : List (List α)} (h : Sh B bs) : bs = [] ∨ (∃ X, bs = [X] ∧ 0 < X.length ∧ X.length ≤ B) ∨ ∃ X Y r, bs = X :: Y :: r ∧ X.length = B ∧ 0 < Y.length ∧ Y.length ≤ B ∧ (r = [] ∨ Y.length = B) ∧ Sh B r := by
  rcases h with rfl | ⟨init, last, rfl, h1, h2, h3⟩
  · exact .inl rfl
  · cases init with
    | nil => exact .inr (.inl ⟨last, rfl, h2, h3⟩)
    | cons X i =>
      have hX := h1 X (by simp)
      cases i with
      | nil => exact .inr (.inr ⟨X, last, [], rfl, hX, h2, h3, .inl rfl, .inl rfl⟩)
      | cons Y j =>
        have hY := h1 Y (by simp)
        exact .inr (.inr ⟨X, Y, j ++ [last], rfl, hX, by omega, by omega, .inr hY, .inr ⟨j, last, rfl, fun Z hZ => h1 Z (by simp [hZ]), h2, h3⟩⟩)
theorem Sh.one {B : Nat} {bs : List (List α)} (h : Sh B bs) (hn : bs.flatten.length ≤ B) : bs = [] ∨ ∃ X, bs = [X] := by
  rcases h.cases with h | ⟨X, h, _⟩ | ⟨X, Y, r, rfl, h1, h2, _⟩
  · exact .inl h
  · exact .inr ⟨X, h⟩
  · simp at hn; omega
theorem Sh.join {B : Nat} {D : List (List α)} (hD : ∀ X ∈ D, X.length = B) {X : List α} (h0 : 0 < X.length) (h1 : X.length ≤ B) : Sh B (D ++ [X]) := .inr ⟨D, X, rfl, hD, h0, h1⟩
theorem Sh.all {B : Nat} (hB : 0 < B) {D : List (List α)} (hD : ∀ X ∈ D, X.length = B) : Sh B D := by
  rcases List.eq_nil_or_concat D with h | ⟨i, l, rfl⟩
  · exact .inl h
  · have := hD l (by simp)
    exact .inr ⟨i, l, List.concat_eq_append, fun X hX => hD X (by simp [hX]), by omega, by omega⟩
end Go.Abs
