/- Stable sorting: the whole. -/
import Derived.Test.YtlnbbokmibfegaaGreatSr9
namespace Go.Abs
open Go.Proofs
set_option maxRecDepth 100000
open Classical
variable {α : Type} {C : Cm α} {tg : α → Nat} {Pd : α → Prop}
/-- blocks, and others behind them -/
structure Ph1 (C : Cm α) (tg : α → Nat) (Pd : α → Prop) (S : List α) (D : List (List α)) (R : List α) : Prop where
  perm : (D.flatten ++ R).Perm S
  len : ∀ X ∈ D, X.length = 20
  srt : (∀ x ∈ S, Pd x) → S.Pairwise (fun x y => tg x < tg y) → Bs C.c tg D ∧ (∀ X ∈ D, TL tg X R) ∧ R.Pairwise (fun x y => tg x < tg y)
/-- blocks alone -/
structure Ph2 (C : Cm α) (tg : α → Nat) (Pd : α → Prop) (S : List α) (D : List (List α)) : Prop where
  perm : D.flatten.Perm S
  srt : (∀ x ∈ S, Pd x) → S.Pairwise (fun x y => tg x < tg y) → Bs C.c tg D
theorem Ph1.step {S : List α} {D : List (List α)} {O R T : List α} (h : Ph1 C tg Pd S D (O ++ R)) (hO : O.length = 20) (g : GoodI C tg Pd O T) : Ph1 C tg Pd S (D ++ [T]) R := by
  refine ⟨?_, fun X hX => ?_, fun hp ht => ?_⟩
  · refine List.Perm.trans ?_ h.perm
    simp only [List.flatten_append, List.flatten_cons, List.flatten_nil, List.append_nil, List.append_assoc]
    exact List.Perm.append_left _ (List.Perm.append_right _ g.1)
  · rcases List.mem_append.1 hX with hX | hX
    · exact h.len X hX
    · rw [List.mem_singleton.1 hX, g.1.length_eq, hO]
  · obtain ⟨h1, h2, h3⟩ := h.srt hp ht
    rw [List.pairwise_append] at h3
    have hT := g.2 (fun x hx => hp x (h.perm.mem_iff.1 (by simp [hx]))) h3.1
    refine ⟨⟨fun X hX => ?_, ?_⟩, fun X hX => ?_, h3.2.1⟩
    · rcases List.mem_append.1 hX with hX | hX
      · exact h1.1 X hX
      · rw [List.mem_singleton.1 hX]; exact hT
    · rw [List.pairwise_append]
      refine ⟨h1.2, by simp, fun X hX Y hY x hx y hy => ?_⟩
      rw [List.mem_singleton.1 hY] at hy
      exact h2 X hX x hx y (by simp [g.1.mem_iff.1 hy])
    · rcases List.mem_append.1 hX with hX | hX
      · exact fun x hx y hy => h2 X hX x hx y (by simp [hy])
      · rw [List.mem_singleton.1 hX]
        exact fun x hx y hy => h3.2.2 x (g.1.mem_iff.1 hx) y hy
theorem Ph1.last {S : List α} {D : List (List α)} {O T : List α} (h : Ph1 C tg Pd S D O) (hO : O.length < 20) (g : GoodI C tg Pd O T) : ∃ D', D'.flatten = D.flatten ++ T ∧ Sh 20 D' ∧ Ph2 C tg Pd S D' := by
  have hl := g.1.length_eq
  by_cases h0 : O.length = 0
  · have hT : T = [] := List.length_eq_zero_iff.1 (by omega)
    have hOn : O = [] := List.length_eq_zero_iff.1 h0
    subst hT hOn
    refine ⟨D, by simp, Sh.all (by omega) h.len, ⟨by simpa using h.perm, fun hp ht => (h.srt hp ht).1⟩⟩
  · refine ⟨D ++ [T], by simp, Sh.join h.len (by omega) (by omega), ?_, fun hp ht => ?_⟩
    · refine List.Perm.trans ?_ h.perm
      simp only [List.flatten_append, List.flatten_cons, List.flatten_nil, List.append_nil]
      exact List.Perm.append_left _ g.1
    · obtain ⟨h1, h2, h3⟩ := h.srt hp ht
      have hT := g.2 (fun x hx => hp x (h.perm.mem_iff.1 (by simp [hx]))) h3
      refine ⟨fun X hX => ?_, ?_⟩
      · rcases List.mem_append.1 hX with hX | hX
        · exact h1.1 X hX
        · rw [List.mem_singleton.1 hX]; exact hT
      · rw [List.pairwise_append]
        refine ⟨h1.2, by simp, fun X hX Y hY x hx y hy => ?_⟩
        rw [List.mem_singleton.1 hY] at hy
        exact h2 X hX x hx y (g.1.mem_iff.1 hy)
theorem Ph2.merge {S : List α} {D r : List (List α)} {X Y M : List α} (h : Ph2 C tg Pd S (D ++ X :: Y :: r)) (g : Srt.Good C.c tg Pd X Y M) : Ph2 C tg Pd S (D ++ M :: r) := by
  refine ⟨?_, fun hp ht => Bs.merge (h.srt hp ht) (fun x hx => hp x (h.perm.mem_iff.1 ?_)) g⟩
  · refine List.Perm.trans ?_ h.perm
    simp only [List.flatten_append, List.flatten_cons, ← List.append_assoc]
    refine List.Perm.append_right _ ?_
    rw [List.append_assoc]
    exact List.Perm.append_left _ g.1
  · simp only [List.flatten_append, List.flatten_cons, List.mem_append]
    rcases List.mem_append.1 hx with h | h
    · exact .inr (.inl h)
    · exact .inr (.inr (.inl h))
theorem phase1 (ho : C.Ok Tryz.prog) (hc : Srt.Ord C.c Pd) {H : Hp} {n : Nat} {S s : List α} {N : Nat} (hd : Dt C H (S ++ s)) (hN : N = S.length) (hJ : C.J H) (hS : ∀ z ∈ S, C.El z) (hb : N < 1000000) {F : Fr} (f0 : F.get 0 = some (.sl C.bk 0 N 1)) (f1 : F.get 1 = some (.int .i64 (N : Int))) (f2 : F.get 2 = some C.fv) (X : CT) (Q : QA)
    (hgo : ∀ (F' : Fr) (K : Hp) (D : List (List α)), F'.get 0 = some (.sl C.bk 0 N 1) → F'.get 1 = some (.int .i64 (N : Int)) → F'.get 2 = some C.fv → F'.get 6 = some (.int .i64 20) → Sh 20 D → Ph2 C tg Pd S D → Ch C H (D.flatten ++ s) K → VC Tryz.prog X F' K n [] Q) :
    VC Tryz.prog (.seq R42_0 (.seq R42_1 (.seq (.block 0 (.loop L42_0)) (.seq R42_6 X)))) F H n [] Q := by
  simp [R42_0, R42_1]
  refine LoopV.of (fun t F' K n' ms => ∃ a, t = N - a ∧ a ≤ N ∧ F'.get 0 = some (.sl C.bk 0 N 1) ∧ F'.get 1 = some (.int .i64 (N : Int)) ∧ F'.get 2 = some C.fv ∧ F'.get 6 = some (.int .i64 20) ∧ F'.get 7 = some (.int .i64 (a : Int)) ∧ F'.get 8 = some (.int .i64 ((a + 20 : Nat) : Int)) ∧ n = n' ∧ ms = [] ∧ ∃ D R, D.flatten.length = a ∧ Ph1 C tg Pd S D R ∧ Ch C H (D.flatten ++ (R ++ s)) K) N ⟨0, by omega, by omega, by simp [f0], by simp [f1], by simp [f2], by simp, by simp, by simp, rfl, rfl, [], S, rfl, ⟨by simp, by simp, fun _ h => ⟨⟨by simp, by simp⟩, by simp, h⟩⟩, .refl (by simpa using hd)⟩ ?_
  clear f0 f1 f2
  rintro t F1 K n' ms ⟨a, rfl, ha, f0, f1, f2, f6, f7, f8, rfl, rfl, D, R, hDl, hP, hC⟩
  have hlen : D.flatten.length + R.length = N := by have := hP.perm.length_eq; simp only [List.length_append] at this; omega
  have hEl : ∀ z ∈ R, C.El z := fun z hz => hS z (hP.perm.mem_iff.1 (by simp [hz]))
  have hJK : C.J K := ho.stay _ _ hJ hC.2
  obtain ⟨b, hbb⟩ : ∃ b, b = a + 20 := ⟨_, rfl⟩
  rw [← hbb] at f8
  by_cases hle : b ≤ N
  · have e0 : R = R.take 20 ++ R.drop 20 := (List.take_append_drop _ R).symm
    have hl1 : (R.take 20).length = 20 := by rw [List.length_take]; omega
    generalize R.take 20 = O at e0 hl1
    generalize R.drop 20 = R' at e0
    subst e0
    have w1 : IntKind.i64.wrap ((b : Int) + 20) = ((b + 20 : Nat) : Int) := by rw [wrapS _ (by omega) (by omega)]; omega
    simp [L42_0, R42_2, f8, f1, show (b : Int) ≤ (N : Int) by omega, R42_3, f0, f7, f2]
    refine CalV.of (ins67 (tg := tg) (Pd := Pd) ho hc (p := D.flatten) (S := O) (s := R' ++ s) (N := N) (by simpa using hC.1) hJK (fun z hz => hEl z (by simp [hz])) (by omega) hb hDl.symm (by omega)) fun w K' n'' ⟨q1, ⟨T, hT, q2⟩, q3⟩ => ?_
    subst q1 q3
    simp [R42_4, R42_5, f8, f6, w1]
    have hTl := hT.1.length_eq
    have hfl : (D ++ [T]).flatten.length = b := by
      simp only [List.flatten_append, List.flatten_cons, List.flatten_nil, List.append_nil, List.length_append]; omega
    refine ⟨N - b, by omega, b, rfl, hle, f0, f1, f2, rfl, D ++ [T], by simpa using hfl, R', hP.step hl1 hT, by simpa using hC.trans q2⟩
  · simp [L42_0, R42_2, f8, f1, show ¬ (b : Int) ≤ (N : Int) by omega, R42_6, f0, f7, f2]
    refine CalV.of (ins67 (tg := tg) (Pd := Pd) ho hc (p := D.flatten) (S := R) (s := s) (N := N) hC.1 hJK hEl (by omega) hb hDl.symm (by omega)) fun w K' n'' ⟨q1, ⟨T, hT, q2⟩, q3⟩ => ?_
    subst q1 q3
    simp
    obtain ⟨D', e1, e2, e3⟩ := hP.last (by omega) hT
    refine hgo _ _ D' (by simp [f0]) (by simp [f1]) (by simp [f2]) (by simp [f6]) e2 e3 ?_
    rw [e1]; simpa using hC.trans q2
end Go.Abs
