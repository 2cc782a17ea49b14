/- Sorting in place: two neighbouring parts change places. -/
import Derived.Test.YtlnbbokmibfegaaGreatSr1
namespace Go.Abs
open Go.Proofs
set_option maxRecDepth 100000
variable {α : Type} {C : Cm α}
theorem rot127 (ho : C.Ok Tryz.prog) {H : Hp} {n : Nat} {p u v s : List α} {N : Nat} (hd : Dt C H (p ++ (u ++ (v ++ s)))) (hu : 0 < u.length) (hv : 0 < v.length) (hN : p.length + u.length + v.length ≤ N) (hb : N < 1000000) {a m b : Nat} (ea : a = p.length) (em : m = p.length + u.length) (eb : b = p.length + u.length + v.length) :
    CallR Tryz.prog 146 [.sl C.bk 0 N 1, .int .i64 (a : Int), .int .i64 (m : Int), .int .i64 (b : Int), C.fv] H n (fun w K j => w = .tup [] ∧ Ch C H (p ++ (v ++ (u ++ s))) K ∧ j = n) := by
  refine CallR.of c146 (by simp [A146]) fun F hF => ?_
  obtain ⟨i0, hi0⟩ : ∃ i0, i0 = m - a := ⟨_, rfl⟩
  obtain ⟨j0, hj0⟩ : ∃ j0, j0 = b - m := ⟨_, rfl⟩
  have w1 : IntKind.i64.wrap ((m : Int) - (a : Int)) = (i0 : Int) := by rw [wrapS _ (by omega) (by omega)]; omega
  have w2 : IntKind.i64.wrap ((b : Int) - (m : Int)) = (j0 : Int) := by rw [wrapS _ (by omega) (by omega)]; omega
  simp [A146, B146, R146_0, R146_1, hF, w1, w2]
  generalize hgoal : p ++ (v ++ (u ++ s)) = G
  refine LoopV.of (fun t F' K n' ms => ∃ i j, t = i + j ∧ 0 < i ∧ 0 < j ∧ i + j ≤ i0 + j0 ∧ F'.get 0 = some (.sl C.bk 0 N 1) ∧ F'.get 2 = some (.int .i64 (m : Int)) ∧ F'.get 4 = some C.fv ∧ F'.get 10 = some (.int .i64 (i : Int)) ∧ F'.get 11 = some (.int .i64 (j : Int)) ∧ n = n' ∧ ms = [] ∧
    ∃ p' u' v' s', Ch C H (p' ++ (u' ++ (v' ++ s'))) K ∧ p'.length + u'.length = m ∧ u'.length = i ∧ v'.length = j ∧ m + j ≤ b ∧ p' ++ (v' ++ (u' ++ s')) = G) (i0 + j0) ⟨i0, j0, rfl, by omega, by omega, by omega, by simp [hF], by simp [hF], by simp [hF], by simp, by simp, rfl, rfl, p, u, v, s, .refl hd, by omega, by omega, by omega, by omega, hgoal⟩ ?_
  rintro t F' K n' ms ⟨i, j, rfl, hi, hj, hij, f0, f2, f4, f10, f11, rfl, rfl, p', u', v', s', hC, hm, hui, hvj, hmb, hG⟩
  obtain ⟨A, hA⟩ : ∃ A, A = m - i := ⟨_, rfl⟩
  have wA : IntKind.i64.wrap ((m : Int) - (i : Int)) = (A : Int) := by rw [wrapS _ (by omega) (by omega)]; omega
  by_cases he : i = j
  · have hne : (i : Int) = (j : Int) := by omega
    simp [L146_0, R146_2, f10, f11, hne, R146_8, f0, f2, f4]
    subst he
    rw [wA]
    refine CalV.of (swap173 ho (H := K) (n := n) (p := p') (u := u') (q := []) (v := v') (s := s') (N := N) (by simpa using hC.1) (by omega) (by simp; omega) hb (a := A) (b := m) (k := i) (by omega) (by simp; omega) hui.symm) fun w K' n'' ⟨e1, e2, e3⟩ => ?_
    subst e1 e3
    rw [List.nil_append, hG] at e2
    simp
    exact hC.trans e2
  · have hne : ¬ (i : Int) = (j : Int) := by omega
    simp [L146_0, R146_2, f10, f11, hne, R146_3]
    by_cases hgt : j < i
    · have wI : IntKind.i64.wrap ((i : Int) - (j : Int)) = ((i - j : Nat) : Int) := by rw [wrapS _ (by omega) (by omega)]; omega
      simp [hgt, R146_4, f0, f2, f4, f10, f11, wA]
      have e0 : u' = u'.take j ++ u'.drop j := (List.take_append_drop j u').symm
      have hl1 : (u'.take j).length = j := by simp; omega
      have hl2 : (u'.drop j).length = i - j := by simp; omega
      generalize u'.take j = u1 at e0 hl1
      generalize u'.drop j = u2 at e0 hl2
      subst e0
      refine CalV.of (swap173 ho (H := K) (n := n) (p := p') (u := u1) (q := u2) (v := v') (s := s') (N := N) (by simpa using hC.1) (by omega) (by simp at hm hui ⊢; omega) hb (a := A) (b := m) (k := j) (by simp at hm hui; omega) (by simp at hm hui ⊢; omega) hl1.symm) fun w K' n'' ⟨e1, e2, e3⟩ => ?_
      subst e1 e3
      simp [R146_5, f10, f11, wI]
      refine ⟨i - j + j, by omega, i - j, j, rfl, by omega, hj, by omega, f0, f2, f4, rfl, rfl, p' ++ v', u2, u1, s', by simpa using hC.trans e2, by simp at hm hui ⊢; omega, hl2, hl1, by omega, by rw [← hG]; simp⟩
    · obtain ⟨B, hB⟩ : ∃ B, B = m + j - i := ⟨_, rfl⟩
      have w3 : IntKind.i64.wrap ((m : Int) + (j : Int)) = ((m + j : Nat) : Int) := by rw [wrapS _ (by omega) (by omega)]; omega
      have w4 : IntKind.i64.wrap (((m + j : Nat) : Int) - (i : Int)) = (B : Int) := by rw [wrapS _ (by omega) (by omega)]; omega
      have wI : IntKind.i64.wrap ((j : Int) - (i : Int)) = ((j - i : Nat) : Int) := by rw [wrapS _ (by omega) (by omega)]; omega
      simp only [Int.natCast_add] at w4
      simp [hgt, R146_6, f0, f2, f4, f10, f11, wA, w3, w4]
      have e0 : v' = v'.take (j - i) ++ v'.drop (j - i) := (List.take_append_drop _ v').symm
      have hl1 : (v'.take (j - i)).length = j - i := by simp; omega
      have hl2 : (v'.drop (j - i)).length = i := by simp; omega
      generalize v'.take (j - i) = v1 at e0 hl1
      generalize v'.drop (j - i) = v2 at e0 hl2
      subst e0
      refine CalV.of (swap173 ho (H := K) (n := n) (p := p') (u := u') (q := v1) (v := v2) (s := s') (N := N) (by simpa using hC.1) (by omega) (by omega) hb (a := A) (b := B) (k := i) (by omega) (by omega) hui.symm) fun w K' n'' ⟨e1, e2, e3⟩ => ?_
      subst e1 e3
      simp [R146_7, f10, f11, wI]
      refine ⟨i + (j - i), by omega, i, j - i, rfl, hi, by omega, by omega, f0, f2, f4, rfl, rfl, p', v2, v1, u' ++ s', by simpa using hC.trans e2, by omega, hl2, hl1, by omega, by rw [← hG]; simp⟩
end Go.Abs
