/- Sorting in place: others merged with one. -/
import Derived.Test.YtlnbbokmibfegaaGreatSr3
namespace Go.Abs
open Go.Proofs
set_option maxRecDepth 100000
open Classical
variable {α : Type} {C : Cm α} {tg : α → Nat} {Pd : α → Prop}
theorem snoc68 (ho : C.Ok Tryz.prog) (hc : Srt.Ord C.c Pd) {H : Hp} {n : Nat} {p R s : List α} {x : α} {N : Nat} (hd : Dt C H (p ++ (R ++ ([x] ++ s)))) (hJ : C.J H) (hx : C.El x) (hEl : ∀ z ∈ R, C.El z) (hR : 1 < R.length) (hN : p.length + 1 + R.length ≤ N) (hb : N < 1000000) {a m b : Nat} (ea : a = p.length) (em : m = p.length + R.length) (eb : b = p.length + R.length + 1) :
    CallR Tryz.prog 84 [.sl C.bk 0 N 1, .int .i64 (a : Int), .int .i64 (m : Int), .int .i64 (b : Int), C.fv] H n (fun w K j => w = .tup [] ∧ (∃ M, Srt.Good C.c tg Pd R [x] M ∧ Ch C H (p ++ (M ++ s)) K) ∧ j = n) := by
  refine CallR.of c84 (by simp [A84]) fun F hF => ?_
  have w0 : ¬ IntKind.i64.wrap ((m : Int) - (a : Int)) = 1 := by rw [wrapS _ (by omega) (by omega)]; omega
  have w1 : IntKind.i64.wrap ((b : Int) - (m : Int)) = 1 := by rw [wrapS _ (by omega) (by omega)]; omega
  simp [A84, B84, R84_0, hF, w0, w1, R84_12, R84_13, R84_14]
  have hd' : Dt C H ((p ++ R) ++ ([x] ++ s)) := by simpa using hd
  refine LoopV.of (fun t F' K n' ms => ∃ i j, t = j - i ∧ i ≤ j ∧ j ≤ R.length ∧ F'.get 0 = some (.sl C.bk 0 N 1) ∧ F'.get 2 = some (.int .i64 (m : Int)) ∧ F'.get 4 = some C.fv ∧ F'.get 14 = some (.int .i64 ((a + i : Nat) : Int)) ∧ F'.get 15 = some (.int .i64 ((a + j : Nat) : Int)) ∧ H = K ∧ n = n' ∧ ms = [] ∧
    (∀ y, (R.take i).getLast? = some y → 0 ≤ C.c x y) ∧ (∀ y, R[j]? = some y → C.c x y < 0)) R.length ⟨0, R.length, by omega, by omega, by omega, by simp [hF], by simp [hF], by simp [hF], by simp, by simp; omega, rfl, rfl, rfl, by simp, by simp⟩ ?_
  rintro t F' K n' ms ⟨i, j, rfl, hij, hj, f0, f1, f4, f10, f11, rfl, rfl, rfl, h1, h2⟩
  obtain ⟨I, hI⟩ : ∃ I, I = a + i := ⟨_, rfl⟩
  obtain ⟨J, hJ'⟩ : ∃ J, J = a + j := ⟨_, rfl⟩
  rw [← hI] at f10
  rw [← hJ'] at f11
  by_cases hlt : I < J
  · have hmid : (I + J) / 2 = a + (i + j) / 2 := by omega
    generalize hq : (i + j) / 2 = q at *
    obtain ⟨A, hA⟩ : ∃ A, A = a + q := ⟨_, rfl⟩
    have hqR : q < R.length := by omega
    have w2 : IntKind.i64.wrap ((I : Int) + (J : Int)) = ((I + J : Nat) : Int) := by rw [wrapS _ (by omega) (by omega)]; omega
    have hs := shrS (I + J)
    rw [hmid, ← hA] at hs
    have hs2 := u64S (I + J) (by omega)
    have hs3 := i64S A (by omega)
    have l1 := hd.at (k := A) (i := q) (by omega) hqR
    have l2 := hd'.at (k := m) (i := 0) (by simp; omega) (by simp)
    have x1 := ix_dt (bk := C.bk) (N := N) (i := A) (by omega)
    have x2 := ix_dt (bk := C.bk) (N := N) (i := m) (by omega)
    have hElq := hEl R[q] (List.getElem_mem hqR)
    have hg := getLast_take_succ hqR
    simp only [List.getElem_cons_zero] at l2
    generalize hIJ : I + J = S at *
    simp [L84_2, R84_15, f10, f11, hlt, R84_16, w2, hs, hs2, hs3, R84_17]
    refine DrwV.of (C.ce_ok ho hx hElq) ?_
    simp [clearF_get, f0, f1, f4, Cm.fv, x1, x2, l1, l2, Cm.ce_call hJ]
    by_cases hlt0 : C.c x R[q] < 0
    · simp [clearF_get, hlt0, R84_19, f0, f1, f4, f10, Cm.fv]
      exact ⟨q - i, by omega, i, q, rfl, by omega, by omega, by omega, by omega, h1, fun y hy => by rw [List.getElem?_eq_getElem hqR] at hy; injection hy with hy; subst hy; omega⟩
    · have w3 : IntKind.i64.wrap ((A : Int) + 1) = ((a + (q + 1) : Nat) : Int) := by rw [wrapS _ (by omega) (by omega)]; omega
      simp [clearF_get, hlt0, R84_18, w3, f0, f1, f4, f11, Cm.fv]
      exact ⟨j - (q + 1), by omega, q + 1, j, rfl, by omega, hj, by omega, by omega, fun y hy => by rw [hg] at hy; injection hy with hy; subst hy; omega, h2⟩
  · have hij' : i = j := by omega
    subst hij'
    have hIJ : I = J := by omega
    subst hIJ
    simp [L84_2, R84_15, f10, f11, R84_20, f1]
    have hG := Srt.Good.snoc (c := C.c) (tg := tg) (Pd := Pd) hc (x := x) (L1 := R.take i) (L2 := R.drop i) (fun y hy => by have := h1 y hy; omega) (fun y hy => by rw [List.head?_drop] at hy; exact h2 y hy)
    rw [List.take_append_drop] at hG
    have hd0 : Dt C H (p ++ (R.take i ++ (R.drop i ++ x :: s))) := by simpa [← List.append_assoc] using hd
    generalize hR1 : R.take i = R1 at hG hd0
    generalize hR2 : R.drop i = R2 at hG hd0
    have hR1l : R1.length = i := by rw [← hR1]; simp; omega
    have hR2l : R2.length + i = R.length := by rw [← hR2]; simp; omega
    clear h1 h2
    refine LoopV.of (fun t F' K n' ms => ∃ r, t = r ∧ r ≤ R2.length ∧ F'.get 0 = some (.sl C.bk 0 N 1) ∧ F'.get 14 = some (.int .i64 (I : Int)) ∧ F'.get 17 = some (.int .i64 ((I + r : Nat) : Int)) ∧ n = n' ∧ ms = [] ∧ Ch C H (p ++ (R1 ++ (R2.take r ++ x :: (R2.drop r ++ s)))) K) R2.length ⟨R2.length, rfl, by omega, by simp [f0], by simp [f10], by simp; omega, rfl, rfl, .refl (by simpa using hd0)⟩ ?_
    rintro r F1 K n' ms ⟨_, rfl, hr, g0, g10, g13, rfl, rfl, hC⟩
    obtain ⟨E, hE⟩ : ∃ E, E = I + r := ⟨_, rfl⟩
    rw [← hE] at g13
    by_cases hlt : I < E
    · obtain ⟨r0, rfl⟩ : ∃ r0, r = r0 + 1 := ⟨r - 1, by omega⟩
      have hel : r0 < R2.length := by omega
      obtain ⟨B, hB⟩ : ∃ B, B = I + r0 := ⟨_, rfl⟩
      have w4 : IntKind.i64.wrap ((E : Int) - 1) = (B : Int) := by rw [wrapS _ (by omega) (by omega)]; omega
      have eD : p ++ (R1 ++ (R2.take (r0 + 1) ++ x :: (R2.drop (r0 + 1) ++ s))) = (p ++ (R1 ++ R2.take r0)) ++ R2[r0] :: ([] ++ x :: (R2.drop (r0 + 1) ++ s)) := by
        rw [List.take_succ_eq_append_getElem hel]; simp only [List.append_assoc, List.cons_append, List.nil_append]
      have eS : (p ++ (R1 ++ R2.take r0)) ++ x :: ([] ++ R2[r0] :: (R2.drop (r0 + 1) ++ s)) = p ++ (R1 ++ (R2.take r0 ++ x :: (R2.drop r0 ++ s))) := by
        rw [List.drop_eq_getElem_cons hel]; simp only [List.append_assoc, List.cons_append, List.nil_append]
      obtain ⟨y1, y2, l1, l2, s1, s2, t2⟩ := hC.swap' ho eD (A := B) (B := E) (by simp; omega) (by simp; omega)
      rw [eS] at t2
      have x1 := ix_dt (bk := C.bk) (N := N) (i := E) (by omega)
      have x2 := ix_dt (bk := C.bk) (N := N) (i := B) (by omega)
      simp [L84_3, R84_21, g10, g13, hlt, R84_22]
      refine DrwV.of (ce0_ok (P := Tryz.prog)) ?_
      simp [clearF_get, g0, g13, w4, x1, x2, l1, l2, s1, s2, R84_23, g10]
      exact ⟨r0, by omega, by omega, by omega, t2⟩
    · have he' : r = 0 := by omega
      subst he'
      simp [L84_3, R84_21, g10, g13, hlt]
      exact ⟨_, hG, by simpa using hC⟩
end Go.Abs
