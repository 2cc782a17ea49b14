/- Sorting in place: two rows merged. -/
import Derived.Test.YtlnbbokmibfegaaGreatSr4
namespace Go.Abs
open Go.Proofs
set_option maxRecDepth 100000
open Classical
variable {α : Type} {C : Cm α} {tg : α → Nat} {Pd : α → Prop}
def SymOk (C : Cm α) (tg : α → Nat) (Pd : α → Prop) (N : Nat) (p L R s : List α) (a m b : Nat) (H : Hp) (n : Nat) : Prop :=
  CallR Tryz.prog 84 [.sl C.bk 0 N 1, .int .i64 (a : Int), .int .i64 (m : Int), .int .i64 (b : Int), C.fv] H n (fun w K j => w = .tup [] ∧ (∃ M, Srt.Good C.c tg Pd L R M ∧ Ch C H (p ++ (M ++ s)) K) ∧ j = n)
/-- the search: where the two rows are parted -/
theorem search68 (ho : C.Ok Tryz.prog) {H : Hp} {n : Nat} {p L R s : List α} {N : Nat} (hd : Dt C H (p ++ (L ++ (R ++ s)))) (hJ : C.J H) (hL : ∀ z ∈ L, C.El z) (hR : ∀ z ∈ R, C.El z) (hN : p.length + L.length + R.length ≤ N) (hb : N < 1000000) {a m b mid nn M' lo hi : Nat} (ea : a = p.length) (em : m = p.length + L.length)
    (emid : mid = a + M') (enn : nn = mid + m) (h0 : 0 < M') (hlh : lo ≤ hi) (hhM : hi ≤ M') (hhL : hi ≤ L.length) (hlR : M' - lo ≤ R.length) {F' : Fr}
    (f0 : F'.get 0 = some (.sl C.bk 0 N 1)) (f1 : F'.get 1 = some (.int .i64 (a : Int))) (f2 : F'.get 2 = some (.int .i64 (m : Int))) (f3 : F'.get 3 = some (.int .i64 (b : Int))) (f4 : F'.get 4 = some C.fv) (f18 : F'.get 18 = some (.int .i64 (mid : Int))) (f19 : F'.get 19 = some (.int .i64 (nn : Int)))
    (f20 : F'.get 20 = some (.int .i64 ((a + lo : Nat) : Int))) (f21 : F'.get 21 = some (.int .i64 ((a + hi : Nat) : Int))) (Q : QA) (X : CT)
    (hgo : ∀ (F2 : Fr) (st : Nat), F2.get 0 = some (.sl C.bk 0 N 1) → F2.get 1 = some (.int .i64 (a : Int)) → F2.get 2 = some (.int .i64 (m : Int)) → F2.get 3 = some (.int .i64 (b : Int)) → F2.get 4 = some C.fv → F2.get 18 = some (.int .i64 (mid : Int)) → F2.get 19 = some (.int .i64 (nn : Int)) → F2.get 20 = some (.int .i64 ((a + st : Nat) : Int)) →
      lo ≤ st → st ≤ hi → (st = lo ∨ ∀ x y, L[st - 1]? = some x → R[M' - st]? = some y → 0 ≤ C.c y x) → (st = hi ∨ ∀ x y, R[M' - 1 - st]? = some x → L[st]? = some y → C.c x y < 0) → VC Tryz.prog X F2 H n [] Q) :
    VC Tryz.prog (.seq R84_32 (.seq (.block 8 (.loop L84_4)) X)) F' H n [] Q := by
  obtain ⟨pp, hpp⟩ : ∃ pp, pp = nn - 1 := ⟨_, rfl⟩
  have w4 : IntKind.i64.wrap ((nn : Int) - 1) = (pp : Int) := by rw [wrapS _ (by omega) (by omega)]; omega
  have hdR : Dt C H ((p ++ L) ++ (R ++ s)) := by simpa using hd
  simp [R84_32, f19, w4]
  refine LoopV.of (fun t F' K n' ms => ∃ i j, t = j - i ∧ lo ≤ i ∧ i ≤ j ∧ j ≤ hi ∧ F'.get 0 = some (.sl C.bk 0 N 1) ∧ F'.get 1 = some (.int .i64 (a : Int)) ∧ F'.get 2 = some (.int .i64 (m : Int)) ∧ F'.get 3 = some (.int .i64 (b : Int)) ∧ F'.get 4 = some C.fv ∧ F'.get 18 = some (.int .i64 (mid : Int)) ∧ F'.get 19 = some (.int .i64 (nn : Int)) ∧ F'.get 20 = some (.int .i64 ((a + i : Nat) : Int)) ∧ F'.get 21 = some (.int .i64 ((a + j : Nat) : Int)) ∧ F'.get 22 = some (.int .i64 (pp : Int)) ∧ H = K ∧ n = n' ∧ ms = [] ∧
    (i = lo ∨ ∀ x y, L[i - 1]? = some x → R[M' - i]? = some y → 0 ≤ C.c y x) ∧ (j = hi ∨ ∀ x y, R[M' - 1 - j]? = some x → L[j]? = some y → C.c x y < 0)) (hi - lo) ⟨lo, hi, rfl, Nat.le_refl _, hlh, Nat.le_refl _, by simp [f0], by simp [f1], by simp [f2], by simp [f3], by simp [f4], by simp [f18], by simp [f19], by simp [f20], by simp [f21], by simp, rfl, rfl, rfl, .inl rfl, .inl rfl⟩ ?_
  clear f0 f1 f2 f3 f4 f18 f19 f20 f21
  rintro t F1 K n' ms ⟨i, j, rfl, hli, hij, hj, f0, f1, f2, f3, f4, f18, f19, f20, f21, f22, rfl, rfl, rfl, h1, h2⟩
  obtain ⟨I, hI⟩ : ∃ I, I = a + i := ⟨_, rfl⟩
  obtain ⟨J, hJ'⟩ : ∃ J, J = a + j := ⟨_, rfl⟩
  rw [← hI] at f20
  rw [← hJ'] at f21
  by_cases hlt : I < J
  · obtain ⟨q, hq⟩ : ∃ q, q = (i + j) / 2 := ⟨_, rfl⟩
    obtain ⟨A, hA⟩ : ∃ A, A = a + q := ⟨_, rfl⟩
    obtain ⟨B, hB⟩ : ∃ B, B = pp - A := ⟨_, rfl⟩
    obtain ⟨S, hS⟩ : ∃ S, S = I + J := ⟨_, rfl⟩
    have hmid2 : S / 2 = A := by omega
    have hiq : i ≤ q ∧ q < j := by omega
    clear hq
    have hqL : q < L.length := by omega
    have hqR : M' - 1 - q < R.length := by omega
    have hSb : S < 2147483648 := by omega
    have hAb : A < N := by omega
    have hBb : B < N := by omega
    have hBR : B = p.length + L.length + (M' - 1 - q) := by omega
    have w5 : IntKind.i64.wrap ((I : Int) + (J : Int)) = (S : Int) := by rw [wrapS _ (by omega) (by omega)]; omega
    have w6 : IntKind.i64.wrap ((pp : Int) - (A : Int)) = (B : Int) := by rw [wrapS _ (by omega) (by omega)]; omega
    have w7 : IntKind.i64.wrap ((A : Int) + 1) = ((a + (q + 1) : Nat) : Int) := by rw [wrapS _ (by omega) (by omega)]; omega
    have hs := shrS S
    rw [hmid2] at hs
    have hs2 := u64S S hSb
    have hs3 := i64S A (by omega)
    have l1 := hd.at (k := A) (i := q) (by rw [hA, ea]) hqL
    have l2 := hdR.at (k := B) (i := M' - 1 - q) (by rw [List.length_append]; exact hBR) hqR
    have x1 := ix_dt (bk := C.bk) (N := N) (i := A) hAb
    have x2 := ix_dt (bk := C.bk) (N := N) (i := B) hBb
    have hEl1 := hL L[q] (List.getElem_mem hqL)
    have hEl2 := hR R[M' - 1 - q] (List.getElem_mem hqR)
    have gL : L[q]? = some L[q] := List.getElem?_eq_getElem hqL
    have gR : R[M' - 1 - q]? = some R[M' - 1 - q] := List.getElem?_eq_getElem hqR
    generalize L[q] = xl at *
    generalize R[M' - 1 - q] = xr at *
    simp [L84_4, R84_33, f20, f21, hlt, R84_34, w5, hs, hs2, hs3, R84_35]
    refine DrwV.of (C.ce_ok ho hEl2 hEl1) ?_
    simp [clearF_get, f0, f4, f22, Cm.fv, w6, x1, x2, l1, l2, Cm.ce_call hJ]
    have hIi : (I : Int) = (a : Int) + (i : Int) := by omega
    have hJj : (J : Int) = (a : Int) + (j : Int) := by omega
    have hAq : (A : Int) = (a : Int) + (q : Int) := by omega
    have d1 : q - i < j - i := by omega
    have d2 : j - (q + 1) < j - i := by omega
    have o1 : lo ≤ q + 1 ∧ q + 1 ≤ j ∧ q ≤ hi := by omega
    by_cases hlt0 : C.c xr xl < 0
    · simp [clearF_get, hlt0, R84_37, f0, f1, f2, f3, f4, f18, f19, f20, f22, Cm.fv]
      exact ⟨q - i, d1, i, q, rfl, hli, hiq.1, o1.2.2, hIi, hAq, h1, .inr fun x y hx hy => by rw [gR] at hx; rw [gL] at hy; injection hx with hx; injection hy with hy; subst hx hy; exact hlt0⟩
    · simp [clearF_get, hlt0, R84_36, w7, f0, f1, f2, f3, f4, f18, f19, f21, f22, Cm.fv]
      have e2 : M' - (q + 1) = M' - 1 - q := by omega
      exact ⟨j - (q + 1), d2, q + 1, j, rfl, o1.1, o1.2.1, hj, by omega, hJj, .inr fun x y hx hy => by
        rw [Nat.add_sub_cancel, gL] at hx
        rw [e2, gR] at hy
        injection hx with hx; injection hy with hy; subst hx hy; omega, h2⟩
  · have hij' : i = j := by omega
    subst hij'
    simp [L84_4, R84_33, f20, f21, hlt]
    exact hgo _ i (by simp [f0]) (by simp [f1]) (by simp [f2]) (by simp [f3]) (by simp [f4]) (by simp [f18]) (by simp [f19]) (by simp [f20, hI]) hli hj h1 h2
end Go.Abs
