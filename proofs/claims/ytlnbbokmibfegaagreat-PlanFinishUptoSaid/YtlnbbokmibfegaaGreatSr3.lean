/- Sorting in place: one element merged with others. -/
import Derived.Test.YtlnbbokmibfegaaGreatSr2
namespace Go.Abs
open Go.Proofs
set_option maxRecDepth 100000
open Classical
variable {α : Type} {C : Cm α} {tg : α → Nat} {Pd : α → Prop}
/-- what is asked of one comparison -/
noncomputable def Cm.ce (C : Cm α) (x y : α) : Ce := ceT [(C.g, C.first ++ ([C.av x, C.av y] ++ C.cap), fun H n => if C.J H then .mk (.int .i64 (C.c x y)) H n else .fail)]
theorem Cm.ce_ok {P : Program} (ho : C.Ok P) {x y : α} (hx : C.El x) (hy : C.El y) : CeOk P (C.ce x y) := by
  refine ceT_ok ?_
  simp only [List.mem_singleton]
  rintro z rfl H n v H' n' h
  dsimp only at h
  split at h
  · rename_i hc
    injection h with h1 h2 h3
    subst h1 h2 h3
    exact ho.call x y hx hy H n hc
  · cases h
theorem Cm.ce_call {x y : α} {H : Hp} {n : Nat} (h : C.J H) : (C.ce x y).call C.g (C.first ++ C.av x :: C.av y :: C.cap) H n = .mk (.int .i64 (C.c x y)) H n := by
  show (C.ce x y).call C.g (C.first ++ ([C.av x, C.av y] ++ C.cap)) H n = _
  unfold Cm.ce
  rw [ceT_hd, if_pos h]
  rfl
theorem u64S (x : Nat) (h : x < 2147483648) : cToInt .u64 (.int .i64 (x : Int)) = .val (.int .u64 (x : Int)) := by
  rw [cToInt_int]; congr 2; simp [IntKind.wrap, IntKind.signed, IntKind.bits]; omega
theorem i64S (x : Nat) (h : x < 2147483648) : cToInt .i64 (.int .u64 (x : Int)) = .val (.int .i64 (x : Int)) := by
  rw [cToInt_int]; congr 2; exact wrapS _ (by omega) (by omega)
theorem shrS (x : Nat) : cShift .shr (.int .u64 (x : Int)) (.int .u64 1) = .val (.int .u64 ((x / 2 : Nat) : Int)) := by
  show vint .u64 (Int.fdiv (x : Int) (2 ^ (min 1 64))) = _
  rw [vint_eq]
  congr 2
  show Int.fdiv (x : Int) 2 = _
  rw [Int.fdiv_eq_ediv_of_nonneg _ (by omega)]; omega
theorem getLast_take_succ {l : List α} {i : Nat} (h : i < l.length) : (l.take (i + 1)).getLast? = some l[i] := by
  rw [List.take_succ_eq_append_getElem h]; exact List.getLast?_concat
theorem head_drop {l : List α} {i : Nat} (h : i < l.length) : (l.drop i).head? = some l[i] := by
  rw [List.drop_eq_getElem_cons h]; rfl
/-- the element at a place of a row -/
theorem Dt.at {H : Hp} {p L s : List α} (h : Dt C H (p ++ (L ++ s))) {k i : Nat} (hk : k = p.length + i) (hi : i < L.length) : cLoad1 (.ptr C.bk k) H = .val (C.av L[i]) := by
  have := h.ld (i := k) (by simp; omega)
  rw [this]
  congr 2
  subst hk
  rw [List.getElem_append_right (by omega), List.getElem_append_left (by omega)]
  congr 1
  omega
theorem one68 (ho : C.Ok Tryz.prog) (hc : Srt.Ord C.c Pd) {H : Hp} {n : Nat} {p R s : List α} {x : α} {N : Nat} (hd : Dt C H (p ++ ([x] ++ (R ++ s)))) (hJ : C.J H) (hx : C.El x) (hEl : ∀ z ∈ R, C.El z) (hR : 0 < R.length) (hN : p.length + 1 + R.length ≤ N) (hb : N < 1000000) {a m b : Nat} (ea : a = p.length) (em : m = p.length + 1) (eb : b = p.length + 1 + R.length) :
    CallR Tryz.prog 84 [.sl C.bk 0 N 1, .int .i64 (a : Int), .int .i64 (m : Int), .int .i64 (b : Int), C.fv] H n (fun w K j => w = .tup [] ∧ (∃ M, Srt.Good C.c tg Pd [x] R M ∧ Ch C H (p ++ (M ++ s)) K) ∧ j = n) := by
  refine CallR.of c84 (by simp [A84]) fun F hF => ?_
  have w1 : IntKind.i64.wrap ((m : Int) - (a : Int)) = 1 := by rw [wrapS _ (by omega) (by omega)]; omega
  simp [A84, B84, R84_0, hF, w1, R84_1, R84_2]
  have hd' : Dt C H ((p ++ [x]) ++ (R ++ s)) := by simpa using hd
  refine LoopV.of (fun t F' K n' ms => ∃ i j, t = j - i ∧ i ≤ j ∧ j ≤ R.length ∧ F'.get 0 = some (.sl C.bk 0 N 1) ∧ F'.get 1 = some (.int .i64 (a : Int)) ∧ F'.get 4 = some C.fv ∧ F'.get 10 = some (.int .i64 ((m + i : Nat) : Int)) ∧ F'.get 11 = some (.int .i64 ((m + j : Nat) : Int)) ∧ H = K ∧ n = n' ∧ ms = [] ∧
    (∀ y, (R.take i).getLast? = some y → C.c y x < 0) ∧ (∀ y, R[j]? = some y → 0 ≤ C.c y x)) R.length ⟨0, R.length, by omega, by omega, by omega, by simp [hF], by simp [hF], by simp [hF], by simp, by simp; omega, rfl, rfl, rfl, by simp, by simp⟩ ?_
  rintro t F' K n' ms ⟨i, j, rfl, hij, hj, f0, f1, f4, f10, f11, rfl, rfl, rfl, h1, h2⟩
  obtain ⟨I, hI⟩ : ∃ I, I = m + i := ⟨_, rfl⟩
  obtain ⟨J, hJ'⟩ : ∃ J, J = m + j := ⟨_, rfl⟩
  rw [← hI] at f10
  rw [← hJ'] at f11
  by_cases hlt : I < J
  · obtain ⟨h, hh⟩ : ∃ h, h = (i + j) / 2 + (if (i + j) % 2 = 1 then 0 else 0) := ⟨_, rfl⟩
    have hmid : (I + J) / 2 = m + (i + j) / 2 := by omega
    generalize hq : (i + j) / 2 = q at *
    obtain ⟨A, hA⟩ : ∃ A, A = m + q := ⟨_, rfl⟩
    have hqR : q < R.length := by omega
    have w2 : IntKind.i64.wrap ((I : Int) + (J : Int)) = ((I + J : Nat) : Int) := by rw [wrapS _ (by omega) (by omega)]; omega
    have hs := shrS (I + J)
    rw [hmid, ← hA] at hs
    have hs2 := u64S (I + J) (by omega)
    have hs3 := i64S A (by omega)
    have l1 := hd'.at (k := A) (i := q) (by simp; omega) hqR
    have l2 := hd.at (k := a) (i := 0) (by omega) (by simp)
    have x1 := ix_dt (bk := C.bk) (N := N) (i := A) (by omega)
    have x2 := ix_dt (bk := C.bk) (N := N) (i := a) (by omega)
    have hElq := hEl R[q] (List.getElem_mem hqR)
    have hg := getLast_take_succ hqR
    have hg2 := head_drop hqR
    simp only [List.getElem_cons_zero] at l2
    generalize hIJ : I + J = S at *
    simp [L84_0, R84_3, f10, f11, hlt, R84_4, w2, hs, hs2, hs3, R84_5]
    refine DrwV.of (C.ce_ok ho hElq hx) ?_
    simp [clearF_get, f0, f1, f4, Cm.fv, x1, x2, l1, l2, Cm.ce_call hJ]
    by_cases hlt0 : C.c R[q] x < 0
    · have w3 : IntKind.i64.wrap ((A : Int) + 1) = ((m + (q + 1) : Nat) : Int) := by rw [wrapS _ (by omega) (by omega)]; omega
      simp [clearF_get, hlt0, R84_6, w3, f0, f1, f4, f11, Cm.fv]
      exact ⟨j - (q + 1), by omega, q + 1, j, rfl, by omega, hj, by omega, by omega, fun y hy => by rw [hg] at hy; injection hy with hy; subst hy; exact hlt0, h2⟩
    · simp [clearF_get, hlt0, R84_7, f0, f1, f4, f10, Cm.fv]
      exact ⟨q - i, by omega, i, q, rfl, by omega, by omega, by omega, by omega, h1, fun y hy => by rw [List.getElem?_eq_getElem hqR] at hy; injection hy with hy; subst hy; omega⟩
  · have hij' : i = j := by omega
    subst hij'
    have hIJ : I = J := by omega
    subst hIJ
    simp [L84_0, R84_3, f10, f11, R84_8, f1]
    have hG := Srt.Good.one (c := C.c) (tg := tg) (Pd := Pd) hc (x := x) (R1 := R.take i) (R2 := R.drop i) (fun y hy => by rw [List.head?_drop] at hy; have := h2 y hy; omega) h1
    rw [List.take_append_drop] at hG
    have hd0 : Dt C H (p ++ (([] ++ x :: R.take i) ++ (R.drop i ++ s))) := by simpa [← List.append_assoc] using hd
    generalize hR1 : R.take i = R1 at hG hd0
    generalize R.drop i = R2 at hG hd0
    have hR1l : R1.length = i := by rw [← hR1]; simp; omega
    clear h1 h2
    refine LoopV.of (fun t F' K n' ms => ∃ e, t = i - e ∧ e ≤ i ∧ F'.get 0 = some (.sl C.bk 0 N 1) ∧ F'.get 10 = some (.int .i64 (I : Int)) ∧ F'.get 13 = some (.int .i64 ((a + e : Nat) : Int)) ∧ n = n' ∧ ms = [] ∧ Ch C H (p ++ ((R1.take e ++ x :: R1.drop e) ++ (R2 ++ s))) K) i ⟨0, by simp [f0, f10]; exact .refl (by simpa using hd0)⟩ ?_
    rintro t F1 K n' ms ⟨e, rfl, he, g0, g10, g13, rfl, rfl, hC⟩
    obtain ⟨E, hE⟩ : ∃ E, E = a + e := ⟨_, rfl⟩
    rw [← hE] at g13
    have w3 : IntKind.i64.wrap ((I : Int) - 1) = ((a + i : Nat) : Int) := by rw [wrapS _ (by omega) (by omega)]; omega
    by_cases hlt : e < i
    · have hel : e < R1.length := by omega
      obtain ⟨B, hB⟩ : ∃ B, B = E + 1 := ⟨_, rfl⟩
      have w4 : IntKind.i64.wrap ((E : Int) + 1) = (B : Int) := by rw [wrapS _ (by omega) (by omega)]; omega
      have eD : p ++ ((R1.take e ++ x :: R1.drop e) ++ (R2 ++ s)) = (p ++ R1.take e) ++ x :: ([] ++ R1[e] :: (R1.drop (e + 1) ++ (R2 ++ s))) := by
        rw [List.drop_eq_getElem_cons hel]; simp only [List.append_assoc, List.cons_append, List.nil_append]
      have eS : (p ++ R1.take e) ++ R1[e] :: ([] ++ x :: (R1.drop (e + 1) ++ (R2 ++ s))) = p ++ ((R1.take (e + 1) ++ x :: R1.drop (e + 1)) ++ (R2 ++ s)) := by
        rw [List.take_succ_eq_append_getElem hel]; simp only [List.append_assoc, List.cons_append, List.nil_append]
      obtain ⟨y1, y2, l1, l2, s1, s2, t2⟩ := hC.swap ho eD (A := E) (B := B) (by simp; omega) (by simp; omega)
      rw [eS] at t2
      have x1 := ix_dt (bk := C.bk) (N := N) (i := E) (by omega)
      have x2 := ix_dt (bk := C.bk) (N := N) (i := B) (by omega)
      simp [L84_1, R84_9, g10, g13, w3, show (E : Int) < (a : Int) + (i : Int) by omega, R84_10]
      refine DrwV.of (ce0_ok (P := Tryz.prog)) ?_
      simp [clearF_get, g0, g13, w4, x1, x2, l1, l2, s1, s2, R84_11, g10]
      exact ⟨i - (e + 1), by omega, e + 1, rfl, hlt, by omega, by simpa using t2⟩
    · have he' : e = i := by omega
      subst he'
      simp [L84_1, R84_9, g10, g13, w3, show ¬ (E : Int) < (a : Int) + (e : Int) by omega]
      refine ⟨_, hG, ?_⟩
      rw [← hR1l, List.take_length, List.drop_length] at hC
      simpa using hC
end Go.Abs
