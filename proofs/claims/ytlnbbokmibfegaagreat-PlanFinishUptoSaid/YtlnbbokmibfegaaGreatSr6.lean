/- Sorting in place: two rows merged, whole. -/
import Derived.Test.YtlnbbokmibfegaaGreatSr5
namespace Go.Abs
open Go.Proofs
set_option maxRecDepth 100000
open Classical
variable {α : Type} {C : Cm α} {tg : α → Nat} {Pd : α → Prop}
/-- the two rows, parted where the search says -/
theorem parted {c : α → α → Int} {L R : List α} {M' lo hi st : Nat} (hbd1 : lo = 0 ∨ M' - lo = R.length) (hbd2 : hi = M' ∨ hi = L.length) (hls : lo ≤ st) (hsh : st ≤ hi) (hhM : hi ≤ M') (hhL : hi ≤ L.length) (hlR : M' - lo ≤ R.length)
    (h1 : st = lo ∨ ∀ x y, L[st - 1]? = some x → R[M' - st]? = some y → 0 ≤ c y x) (h2 : st = hi ∨ ∀ x y, R[M' - 1 - st]? = some x → L[st]? = some y → c x y < 0) :
    (∀ x y, (L.take st).getLast? = some x → (R.drop (M' - st)).head? = some y → ¬ c y x < 0) ∧ (∀ x y, (R.take (M' - st)).getLast? = some x → (L.drop st).head? = some y → c x y < 0) := by
  constructor
  · intro x y hx hy
    rw [List.head?_drop] at hy
    have hi0 : st ≠ 0 := by rintro rfl; simp at hx
    have hyl : M' - st < R.length := by
      rcases Nat.lt_or_ge (M' - st) R.length with h | h
      · exact h
      · rw [List.getElem?_eq_none h] at hy; cases hy
    rcases h1 with h1 | h1
    · omega
    · obtain ⟨i0, rfl⟩ : ∃ i0, st = i0 + 1 := ⟨st - 1, by omega⟩
      rw [getLast_take_succ (show i0 < L.length by omega)] at hx
      have hx2 : L[i0 + 1 - 1]? = some x := by
        rw [Nat.add_sub_cancel, List.getElem?_eq_getElem (show i0 < L.length by omega)]; exact hx
      have := h1 x y hx2 hy
      omega
  · intro x y hx hy
    rw [List.head?_drop] at hy
    have hyl : st < L.length := by
      rcases Nat.lt_or_ge st L.length with h | h
      · exact h
      · rw [List.getElem?_eq_none h] at hy; cases hy
    have hi0 : M' - st ≠ 0 := by intro e; rw [e] at hx; simp at hx
    rcases h2 with h2 | h2
    · omega
    · obtain ⟨i0, hi0'⟩ : ∃ i0, M' - st = i0 + 1 := ⟨M' - st - 1, by omega⟩
      rw [hi0', getLast_take_succ (show i0 < R.length by omega)] at hx
      have e : M' - 1 - st = i0 := by omega
      rw [e, List.getElem?_eq_getElem (show i0 < R.length by omega)] at h2
      exact h2 x y hx hy
/-- behind the search -/
theorem rest68 (ho : C.Ok Tryz.prog) (hc : Srt.Ord C.c Pd) {H : Hp} {n : Nat} {p L1 L2 R1 R2 s : List α} {N : Nat} (hd : Dt C H (p ++ ((L1 ++ L2) ++ ((R1 ++ R2) ++ s)))) (hJ : C.J H) (hL : ∀ z ∈ L1 ++ L2, C.El z) (hR : ∀ z ∈ R1 ++ R2, C.El z) (hN : p.length + (L1 ++ L2).length + (R1 ++ R2).length ≤ N) (hb : N < 1000000) {a m b mid nn start : Nat} (ea : a = p.length) (em : m = p.length + L1.length + L2.length) (eb : b = p.length + L1.length + L2.length + R1.length + R2.length)
    (emid : mid = a + L1.length + R1.length) (hmab : a < mid ∧ mid < b) (enn : nn = mid + m) (est : start = a + L1.length)
    (e1 : ∀ x y, L1.getLast? = some x → R2.head? = some y → ¬ C.c y x < 0) (e2 : ∀ x y, R1.getLast? = some x → L2.head? = some y → C.c x y < 0)
    (ih : ∀ (p' L' R' s' : List α) (a' m' b' : Nat) (H' : Hp), L'.length + R'.length < (L1 ++ L2).length + (R1 ++ R2).length → Dt C H' (p' ++ (L' ++ (R' ++ s'))) → C.J H' → (∀ z ∈ L', C.El z) → (∀ z ∈ R', C.El z) → 0 < L'.length → 0 < R'.length → p'.length + L'.length + R'.length ≤ N → a' = p'.length → m' = p'.length + L'.length → b' = p'.length + L'.length + R'.length → SymOk C tg Pd N p' L' R' s' a' m' b' H' n)
    {F' : Fr} (f0 : F'.get 0 = some (.sl C.bk 0 N 1)) (f1 : F'.get 1 = some (.int .i64 (a : Int))) (f2 : F'.get 2 = some (.int .i64 (m : Int))) (f3 : F'.get 3 = some (.int .i64 (b : Int))) (f4 : F'.get 4 = some C.fv) (f18 : F'.get 18 = some (.int .i64 (mid : Int))) (f19 : F'.get 19 = some (.int .i64 (nn : Int))) (f20 : F'.get 20 = some (.int .i64 (start : Int))) :
    VC Tryz.prog (.seq R84_38 (.seq (.seq R84_39 (.cond (slotG 185) R84_40 .skip)) (.seq (.seq R84_41 (.cond (slotG 199) R84_42 .skip)) (.seq R84_43 (.cond (slotG 213) R84_44 .skip))))) F' H n [] (RetQ [] fun w K j => w = .tup [] ∧ (∃ M, Srt.Good C.c tg Pd (L1 ++ L2) (R1 ++ R2) M ∧ Ch C H (p ++ (M ++ s)) K) ∧ j = n) := by
  simp only [List.length_append] at hN ih
  obtain ⟨ed, hed⟩ : ∃ ed, ed = m + R1.length := ⟨_, rfl⟩
  have w1 : IntKind.i64.wrap ((nn : Int) - (start : Int)) = (ed : Int) := by rw [wrapS _ (by omega) (by omega)]; omega
  have jst : ∀ {d K}, Ch C H d K → C.J K := fun h => ho.stay _ _ hJ h.2
  -- the last step
  have step3 : ∀ (F2 : Fr) (K : Hp) (M1 : List α), F2.get 0 = some (.sl C.bk 0 N 1) → F2.get 3 = some (.int .i64 (b : Int)) → F2.get 4 = some C.fv → F2.get 18 = some (.int .i64 (mid : Int)) → F2.get 24 = some (.int .i64 (ed : Int)) → Srt.Good C.c tg Pd L1 R1 M1 → Ch C H (p ++ (M1 ++ (L2 ++ (R2 ++ s)))) K →
      VC Tryz.prog (.seq R84_43 (.cond (slotG 213) R84_44 .skip)) F2 K n [] (RetQ [] fun w K j => w = .tup [] ∧ (∃ M, Srt.Good C.c tg Pd (L1 ++ L2) (R1 ++ R2) M ∧ Ch C H (p ++ (M ++ s)) K) ∧ j = n) := by
    intro F2 K M1 g0 g3 g4 g18 g24 hG hC
    have hM1 : M1.length = L1.length + R1.length := by have := hG.1.length_eq; simpa using this
    by_cases c1 : mid < ed
    · by_cases c2 : ed < b
      · simp [R84_43, g18, g24, g3, c1, c2, R84_44, g0, g4]
        refine CalV.of (ih (p ++ M1) L2 R2 s mid ed b K (by omega) (by simpa using hC.1) (jst hC) (fun z hz => hL z (by simp [hz])) (fun z hz => hR z (by simp [hz])) (by omega) (by omega) (by rw [List.length_append]; omega) (by rw [List.length_append]; omega) (by rw [List.length_append]; omega) (by rw [List.length_append]; omega)) fun w K' n'' ⟨q1, ⟨M2, hG2, q2⟩, q3⟩ => ?_
        subst q1 q3
        simp
        exact ⟨M1 ++ M2, Srt.Good.split hc hG hG2 e1 e2, by simpa using hC.trans q2⟩
      · have hR2 : R2 = [] := List.length_eq_zero_iff.1 (by omega)
        subst hR2
        simp [R84_43, g18, g24, g3, c1, c2]
        refine ⟨M1 ++ L2, ?_, by simpa using hC⟩
        have := Srt.Good.split (c := C.c) (tg := tg) (Pd := Pd) hc hG (Srt.Good.nilR L2) e1 e2
        simpa using this
    · have hL2 : L2 = [] := List.length_eq_zero_iff.1 (by omega)
      subst hL2
      simp [R84_43, g18, g24, c1]
      refine ⟨M1 ++ R2, ?_, by simpa using hC⟩
      have := Srt.Good.split (c := C.c) (tg := tg) (Pd := Pd) hc hG (Srt.Good.nilL R2) e1 e2
      simpa using this
  -- the step ahead of it
  have step2 : ∀ (F2 : Fr) (K : Hp), F2.get 0 = some (.sl C.bk 0 N 1) → F2.get 1 = some (.int .i64 (a : Int)) → F2.get 3 = some (.int .i64 (b : Int)) → F2.get 4 = some C.fv → F2.get 18 = some (.int .i64 (mid : Int)) → F2.get 20 = some (.int .i64 (start : Int)) → F2.get 24 = some (.int .i64 (ed : Int)) → Ch C H (p ++ (L1 ++ (R1 ++ (L2 ++ (R2 ++ s))))) K →
      VC Tryz.prog (.seq (.seq R84_41 (.cond (slotG 199) R84_42 .skip)) (.seq R84_43 (.cond (slotG 213) R84_44 .skip))) F2 K n [] (RetQ [] fun w K j => w = .tup [] ∧ (∃ M, Srt.Good C.c tg Pd (L1 ++ L2) (R1 ++ R2) M ∧ Ch C H (p ++ (M ++ s)) K) ∧ j = n) := by
    intro F2 K g0 g1 g3 g4 g18 g20 g24 hC
    generalize hRR : CT.seq R84_43 (.cond (slotG 213) R84_44 .skip) = RR at step3 ⊢
    by_cases c1 : a < start
    · by_cases c2 : start < mid
      · simp [R84_41, g1, g20, g18, c1, c2, R84_42, g0, g4]
        refine CalV.of (ih p L1 R1 (L2 ++ (R2 ++ s)) a start mid K (by omega) hC.1 (jst hC) (fun z hz => hL z (by simp [hz])) (fun z hz => hR z (by simp [hz])) (by omega) (by omega) (by omega) ea (by omega) (by omega)) fun w K' n'' ⟨q1, ⟨M1, hG1, q2⟩, q3⟩ => ?_
        subst q1 q3
        simp
        exact step3 _ _ M1 (by simp [g0]) (by simp [g3]) (by simp [g4]) (by simp [g18]) (by simp [g24]) hG1 (hC.trans q2)
      · have hR1 : R1 = [] := List.length_eq_zero_iff.1 (by omega)
        subst hR1
        simp [R84_41, g1, g20, g18, c1, c2]
        exact step3 _ _ L1 (by simp [g0]) (by simp [g3]) (by simp [g4]) (by simp [g18]) (by simp [g24]) (Srt.Good.nilR L1) (by simpa using hC)
    · have hL1 : L1 = [] := List.length_eq_zero_iff.1 (by omega)
      subst hL1
      simp [R84_41, g1, g20, c1]
      exact step3 _ _ R1 (by simp [g0]) (by simp [g3]) (by simp [g4]) (by simp [g18]) (by simp [g24]) (Srt.Good.nilL R1) (by simpa using hC)
  clear step3
  generalize hRR : CT.seq (.seq R84_41 (.cond (slotG 199) R84_42 .skip)) (.seq R84_43 (.cond (slotG 213) R84_44 .skip)) = RR at step2 ⊢
  simp [R84_38, f19, f20, w1]
  by_cases c1 : start < m
  · by_cases c2 : m < ed
    · simp [R84_39, f20, f2, c1, c2, R84_40, f0, f4]
      refine CalV.of (rot127 ho (H := H) (n := n) (p := p ++ L1) (u := L2) (v := R1) (s := R2 ++ s) (N := N) (by simpa using hd) (by omega) (by omega) (by rw [List.length_append]; omega) hb (a := start) (m := m) (b := ed) (by rw [List.length_append]; omega) (by rw [List.length_append]; omega) (by rw [List.length_append]; omega)) fun w K' n'' ⟨q1, q2, q3⟩ => ?_
      subst q1 q3
      simp
      exact step2 _ _ (by simp [f0]) (by simp [f1]) (by simp [f3]) (by simp [f4]) (by simp [f18]) (by simp [f20]) (by simp) (by simpa using q2)
    · have hR1 : R1 = [] := List.length_eq_zero_iff.1 (by omega)
      subst hR1
      simp [R84_39, f20, f2, c1, c2]
      exact step2 _ _ (by simp [f0]) (by simp [f1]) (by simp [f3]) (by simp [f4]) (by simp [f18]) (by simp [f20]) (by simp) (.refl (by simpa using hd))
  · have hL2 : L2 = [] := List.length_eq_zero_iff.1 (by omega)
    simp [R84_39, f20, f2, c1]
    exact step2 _ _ (by simp [f0]) (by simp [f1]) (by simp [f3]) (by simp [f4]) (by simp [f18]) (by simp [f20]) (by simp) (.refl (by rw [hL2] at hd ⊢; simpa using hd))
end Go.Abs
