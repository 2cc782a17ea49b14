/- Lists of rows that are the same; a row copied. -/
import Derived.Test.YtlnbbokmibfegaaGreatMs3
namespace Go.Abs
open Go.Proofs
set_option maxRecDepth 100000

def rowsC (L : List (List Val)) : List AV := L.map rowAV
@[simp] theorem rowsC_len (L : List (List Val)) : (rowsC L).length = L.length := by simp [rowsC]
@[simp] theorem rowsC_pure (L : List (List Val)) : PureL (rowsC L) := PureL.of_mem fun v hv => by
  simp only [rowsC, List.mem_map] at hv
  obtain ⟨i, _, rfl⟩ := hv
  simp
theorem rowsC_drop (l : List (List Val)) (i : Nat) (h : i < l.length) : (rowsC l).drop i = rowAV l[i] :: rowsC (l.drop (i + 1)) := by
  rw [rowsC, ← List.map_drop, List.drop_eq_getElem_cons h]; rfl
theorem ixa_row {l : List (List Val)} {i : Nat} {k : IntKind} (h : i < l.length) : cIxa 1 (.ds (rowsC l) l.length 1) (.int k (i : Int)) = .val (.dp (rowAV l[i] :: rowsC (l.drop (i + 1)))) := by
  rw [cIxa_ds h, Nat.mul_one, rowsC_drop l i h]
theorem ld_one (v : AV) (r : List AV) (H : Hp) : cLoad1 (.dp (v :: r)) H = .val v := rfl

theorem SameRows7 (L M : List (List Val)) (hL : L.length ≤ 1048576) (hl : ∀ l ∈ L, l.length ≤ 1048576) : FnPure Tryz.prog 6 [.ds (rowsC L) L.length 1, .ds (rowsC M) M.length 1] (.bool (decide (L = M))) := by
  refine pureV c6 (by simp) (by simp) (by simp [A6]) fun F hF => ?_
  simp [A6, B6, R6_0, R6_1, hF]
  by_cases hlm : L.length = M.length
  · simp [hlm, R6_3]
    refine LoopV.of (fun k F K n ms => ∃ i, k = L.length - i ∧ i ≤ L.length ∧ F.get 0 = some (.ds (rowsC L) L.length 1) ∧ F.get 1 = some (.ds (rowsC M) M.length 1) ∧ F.get 5 = some (.int .i64 (i : Int)) ∧ K = .nil ∧ ms = [] ∧ (L = M ↔ L.drop i = M.drop i)) L.length ⟨0, by simp [hF]⟩ ?_
    rintro k F K n ms ⟨i, rfl, hi, f0, f1, f5, rfl, rfl, he⟩
    by_cases hlt : i < L.length
    · have h2 : i < M.length := by omega
      have hx := ixa_row (k := .i64) hlt
      have hy := ixa_row (k := .i64) h2
      rw [List.drop_eq_getElem_cons hlt, List.drop_eq_getElem_cons h2, List.cons.injEq] at he
      simp [L6_0, R6_4, f0, f5, hlt, R6_5]
      refine DrwV.of (ceT_ok (l := [(16, [rowAV L[i], rowAV M[i]], fun H n => .mk (.bool (decide (L[i] = M[i]))) H n)]) ?_) ?_
      · intro x hx
        simp only [List.mem_cons, List.not_mem_nil, or_false] at hx
        subst hx
        exact ceT_pure (Same18 L[i] M[i] (hl _ (List.getElem_mem _)))
      · simp [clearF_get, f0, f1, f5, hx, hy]
        rw [ceT_hd]
        by_cases hc : L[i] = M[i]
        · have w := wrap_nat i (by omega)
          simp [hc, R6_7, clearF_get, f0, f1, f5, w]
          exact ⟨L.length - (i + 1), by omega, i + 1, rfl, by omega, by omega, by rw [he]; simp [hc]⟩
        · have : ¬ L = M := fun e => hc (he.1 e).1
          simp [hc, R6_6, this]
          exact .pure _ (by simp)
    · have e : i = L.length := by omega
      have : L = M := he.2 (by rw [e, List.drop_length, hlm, List.drop_length])
      subst this
      simp [L6_0, R6_4, f0, f5, hlt, R6_8]
      exact .pure _ (by simp)
  · have : ¬ L = M := fun e => hlm (by rw [e])
    simp [hlm, R6_2, this]
    exact .pure _ (by simp)

/-! ### a row, copied -/
theorem valsC_one (l : List Val) : allOne (valsC l) = true := by
  induction l with
  | nil => rfl
  | cons v r ih => simp [valsC, Val.cells, allOne, AV.one, ih]
def CpR (H : Hp) (n : Nat) (r : List Val) (v : AV) (H' : Hp) (n' : Nat) : Prop := n ≤ n' ∧ OwnS H' n' v (valsC r) r.length 3 ∧ (∀ b k, v = .sl b 0 r.length 3 → H'.get b = some k → n ≤ b) ∧ ∀ b, b < n → H'.get b = H.get b
theorem clone_nil (H : Hp) (n : Nat) : CallR Tryz.prog 40 [.cst (.slice none 0 0)] H n (CpR H n []) := by
  refine CallR.of c40 (by simp [A40]) fun F hF => ?_
  simp [A40, B40, R40_0, R40_1, hF, cEq, eqVal, R40_2]
  exact ⟨Nat.le_refl _, OwnS.nil _ _ _, fun b k h => by simp at h, fun _ _ => rfl⟩
theorem clone_empty (H : Hp) (n : Nat) : CallR Tryz.prog 40 [.ds [] 0 0] H n (CpR H n []) := by
  refine CallR.of c40 (by simp [A40]) fun F hF => ?_
  simp [A40, B40, R40_0, R40_1, hF, cEq, eqVal, R40_3, cApp, sliceCells, sliceLen, cApp1]
  refine ⟨by omega, ⟨by simp, .inr ⟨n, .cells 0 [] [] .nil, rfl, by omega, by simp, .list (u := 0) (l := []) rfl⟩⟩, fun b k h _ => ?_, fun b hb => by simp [show ¬ b = n by omega]⟩
  injection h with h; omega
theorem clone_cons (x : Val) (r : List Val) (hr : r.length < 1048576) (H : Hp) (n : Nat) : CallR Tryz.prog 40 [rowAV (x :: r)] H n (CpR H n (x :: r)) := by
  refine CallR.of c40 (by simp [A40]) fun F hF => ?_
  simp [A40, B40, R40_0, R40_1, hF, rowAV, cEq, eqVal, R40_3]
  refine OwnS.app (l := []) (len := 0) (new := valsC (x :: r)) (k := r.length + 1) ⟨by simp, .inr ⟨n, _, rfl, by omega, by simp; rfl, .list (by simp)⟩⟩ (by simp) rfl (by simp) (by omega) (by omega) (by unfold big; omega) (by omega) (valsC_one _) fun H' ho hk => ?_
  simp
  simp only [List.nil_append, Nat.zero_add] at ho
  refine ⟨by omega, ho, fun b k h _ => by injection h with h; omega, fun b hb => ?_⟩
  rw [hk b (by omega) (fun e => by injection e with e; omega)]
  simp [show ¬ b = n by omega]
theorem clone15 (r : List Val) (hr : r.length ≤ 1048576) (H : Hp) (n : Nat) : CallR Tryz.prog 40 [rowAV r] H n (CpR H n r) := by
  cases r with
  | cons x r => exact clone_cons x r (by simp at hr; omega) H n
  | nil =>
    have A := clone_nil H n
    have B := clone_empty H n
    refine ⟨A.1, fun φ D w xs hrel hv hf RR hR => ?_⟩
    cases hv with
    | cons _ y _ ys h1 h2 =>
    cases h2
    have h0 : (∃ ad cap, y = .slice (some ad) 0 cap) ∨ y = .slice none 0 0 := by
      unfold rowAV at h1
      cases h1 with
      | ds => exact .inl ⟨_, _, rfl⟩
      | ds0 => exact .inl ⟨_, _, rfl⟩
      | dsn => exact .inr rfl
    rcases h0 with ⟨ad, cap, rfl⟩ | rfl
    · exact B.2 φ D w _ hrel (.cons _ _ _ _ (.ds0 _ _ _) .nil) hf RR hR
    · exact A.2 φ D w _ hrel (.cons _ _ _ _ (.cst _ rfl) .nil) hf RR hR
end Go.Abs
