/- The document's Sorted: by halves. -/
import Derived.Test.YtlnbbokmibfegaaGreatMs8
namespace Go.Abs
open Go.Proofs
set_option maxRecDepth 100000

@[simp] theorem gcI_tup {ce : Ce} {F : Fr} {H : Hp} {Hs : List Hp} {n : Nat} {m : List Dm} {Q : QA} (l : List AV) (b : Bool) (F0 : Fr) (pd : Pd) (f : FuncId) (al : List G) (r : List (Option RO)) : GcI (some (.tup l)) b F0 pd f al r ce F H Hs n m Q = Ev ((mkR r).f ce (pd.f (.tup []) F) H (H :: Hs) n m) Q := propext Iff.rfl
theorem takeX {ba i k : Nat} {A : List (List Val)} {v5 v6 : AV} {v : AV} {M : List (List Val)} {F : Fr} {K : Hp} {n' n2 : Nat} {Q : QA} {kv : AV} (hA : i < A.length) (hi : i < 2147483647) (hM : M.length < 4194304)
    (f1 : F.get 1 = some kv) (f5 : F.get 5 = some v5) (f6 : F.get 6 = some v6) (f7 : F.get 7 = some v) (f8 : F.get 8 = some (.int .i64 (i : Int))) (f9 : F.get 9 = some (.int .i64 (k : Int)))
    (hv : v5 = .sl ba 0 A.length 1) (xA : cLoad1 (.ptr ba i) K = .val (rowAV A[i])) (g1 : n2 ≤ n') (g3 : OwnS K n' v (rowsC M) M.length 1) (g4 : ∀ c, v = .sl c 0 M.length 1 → n2 ≤ c)
    (hgo : ∀ (F2 : Fr) (K' : Hp) (v' : AV), F2.get 1 = some kv → F2.get 5 = some v5 → F2.get 6 = some v6 → F2.get 7 = some v' → F2.get 8 = some (.int .i64 ((i + 1 : Nat) : Int)) → F2.get 9 = some (.int .i64 (k : Int)) →
      (∀ c, c < n2 → K'.get c = K.get c) → OwnS K' (n' + 2) v' (rowsC (M ++ [A[i]])) (M ++ [A[i]]).length 1 → (∀ c, v' = .sl c 0 (M ++ [A[i]]).length 1 → n2 ≤ c) → Q .normal F2 K' (n' + 2) []) :
    VC Tryz.prog R23_10 F K n' [] (SeqV Tryz.prog R23_11 Q) := by
  subst hv
  have yA : cIxa 1 (.sl ba 0 A.length 1) (.int .i64 (i : Int)) = .val (.ptr ba i) := ix_dt hA
  simp [R23_10, f7, f5, f8, yA, xA, rowAV]
  have g3' : OwnS (K.put n' (some (.cells 1 [] [rowAV A[i]] .nil))) (n' + 1) v (rowsC M) M.length 1 := g3.mv (by omega) fun c hc _ => by simp [show ¬ c = n' by omega]
  refine OwnS.app (new := [rowAV A[i]]) (k := 1) g3' ?_ (by simp) (by simp) (by omega) (by omega) (by unfold big; omega) (by omega) rfl fun H' ho hk => ?_
  · rw [sliceCells_sl (l := [rowAV A[i]]) (k := .cells 1 [] [rowAV A[i]] .nil) (by simp [rowAV]) (.list (by simp)) (by simp)]; simp
  · simp [R23_11, f8, wrap_nat i (by omega)]
    refine hgo _ _ (.sl (n' + 1) 0 (M.length + 1) 1) (by simp [f1]) (by simp [f5]) (by simp [f6]) (by simp) (by simp) (by simp [f9]) (fun c hc => ?_) (by simpa [rowsC] using ho) fun c h => by injection h with h; omega
    rw [hk c (by omega) (fun e => by have := g4 c e; omega)]
    simp [show ¬ c = n' by omega]
theorem takeY {ba i k : Nat} {A : List (List Val)} {v5 v6 : AV} {v : AV} {M : List (List Val)} {F : Fr} {K : Hp} {n' n2 : Nat} {Q : QA} {kv : AV} (hA : i < A.length) (hi : i < 2147483647) (hM : M.length < 4194304)
    (f1 : F.get 1 = some kv) (f6 : F.get 6 = some v5) (f5 : F.get 5 = some v6) (f7 : F.get 7 = some v) (f9 : F.get 9 = some (.int .i64 (i : Int))) (f8 : F.get 8 = some (.int .i64 (k : Int)))
    (hv : v5 = .sl ba 0 A.length 1) (xA : cLoad1 (.ptr ba i) K = .val (rowAV A[i])) (g1 : n2 ≤ n') (g3 : OwnS K n' v (rowsC M) M.length 1) (g4 : ∀ c, v = .sl c 0 M.length 1 → n2 ≤ c)
    (hgo : ∀ (F2 : Fr) (K' : Hp) (v' : AV), F2.get 1 = some kv → F2.get 6 = some v5 → F2.get 5 = some v6 → F2.get 7 = some v' → F2.get 9 = some (.int .i64 ((i + 1 : Nat) : Int)) → F2.get 8 = some (.int .i64 (k : Int)) →
      (∀ c, c < n2 → K'.get c = K.get c) → OwnS K' (n' + 2) v' (rowsC (M ++ [A[i]])) (M ++ [A[i]]).length 1 → (∀ c, v' = .sl c 0 (M ++ [A[i]]).length 1 → n2 ≤ c) → Q .normal F2 K' (n' + 2) []) :
    VC Tryz.prog R23_12 F K n' [] (SeqV Tryz.prog R23_13 Q) := by
  subst hv
  have yA : cIxa 1 (.sl ba 0 A.length 1) (.int .i64 (i : Int)) = .val (.ptr ba i) := ix_dt hA
  simp [R23_12, f7, f6, f9, yA, xA, rowAV]
  have g3' : OwnS (K.put n' (some (.cells 1 [] [rowAV A[i]] .nil))) (n' + 1) v (rowsC M) M.length 1 := g3.mv (by omega) fun c hc _ => by simp [show ¬ c = n' by omega]
  refine OwnS.app (new := [rowAV A[i]]) (k := 1) g3' ?_ (by simp) (by simp) (by omega) (by omega) (by unfold big; omega) (by omega) rfl fun H' ho hk => ?_
  · rw [sliceCells_sl (l := [rowAV A[i]]) (k := .cells 1 [] [rowAV A[i]] .nil) (by simp [rowAV]) (.list (by simp)) (by simp)]; simp
  · simp [R23_13, f9, wrap_nat i (by omega)]
    refine hgo _ _ (.sl (n' + 1) 0 (M.length + 1) 1) (by simp [f1]) (by simp [f6]) (by simp [f5]) (by simp) (by simp) (by simp [f8]) (fun c hc => ?_) (by simpa [rowsC] using ho) fun c h => by injection h with h; omega
    rw [hk c (by omega) (fun e => by have := g4 c e; omega)]
    simp [show ¬ c = n' by omega]

theorem sorted8 {od : List Val → List Val → Int} {S : List Val → Prop} {kv : AV} (ho : OrdL od S) (h19 : ∀ l m, S l → S m → FnPure Tryz.prog 45 [rowAV l, rowAV m, kv] (.int .i64 (od l m))) : ∀ (N : Nat) (L : List (List Val)), L.length = N → L.length ≤ 1048576 → (∀ l ∈ L, S l) → ∀ (H : Hp) (n : Nat), CallR Tryz.prog 23 [.ds (rowsC L) L.length 1, kv] H n (SdR od H n L) := by
  intro N
  induction N using Nat.strongRecOn with
  | ind N ih =>
  intro L hN hL hm H n
  by_cases h2 : L.length < 2
  · exact sorted8_small kv L h2 H n
  refine CallR.of c23 (by simp [A23]) fun F hF => ?_
  obtain ⟨A0, hA0⟩ : ∃ A, A = L.take (L.length / 2) := ⟨_, rfl⟩
  obtain ⟨B0, hB0⟩ : ∃ B, B = L.drop (L.length / 2) := ⟨_, rfl⟩
  have lA : A0.length = L.length / 2 := by rw [hA0, List.length_take]; omega
  have lB : B0.length = L.length - L.length / 2 := by rw [hB0, List.length_drop]
  have eAB : A0 ++ B0 = L := by rw [hA0, hB0, List.take_append_drop]
  have sA : ∀ r ∈ A0, r ∈ L := fun r hr => by rw [← eAB]; simp [hr]
  have sB : ∀ r ∈ B0, r ∈ L := fun r hr => by rw [← eAB]; simp [hr]
  have cA := ih A0.length (by omega) A0 rfl (by omega) (fun l h => hm l (sA l h))
  have cB := ih B0.length (by omega) B0 rfl (by omega) (fun l h => hm l (sB l h))
  have e1 : (L.length : Int).tdiv 2 = ((L.length / 2 : Nat) : Int) := by rw [Int.tdiv_eq_ediv_of_nonneg (by omega)]; omega
  have e2 := cSlc_hi (cs := rowsC L) (len := L.length) (k := L.length / 2) (by omega)
  have e3 := cSlc_lo (cs := rowsC L) (len := L.length) (k := L.length / 2) (by omega) (by simp)
  have e0 : cArith .quo .i64 (L.length : Int) 2 = .val (.int .i64 (A0.length : Int)) := by
    simp only [cArith]
    rw [if_neg (by omega), e1, wrap_sm _ (by omega) (by omega), lA]
    simp
  rw [show (rowsC L).take (L.length / 2) = rowsC A0 by rw [hA0, rowsC, rowsC, List.map_take], ← lA] at e2
  rw [show (rowsC L).drop (L.length / 2) = rowsC B0 by rw [hB0, rowsC, rowsC, List.map_drop], ← lB, ← lA] at e3
  simp [A23, B23, R23_0, R23_1, hF, show ¬ (L.length : Int) < 2 by omega, R23_3, e0, eSl, oev, e2]
  refine CalV.of (cA H n) fun a K1 n1 ⟨p1, p2, p3, A, p4, p5, p6⟩ => ?_
  simp [R23_4, hF, e0, eSl, oev, e3]
  refine CalV.of (cB K1 n1) fun b K2 n2 ⟨q1, q2, q3, B, q4, q5, q6⟩ => ?_
  obtain ⟨ba, ya, rfl, hba, hya, oya⟩ := p6.blk (by omega)
  obtain ⟨bb, yb, rfl, hbb, hyb, oyb⟩ := q6.blk (by omega)
  rw [← q2 ba hba] at hya
  have nA : A.length = A0.length := p4.length_eq
  have nB : B.length = B0.length := q4.length_eq
  have hbn : n1 ≤ bb := q3 bb rfl
  have mA : ∀ r ∈ A, S r := fun r hr => hm r (sA r (p4.mem_iff.1 hr))
  have mB : ∀ r ∈ B, S r := fun r hr => hm r (sB r (q4.mem_iff.1 hr))
  have sM : (A.merge B (leR od)).Perm L := (List.merge_perm_append (xs := A) (ys := B) (leR od)).trans (by rw [← eAB]; exact p4.append q4)
  have oM := mrg_sorted ho mA mB p5 q5
  have lM : (A.merge B (leR od)).length = L.length := sM.length_eq
  rw [← nA] at *
  rw [← nB] at *
  have hK2 : ∀ c, c < n → K2.get c = H.get c := fun c hc => by rw [q2 c (by omega), p2 c hc]
  clear ih cA cB e0 e1 e2 e3 hA0 hB0 sA sB lA lB p4 q4 p2 q2 p6 q6 q3 p3 hm
  simp [R23_5, R23_6, R23_7]
  refine LoopV.of (fun t F K n' ms => ∃ (i k : Nat) (v : AV) (M : List (List Val)), t = A.length - i + (B.length - k) ∧ i ≤ A.length ∧ k ≤ B.length ∧ F.get 1 = some kv ∧ F.get 5 = some (.sl ba 0 A.length 1) ∧ F.get 6 = some (.sl bb 0 B.length 1) ∧ F.get 7 = some v ∧ F.get 8 = some (.int .i64 (i : Int)) ∧ F.get 9 = some (.int .i64 (k : Int)) ∧ ms = [] ∧
    n2 ≤ n' ∧ (∀ c, c < n2 → K.get c = K2.get c) ∧ OwnS K n' v (rowsC M) M.length 1 ∧ (∀ c, v = .sl c 0 M.length 1 → n2 ≤ c) ∧ A.merge B (leR od) = M ++ (A.drop i).merge (B.drop k) (leR od)) (A.length + B.length) ⟨0, 0, _, [], by omega, by omega, by omega, by simp [hF], by simp, by simp, by simp, by simp, by simp, rfl, Nat.le_refl _, fun _ _ => rfl, OwnS.nil _ _ _, fun c h => by simp at h, by simp⟩ ?_
  clear hF F
  rintro t F K n' ms ⟨i, k, v, M, rfl, hi, hk, f1, f5, f6, f7, f8, f9, rfl, g1, g2, g3, g4, g5⟩
  have xA : ∀ h : i < A.length, cLoad1 (.ptr ba i) K = .val (rowAV A[i]) := fun h => by
    have := ld_own (K := K) (by rw [g2 ba (by omega)]; exact hya) oya (i := i) (by simpa using h)
    simpa [rowsC] using this
  have xB : ∀ h : k < B.length, cLoad1 (.ptr bb k) K = .val (rowAV B[k]) := fun h => by
    have := ld_own (K := K) (by rw [g2 bb (by omega)]; exact hyb) oyb (i := k) (by simpa using h)
    simpa [rowsC] using this
  have yA : ∀ h : i < A.length, cIxa 1 (.sl ba 0 A.length 1) (.int .i64 (i : Int)) = .val (.ptr ba i) := fun h => ix_dt h
  have yB : ∀ h : k < B.length, cIxa 1 (.sl bb 0 B.length 1) (.int .i64 (k : Int)) = .val (.ptr bb k) := fun h => ix_dt h
  have lM2 : M.length + ((A.length - i) + (B.length - k)) = A.length + B.length := by
    have := congrArg List.length g5
    rw [List.length_append, (List.merge_perm_append (xs := A.drop i) (ys := B.drop k) (leR od)).length_eq, (List.merge_perm_append (xs := A) (ys := B) (leR od)).length_eq] at this
    simp at this
    omega
  have emn : ∀ X : List (List Val), X.merge [] (leR od) = X := fun X => by simp
  have kAA : ∀ h : i < A.length, ∀ h' : k < B.length, od A[i] B[k] ≤ 0 → A.merge B (leR od) = (M ++ [A[i]]) ++ (A.drop (i + 1)).merge (B.drop k) (leR od) := fun h h' hle => by
    rw [g5, List.drop_eq_getElem_cons h, List.drop_eq_getElem_cons h', List.cons_merge_cons, if_pos (by simpa [leR] using hle), List.append_assoc]; rfl
  have kAB : ∀ h : i < A.length, ∀ h' : k < B.length, ¬ (od A[i] B[k] ≤ 0) → A.merge B (leR od) = (M ++ [B[k]]) ++ (A.drop i).merge (B.drop (k + 1)) (leR od) := fun h h' hle => by
    rw [g5, List.drop_eq_getElem_cons h, List.drop_eq_getElem_cons h', List.cons_merge_cons, if_neg (by simpa [leR] using hle), List.append_assoc]; rfl
  have kA : ∀ h : i < A.length, ¬ k < B.length → A.merge B (leR od) = (M ++ [A[i]]) ++ (A.drop (i + 1)).merge (B.drop k) (leR od) := fun h h' => by
    rw [g5, List.drop_eq_getElem_cons h, List.drop_eq_nil_of_le (by omega : B.length ≤ k), emn, emn, List.append_assoc]; rfl
  have kB : ¬ i < A.length → ∀ h' : k < B.length, A.merge B (leR od) = (M ++ [B[k]]) ++ (A.drop i).merge (B.drop (k + 1)) (leR od) := fun h h' => by
    rw [g5, List.drop_eq_getElem_cons h', List.drop_eq_nil_of_le (by omega : A.length ≤ i), List.nil_merge, List.nil_merge, List.append_assoc]; rfl
  have hbaA : ba < n' := by omega
  have lMx : M.length < 4194304 := by have := lM; rw [(List.merge_perm_append (xs := A) (ys := B) (leR od)).length_eq, List.length_append] at this; omega
  by_cases hB : k < B.length
  · by_cases hA : i < A.length
    · simp [L23_0, R23_8, f8, f5, hA, R23_9]
      refine DrwV.of (ceT_ok (l := [(45, [rowAV A[i], rowAV B[k], kv], fun H n => .mk (.int .i64 (od A[i] B[k])) H n)]) ?_) ?_
      · intro x hx
        simp only [List.mem_cons, List.not_mem_nil, or_false] at hx
        subst hx
        exact ceT_pure (h19 A[i] B[k] (mA _ (List.getElem_mem _)) (mB _ (List.getElem_mem _)))
      · have hB' : ¬ B.length ≤ k := by omega
        simp [clearF_get, f8, f5, f9, f6, f1, hA, hB', yA hA, yB hB, xA hA, xB hB]
        rw [ceT_hd]
        by_cases hle : od A[i] B[k] ≤ 0
        · simp [hle]
          refine takeX (kv := kv) (v5 := .sl ba 0 A.length 1) (v6 := .sl bb 0 B.length 1) (ba := ba) (i := i) (k := k) (A := A) (v := v) (M := M) (n2 := n2) hA (by omega) lMx (by simp [clearF_get, f1]) (by simp [clearF_get, f5]) (by simp [clearF_get, f6]) (by simp [clearF_get, f7]) (by simp [clearF_get, f8]) (by simp [clearF_get, f9]) rfl (xA hA) g1 g3 g4 fun F2 K' v' e1 e5 e6 e7 e8 e9 ek eo eg => ?_
          exact ⟨A.length - (i + 1) + (B.length - k), by omega, i + 1, k, rfl, by omega, by omega, e1, e5, e6, v', e7, e8, e9, rfl, by omega, fun c hc => (ek c hc).trans (g2 c hc), M ++ [A[i]], eo, eg, kAA hA hB hle⟩
        · simp [hle]
          refine takeY (kv := kv) (v5 := .sl bb 0 B.length 1) (v6 := .sl ba 0 A.length 1) (ba := bb) (i := k) (k := i) (A := B) (v := v) (M := M) (n2 := n2) hB (by omega) lMx (by simp [clearF_get, f1]) (by simp [clearF_get, f6]) (by simp [clearF_get, f5]) (by simp [clearF_get, f7]) (by simp [clearF_get, f9]) (by simp [clearF_get, f8]) rfl (xB hB) g1 g3 g4 fun F2 K' v' e1 e6 e5 e7 e9 e8 ek eo eg => ?_
          exact ⟨A.length - i + (B.length - (k + 1)), by omega, i, k + 1, rfl, by omega, by omega, e1, e5, e6, v', e7, e8, e9, rfl, by omega, fun c hc => (ek c hc).trans (g2 c hc), M ++ [B[k]], eo, eg, kAB hA hB hle⟩
    · have hB' : ¬ B.length ≤ k := by omega
      simp [L23_0, R23_8, f8, f5, f9, f6, hA, hB, R23_9]
      refine DrwV.of (ce0_ok (P := Tryz.prog)) ?_
      simp [clearF_get, f8, f5, f9, f6, hA, hB']
      refine takeY (kv := kv) (v5 := .sl bb 0 B.length 1) (v6 := .sl ba 0 A.length 1) (ba := bb) (i := k) (k := i) (A := B) (v := v) (M := M) (n2 := n2) hB (by omega) lMx (by simp [clearF_get, f1]) (by simp [clearF_get, f6]) (by simp [clearF_get, f5]) (by simp [clearF_get, f7]) (by simp [clearF_get, f9]) (by simp [clearF_get, f8]) rfl (xB hB) g1 g3 g4 fun F2 K' v' e1 e6 e5 e7 e9 e8 ek eo eg => ?_
      exact ⟨A.length - i + (B.length - (k + 1)), by omega, i, k + 1, rfl, by omega, by omega, e1, e5, e6, v', e7, e8, e9, rfl, by omega, fun c hc => (ek c hc).trans (g2 c hc), M ++ [B[k]], eo, eg, kB hA hB⟩
  · by_cases hA : i < A.length
    · have hB' : B.length ≤ k := by omega
      simp [L23_0, R23_8, f8, f5, hA, R23_9]
      refine DrwV.of (ce0_ok (P := Tryz.prog)) ?_
      simp [clearF_get, f9, f6, hB']
      refine takeX (kv := kv) (v5 := .sl ba 0 A.length 1) (v6 := .sl bb 0 B.length 1) (ba := ba) (i := i) (k := k) (A := A) (v := v) (M := M) (n2 := n2) hA (by omega) lMx (by simp [clearF_get, f1]) (by simp [clearF_get, f5]) (by simp [clearF_get, f6]) (by simp [clearF_get, f7]) (by simp [clearF_get, f8]) (by simp [clearF_get, f9]) rfl (xA hA) g1 g3 g4 fun F2 K' v' e1 e5 e6 e7 e8 e9 ek eo eg => ?_
      exact ⟨A.length - (i + 1) + (B.length - k), by omega, i + 1, k, rfl, by omega, by omega, e1, e5, e6, v', e7, e8, e9, rfl, by omega, fun c hc => (ek c hc).trans (g2 c hc), M ++ [A[i]], eo, eg, kA hA hB⟩
    · simp [L23_0, R23_8, f8, f5, f9, f6, hA, hB, R23_14, f7]
      rw [List.drop_eq_nil_of_le (by omega : A.length ≤ i), List.drop_eq_nil_of_le (by omega : B.length ≤ k), List.nil_merge, List.append_nil] at g5
      have hML : M.length = L.length := by rw [← g5]; exact lM
      refine ⟨by omega, fun c hc => (g2 c (by omega)).trans (hK2 c hc), fun c e => ?_, M, g5 ▸ sM, g5 ▸ oM, by rw [← hML]; exact g3⟩
      have := g4 c (by rw [hML]; exact e)
      omega
end Go.Abs
