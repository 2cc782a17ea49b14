/- KernelPages, walked: true of whatever wants. No condition. -/
import Derived.Test.YthmkafloklnghaaGreatKp7
import Derived.Test.YthmkafloklnghaaGreatKpA
namespace Go.Abs
open Go.Proofs
set_option maxRecDepth 100000
theorem pages3 (l : List Wn) (hw : ∀ w ∈ l, w.ok) : FnPure Tryz.prog 3 [.ds (wnC l) l.length 3] (.bool true) := by
  refine pureV c3 (by simp; exact wnC_pure l) (by simp) (by simp [A3]) fun F hF => ?_
  simp [A3, B3, R3_0, R3_1]
  refine CalV.of begun4.callR fun v H' n' ⟨e1, e2, e3⟩ => ?_
  subst e1 e2 e3
  simp [R3_2, hF]
  by_cases h0 : (1500 : Int) < l.length
  · simp [h0, R3_3]
    refine CalV.pure alive5 ?_
    simp
    exact .bool rfl
  simp [h0, R3_4, R3_5]
  have hst : Btw 1454 (Tr.put Hb 1453 (some (ABlk.cells 9 [] [AV.bool false, AV.bool false, AV.bool false, AV.bool false, AV.bool false, AV.bool false, AV.bool false, AV.bool false, AV.bool false] Ov.nil))) := by
    have := Sm_KM ([], 0)
    exact ⟨Nat.le_refl _, by simp [Hb], fun c hc => by simp [Hb, show ¬ c = 426 by omega, show ¬ c = 1453 by omega, Sm_none (show 1453 ≤ c by omega)], ([], 0), fun _ => false, ⟨⟨by simp [Hb, this.k.d], by simp [Hb, this.k.l], by simp [Hb, this.k.p], by simp [Hb, this.k.k]⟩, by simp [Hb, this.m]⟩, Agr.nil, by simp; rfl⟩
  refine LoopV.of (Iv l) l.length ⟨0, by omega, by omega, ⟨by simp [hF], by simp, by simp, by simp⟩, hst, rfl⟩ ?_
  rintro k F' H n ms ⟨i, rfl, hi, hf, hL, rfl⟩
  by_cases hlt : i < l.length
  · have hx := ixa_wn (k := .i64) hlt
    have hwk := hw l[i] (List.getElem_mem hlt)
    generalize l[i] = w at hx hwk
    obtain ⟨hn, hpy, hno, s, ub, hk, ha, hab⟩ := hL
    have fin : ∀ F2 K n2, Fg l i F2 → Btw n2 K → VC Tryz.prog R3_38 F2 K n2 [] (RndQ (Iv l) (l.length - i) (BlkQ 0 (SeqV Tryz.prog (R3_39.seq CT.ret) (RetQ [rTmp 2] fun v1 H' x => Frz (Tr.get H') v1 (AV.bool true))))) := by
      intro F2 K n2 hf2 hB
      simp [R3_38, hf2.f6, wrap_i i (by omega)]
      exact ⟨l.length - (i + 1), by omega, i + 1, rfl, by omega, ⟨by simp [hf2.f0], by simp [hf2.f3], by simp [hf2.f5], by simp⟩, hB, rfl⟩
    have finR : ∀ F2 K n2, F2.get 2 = some (.bool true) → RndQ (Iv l) (l.length - i) (BlkQ 0 (SeqV Tryz.prog (R3_39.seq CT.ret) (RetQ [rTmp 2] fun v1 H' x => Frz (Tr.get H') v1 (AV.bool true)))) .ret F2 K n2 [] := by
      intro F2 K n2 h2
      simp [h2]
      exact .bool rfl
    simp [L3_3, R3_6, hf.f0, hf.f6, hlt, R3_7, hx, ld_wn]
    generalize RndQ (Iv l) (l.length - i) (BlkQ 0 (SeqV Tryz.prog (R3_39.seq CT.ret) (RetQ [rTmp 2] fun v1 H' x => Frz (Tr.get H') v1 (AV.bool true)))) = Q at fin finR ⊢
    clear hx
    obtain ⟨d, p, m⟩ := w
    simp [Wn.cells, R3_8]
    have hI : Inw ⟨d, p, m⟩ n (n + 1) s ub (Tr.put (Tr.put H n (some (ABlk.cells 3 [] [AV.int IntKind.i64 0, AV.cst (Value.slice none 0 0), AV.int IntKind.i64 0] Ov.nil))) n (some (ABlk.cells 3 [] [AV.int IntKind.i64 d, AV.ds (u32s p) p.length 1, AV.int IntKind.i64 m] Ov.nil)) : Hp) := by
      have g2 : ∀ c, c < n → (Tr.put (Tr.put H n (some (ABlk.cells 3 [] [AV.int IntKind.i64 0, AV.cst (Value.slice none 0 0), AV.int IntKind.i64 0] Ov.nil))) n (some (ABlk.cells 3 [] [AV.int IntKind.i64 d, AV.ds (u32s p) p.length 1, AV.int IntKind.i64 m] Ov.nil)) : Hp).get c = H.get c := fun c hc => by simp [show ¬ c = n by omega]
      refine ⟨hn, by omega, ⟨⟨?_, ?_, ?_, ?_⟩, ?_⟩, ?_, ?_, fun c hc => by simp [show ¬ c = n by omega, hno c (by omega)], by simp⟩
      · rw [g2 _ (by omega)]; exact hk.k.d
      · rw [g2 _ (by omega)]; exact hk.k.l
      · rw [g2 _ (by omega)]; exact hk.k.p
      · rw [g2 _ (by omega)]; exact hk.k.k
      · rw [g2 _ (by omega)]; exact hk.m
      · rw [g2 _ (by omega)]; exact hpy
      · rw [g2 _ (by omega)]; exact hab
    generalize (Tr.put (Tr.put H n (some (ABlk.cells 3 [] [AV.int IntKind.i64 0, AV.cst (Value.slice none 0 0), AV.int IntKind.i64 0] Ov.nil))) n (some (ABlk.cells 3 [] [AV.int IntKind.i64 d, AV.ds (u32s p) p.length 1, AV.int IntKind.i64 m] Ov.nil)) : Hp) = H2 at hI ⊢
    clear hk hab hpy hno
    by_cases h1000 : (1000 : Int) < p.length
    · simp [h1000, R3_9]
      refine CalV.pure alive5 ?_
      simp
      exact finR _ _ _ (by simp)
    have hwn := hI.wn
    simp [h1000, R3_10, R3_11]
    refine LoopV.of (fun k F' K n' ms => ∃ j, k = p.length - j ∧ j ≤ p.length ∧ Fg l i F' ∧ F'.get 7 = some (.ptr n 0) ∧
      F'.get 8 = some (.bool (okU (p.take j))) ∧ F'.get 9 = some (.int .i64 (j : Int)) ∧ H2 = K ∧ n' = n + 1 ∧ ms = []) p.length ⟨0, by omega, by omega, ⟨by simp [hf.f0], by simp [hf.f3], by simp [hf.f5], by simp [hf.f6]⟩, by simp, by simp; rfl, by simp, rfl, rfl, rfl⟩ ?_
    clear hf
    rintro k F1 K n' ms ⟨j, rfl, hj, hf, f7, f8, f9, rfl, rfl, rfl⟩
    have kp : ∀ {F' : Fr}, (∀ j, j = 0 ∨ j = 3 ∨ j = 5 ∨ j = 6 → F'.get j = F1.get j) → Fg l i F' := fun e => hf.keep e
    by_cases hjl : j < p.length
    · have hx := ixa_u32 hjl
      have e11 : p.take (j + 1) = p.take j ++ [p[j]] := List.take_succ_eq_append_getElem hjl
      generalize p[j] = v at hx e11
      have e12 : okU (p.take (j + 1)) = (okU (p.take j) && decide (1 ≤ v ∧ v ≤ 8)) := by rw [e11]; simp [okU]
      simp [L3_0, R3_12, f7, f9, hwn, hjl, R3_13, f8]
      cases hb : okU (p.take j) with
      | false =>
        rw [hb] at e12
        simp [R3_14, f7, f9, wrap_i j (by omega)]
        exact ⟨p.length - (j + 1), by omega, j + 1, rfl, by omega, kp (by rintro j (rfl | rfl | rfl | rfl) <;> simp), by rw [e12]; rfl, by simp⟩
      | true =>
        rw [hb] at e12
        simp [hwn, f7, f9, hx]
        by_cases h1 : (1 : Int) ≤ v
        · have e13 : decide ((v : Int) ≤ 8) = decide (1 ≤ v ∧ v ≤ 8) := decide_eq_decide.2 (by omega)
          simp [h1, hwn, f7, f9, hx, R3_14, wrap_i j (by omega)]
          exact ⟨p.length - (j + 1), by omega, j + 1, rfl, by omega, kp (by rintro j (rfl | rfl | rfl | rfl) <;> simp), by rw [e12, e13]; rfl, by simp⟩
        · simp [h1, R3_14, f7, f9, wrap_i j (by omega)]
          exact ⟨p.length - (j + 1), by omega, j + 1, rfl, by omega, kp (by rintro j (rfl | rfl | rfl | rfl) <;> simp), by rw [e12]; simp; omega, by simp⟩
    have : j = p.length := by omega
    subst this
    rw [List.take_length] at f8
    simp [L3_0, R3_12, f7, f9, hwn, R3_15, R3_16]
    by_cases d0 : d = 0
    · simp only [d0, decide_true, condV_true]
      exact use_turn (w := ⟨d, p, m⟩) hwk (by dsimp only; omega) fin (kp (by rintro j (rfl | rfl | rfl | rfl) <;> simp)) (by simp [f7]) (by simp [f8]) ha hI
    simp [d0, R3_27]
    by_cases d1 : d = 1
    · simp only [d1, decide_true, condV_true]
      exact fresh_turn (w := ⟨d, p, m⟩) fin (kp (by rintro j (rfl | rfl | rfl | rfl) <;> simp)) (by simp [f7]) ha hI
    simp [d1, R3_31]
    by_cases d2 : d = 2
    · simp only [d2, decide_true, condV_true]
      exact rel_turn (w := ⟨d, p, m⟩) (by dsimp only; omega) fin (kp (by rintro j (rfl | rfl | rfl | rfl) <;> simp)) (by simp [f7]) ha hI
    simp [d2]
    exact fin _ _ _ (kp (by rintro j (rfl | rfl | rfl | rfl) <;> simp)) (hI.btw ha)
  · have : i = l.length := by omega
    subst this
    simp [L3_3, R3_6, hf.f0, hf.f6, R3_39]
    refine CalV.pure alive5 ?_
    simp
    exact .bool rfl
end Go.Abs
