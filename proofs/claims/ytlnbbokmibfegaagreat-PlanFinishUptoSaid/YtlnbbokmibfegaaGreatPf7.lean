/- The document's Once, and its Finish. -/
import Derived.Test.YtlnbbokmibfegaaGreatPf6
namespace Go.Abs
open Go.Proofs
set_option maxRecDepth 100000

theorem OwnS.len {H : Hp} {n len sz : Nat} {v : AV} {l : List AV} (h : OwnS H n v l len sz) : cLenL v = .val (.int .i64 (len : Int)) := by
  obtain ⟨_, ⟨rfl, rfl⟩ | ⟨b, k, rfl, _⟩⟩ := h <;> simp
def OnR (H : Hp) (n : Nat) (M : List (List Val)) (w : AV) (K : Hp) (n' : Nat) : Prop := n ≤ n' ∧ (∀ c, c < n → K.get c = H.get c) ∧ OwnS K n' w (rowsC M) M.length 1
theorem once24 (M : List (List Val)) (hl : ∀ r ∈ M, r.length ≤ 1048576) (hM : M.length ≤ 1048576) {H : Hp} {n : Nat} {v : AV} (hO : OwnS H n v (rowsC M) M.length 1) : CallR Tryz.prog 24 [v] H n (OnR H n (once M)) := by
  refine CallR.of c24 (by simp [A24]) fun F hF => ?_
  simp [A24, B24, R24_0, R24_1, R24_2]
  refine LoopV.of (fun t F K n' ms => ∃ (i : Nat) (w : AV), t = M.length - i ∧ i ≤ M.length ∧ F.get 0 = some v ∧ F.get 3 = some w ∧ F.get 4 = some (.int .i64 (i : Int)) ∧ ms = [] ∧ n ≤ n' ∧ (∀ c, c < n → K.get c = H.get c) ∧ OwnS K n' w (rowsC (onceTo id M i)) (onceTo id M i).length 1 ∧ (∀ c, w = .sl c 0 (onceTo id M i).length 1 → n ≤ c)) M.length ⟨0, .cst (.slice none 0 0), by omega, by omega, by simp [hF], by simp, by simp, rfl, Nat.le_refl _, fun _ _ => rfl, OwnS.nil _ _ _, fun c h => by simp at h⟩ ?_
  clear hF F
  rintro t F K n' ms ⟨i, w, rfl, hi, f0, f3, f4, rfl, g1, g2, g3, g4⟩
  have hlv := hO.len
  by_cases hlt : i < M.length
  · obtain ⟨b, y, rfl, hb, hy, ho⟩ := hO.blk (by omega)
    have xi : cIxa 1 (.sl b 0 M.length 1) (.int .i64 (i : Int)) = .val (.ptr b i) := ix_dt hlt
    have li : cLoad1 (.ptr b i) K = .val (rowAV M[i]) := by
      have := ld_own (K := K) (by rw [g2 b hb]; exact hy) ho (i := i) (by simpa using hlt)
      simpa [rowsC] using this
    have hol := onceTo_len id M i
    have app : ∀ (F2 : Fr), F2.get 0 = some (.sl b 0 M.length 1) → F2.get 3 = some w → F2.get 4 = some (.int .i64 (i : Int)) → onceTo id M (i + 1) = onceTo id M i ++ [M[i]] → ∀ Q : QA,
        (∀ (F3 : Fr) (K' : Hp) (w' : AV), F3.get 0 = some (.sl b 0 M.length 1) → F3.get 3 = some w' → F3.get 4 = some (.int .i64 (i : Int)) → (∀ c, c < n → K'.get c = K.get c) → OwnS K' (n' + 2) w' (rowsC (onceTo id M (i + 1))) (onceTo id M (i + 1)).length 1 → (∀ c, w' = .sl c 0 (onceTo id M (i + 1)).length 1 → n ≤ c) → Q .normal F3 K' (n' + 2) []) → VC Tryz.prog R24_5 F2 K n' [] Q := by
      intro F2 h0 h3 h4 he Q hgo
      simp [R24_5, h0, h3, h4, xi, li, rowAV]
      have g3' : OwnS (K.put n' (some (.cells 1 [] [rowAV M[i]] .nil))) (n' + 1) w (rowsC (onceTo id M i)) (onceTo id M i).length 1 := g3.mv (by omega) fun c hc _ => by simp [show ¬ c = n' by omega]
      refine OwnS.app (new := [rowAV M[i]]) (k := 1) g3' ?_ (by simp) (by simp) (by omega) (by omega) (by unfold big; omega) (by omega) rfl fun H' ho hk => ?_
      · rw [sliceCells_sl (l := [rowAV M[i]]) (k := .cells 1 [] [rowAV M[i]] .nil) (by simp [rowAV]) (.list (by simp)) (by simp)]; simp
      · simp
        refine hgo _ _ (.sl (n' + 1) 0 ((onceTo id M i).length + 1) 1) (by simp [h0]) (by simp) (by simp [h4]) (fun c hc => ?_) (by rw [he]; simpa [rowsC] using ho) fun c h => by injection h with h; omega
        rw [hk c (by omega) (fun e => by have := g4 c e; omega)]
        simp [show ¬ c = n' by omega]
    have w0 := wrap_nat i (by omega)
    by_cases h0 : i = 0
    · subst h0
      have he : onceTo id M 1 = onceTo id M 0 ++ [M[0]] := by
        simp [onceTo, dupA, List.getElem?_eq_getElem hlt]
      simp [L24_0, R24_3, f0, f4, show 0 < M.length by omega, R24_4]
      refine DrwV.of (ce0_ok (P := Tryz.prog)) ?_
      simp [clearF_get, f4]
      refine app _ (by simp [clearF_get, f0]) (by simp [clearF_get, f3]) (by simp [clearF_get, f4]) he _ fun F3 K' w' e0 e3 e4 ek eo eg => ?_
      simp [R24_6, e4, e0, e3]
      exact ⟨M.length - 1, by omega, 1, rfl, by omega, rfl, by omega, fun c hc => (ek c hc).trans (g2 c hc), eo, eg⟩
    · obtain ⟨q, hq⟩ : ∃ q, i = q + 1 := ⟨i - 1, by omega⟩
      have hqM : q < M.length := by omega
      have xq : cIxa 1 (.sl b 0 M.length 1) (.int .i64 (q : Int)) = .val (.ptr b q) := ix_dt hqM
      have lq : cLoad1 (.ptr b q) K = .val (rowAV M[q]) := by
        have := ld_own (K := K) (by rw [g2 b hb]; exact hy) ho (i := q) (by simpa using hqM)
        simpa [rowsC] using this
      have wq : IntKind.i64.wrap ((i : Int) - 1) = (q : Int) := by rw [wrapS _ (by omega) (by omega)]; omega
      have hqi : ∀ h, M[i - 1]'h = M[q] := fun h => by congr 1; omega
      simp [L24_0, R24_3, f0, f4, hlt, R24_4]
      refine DrwV.of (ceT_ok (l := [(16, [rowAV M[q], rowAV M[i]], fun H n => .mk (.bool (decide (M[q] = M[i]))) H n)]) ?_) ?_
      · intro x hx
        simp only [List.mem_cons, List.not_mem_nil, or_false] at hx
        subst hx
        exact ceT_pure (Same18 M[q] M[i] (hl _ (List.getElem_mem _)))
      · simp [clearF_get, f0, f4, h0, xi, xq, li, lq, wq]
        rw [ceT_hd]
        by_cases he : M[q] = M[i]
        · have ho1 : onceTo id M (i + 1) = onceTo id M i := onceTo_yes (by omega) hlt (by rw [hqi]; exact he)
          simp [he, R24_6, clearF_get, f0, f3, f4, w0]
          exact ⟨M.length - (i + 1), by omega, i + 1, rfl, hlt, rfl, g1, g2, by rw [ho1]; exact g3, by rw [ho1]; exact g4⟩
        · have ho1 : onceTo id M (i + 1) = onceTo id M i ++ [M[i]] := onceTo_no (by omega) hlt (by rw [hqi]; exact he)
          simp [he]
          refine app _ (by simp [clearF_get, f0]) (by simp [clearF_get, f3]) (by simp [clearF_get, f4]) ho1 _ fun F3 K' w' e0 e3 e4 ek eo eg => ?_
          simp [R24_6, e4, e0, e3, w0]
          exact ⟨M.length - (i + 1), by omega, i + 1, rfl, hlt, rfl, by omega, fun c hc => (ek c hc).trans (g2 c hc), eo, eg⟩
  · obtain rfl : i = M.length := by omega
    simp [L24_0, R24_3, f0, f4, hlv, R24_7, f3]
    exact ⟨g1, g2, g3⟩
theorem OwnS.cut {H : Hp} {n : Nat} {v : AV} {M : List (List Val)} (hO : OwnS H n v (rowsC M) M.length 1) {k : Nat} (hk : k ≤ M.length) (hM : 0 < M.length) : ∃ b, v = .sl b 0 M.length 1 ∧ Frz H.get (.sl b 0 k 1) (.ds (rowsC (M.take k)) k 1) := by
  obtain ⟨b, y, rfl, hb, hy, ho⟩ := hO.blk hM
  refine ⟨b, rfl, ?_⟩
  obtain ⟨u, z, bs, t, rfl, hg⟩ := ho.grab (o := 0) (c := k * 1) (by simp; omega)
  refine .sl _ _ _ _ _ _ _ _ _ _ hy hg ?_
  rw [List.drop_zero, Nat.mul_one, show (rowsC M).take k = rowsC (M.take k) by simp [rowsC, List.map_take]]
  exact FrzL.pure (by simp)
theorem finish8 (B : Bn) (hB : B.Ok) (L : List (List Val)) (hL : L.length ≤ 500) (hl : ∀ l ∈ L, l.length ≤ 1048576) (hks : B.ks.length ≤ 1048576) (hky : ∀ r ∈ L, KyS B.ks r) :
    FnPure Tryz.prog 8 [B.av, .ds (rowsC L) L.length 1] (.ds (rowsC (cutL B.lim B.k (finL B.ks B.d L))) (cutL B.lim B.k (finL B.ks B.d L)).length 1) := by
  refine pureV c8 (by simp [Bn.pure hB]) (by simp) (by simp [A8]) fun F hF => ?_
  have hlen := Bn.cells_len hB
  simp [A8, B8, R8_0, hF, Bn.av, R8_1]
  have hH0 : ((Tr.nil : Hp).put 0 (some (.cells 25 [] B.cells .nil))).get 0 = some B.blk := by simp [Bn.blk]
  generalize ((Tr.nil : Hp).put 0 (some (.cells 25 [] B.cells .nil))) = H0 at hH0
  have ldO : B.cells[21]? = some (kAV B.ks) := Bn.at_ hB 0
  have hS : OrdL (ordK B.ks) (fun r => KyS B.ks r ∧ r.length ≤ 1048576) := ⟨fun a b ha hb h => (ordK_ord B.ks).tot a b ha.1 hb.1 h, fun a b c ha hb hc h k => (ordK_ord B.ks).trans a b c ha.1 hb.1 hc.1 h k⟩
  simp [ldO]
  refine CalV.of (sorted8 (od := ordK B.ks) hS (fun l m hl hm => Order19K B.ks l m hl.2 hm.2 hl.1.1 hm.1.1 hks hl.1.2 hm.1.2) _ L rfl (by omega) (fun r hr => ⟨hky r hr, hl r hr⟩) H0 1) fun v K n' ⟨q1, q2, q3, M, q4, q5, q6⟩ => ?_
  have hMs : M = srtL (ordK B.ks) L := finL_all (ks := B.ks) hky q4 q5
  have hMl : M.length = L.length := q4.length_eq
  have hK0 : K.get 0 = some B.blk := by rw [q2 0 (by omega)]; exact hH0
  have ld1 := Bn.ld hB hK0 (i := 1) rfl
  simp at ld1
  rw [← hMl] at q6
  have tail : ∀ (F' : Fr) (K' : Hp) (n'' : Nat) (v' : AV) (M' : List (List Val)), F'.get 2 = some (.ptr 0 0) → F'.get 5 = some v' → K'.get 0 = some B.blk → OwnS K' n'' v' (rowsC M') M'.length 1 → M' = finL B.ks B.d L →
      VC Tryz.prog (.seq (.seq R8_4 (.cond (slotG 22) R8_5 .skip)) (.seq R8_6 .ret)) F' K' n'' [] (RetQ [rTmp 4] fun v1 H' _ => Frz H'.get v1 (.ds (rowsC (cutL B.lim B.k (finL B.ks B.d L))) (cutL B.lim B.k (finL B.ks B.d L)).length 1)) := by
    intro F' K' n'' v' M' f2 f5 hK hO hM'
    rw [← hM']
    have ld2 := Bn.ld hB hK (i := 2) rfl
    have ld3 := Bn.ld hB hK (i := 3) rfl
    simp at ld2 ld3
    have hle := hO.len
    cases hlim : B.lim with
    | false =>
      rw [hlim] at ld2
      simp [R8_4, f2, ld2, R8_6, f5, cutL]
      exact hO.frz (FrzL.pure (by simp))
    | true =>
      rw [hlim] at ld2
      by_cases hk : B.k < (M'.length : Int)
      · have hkn : B.k.toNat ≤ M'.length := by omega
        have e : cutL true B.k M' = M'.take B.k.toNat := by
          unfold cutL; rw [if_pos ⟨rfl, hk⟩]
        have el : (M'.take B.k.toNat).length = B.k.toNat := by rw [List.length_take]; omega
        rw [e, el]
        by_cases h0 : 0 < M'.length
        · obtain ⟨b, rfl, hz⟩ := hO.cut hkn h0
          have sl := sl_hi (b := b) (o := 0) hkn
          rw [show ((B.k.toNat : Nat) : Int) = max B.k 0 by omega] at sl
          simp [R8_4, f2, ld2, ld3, f5, hle, hk, R8_5, eMnx, maxI, maxR_nat, eSl, oev, sl, R8_6]
          exact hz
        · have hM0 : M' = [] := List.eq_nil_of_length_eq_zero (by omega)
          subst hM0
          have hk0 : B.k.toNat = 0 := by simpa using hkn
          have hmx : max B.k 0 = 0 := by omega
          have hkk : B.k < 0 := by simpa using hk
          obtain ⟨_, ⟨rfl, _⟩ | ⟨b, y, rfl, hb, hy, ho⟩⟩ := hO
          · have sl : cSlc 1 none (some (.int .i64 0)) none (.cst (.slice none 0 0)) = .val (.cst (.slice none 0 0)) := by
              unfold cSlc
              simp [bnds, bnd, nat?]
            simp [R8_4, f2, ld2, ld3, f5, hkk, R8_5, eMnx, maxI, maxR_nat, eSl, oev, sl, R8_6, hk0, rowsC]
            exact .nil 0
          · have sl := sl_hi (b := b) (o := 0) (k := 0) (len := 0) (by omega)
            simp at sl
            obtain ⟨u, z, bs, t, rfl, hg⟩ := ho.grab (o := 0) (c := 0) (by omega)
            simp [R8_4, f2, ld2, ld3, f5, hkk, R8_5, eMnx, maxI, maxR_nat, eSl, oev, sl, R8_6, hk0, rowsC]
            exact .sl _ _ _ _ _ _ _ _ _ _ hy hg .nil
      · have e : cutL true B.k M' = M' := by
          unfold cutL; rw [if_neg fun h => hk h.2]
        rw [e]
        simp [R8_4, f2, ld2, ld3, f5, hle, hk, R8_6]
        exact hO.frz (FrzL.pure (by simp))
  simp [R8_2, ld1]
  cases hd : B.d with
  | false =>
    simp only [condV_false, vc_skip, seqV_normal]
    have := tail (Fp 11 (AV.bool false) (Fp 10 (AV.ptr 0 22) (Fp 5 v (Fp 9 v (Fp 8 (kAV B.ks) (Fp 7 (AV.ptr 0 21) (Fp 6 (AV.ds (rowsC L) L.length 1) (Fp 4 (AV.cst (Value.slice none 0 0)) (Fp 2 (AV.ptr 0 0) F))))))))) K n' v M (by simp) (by simp) hK0 q6 (by rw [hd, hMs]; rfl)
    rw [hd] at this
    exact this
  | true =>
    simp [R8_3]
    refine CalV.of (once24 M (fun r hr => hl r (q4.mem_iff.1 hr)) (by omega) q6) fun w K2 n2 ⟨r1, r2, r3⟩ => ?_
    simp
    have := tail (Fp 5 w (Fp 13 w (Fp 12 v (Fp 11 (AV.bool true) (Fp 10 (AV.ptr 0 22) (Fp 5 v (Fp 9 v (Fp 8 (kAV B.ks) (Fp 7 (AV.ptr 0 21) (Fp 6 (AV.ds (rowsC L) L.length 1) (Fp 4 (AV.cst (Value.slice none 0 0)) (Fp 2 (AV.ptr 0 0) F)))))))))))) K2 n2 w (once M) (by simp) (by simp) (by rw [r2 0 (by omega)]; exact hK0) r3 (by rw [hd, hMs]; rfl)
    rw [hd] at this
    exact this
end Go.Abs
