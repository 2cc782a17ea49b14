/- A part of the proof. -/
import Derived.Test.YtlnbbokmibfegaaGreatMv1
namespace Go.Abs
open Go.Proofs
set_option maxRecDepth 100000

@[simp] theorem cCmpS_str (a b : List Nat) : cCmpS (.str a) (.str b) = .val (.int .i64 (cmpL a b)) := Eq.trans rfl rfl
theorem cIxs_at {l : List Nat} {i : Nat} {k : IntKind} (h : i < l.length) : cIxs (.str l) (.int k (i : Int)) = .val (.int .u8 (l[i] : Int)) := by
  unfold cIxs
  show (match nth l i with | some c => ERes.val (.int .u8 (Int.ofNat c)) | none => .fail) = _
  rw [nth_eq, List.getElem?_eq_getElem h]; rfl

def rk (k : Int) : Int := if k = 2 then 3 else if k = 1 then 2 else if k = 3 then 1 else 0
def pl (k : Int) : Int := if k = 0 then 0 else if k = 3 then 1 else if k = 1 then 2 else 3
theorem rank128 (k : Int) : FnPure Tryz.prog 85 [.int .i64 k] (.int .i64 (rk k)) := by
  refine pureV c85 (by simp) (by simp) (by simp [A85]) fun F hF => ?_
  unfold rk
  by_cases h2 : k = 2
  · subst h2
    simp [A85, B85, R85_0, R85_1, R85_2, R85_3, R85_6, R85_7, R85_8, R85_9, hF, wrap_sm]
    exact .pure _ (by simp)
  by_cases h1 : k = 1
  · subst h1
    simp [A85, B85, R85_0, R85_1, R85_2, R85_3, R85_4, R85_7, R85_8, R85_9, hF, wrap_sm]
    exact .pure _ (by simp)
  by_cases h3 : k = 3
  · subst h3
    simp [A85, B85, R85_0, R85_1, R85_2, R85_3, R85_4, R85_5, R85_8, R85_9, hF, wrap_sm]
    exact .pure _ (by simp)
  simp [A85, B85, R85_0, R85_1, R85_2, R85_3, R85_4, R85_5, R85_9, hF, h1, h2, h3]
  exact .pure _ (by simp)
theorem place70 (k : Int) : FnPure Tryz.prog 148 [.int .i64 k] (.int .i64 (pl k)) := by
  refine pureV c148 (by simp) (by simp) (by simp [A148]) fun F hF => ?_
  unfold pl
  by_cases h0 : k = 0
  · subst h0
    simp [A148, B148, R148_0, R148_1, R148_2, hF]
    exact .pure _ (by simp)
  by_cases h3 : k = 3
  · subst h3
    simp [A148, B148, R148_0, R148_1, R148_3, R148_4, hF]
    exact .pure _ (by simp)
  by_cases h1 : k = 1
  · subst h1
    simp [A148, B148, R148_0, R148_1, R148_3, R148_5, R148_6, hF]
    exact .pure _ (by simp)
  simp [A148, B148, R148_0, R148_1, R148_3, R148_5, R148_7, hF, h0, h1, h3]
  exact .pure _ (by simp)
theorem cmps174 (a b : List Nat) : FnPure Tryz.prog 147 [.str a, .str b] (.int .i64 (cmpL a b)) := by
  refine pureV c147 (by simp) (by simp) (by simp [A147]) fun F hF => ?_
  simp [A147, B147, R147_0, R147_1, hF]
  exact .pure _ (by simp)
theorem comp129 (a b : List Nat) : FnPure Tryz.prog 86 [.str a, .str b] (.int .i64 (cmpL a b)) := by
  refine pureV c86 (by simp) (by simp) (by simp [A86]) fun F hF => ?_
  simp [A86, B86, R86_0, R86_1, hF]
  refine CalV.pure (cmps174 a b) ?_
  simp
  exact .pure _ (by simp)
theorem cmpL_drop {a b : List Nat} {i : Nat} (ha : i < a.length) (hb : i < b.length) : cmpL (a.drop i) (b.drop i) = if a[i] < b[i] then -1 else if b[i] < a[i] then 1 else cmpL (a.drop (i + 1)) (b.drop (i + 1)) := by
  rw [List.drop_eq_getElem_cons ha, List.drop_eq_getElem_cons hb]
  simp only [cmpL]
  by_cases e : a[i] = b[i]
  · simp [e]
  · rw [show Nat.beq a[i] b[i] = false by simpa using e]
    dsimp only
    by_cases h : a[i] < b[i]
    · rw [show Nat.blt a[i] b[i] = true by rw [Nat.blt_eq]; exact h]; simp [h]
    · rw [show Nat.blt a[i] b[i] = false by cases q : Nat.blt a[i] b[i] with
        | false => rfl
        | true => rw [Nat.blt_eq] at q; exact absurd q h]
      rw [if_neg h, if_pos (by omega)]
theorem bytes71 (a b : List Nat) (ha : a.length < 2147483648) (_hb : b.length < 2147483648) : FnPure Tryz.prog 149 [.str a, .str b] (.int .i64 (cmpL a b)) := by
  refine pureV c149 (by simp) (by simp) (by simp [A149]) fun F hF => ?_
  simp [A149, B149, R149_0, R149_1]
  refine LoopV.of (fun k F K m ms => ∃ i, k = a.length - i ∧ i ≤ a.length ∧ i ≤ b.length ∧ F.get 0 = some (.str a) ∧ F.get 1 = some (.str b) ∧ F.get 5 = some (.int .i64 (i : Int)) ∧ K = .nil ∧ ms = [] ∧ cmpL a b = cmpL (a.drop i) (b.drop i)) a.length ⟨0, by simp [hF]⟩ ?_
  rintro k F K m ms ⟨i, rfl, hi, hib, f0, f1, f5, rfl, rfl, he⟩
  by_cases hlt : i < a.length
  · by_cases hltb : i < b.length
    · have hx := cIxs_at (k := .i64) hlt
      have hy := cIxs_at (k := .i64) hltb
      rw [cmpL_drop hlt hltb] at he
      simp [L149_0, R149_2, f0, f1, f5, hlt, hltb, R149_3]
      refine DrwV.of (ce0_ok (P := Tryz.prog)) ?_
      simp [clearF_get, f0, f1, f5, hx, hy]
      by_cases h1 : a[i] < b[i]
      · rw [if_pos h1] at he
        simp [h1, R149_4, he]
        exact .pure _ (by simp)
      · rw [if_neg h1] at he
        simp [h1, R149_5]
        refine DrwV.of (ce0_ok (P := Tryz.prog)) ?_
        simp [clearF_get, f0, f1, f5, hx, hy]
        by_cases h2 : b[i] < a[i]
        · rw [if_pos h2] at he
          simp [h2, R149_6, he]
          exact .pure _ (by simp)
        · rw [if_neg h2] at he
          simp [h2, R149_7, clearF_get, f0, f1, f5, wrap_nat i (by omega)]
          exact ⟨a.length - (i + 1), by omega, i + 1, rfl, hlt, hltb, by omega, he⟩
    · have : i = b.length := by omega
      subst this
      have : cmpL a b = 1 := by
        rw [he, List.drop_length, List.drop_eq_getElem_cons hlt]; rfl
      simp [L149_0, R149_2, f0, f1, f5, hlt, R149_8, R149_10, R149_11, this, show ¬ a.length < b.length by omega]
      exact .pure _ (by simp)
  · have : i = a.length := by omega
    subst this
    by_cases hltb : a.length < b.length
    · have : cmpL a b = -1 := by
        rw [he, List.drop_length, List.drop_eq_getElem_cons hltb]; rfl
      simp [L149_0, R149_2, f0, f1, f5, R149_8, R149_9, this, hltb]
      exact .pure _ (by simp)
    · have hl : b.length = a.length := by omega
      have : cmpL a b = 0 := by
        rw [he, List.drop_length, ← hl, List.drop_length]; rfl
      simp [L149_0, R149_2, f0, f1, f5, R149_8, R149_10, R149_12, this, hl]
      exact .pure _ (by simp)
end Go.Abs
