/- A part of the proof. -/
import Derived.Test.YtdcnkelfcmofdaaGreatMv1
namespace Go.Abs
open Go.Proofs
set_option maxRecDepth 100000

@[simp] theorem cCmpS_str (a b : List Nat) : cCmpS (.str a) (.str b) = .val (.int .i64 (cmpL a b)) := Eq.trans rfl rfl
theorem cIxs_at {l : List Nat} {i : Nat} {k : IntKind} (h : i < l.length) : cIxs (.str l) (.int k (i : Int)) = .val (.int .u8 (l[i] : Int)) := by
  unfold cIxs
  show (match nth l i with | some c => ERes.val (.int .u8 (Int.ofNat c)) | none => .fail) = _
  rw [nth_eq, List.getElem?_eq_getElem h]; rfl

def rk (k : Int) : Int := if k = 2 then 3 else if k = 1 then 2 else if k = 3 then 1 else 0
def pl (k : Int) : Int := if k = 0 then 0 else if k = 3 then 1 else if k = 1 then 2 else 3
theorem rank128 (k : Int) : FnPure Tryz.prog 128 [.int .i64 k] (.int .i64 (rk k)) := by
  refine pureV c128 (by simp) (by simp) (by simp [A128]) fun F hF => ?_
  unfold rk
  by_cases h2 : k = 2
  · subst h2
    simp [A128, B128, R128_0, R128_1, R128_2, R128_3, R128_6, R128_7, R128_8, R128_9, hF, wrap_sm]
    exact .pure _ (by simp)
  by_cases h1 : k = 1
  · subst h1
    simp [A128, B128, R128_0, R128_1, R128_2, R128_3, R128_4, R128_7, R128_8, R128_9, hF, wrap_sm]
    exact .pure _ (by simp)
  by_cases h3 : k = 3
  · subst h3
    simp [A128, B128, R128_0, R128_1, R128_2, R128_3, R128_4, R128_5, R128_8, R128_9, hF, wrap_sm]
    exact .pure _ (by simp)
  simp [A128, B128, R128_0, R128_1, R128_2, R128_3, R128_4, R128_5, R128_9, hF, h1, h2, h3]
  exact .pure _ (by simp)
theorem place70 (k : Int) : FnPure Tryz.prog 70 [.int .i64 k] (.int .i64 (pl k)) := by
  refine pureV c70 (by simp) (by simp) (by simp [A70]) fun F hF => ?_
  unfold pl
  by_cases h0 : k = 0
  · subst h0
    simp [A70, B70, R70_0, R70_1, R70_2, hF]
    exact .pure _ (by simp)
  by_cases h3 : k = 3
  · subst h3
    simp [A70, B70, R70_0, R70_1, R70_3, R70_4, hF]
    exact .pure _ (by simp)
  by_cases h1 : k = 1
  · subst h1
    simp [A70, B70, R70_0, R70_1, R70_3, R70_5, R70_6, hF]
    exact .pure _ (by simp)
  simp [A70, B70, R70_0, R70_1, R70_3, R70_5, R70_7, hF, h0, h1, h3]
  exact .pure _ (by simp)
theorem cmps174 (a b : List Nat) : FnPure Tryz.prog 174 [.str a, .str b] (.int .i64 (cmpL a b)) := by
  refine pureV c174 (by simp) (by simp) (by simp [A174]) fun F hF => ?_
  simp [A174, B174, R174_0, R174_1, hF]
  exact .pure _ (by simp)
theorem comp129 (a b : List Nat) : FnPure Tryz.prog 129 [.str a, .str b] (.int .i64 (cmpL a b)) := by
  refine pureV c129 (by simp) (by simp) (by simp [A129]) fun F hF => ?_
  simp [A129, B129, R129_0, R129_1, hF]
  refine CalV.pure (cmps174 a b) ?_
  simp
  exact .pure _ (by simp)
theorem cmpL_drop {a b : List Nat} {i : Nat} (ha : i < a.length) (hb : i < b.length) : cmpL (a.drop i) (b.drop i) = if a[i] < b[i] then -1 else if b[i] < a[i] then 1 else cmpL (a.drop (i + 1)) (b.drop (i + 1)) := by
  rw [List.drop_eq_getElem_cons ha, List.drop_eq_getElem_cons hb]
  simp only [cmpL]
  by_cases e : a[i] = b[i]
  · simp [e]
  · rw [show Nat.beq a[i] b[i] = false by simpa using e]
    dsimp only
    by_cases h : a[i] < b[i]
    · rw [show Nat.blt a[i] b[i] = true by rw [Nat.blt_eq]; exact h]; simp [h]
    · rw [show Nat.blt a[i] b[i] = false by cases q : Nat.blt a[i] b[i] with
        | false => rfl
        | true => rw [Nat.blt_eq] at q; exact absurd q h]
      rw [if_neg h, if_pos (by omega)]
theorem bytes71 (a b : List Nat) (ha : a.length < 2147483648) (_hb : b.length < 2147483648) : FnPure Tryz.prog 71 [.str a, .str b] (.int .i64 (cmpL a b)) := by
  refine pureV c71 (by simp) (by simp) (by simp [A71]) fun F hF => ?_
  simp [A71, B71, R71_0, R71_1]
  refine LoopV.of (fun k F K m ms => ∃ i, k = a.length - i ∧ i ≤ a.length ∧ i ≤ b.length ∧ F.get 0 = some (.str a) ∧ F.get 1 = some (.str b) ∧ F.get 5 = some (.int .i64 (i : Int)) ∧ K = .nil ∧ ms = [] ∧ cmpL a b = cmpL (a.drop i) (b.drop i)) a.length ⟨0, by simp [hF]⟩ ?_
  rintro k F K m ms ⟨i, rfl, hi, hib, f0, f1, f5, rfl, rfl, he⟩
  by_cases hlt : i < a.length
  · by_cases hltb : i < b.length
    · have hx := cIxs_at (k := .i64) hlt
      have hy := cIxs_at (k := .i64) hltb
      rw [cmpL_drop hlt hltb] at he
      simp [L71_0, R71_2, f0, f1, f5, hlt, hltb, R71_3]
      refine DrwV.of (ce0_ok (P := Tryz.prog)) ?_
      simp [clearF_get, f0, f1, f5, hx, hy]
      by_cases h1 : a[i] < b[i]
      · rw [if_pos h1] at he
        simp [h1, R71_4, he]
        exact .pure _ (by simp)
      · rw [if_neg h1] at he
        simp [h1, R71_5]
        refine DrwV.of (ce0_ok (P := Tryz.prog)) ?_
        simp [clearF_get, f0, f1, f5, hx, hy]
        by_cases h2 : b[i] < a[i]
        · rw [if_pos h2] at he
          simp [h2, R71_6, he]
          exact .pure _ (by simp)
        · rw [if_neg h2] at he
          simp [h2, R71_7, clearF_get, f0, f1, f5, wrap_nat i (by omega)]
          exact ⟨a.length - (i + 1), by omega, i + 1, rfl, hlt, hltb, by omega, he⟩
    · have : i = b.length := by omega
      subst this
      have : cmpL a b = 1 := by
        rw [he, List.drop_length, List.drop_eq_getElem_cons hlt]; rfl
      simp [L71_0, R71_2, f0, f1, f5, hlt, R71_8, R71_10, R71_11, this, show ¬ a.length < b.length by omega]
      exact .pure _ (by simp)
  · have : i = a.length := by omega
    subst this
    by_cases hltb : a.length < b.length
    · have : cmpL a b = -1 := by
        rw [he, List.drop_length, List.drop_eq_getElem_cons hltb]; rfl
      simp [L71_0, R71_2, f0, f1, f5, R71_8, R71_9, this, hltb]
      exact .pure _ (by simp)
    · have hl : b.length = a.length := by omega
      have : cmpL a b = 0 := by
        rw [he, List.drop_length, ← hl, List.drop_length]; rfl
      simp [L71_0, R71_2, f0, f1, f5, R71_8, R71_10, R71_12, this, hl]
      exact .pure _ (by simp)
end Go.Abs
