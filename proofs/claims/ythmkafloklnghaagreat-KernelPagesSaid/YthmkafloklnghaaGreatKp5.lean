/- KernelPages: whether the pages that are told are the lowest that were free. -/
import Derived.Test.YthmkafloklnghaaGreatKp4
namespace Go.Abs
open Go.Proofs
set_option maxRecDepth 100000

theorem ixarr9 (b : Nat) {i : Nat} (k : IntKind) (h : i < 9) : cIxarr 9 1 (.ptr b 0) (.int k (i : Int)) = .val (.ptr b i) := by
  unfold cIxarr
  simp [h, forceN_eq]
def arrB (ub : Ub) : ABlk := .cells 9 [] (arr ub) .nil
theorem ld_arr {H : Hp} {b : Nat} {ub : Ub} (h : H.get b = some (arrB ub)) {i : Nat} (hi : i < 9) : cLoad1 (.ptr b i) H = .val (.bool (ub i)) := by
  simp [h, arrB, hi]
  have := arr_get ub hi
  rw [List.getElem?_eq_getElem (by simpa using hi)] at this
  exact Option.some.inj this
theorem st_arr {H : Hp} {b : Nat} {ub : Ub} (h : H.get b = some (arrB ub)) {i : Nat} (hi : i < 9) (v : Bool) : cStore 1 (.ptr b i) (.bool v) H = .upd (.tup []) b (arrB (setB ub i v)) := by
  simp [cStore, h, arrB, stBlk, arr_patch ub v hi, show i + 1 ≤ 9 by omega]
/-- a slice of pages, that is not the block ab -/
def TS (H : Hp) (ab : Nat) (v : AV) (l : List Nat) : Prop := (v = .cst (.slice none 0 0) ∧ l = []) ∨ ∃ b y, v = .sl b 0 l.length 1 ∧ b ≠ ab ∧ H.get b = some y ∧ OwnB y (u32s l)
theorem TS.len {H : Hp} {ab : Nat} {v : AV} {l : List Nat} (h : TS H ab v l) : cLenL v = .val (.int .i64 (l.length : Int)) := by
  rcases h with ⟨rfl, rfl⟩ | ⟨b, y, rfl, _⟩
  · rfl
  · simp
theorem TS.ix {H : Hp} {ab : Nat} {v : AV} {l : List Nat} (h : TS H ab v l) {i : Nat} (hi : i < l.length) : ∃ b, cIxa 1 v (.int .i64 (i : Int)) = .val (.ptr b i) ∧ cLoad1 (.ptr b i) H = .val (.int .u32 (l[i] : Int)) := by
  rcases h with ⟨rfl, rfl⟩ | ⟨b, y, rfl, _, h2, u, z, bs, t, rfl, h3, h4, _⟩
  · simp at hi
  · have hx := cIxa_sl (b := b) (o := 0) (sz := 1) (k := .i64) hi
    simp at hx
    have := h4 i
    rw [List.getElem?_eq_getElem (by simpa using hi)] at this
    exact ⟨b, hx, by simp [h2, this, u32s]⟩
theorem TS.put {H : Hp} {ab : Nat} {v : AV} {l : List Nat} (h : TS H ab v l) (y : Option ABlk) : TS (H.put ab y) ab v l := by
  rcases h with ⟨rfl, rfl⟩ | ⟨b, y, rfl, h1, h2, h3⟩
  · exact .inl ⟨rfl, rfl⟩
  · exact .inr ⟨b, y, rfl, h1, by simp [h1, h2], h3⟩
variable {H : Hp} {n : Nat} {ub : Ub}
theorem takes8 {ab : Nat} {v : AV} (m : Int) (hab : H.get ab = some (arrB ub)) (hv : TS H ab v (frL ub m)) :
    CallR Tryz.prog 8 [.ptr ab 0, .int .i64 m, v, .int .i64 (frE ub m)] H n (fun u K k => u = .bool true ∧ K.get ab = some (arrB (mark ub (frL ub m))) ∧ (∀ c, c ≠ ab → K.get c = H.get c) ∧ k = n) := by
  refine CallR.of c8 (by simp [A8]) fun F hF => ?_
  simp [A8, B8, R8_0, R8_1, R8_2]
  refine LoopV.of (fun k F' K n' ms => ∃ i, k = 9 - i ∧ 1 ≤ i ∧ i ≤ 9 ∧ F'.get 0 = some (.ptr ab 0) ∧ F'.get 1 = some (.int .i64 m) ∧ F'.get 2 = some v ∧ F'.get 3 = some (.int .i64 (frE ub m)) ∧ F'.get 10 = some (.int .i64 (i : Int)) ∧
    (∃ c : Nat, c + (free ub i).length = (free ub 1).length ∧ F'.get 9 = some (.int .i64 (c : Int))) ∧ H = K ∧ n = n' ∧ ms = []) 8 ⟨1, by simp [hF]⟩ ?_
  rintro k F' K n' ms ⟨i, rfl, hi1, hi9, f0, f1, f2, f3, f10, ⟨c, hc, f9⟩, rfl, rfl, rfl⟩
  have hff := full_free ub
  by_cases hlt : (i : Int) ≤ 8
  · have hst := free_step ub (show i ≤ 8 by omega)
    simp [L8_0, R8_3, f0, f10, hlt, R8_4, ixarr9 ab .i64 (show i < 9 by omega), ld_arr hab (show i < 9 by omega)]
    cases hu : ub i with
    | true =>
      rw [hu] at hst
      simp [R8_6, f0, f1, f2, f3, f9, f10, wrap_i i (by omega)]
      exact ⟨9 - (i + 1), by omega, i + 1, rfl, by omega, by omega, by omega, by simp at hst; rw [← hst]; omega⟩
    | false =>
      rw [hu] at hst
      simp [R8_5, R8_6, f0, f1, f2, f3, f9, f10, wrap_i i (by omega), wrap_i c (by omega)]
      exact ⟨9 - (i + 1), by omega, i + 1, rfl, by omega, by omega, by omega, c + 1, by simp at hst; rw [hst] at hc; simp at hc; omega, by simp⟩
  have e9 : i = 9 := by omega
  subst e9
  rw [free_9] at hc
  simp at hc
  subst hc
  simp [L8_0, R8_3, f1, f10, R8_7]
  by_cases h1 : m < 0
  · have e1 : frL ub m = [] := by unfold frL; rw [if_pos (.inl h1)]
    have e2 : frE ub m = 1 := by unfold frE; rw [if_pos h1]
    rw [e1] at hv
    have := hv.len
    simp at this
    simp [h1, R8_8, f3, f2, e1, e2, this, mark_nil, hab]
  simp [h1, R8_9, f1, f9]
  by_cases h2 : ((free ub 1).length : Int) < m
  · have e1 : frL ub m = [] := by unfold frL; rw [if_pos (.inr h2)]
    have e2 : frE ub m = 4 := by unfold frE; rw [if_neg h1, if_pos h2]
    rw [e1] at hv
    have := hv.len
    simp at this
    simp [h2, R8_10, f3, f2, e1, e2, this, mark_nil, hab]
  simp [h2, R8_11, R8_12]
  obtain ⟨q, rfl⟩ : ∃ q : Nat, m = (q : Int) := ⟨m.toNat, by omega⟩
  have hq : q ≤ (free ub 1).length := by omega
  have eL : frL ub q = (free ub 1).take q := by unfold frL; rw [if_neg (by omega)]; simp
  have eE : frE ub q = 0 := by unfold frE; rw [if_neg h1, if_neg h2]
  rw [eE] at f3
  rw [eL] at hv ⊢
  refine LoopV.of (fun k F' K n' ms => ∃ i, k = 9 - i ∧ 1 ≤ i ∧ i ≤ 9 ∧ F'.get 0 = some (.ptr ab 0) ∧ F'.get 1 = some (.int .i64 (q : Int)) ∧ F'.get 2 = some v ∧ F'.get 3 = some (.int .i64 0) ∧ F'.get 12 = some (.int .i64 (i : Int)) ∧ n = n' ∧ ms = [] ∧ (∀ c, c ≠ ab → K.get c = H.get c) ∧
    ∃ pre, free ub 1 = pre ++ free ub i ∧ pre.length ≤ q ∧ (∀ j ∈ pre, j < i) ∧ F'.get 11 = some (.int .i64 (pre.length : Int)) ∧ K.get ab = some (arrB (mark ub pre))) 8 ⟨1, by omega, by omega, by omega, by simp [f0], by simp [f1], by simp [f2], by simp [f3], by simp, rfl, rfl, fun _ _ => rfl, [], by simp, by simp, by simp, by simp, by rw [mark_nil]; exact hab⟩ ?_
  rintro k F' K n' ms ⟨i, rfl, hi1, hi9, f0, f1, f2, f3, f12, rfl, rfl, hold, pre, hfr, hpq, hpi, f11, hK⟩
  have hvK : TS K ab v ((free ub 1).take q) := by
    rcases hv with h | ⟨b, y, h0, h1, h2, h3⟩
    · exact .inl h
    · exact .inr ⟨b, y, h0, h1, by rw [hold b h1, h2], h3⟩
  by_cases hlt : i ≤ 8 ∧ pre.length < q
  · obtain ⟨hi8, hpl⟩ := hlt
    have hst := free_step ub hi8
    have hmk : mark ub pre i = ub i := by
      rw [mark_get]
      have : pre.contains i = false := by
        cases hc : pre.contains i with
        | false => rfl
        | true => have := hpi i (by simpa using hc); omega
      rw [this]; simp
    simp [L8_1, R8_13, f0, f1, f11, f12, show (i : Int) ≤ 8 by omega, hpl, R8_14, ixarr9 ab .i64 (show i < 9 by omega), ld_arr hK (show i < 9 by omega), hmk]
    cases hu : ub i with
    | true =>
      rw [hu] at hst
      simp [R8_19, f0, f1, f2, f3, f11, f12, wrap_i i (by omega)]
      exact ⟨9 - (i + 1), by omega, i + 1, rfl, by omega, by omega, by omega, hold, pre, by rw [hfr, hst]; simp, hpq, fun j hj => by have := hpi j hj; omega, rfl, hK⟩
    | false =>
      rw [hu] at hst
      have hg : pre.length < ((free ub 1).take q).length := by simp; omega
      obtain ⟨b, hx, hld⟩ := hvK.ix hg
      have hgi : ((free ub 1).take q)[pre.length] = i := by
        have h1 : (free ub 1)[pre.length]? = some i := by rw [hfr, hst]; simp
        rw [List.getElem_take]
        rw [List.getElem?_eq_some_iff] at h1
        exact h1.2
      rw [hgi] at hld
      have hln := hvK.len
      have hl2 : ((free ub 1).take q).length = q := by simp; omega
      rw [hl2] at hln
      have h32 : cToInt .u32 (.int .i64 (i : Int)) = .val (.int .u32 (i : Int)) := by
        rw [cToInt_int]; congr 2; simp [IntKind.wrap, IntKind.signed, IntKind.bits]; omega
      simp [R8_15, f0, f2, f11, f12, hln, show ¬ (q ≤ pre.length) by omega, hx, hld, h32, R8_17, ixarr9 ab .i64 (show i < 9 by omega), st_arr hK (show i < 9 by omega), R8_18, R8_19, f1, f3, wrap_i i (by omega), wrap_i pre.length (by omega)]
      exact ⟨9 - (i + 1), by omega, i + 1, rfl, by omega, by omega, by omega, fun c hc => by simp [hc, hold c hc], pre ++ [i], by rw [hfr, hst]; simp, by simp; omega, fun j hj => by
        rcases List.mem_append.1 hj with h | h
        · have := hpi j h; omega
        · simp at h; omega, by simp, by simp [mark_snoc]⟩
  · have etk : (free ub 1).take q = pre := by
      by_cases h9 : i ≤ 8
      · have hpl : pre.length = q := by omega
        rw [hfr, ← hpl]; simp
      · have : i = 9 := by omega
        subst this
        rw [free_9, List.append_nil] at hfr
        rw [hfr, List.take_of_length_le hpq]
    have hln := hvK.len
    have hl2 : ((free ub 1).take q).length = q := by simp; omega
    rw [hl2] at hln
    rw [etk]
    by_cases h9 : i ≤ 8
    · have hpl : pre.length = q := by omega
      simp [L8_1, R8_13, f1, f2, f3, f11, f12, show (i : Int) ≤ 8 by omega, hpl, R8_20, hln, hK]
      exact fun c hc => hold c hc
    · simp [L8_1, R8_13, f1, f2, f3, f12, show ¬ (i : Int) ≤ 8 by omega, R8_20, hln, hK]
      exact fun c hc => hold c hc
end Go.Abs
