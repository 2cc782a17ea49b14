/- Rows compared by keys alone; rows that are equal. -/
import Derived.Test.YtlnbbokmibfegaaGreatPf3
namespace Go.Abs
open Go.Proofs
set_option maxRecDepth 100000

/-- a bound query: what is not looked at, the keys, once?, the first ones? -/
structure Bn where
  x : List AV
  ks : List Ky
  d : Bool
  lim : Bool
  k : Int
structure Bn.Ok (b : Bn) : Prop where
  len : b.x.length = 21
  pur : PureL b.x
def Bn.cells (b : Bn) : List AV := b.x ++ [kAV b.ks, .bool b.d, .bool b.lim, .int .i64 b.k]
def Bn.av (b : Bn) : AV := .agg b.cells 25
theorem Bn.cells_len {b : Bn} (h : b.Ok) : b.cells.length = 25 := by simp [Bn.cells, h.len]
theorem Bn.pureL {b : Bn} (h : b.Ok) : PureL b.cells := PureL.of_mem fun v hv => by
  simp only [Bn.cells, List.mem_append] at hv
  rcases hv with hv | hv
  · exact h.pur.mem v hv
  · simp at hv
    rcases hv with rfl | rfl | rfl | rfl <;> simp
theorem Bn.pure {b : Bn} (h : b.Ok) : Pure b.av := by simpa [Bn.av] using Bn.pureL h
theorem Bn.drop {b : Bn} (h : b.Ok) : b.cells.drop 21 = [kAV b.ks, .bool b.d, .bool b.lim, .int .i64 b.k] := by
  rw [Bn.cells, ← h.len, List.drop_left]

theorem eqV_val (v u : Val) : cEqA true [.i, .i, .s] v.av u.av = .val (.bool (!decide (v = u))) := by
  rw [eqA_val]; simp
theorem equal19 (l m : List Val) (hl : l.length ≤ 1048576) : FnPure Tryz.prog 19 [rowAV l, rowAV m] (.bool (decide (l = m))) := by
  refine pureV c19 (by simp) (by simp) (by simp [A19]) fun F hF => ?_
  by_cases hlm : l.length = m.length
  · simp [A19, B19, R19_0, R19_1, hF, rowAV, hlm, R19_3]
    refine LoopV.of (fun k F K n ms => ∃ i, k = l.length - i ∧ i ≤ l.length ∧ F.get 0 = some (rowAV l) ∧ F.get 1 = some (rowAV m) ∧ F.get 12 = some (.int .i64 (l.length : Int)) ∧ F.get 13 = some (.int .i64 (i : Int)) ∧ K = .nil ∧ ms = [] ∧ (l = m ↔ l.drop i = m.drop i)) l.length ⟨0, by simp [hF, rowAV, hlm]⟩ ?_
    rintro k F K n ms ⟨i, rfl, hi, f0, f1, f12, f13, rfl, rfl, he⟩
    by_cases hlt : i < l.length
    · have h2 : i < m.length := by omega
      have hx := ixa_val (k := .i64) hlt
      have hy := ixa_val (k := .i64) h2
      have w := wrap_nat i (by omega)
      rw [List.drop_eq_getElem_cons hlt, List.drop_eq_getElem_cons h2, List.cons.injEq] at he
      simp [L19_0, R19_4, f12, f13, hlt, R19_5, R19_6]
      refine DrwV.of (ce0_ok (P := Tryz.prog)) ?_
      simp [clearF_get, f0, f1, rowAV, hx, hy, ld_val, eqV_val]
      by_cases hc : l[i] = m[i]
      · simp [hc, R19_8, clearF_get, f0, f1, f12, f13, w, rowAV]
        exact ⟨l.length - (i + 1), by omega, i + 1, rfl, by omega, rfl, by rw [he]; simp [hc]⟩
      · have : ¬ l = m := fun e => hc (he.1 e).1
        simp [hc, R19_7, this]
        exact .pure _ (by simp)
    · obtain rfl : i = l.length := by omega
      have : l = m := he.2 (by rw [List.drop_length, hlm, List.drop_length])
      subst this
      simp [L19_0, R19_4, f12, f13, R19_9]
      exact .pure _ (by simp)
  · have : ¬ l = m := fun e => hlm (by rw [e])
    simp [A19, B19, R19_0, R19_1, hF, rowAV, hlm, R19_2, this]
    exact .pure _ (by simp)

theorem keys21 (b : Bn) (hb : b.Ok) (l m : List Val) (_hl : l.length ≤ 1048576) (_hm : m.length ≤ 1048576) (al : rMay l) (am : rMay m) (hk : b.ks.length ≤ 1048576) (il : kIn b.ks l) (im : kIn b.ks m) : FnPure Tryz.prog 21 [rowAV l, rowAV m, .dp b.cells] (.int .i64 (kcs b.ks l m)) := by
  refine pureV c21 (by simpa using Bn.pureL hb) (by simp) (by simp [A21]) fun F hF => ?_
  simp [A21, B21, R21_0, R21_1, hF, Bn.drop hb]
  simp only [kAV]
  simp
  refine LoopV.of (fun t F K n ms => ∃ i, t = b.ks.length - i ∧ i ≤ b.ks.length ∧ F.get 0 = some (rowAV l) ∧ F.get 1 = some (rowAV m) ∧ F.get 11 = some (kAV b.ks) ∧ F.get 12 = some (.int .i64 (b.ks.length : Int)) ∧ F.get 13 = some (.int .i64 (i : Int)) ∧ ms = [] ∧ kcs b.ks l m = kcs (b.ks.drop i) l m) b.ks.length ⟨0, by simp [hF, kAV]⟩ ?_
  rintro t F K n ms ⟨i, rfl, hi, f0, f1, f11, f12, f13, rfl, he⟩
  clear hF
  by_cases hlt : i < b.ks.length
  · have hx := ixa_key (k := .i64) hlt
    obtain ⟨a1, a2⟩ := il b.ks[i] (List.getElem_mem _)
    obtain ⟨b1, b2⟩ := im b.ks[i] (List.getElem_mem _)
    rw [List.drop_eq_getElem_cons hlt, kcs] at he
    obtain ⟨p, hp⟩ : ∃ p : Nat, b.ks[i].at_ = (p : Int) := ⟨b.ks[i].at_.toNat, by omega⟩
    have hkc : kc b.ks[i] l m = if b.ks[i].desc then -((l[p]'(by omega)).ord (m[p]'(by omega))) else (l[p]'(by omega)).ord (m[p]'(by omega)) := by
      unfold kc
      simp only [hp, Int.toNat_natCast]
      rw [show l.getD p ⟨0, 0, []⟩ = l[p]'(by omega) by simp [List.getD, show p < l.length by omega], show m.getD p ⟨0, 0, []⟩ = m[p]'(by omega) by simp [List.getD, show p < m.length by omega]]
    rw [hp] at hx
    have hy := ixa_val (k := .i64) (show p < l.length by omega)
    have hz := ixa_val (k := .i64) (show p < m.length by omega)
    have hld : cLoadN 2 (.dp (.int .i64 (p : Int) :: .bool b.ks[i].desc :: keysC (b.ks.drop (i + 1)))) K = .val (.agg [.int .i64 (p : Int), .bool b.ks[i].desc] 2) := rfl
    simp [L21_0, R21_2, f12, f13, hlt, R21_3, f11, kAV, hx, hld]
    have e4 : cBin .lss (.int .i64 (p : Int)) (.int .i64 0) = .val (.bool false) := by
      simp
    have lp : (p : Int) < (l.length : Int) := by omega
    have mp : (p : Int) < (m.length : Int) := by omega
    have np : ¬ (p : Int) < 0 := by omega
    have hmin : minR .i64 (l.length : Int) [.int .i64 (m.length : Int)] = some (.int .i64 ((min l.length m.length : Nat) : Int)) := by
      unfold minR
      simp [minR]
      omega
    have ng : ¬ (((min l.length m.length : Nat) : Int) ≤ (p : Int)) := by omega
    generalize min l.length m.length = M at hmin ng
    have hcm : ((l[p]'(by omega)).cmp (m[p]'(by omega))) = ((l[p]'(by omega)).ord (m[p]'(by omega)), 0) := by
      unfold Val.cmp
      rw [al _ (List.getElem_mem _), am _ (List.getElem_mem _)]
      rfl
    have hcq := compare28 (l[p]'(by omega)) (m[p]'(by omega))
    rw [hcm] at hcq
    simp [R21_4, f0, f1, rowAV, eMnx, minI, np, hmin, ng, R21_5]
    refine DrwV.of (ceT_ok (l := [(22, [(l[p]'(by omega)).av, (m[p]'(by omega)).av], fun H n => .mk (.tup [.int .i64 ((l[p]'(by omega)).ord (m[p]'(by omega))), .int .i64 0]) H n)]) ?_) ?_
    · intro x hx
      simp only [List.mem_cons, List.not_mem_nil, or_false] at hx
      subst hx
      exact ceT_pure hcq
    · simp [clearF_get, f0, f1, rowAV, hy, hz, ld_val]
      rw [ceT_hd]
      have hr := ord_rng (l[p]'(by omega)) (m[p]'(by omega))
      have w := wrap_nat i (by omega)
      have wn := wrap_sm (-((l[p]'(by omega)).ord (m[p]'(by omega)))) (by omega) (by omega)
      have en : cUn .neg (.int .i64 ((l[p]'(by omega)).ord (m[p]'(by omega)))) = .val (.int .i64 (-((l[p]'(by omega)).ord (m[p]'(by omega))))) := by
        show vint .i64 (IntKind.i64.wrap (0 - (l[p]'(by omega)).ord (m[p]'(by omega)))) = _
        rw [Int.zero_sub, wn]; simp
      cases hd : b.ks[i].desc with
      | true =>
        rw [hd] at hkc
        simp only [if_true] at hkc
        simp [R21_6, clearF_get, R21_7, en, R21_8]
        by_cases hc : (l[p]'(by omega)).ord (m[p]'(by omega)) = 0
        · rw [hkc, hc] at he
          simp at he
          simp [hc, R21_10, clearF_get, f0, f1, f11, f12, f13, w, rowAV, kAV]
          exact ⟨b.ks.length - (i + 1), by omega, i + 1, rfl, hlt, rfl, by simpa using he⟩
        · rw [hkc, if_pos (by omega)] at he
          simp [hc, R21_9, he]
          exact .pure _ (by simp)
      | false =>
        rw [hd] at hkc
        simp at hkc
        simp [R21_6, clearF_get, R21_8]
        by_cases hc : (l[p]'(by omega)).ord (m[p]'(by omega)) = 0
        · rw [hkc, hc] at he
          simp at he
          simp [hc, R21_10, clearF_get, f0, f1, f11, f12, f13, w, rowAV, kAV]
          exact ⟨b.ks.length - (i + 1), by omega, i + 1, rfl, hlt, rfl, by simpa using he⟩
        · rw [hkc, if_pos (by omega)] at he
          simp [hc, R21_9, he]
          exact .pure _ (by simp)
  · obtain rfl : i = b.ks.length := by omega
    rw [List.drop_length, kcs] at he
    simp [L21_0, R21_2, f12, f13, R21_11, he]
    exact .pure _ (by simp)
end Go.Abs
