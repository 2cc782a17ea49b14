/- What is left of neighbours that are equal, in place. -/
import Derived.Test.YtlnbbokmibfegaaGreatPf4
namespace Go.Abs
open Go.Proofs
open Classical
set_option maxRecDepth 100000

theorem sl_lo {b o len k : Nat} (h : k ≤ len) : cSlc 1 (some (.int .i64 (k : Int))) none none (.sl b o len 1) = .val (.sl b (o + k) (len - k) 1) := by
  unfold cSlc
  have : bnds len (some (.int .i64 (k : Int))) none none = some (k, len) := by
    simp [bnds, show bnd 0 (some (.int .i64 (k : Int))) = some k from rfl, show bnd len none = some len from rfl, h]
  simp only [this]
  simp [forceN_eq]
theorem sl_hi {b o len k : Nat} (h : k ≤ len) : cSlc 1 none (some (.int .i64 (k : Int))) none (.sl b o len 1) = .val (.sl b o k 1) := by
  unfold cSlc
  have : bnds len none (some (.int .i64 (k : Int))) none = some (0, k) := by
    simp [bnds, show bnd len (some (.int .i64 (k : Int))) = some k from rfl, show bnd len none = some len from rfl, show bnd 0 none = some 0 from rfl, h]
  simp only [this]
  simp [forceN_eq]
theorem repZ_one (v : AV) (n : Nat) : repZ [v] n = List.replicate n v := by
  induction n with
  | zero => rfl
  | succ n ih => rw [repZ, ih]; rfl
theorem OwnB.clr {u : Nat} {z bs : List AV} {t : Ov AV} {l : List AV} (h : OwnB (.cells u z bs t) l) {o len : Nat} (h0 : 0 < len) (ho : o + len = l.length) (v : AV) : OwnB (.cells u z bs (clrPut [v] 1 len o t)) (l.take o ++ List.replicate len v) := by
  obtain ⟨u', z', bs', t', e, hu, hg, hl⟩ := h
  injection e with e1 e2 e3 e4
  subst e1 e2 e3 e4
  have hc : clrPut [v] 1 len o t = Ov.putAll (List.replicate len v) o t := by
    rw [← repZ_one]; rfl
  rw [hc]
  refine ⟨u, z, bs, _, rfl, by simp; omega, fun j => ?_, fun e => ?_⟩
  · have hj := hg j
    rw [getc_eq] at hj ⊢
    rw [Ov.get_putAll]
    by_cases h1 : j < o
    · rw [if_pos (show j < u by omega)] at hj ⊢
      rw [if_neg (show ¬ (o ≤ j ∧ j < o + (List.replicate len v).length) by omega), List.getElem?_append_left (by simp; omega), List.getElem?_take, if_pos h1]
      exact hj
    · by_cases h2 : j < u
      · rw [if_pos h2, if_pos (by simp; omega), List.getElem?_append_right (by simp; omega)]
        rw [List.length_take, Nat.min_eq_left (by omega)]
        rw [List.getElem?_eq_getElem (by simp; omega)]
      · rw [if_neg h2, List.getElem?_eq_none (by simp; omega)]
  · have := Ov.get_putAll (List.replicate len v) o t o
    rw [e, if_pos (by simp; omega)] at this
    simp at this
    omega

/-- what is asked of one pair of rows: are they equal? -/
noncomputable def ceEq (L : List (List Val)) (vs : List AV) (J : Hp → Prop) (x y : Nat) : Ce := ceT [(19, [vsf vs x, vsf vs y], fun H n => if J H then .mk (.bool (decide (rowf L x = rowf L y))) H n else .fail)]
theorem rowf_le {L : List (List Val)} (hl : ∀ l ∈ L, l.length ≤ 1048576) (x : Nat) : (rowf L x).length ≤ 1048576 := by
  unfold rowf
  by_cases hx : x < L.length
  · rw [getD_lt hx]; exact hl _ (List.getElem_mem _)
  · rw [getD_ge (by omega)]; simp
theorem ceEq_ok {L : List (List Val)} {vs : List AV} {n0 n b : Nat} (hl : ∀ l ∈ L, l.length ≤ 1048576) {x y : Nat} (hx : x < vs.length) (hy : y < vs.length) : CeOk Tryz.prog (ceEq L vs (fun K => RowsAt K n0 n b vs L) x y) := by
  refine ceT_ok ?_
  simp only [List.mem_singleton]
  rintro z rfl H k v H' n' h
  dsimp only at h
  split at h
  · rename_i hJ
    injection h with h1 h2 h3
    subst h1 h2 h3
    exact (equal19 (rowf L x) (rowf L y) (rowf_le hl x)).callFOk (by simp) k (.cons _ _ _ _ ((hJ x hx).1.frz (FrzL.pure (by simp))) (.cons _ _ _ _ ((hJ y hy).1.frz (FrzL.pure (by simp))) .nil))
  · cases h
theorem ceEq_call {L : List (List Val)} {vs : List AV} {J : Hp → Prop} {x y : Nat} {H : Hp} {n : Nat} (h : J H) : (ceEq L vs J x y).call 19 [vsf vs x, vsf vs y] H n = .mk (.bool (decide (rowf L x = rowf L y))) H n := by
  unfold ceEq
  rw [ceT_hd, if_pos h]
  rfl
theorem onceTo_all {α β : Type} [DecidableEq β] {f : α → β} {l : List α} (h : l.length < 2) : onceTo f l l.length = l := by
  match l, h with
  | [], _ => rfl
  | [a], _ => simp [onceTo, dupA]
theorem dupA_at {α β : Type} [DecidableEq β] {f : α → β} {l : List α} {p : Nat} (h0 : 0 < p) (hp : p < l.length) : dupA f l p ↔ f (l[p - 1]'(by omega)) = f l[p] := by
  unfold dupA
  rw [List.getElem?_eq_getElem hp, List.getElem?_eq_getElem (by omega)]
  simp [h0]
theorem onceTo_yes {α β : Type} [DecidableEq β] {f : α → β} {l : List α} {p : Nat} (h0 : 0 < p) (hp : p < l.length) (h : f (l[p - 1]'(by omega)) = f l[p]) : onceTo f l (p + 1) = onceTo f l p := by
  rw [onceTo, if_pos ((dupA_at h0 hp).2 h), List.append_nil]
theorem onceTo_no {α β : Type} [DecidableEq β] {f : α → β} {l : List α} {p : Nat} (h0 : 0 < p) (hp : p < l.length) (h : ¬ f (l[p - 1]'(by omega)) = f l[p]) : onceTo f l (p + 1) = onceTo f l p ++ [l[p]] := by
  rw [onceTo, if_neg fun e => h ((dupA_at h0 hp).1 e), List.getElem?_eq_getElem hp]; rfl

theorem compact18 {L : List (List Val)} {vs : List AV} {n0 nn b : Nat} (hl : ∀ l ∈ L, l.length ≤ 1048576) (hvl : vs.length = L.length) {H : Hp} {n : Nat} (hJ : RowsAt H n0 nn b vs L) {S : List Nat} (hS : ∀ x ∈ S, x < vs.length) (hd : Dt (cmOf L vs n0 nn b) H S) (hN : S.length < 1000000) :
    CallR Tryz.prog 18 [.sl b 0 S.length 1, .fn (.func 19) [] []] H n (fun w K j => ∃ q, w = .sl b 0 (onceTo (rowf L) S S.length).length 1 ∧ Ch (cmOf L vs n0 nn b) H (onceTo (rowf L) S S.length ++ List.replicate q vs.length) K ∧ j = n) := by
  have hok := cmOf_ok hl hvl hJ
  refine CallR.of c18 (by simp [A18]) fun F hF => ?_
  simp [A18, B18, R18_0, R18_1, hF]
  by_cases h2 : S.length < 2
  · simp [show (S.length : Int) < 2 by omega, R18_2, hF, onceTo_all h2]
    exact ⟨0, by simpa using Ch.refl hd⟩
  · simp [show ¬ (S.length : Int) < 2 by omega, R18_3]
    refine LoopV.of (fun t F K n' ms => ∃ i, t = S.length - i ∧ 1 ≤ i ∧ i ≤ S.length ∧ F.get 0 = some (.sl b 0 S.length 1) ∧ F.get 1 = some (.fn (.func 19) [] []) ∧ F.get 5 = some (.int .i64 (i : Int)) ∧ H = K ∧ n = n' ∧ ms = [] ∧ onceTo (rowf L) S i = S.take i) (S.length - 1) ⟨1, rfl, by omega, by omega, by simp [hF], by simp [hF], by simp, rfl, rfl, rfl, ?_⟩ ?_
    · rw [onceTo, onceTo, if_neg (fun h => by unfold dupA at h; omega), List.getElem?_eq_getElem (by omega)]
      cases S with
      | nil => simp at h2
      | cons a r => simp
    clear hF F
    rintro t F K n' ms ⟨i, rfl, h1i, hi, f0, f1, f5, rfl, rfl, rfl, ho⟩
    by_cases hlt : i < S.length
    · obtain ⟨q, hq⟩ : ∃ q, i = q + 1 := ⟨i - 1, by omega⟩
      have hqS : q < S.length := by omega
      have x1 := ix_dt (bk := b) (N := S.length) hlt
      have x2 := ix_dt (bk := b) (N := S.length) hqS
      have l1 := hd.ld hlt
      have l2 := hd.ld hqS
      have w0 : IntKind.i64.wrap ((i : Int) - 1) = (q : Int) := by rw [wrapS _ (by omega) (by omega)]; omega
      simp only [cmOf] at l1 l2
      have hs1 : S[i] < vs.length := hS _ (List.getElem_mem _)
      have hs2 : S[q] < vs.length := hS _ (List.getElem_mem _)
      have hqi : ∀ h, S[i - 1]'h = S[q] := fun h => by congr 1; omega
      simp [L18_1, R18_4, f0, f5, hlt, R18_5]
      refine DrwV.of (ceEq_ok (n0 := n0) (n := nn) (b := b) hl hs1 hs2) ?_
      simp [clearF_get, f0, f1, f5, x1, x2, l1, l2, w0]
      rw [ceEq_call hJ]
      by_cases he : rowf L S[i] = rowf L S[q]
      · simp [he, R18_6, clearF_get, f0, f5, eSl, oev, sl_lo (show i ≤ S.length by omega), R18_7]
        have ho1 : onceTo (rowf L) S (i + 1) = S.take i := by
          rw [onceTo_yes (by omega) hlt (by rw [hqi, he]), ho]
        refine LoopV.of (fun t F K n' ms => ∃ (k p c : Nat) (D : List Nat), t = S.length - p ∧ i + c = p ∧ k < p ∧ p ≤ S.length ∧ F.get 0 = some (.sl b 0 S.length 1) ∧ F.get 1 = some (.fn (.func 19) [] []) ∧ F.get 5 = some (.int .i64 (k : Int)) ∧ F.get 6 = some (.sl b i (S.length - i) 1) ∧ F.get 7 = some (.int .i64 (c : Int)) ∧ 1 ≤ c ∧ n = n' ∧ ms = [] ∧ Ch (cmOf L vs n0 nn b) H D K ∧ D.length = S.length ∧ D.take k = onceTo (rowf L) S p ∧ D.drop k = S.drop k ∧ (onceTo (rowf L) S p).length = k) (S.length - (i + 1)) ⟨i, i + 1, 1, S, rfl, rfl, by omega, by omega, by simp [clearF_get, f0], by simp [clearF_get, f1], by simp [clearF_get, f5], by simp, by simp, by omega, rfl, rfl, .refl hd, rfl, ho1.symm, rfl, by rw [ho1]; simp; omega⟩ ?_
        clear f0 f1 f5 F x1 x2 l1 l2 w0 hs1 hs2 hqi he ho1
        rintro t F K n' ms ⟨k, p, c, D, rfl, hcp, hkp, hpS, f0, f1, f5, f6, f7, hc1, rfl, rfl, hC, hDl, hDt, hDd, hok'⟩
        have hJK : RowsAt K n0 nn b vs L := hok.stay _ _ hJ hC.2
        by_cases hlt2 : p < S.length
        · obtain ⟨r, hr⟩ : ∃ r, p = r + 1 := ⟨p - 1, by omega⟩
          obtain ⟨cc, hcc⟩ : ∃ cc, c = cc + 1 := ⟨c - 1, by omega⟩
          have hrS : r < S.length := by omega
          have x1 : cIxa 1 (.sl b i (S.length - i) 1) (.int .i64 (c : Int)) = .val (.ptr b p) := by
            rw [cIxa_sl (by omega)]; congr 2; omega
          have x2 : cIxa 1 (.sl b i (S.length - i) 1) (.int .i64 (cc : Int)) = .val (.ptr b r) := by
            rw [cIxa_sl (by omega)]; congr 2; omega
          have hat : ∀ m, k ≤ m → ∀ (h : m < S.length), D[m]'(by omega) = S[m] := fun m hm h => by
            have h1 : (D.drop k)[m - k]'(by simp; omega) = (S.drop k)[m - k]'(by simp; omega) := by congr 1
            simp only [List.getElem_drop] at h1
            have e : k + (m - k) = m := by omega
            simpa [e] using h1
          have l1 := hC.1.ld (i := p) (by omega)
          have l2 := hC.1.ld (i := r) (by omega)
          rw [hat p (by omega) hlt2] at l1
          rw [hat r (by omega) hrS] at l2
          simp only [cmOf] at l1 l2
          have w0 : IntKind.i64.wrap ((c : Int) - 1) = (cc : Int) := by rw [wrapS _ (by omega) (by omega)]; omega
          have w1 := wrap_nat c (by omega)
          have w2 := wrap_nat k (by omega)
          have hs1 : S[p] < vs.length := hS _ (List.getElem_mem _)
          have hs2 : S[r] < vs.length := hS _ (List.getElem_mem _)
          have hri : ∀ h, S[p - 1]'h = S[r] := fun h => by congr 1; omega
          simp [L18_0, R18_8, f6, f7, show (c : Int) < ((S.length - i : Nat) : Int) by omega, R18_9]
          refine DrwV.of (ceEq_ok (n0 := n0) (n := nn) (b := b) hl hs1 hs2) ?_
          simp [clearF_get, f1, f6, f7, x1, x2, l1, l2, w0]
          rw [ceEq_call (J := fun K => RowsAt K n0 nn b vs L) hJK]
          by_cases he : rowf L S[p] = rowf L S[r]
          · have ho1 : onceTo (rowf L) S (p + 1) = onceTo (rowf L) S p := onceTo_yes (by omega) hlt2 (by rw [hri, he])
            simp [he, R18_12, clearF_get, f0, f1, f5, f6, f7, w1]
            exact ⟨S.length - (p + 1), by omega, k, p + 1, rfl, c + 1, by omega, by omega, by omega, rfl, by omega, by omega, D, hC, hDl, by rw [ho1]; exact hDt, hDd, by rw [ho1]; exact hok'⟩
          · have ho1 : onceTo (rowf L) S (p + 1) = onceTo (rowf L) S p ++ [S[p]] := onceTo_no (by omega) hlt2 (by rw [hri]; exact fun e => he e.symm)
            obtain ⟨y, s1, s2⟩ := hC.1.st hok (i := k) (by omega) S[p]
            have x3 : cIxa 1 (.sl b 0 S.length 1) (.int .i64 (k : Int)) = .val (.ptr b k) := ix_dt (by omega)
            simp only [cmOf] at s1
            simp [he, R18_10, clearF_get, f0, f1, f5, f6, f7, x1, x3, l1, s1, R18_11, w2, R18_12, w1]
            refine ⟨S.length - (p + 1), by omega, k + 1, p + 1, rfl, c + 1, by omega, by omega, by omega, by omega, by omega, by omega, D.set k S[p], hC.trans s2, by simpa using hDl, ?_, ?_, by rw [ho1]; simp [hok']⟩
            · rw [ho1, List.take_add_one, List.take_set_of_le (by omega), hDt, List.getElem?_set_self (by omega)]; rfl
            · rw [List.drop_set_of_lt (by omega)]
              have := congrArg (List.drop 1) hDd
              simpa [List.drop_drop, Nat.add_comm] using this
        · obtain rfl : p = S.length := by omega
          have hgt : ¬ (c : Int) < ((S.length - i : Nat) : Int) := by omega
          obtain ⟨y, hy, hO⟩ := hC.1
          obtain ⟨u, z, bs, t, rfl, hu, hg⟩ := hO
          have hOB : OwnB (.cells u z bs t) (D.map (vsf vs)) := ⟨u, z, bs, t, rfl, hu, hg⟩
          have hul : u = S.length := by rw [hu]; simpa using hDl
          simp only [cmOf] at hy
          obtain ⟨g, hgg⟩ : ∃ g, S.length - k = g + 1 := ⟨S.length - k - 1, by omega⟩
          have hcl : cClrS [.cst (.slice none 0 0)] 1 (.sl b (0 + k) (S.length - k) 1) K = .upd (.tup []) b (.cells u z bs (clrPut [.cst (.slice none 0 0)] 1 (S.length - k) (0 + k) t)) := by
            rw [hgg]
            simp only [cClrS, hy]
            have : Nat.ble (0 + k + (g + 1) * 1) u = true := Nat.ble_eq_true_of_le (by omega)
            rw [this]
            rfl
          have hOB2 := hOB.clr (o := 0 + k) (len := S.length - k) (by omega) (by simp; omega) (.cst (.slice none 0 0))
          simp [L18_0, R18_8, f6, f7, hgt, R18_13, f0, f5, eSl, oev, sl_lo (show k ≤ S.length by omega), eClrS]
          simp at hcl
          simp [hcl, R18_14, f0, f5, eSl, oev, sl_hi (show k ≤ S.length by omega), hok']
          refine ⟨S.length - k, ⟨_, by simp [cmOf]; rfl, ?_⟩, fun c hc => ?_⟩
          · have e : (onceTo (rowf L) S S.length ++ List.replicate (S.length - k) vs.length).map (vsf vs) = (D.map (vsf vs)).take (0 + k) ++ List.replicate (S.length - k) (.cst (.slice none 0 0)) := by
              rw [List.map_append, ← hDt, Nat.zero_add, List.map_take, List.map_replicate]
              congr 2
              exact getD_ge (Nat.le_refl _)
            simp only [cmOf]
            rw [e]
            simpa using hOB2
          · have hcb : c ≠ b := hc
            simp [hcb]
            exact hC.2 c hc
      · have ho1 : onceTo (rowf L) S (i + 1) = S.take (i + 1) := by
          rw [onceTo_no (by omega) hlt (by rw [hqi]; exact fun e => he e.symm), ho, List.take_succ_eq_append_getElem hlt]
        simp [he, R18_15, clearF_get, f0, f1, f5, wrap_nat i (by omega)]
        exact ⟨S.length - (i + 1), by omega, i + 1, rfl, by omega, by omega, rfl, ho1⟩
    · obtain rfl : i = S.length := by omega
      rw [List.take_length] at ho
      simp [L18_1, R18_4, f0, f5, R18_16, ho]
      exact ⟨0, by simpa using Ch.refl hd⟩
end Go.Abs
