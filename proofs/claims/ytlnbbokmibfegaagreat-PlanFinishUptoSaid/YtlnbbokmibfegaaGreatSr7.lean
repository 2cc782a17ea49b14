/- Sorting in place: two rows merged, by induction. -/
import Derived.Test.YtlnbbokmibfegaaGreatSr6
namespace Go.Abs
open Go.Proofs
set_option maxRecDepth 100000
open Classical
variable {α : Type} {C : Cm α} {tg : α → Nat} {Pd : α → Prop}
noncomputable def tail68 : CT := .seq R84_38 (.seq (.seq R84_39 (.cond (slotG 185) R84_40 .skip)) (.seq (.seq R84_41 (.cond (slotG 199) R84_42 .skip)) (.seq R84_43 (.cond (slotG 213) R84_44 .skip))))
theorem fin68 (ho : C.Ok Tryz.prog) (hc : Srt.Ord C.c Pd) {H : Hp} {n : Nat} {p L R s : List α} {N : Nat} (hd : Dt C H (p ++ (L ++ (R ++ s)))) (hJ : C.J H) (hL : ∀ z ∈ L, C.El z) (hR : ∀ z ∈ R, C.El z) (hN : p.length + L.length + R.length ≤ N) (hb : N < 1000000) {a m b mid nn M' : Nat} (ea : a = p.length) (em : m = p.length + L.length) (eb : b = p.length + L.length + R.length)
    (hnn : nn = mid + m) (hmab : a < mid ∧ mid < b) (emid : mid = a + M')
    (ih : ∀ (p' L' R' s' : List α) (a' m' b' : Nat) (H' : Hp), L'.length + R'.length < L.length + R.length → Dt C H' (p' ++ (L' ++ (R' ++ s'))) → C.J H' → (∀ z ∈ L', C.El z) → (∀ z ∈ R', C.El z) → 0 < L'.length → 0 < R'.length → p'.length + L'.length + R'.length ≤ N → a' = p'.length → m' = p'.length + L'.length → b' = p'.length + L'.length + R'.length → SymOk C tg Pd N p' L' R' s' a' m' b' H' n)
    (F2 : Fr) (st lo hi : Nat) (g0 : F2.get 0 = some (.sl C.bk 0 N 1)) (g1 : F2.get 1 = some (.int .i64 (a : Int))) (g2 : F2.get 2 = some (.int .i64 (m : Int))) (g3 : F2.get 3 = some (.int .i64 (b : Int))) (g4 : F2.get 4 = some C.fv) (g18 : F2.get 18 = some (.int .i64 (mid : Int))) (g19 : F2.get 19 = some (.int .i64 (nn : Int))) (g20 : F2.get 20 = some (.int .i64 ((a + st : Nat) : Int)))
    (hls : lo ≤ st) (hsh : st ≤ hi) (b1 : lo = 0 ∨ M' - lo = R.length) (b2 : hi = M' ∨ hi = L.length) (b3 : hi ≤ M') (b4 : hi ≤ L.length) (b5 : M' - lo ≤ R.length) (h1 : st = lo ∨ ∀ x y, L[st - 1]? = some x → R[M' - st]? = some y → 0 ≤ C.c y x) (h2 : st = hi ∨ ∀ x y, R[M' - 1 - st]? = some x → L[st]? = some y → C.c x y < 0) :
    VC Tryz.prog tail68 F2 H n [] (RetQ [] fun w K j => w = .tup [] ∧ (∃ M, Srt.Good C.c tg Pd L R M ∧ Ch C H (p ++ (M ++ s)) K) ∧ j = n) := by
  obtain ⟨p1, p2⟩ := parted b1 b2 hls hsh b3 b4 b5 h1 h2
  have eL : L = L.take st ++ L.drop st := (List.take_append_drop st L).symm
  have eR : R = R.take (M' - st) ++ R.drop (M' - st) := (List.take_append_drop _ R).symm
  have q1 : (L.take st).length = st := by rw [List.length_take]; omega
  have q2 : (R.take (M' - st)).length = M' - st := by rw [List.length_take]; omega
  clear h1 h2 b1 b2
  generalize L.take st = L1 at *
  generalize L.drop st = L2 at *
  generalize R.take (M' - st) = R1 at *
  generalize R.drop (M' - st) = R2 at *
  subst eL eR
  simp only [List.length_append] at hN em eb
  exact rest68 ho hc hd hJ hL hR (by simp only [List.length_append]; omega) hb ea (by omega) (by omega) (by omega) hmab hnn (start := a + st) (by omega) p1 p2 ih g0 g1 g2 g3 g4 g18 g19 g20
/-- how the search begins -/
theorem main68 (ho : C.Ok Tryz.prog) (hc : Srt.Ord C.c Pd) {H : Hp} {n : Nat} {p L R s : List α} {N : Nat} (hd : Dt C H (p ++ (L ++ (R ++ s)))) (hJ : C.J H) (hL : ∀ z ∈ L, C.El z) (hR : ∀ z ∈ R, C.El z) (hL1 : 1 < L.length) (hR1 : 1 < R.length) (hN : p.length + L.length + R.length ≤ N) (hb : N < 1000000) {a m b : Nat} (ea : a = p.length) (em : m = p.length + L.length) (eb : b = p.length + L.length + R.length)
    (ih : ∀ (p' L' R' s' : List α) (a' m' b' : Nat) (H' : Hp), L'.length + R'.length < L.length + R.length → Dt C H' (p' ++ (L' ++ (R' ++ s'))) → C.J H' → (∀ z ∈ L', C.El z) → (∀ z ∈ R', C.El z) → 0 < L'.length → 0 < R'.length → p'.length + L'.length + R'.length ≤ N → a' = p'.length → m' = p'.length + L'.length → b' = p'.length + L'.length + R'.length → SymOk C tg Pd N p' L' R' s' a' m' b' H' n) :
    SymOk C tg Pd N p L R s a m b H n := by
  refine CallR.of c84 (by simp [A84]) fun F hF => ?_
  have w0 : ¬ IntKind.i64.wrap ((m : Int) - (a : Int)) = 1 := by rw [wrapS _ (by omega) (by omega)]; omega
  have w1 : ¬ IntKind.i64.wrap ((b : Int) - (m : Int)) = 1 := by rw [wrapS _ (by omega) (by omega)]; omega
  obtain ⟨mid, hmid⟩ : ∃ mid, mid = (a + b) / 2 := ⟨_, rfl⟩
  obtain ⟨nn, hnn⟩ : ∃ nn, nn = mid + m := ⟨_, rfl⟩
  obtain ⟨M', hM'⟩ : ∃ M', M' = mid - a := ⟨_, rfl⟩
  obtain ⟨S, hS⟩ : ∃ S, S = a + b := ⟨_, rfl⟩
  have w2 : IntKind.i64.wrap ((a : Int) + (b : Int)) = (S : Int) := by rw [wrapS _ (by omega) (by omega)]; omega
  have hs := shrS S
  rw [hS, ← hmid, ← hS] at hs
  have hs2 := u64S S (by omega)
  have hs3 := i64S mid (by omega)
  have w3 : IntKind.i64.wrap ((mid : Int) + (m : Int)) = (nn : Int) := by rw [wrapS _ (by omega) (by omega)]; omega
  have hmab : a < mid ∧ mid < b := by omega
  have emid : mid = a + M' := by omega
  have hM0 : 0 < M' := by omega
  have hm2 : 2 * mid ≤ a + b ∧ a + b ≤ 2 * mid + 1 := by omega
  clear hmid hS hM'
  obtain ⟨lo, hi, hinit, hlh, b1, b2, b3, b4, b5⟩ : ∃ lo hi : Nat, (if mid < m then IntKind.i64.wrap ((nn : Int) - (b : Int)) = (a : Int) + (lo : Int) ∧ hi = M' else lo = 0 ∧ (m : Int) = (a : Int) + (hi : Int)) ∧ lo ≤ hi ∧ (lo = 0 ∨ M' - lo = R.length) ∧ (hi = M' ∨ hi = L.length) ∧ hi ≤ M' ∧ hi ≤ L.length ∧ M' - lo ≤ R.length := by
    by_cases hgt : mid < m
    · refine ⟨nn - b - a, M', ?_, by omega, by omega, .inl rfl, Nat.le_refl _, by omega, by omega⟩
      rw [if_pos hgt]
      refine ⟨?_, rfl⟩
      rw [wrapS _ (by omega) (by omega)]; omega
    · refine ⟨0, L.length, ?_, by omega, .inl rfl, .inr rfl, by omega, Nat.le_refl _, by omega⟩
      rw [if_neg hgt]
      exact ⟨rfl, by omega⟩
  have fin := fin68 (mid := mid) (nn := nn) (M' := M') ho hc hd hJ hL hR hN hb ea em eb hnn hmab emid ih
  have srch := fun (F' : Fr) => search68 (lo := lo) (hi := hi) (F' := F') (b := b) (n := n) ho hd hJ hL hR hN hb ea em emid hnn hM0 hlh b3 b4 b5
  generalize hRR : tail68 = RR at fin
  have hBB : B84 = (.seq (.seq R84_0 (.cond (slotG 28) (.seq R84_1 (.seq R84_2 (.seq (.block 0 (.loop L84_0)) (.seq (.seq R84_8 (.block 2 (.loop L84_1))) .ret)))) .skip)) (.seq (.seq R84_12 (.cond (slotG 80) (.seq R84_13 (.seq R84_14 (.seq (.block 4 (.loop L84_2)) (.seq (.seq R84_20 (.block 6 (.loop L84_3))) .ret)))) .skip)) (.seq R84_24 (.seq R84_25 (.seq R84_26 (.seq (.seq R84_27 (.cond (slotG 140) (.seq R84_28 R84_29) (.seq R84_30 R84_31))) (.seq R84_32 (.seq (.block 8 (.loop L84_4)) RR)))))))) := by rw [← hRR]; rfl
  clear hRR ih hc
  have key : ∀ F' : Fr, F'.get 0 = some (.sl C.bk 0 N 1) → F'.get 1 = some (.int .i64 (a : Int)) → F'.get 2 = some (.int .i64 (m : Int)) → F'.get 3 = some (.int .i64 (b : Int)) → F'.get 4 = some C.fv → F'.get 18 = some (.int .i64 (mid : Int)) → F'.get 19 = some (.int .i64 (nn : Int)) → F'.get 20 = some (.int .i64 ((a + lo : Nat) : Int)) → F'.get 21 = some (.int .i64 ((a + hi : Nat) : Int)) →
      VC Tryz.prog R84_32 F' H n [] (SeqV Tryz.prog ((CT.block 8 (.loop L84_4)).seq RR) (RetQ [] fun w K j => w = .tup [] ∧ (∃ M, Srt.Good C.c tg Pd L R M ∧ Ch C H (p ++ (M ++ s)) K) ∧ j = n)) := by
    intro F' k0 k1 k2 k3 k4 k18 k19 k20 k21
    have := srch F' k0 k1 k2 k3 k4 k18 k19 k20 k21 (RetQ [] fun w K j => w = .tup [] ∧ (∃ M, Srt.Good C.c tg Pd L R M ∧ Ch C H (p ++ (M ++ s)) K) ∧ j = n) RR
      fun F2 st g0 g1 g2 g3 g4 g18 g19 g20 hls hsh h1 h2 => fin F2 st lo hi g0 g1 g2 g3 g4 g18 g19 g20 hls hsh b1 b2 b3 b4 b5 h1 h2
    rw [vc_seq] at this
    exact this
  clear fin srch
  by_cases hgt : mid < m
  · rw [if_pos hgt] at hinit
    simp [A84, hBB, R84_0, hF, w0, w1, R84_12, R84_24, w2, hs, hs2, hs3, R84_25, w3, R84_26, R84_27, hgt, R84_28, hinit.1, R84_29]
    exact key _ (by simp [hF]) (by simp [hF]) (by simp [hF]) (by simp [hF]) (by simp [hF]) (by simp) (by simp) (by simp) (by simp; omega)
  · rw [if_neg hgt] at hinit
    simp [A84, hBB, R84_0, hF, w0, w1, R84_12, R84_24, w2, hs, hs2, hs3, R84_25, w3, R84_26, R84_27, hgt, R84_30, R84_31]
    exact key _ (by simp [hF]) (by simp [hF]) (by simp [hF]) (by simp [hF]) (by simp [hF]) (by simp) (by simp) (by simp [hinit.1]) (by simp; omega)
theorem sym68 (ho : C.Ok Tryz.prog) (hc : Srt.Ord C.c Pd) {N : Nat} (hb : N < 1000000) (n : Nat) : ∀ (k : Nat) (p L R s : List α) (a m b : Nat) (H : Hp), L.length + R.length ≤ k → Dt C H (p ++ (L ++ (R ++ s))) → C.J H → (∀ z ∈ L, C.El z) → (∀ z ∈ R, C.El z) → 0 < L.length → 0 < R.length → p.length + L.length + R.length ≤ N → a = p.length → m = p.length + L.length → b = p.length + L.length + R.length → SymOk C tg Pd N p L R s a m b H n
  | 0, _, L, R, _, _, _, _, _, hk, _, _, _, _, h1, _, _, _, _, _ => by omega
  | k + 1, p, L, R, s, a, m, b, H, hk, hd, hJ, hL, hR, h1, h2, hN, ea, em, eb => by
    by_cases c1 : L.length = 1
    · obtain ⟨x, rfl⟩ := List.length_eq_one_iff.1 c1
      exact one68 ho hc hd hJ (hL x (by simp)) hR h2 (by simp at hN; omega) hb ea (by simp at em; omega) (by simp at eb; omega)
    by_cases c2 : R.length = 1
    · obtain ⟨x, rfl⟩ := List.length_eq_one_iff.1 c2
      exact snoc68 ho hc hd hJ (hR x (by simp)) hL (by omega) (by simp at hN; omega) hb ea em (by simp at eb; omega)
    exact main68 ho hc hd hJ hL hR (by omega) (by omega) hN hb ea em eb fun p' L' R' s' a' m' b' H' hlt hd' hJ' hL' hR' h1' h2' hN' ea' em' eb' =>
      sym68 ho hc hb n k p' L' R' s' a' m' b' H' (by omega) hd' hJ' hL' hR' h1' h2' hN' ea' em' eb'
end Go.Abs
