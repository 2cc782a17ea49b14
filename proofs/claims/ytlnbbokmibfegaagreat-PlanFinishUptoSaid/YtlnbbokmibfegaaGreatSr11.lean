/- Stable sorting: blocks merged, and SortStableFunc. -/
import Derived.Test.YtlnbbokmibfegaaGreatSr10
namespace Go.Abs
open Go.Proofs
set_option maxRecDepth 100000
open Classical
variable {α : Type} {C : Cm α} {tg : α → Nat} {Pd : α → Prop}
/-- one pass -/
theorem pass27 (ho : C.Ok Tryz.prog) (hc : Srt.Ord C.c Pd) {H K0 : Hp} {n : Nat} {S s : List α} {N B : Nat} (hN : N = S.length) (hJ : C.J H) (hS : ∀ z ∈ S, C.El z) (hb : N < 1000000) (hB0 : 0 < B) (hBN : B < N) {D0 : List (List α)} (hsh : Sh B D0) (hP0 : Ph2 C tg Pd S D0) (hC0 : Ch C H (D0.flatten ++ s) K0) {F : Fr} (f0 : F.get 0 = some (.sl C.bk 0 N 1)) (f1 : F.get 1 = some (.int .i64 (N : Int))) (f2 : F.get 2 = some C.fv) (f6 : F.get 6 = some (.int .i64 (B : Int))) (Q : QA)
    (hgo : ∀ (F' : Fr) (K : Hp) (D : List (List α)), F'.get 0 = some (.sl C.bk 0 N 1) → F'.get 1 = some (.int .i64 (N : Int)) → F'.get 2 = some C.fv → F'.get 6 = some (.int .i64 ((2 * B : Nat) : Int)) → Sh (2 * B) D → Ph2 C tg Pd S D → Ch C H (D.flatten ++ s) K → Q .normal F' K n []) :
    VC Tryz.prog (.seq R42_8 (.seq (.block 4 (.loop L42_1)) (.seq (.seq R42_13 (.seq R42_14 (.cond (slotG 54) R42_15 .skip))) R42_16))) F K0 n [] Q := by
  have w0 : IntKind.i64.wrap (2 * (B : Int)) = ((2 * B : Nat) : Int) := by rw [wrapS _ (by omega) (by omega)]; omega
  have w0' : IntKind.i64.wrap ((B : Int) * 2) = ((2 * B : Nat) : Int) := by rw [wrapS _ (by omega) (by omega)]; omega
  obtain ⟨BB, hBB⟩ : ∃ BB, BB = 2 * B := ⟨_, rfl⟩
  rw [← hBB] at w0 w0' hgo
  simp [R42_8, f6, w0]
  refine LoopV.of (fun t F' K n' ms => ∃ a, t = N - a ∧ a ≤ N ∧ F'.get 0 = some (.sl C.bk 0 N 1) ∧ F'.get 1 = some (.int .i64 (N : Int)) ∧ F'.get 2 = some C.fv ∧ F'.get 6 = some (.int .i64 (B : Int)) ∧ F'.get 7 = some (.int .i64 (a : Int)) ∧ F'.get 8 = some (.int .i64 ((a + BB : Nat) : Int)) ∧ n = n' ∧ ms = [] ∧ ∃ D R, D.flatten.length = a ∧ (∀ X ∈ D, X.length = BB) ∧ Sh B R ∧ Ph2 C tg Pd S (D ++ R) ∧ Ch C H (D.flatten ++ (R.flatten ++ s)) K) N ⟨0, by omega, by omega, by simp [f0], by simp [f1], by simp [f2], by simp [f6], by simp, by simp, rfl, rfl, [], D0, rfl, by simp, hsh, hP0, hC0⟩ ?_
  clear f0 f1 f2 f6 hsh hP0 hC0
  rintro t F1 K n' ms ⟨a, rfl, ha, f0, f1, f2, f6, f7, f8, rfl, rfl, D, R, hDl, hD, hR, hP, hC⟩
  have hlen : D.flatten.length + R.flatten.length = N := by have := hP.perm.length_eq; simp only [List.flatten_append, List.length_append] at this; omega
  have hJK : C.J K := ho.stay _ _ hJ hC.2
  have hEl : ∀ X ∈ D ++ R, ∀ z ∈ X, C.El z := fun X hX z hz => hS z (hP.perm.mem_iff.1 (List.mem_flatten.2 ⟨X, hX, hz⟩))
  obtain ⟨b, hbb⟩ : ∃ b, b = a + BB := ⟨_, rfl⟩
  rw [← hbb] at f8
  obtain ⟨m, hm⟩ : ∃ m, m = a + B := ⟨_, rfl⟩
  have wm : IntKind.i64.wrap ((a : Int) + (B : Int)) = (m : Int) := by rw [wrapS _ (by omega) (by omega)]; omega
  by_cases hle : b ≤ N
  · rcases hR.cases with rfl | ⟨X, rfl, h1, h2⟩ | ⟨X, Y, r, rfl, hX, hY0, hYB, hYr, hr⟩
    · exfalso; simp only [List.flatten_nil, List.length_nil] at hlen; omega
    · exfalso; simp only [List.flatten_cons, List.flatten_nil, List.append_nil] at hlen; omega
    have hYl : Y.length = B := by
      rcases hYr with h | h
      · subst h
        simp only [List.flatten_cons, List.flatten_nil, List.append_nil, List.length_append] at hlen; omega
      · exact h
    have w1 : IntKind.i64.wrap ((b : Int) + (BB : Int)) = ((b + BB : Nat) : Int) := by rw [wrapS _ (by omega) (by omega)]; omega
    simp only [List.flatten_cons, List.length_append] at hlen
    simp [L42_1, R42_9, f8, f1, hle, R42_10, f0, f6, f7, f2, wm]
    refine CalV.of (sym68 (tg := tg) (Pd := Pd) ho hc hb n _ D.flatten X Y (r.flatten ++ s) a m b K (Nat.le_refl _) (by simpa using hC.1) hJK (hEl X (by simp)) (hEl Y (by simp)) (by omega) hY0 (by omega) hDl.symm (by omega) (by omega)) fun w K' n'' ⟨q1, ⟨M, hM, q2⟩, q3⟩ => ?_
    subst q1 q3
    have hMl := hM.1.length_eq
    rw [List.length_append] at hMl
    have hfl : (D ++ [M]).flatten.length = b := by
      simp only [List.flatten_append, List.flatten_cons, List.flatten_nil, List.append_nil, List.length_append]; omega
    simp [R42_11, R42_12, f8, f6, w0, w1]
    refine ⟨N - b, by omega, b, rfl, hle, f0, f1, f2, rfl, D ++ [M], by simpa using hfl, fun Z hZ => ?_, r, hr, by simpa using hP.merge hM, by simpa using hC.trans q2⟩
    rcases List.mem_append.1 hZ with hZ | hZ
    · exact hD Z hZ
    · rw [List.mem_singleton.1 hZ]; omega
  · simp [L42_1, R42_9, f8, f1, hle, R42_13, f7, f6, wm, R42_14]
    by_cases hlt : m < N
    · rcases hR.cases with rfl | ⟨X, rfl, h1, h2⟩ | ⟨X, Y, r, rfl, hX, hY0, hYB, hYr, hr⟩
      · exfalso; simp only [List.flatten_nil, List.length_nil] at hlen; omega
      · exfalso; simp only [List.flatten_cons, List.flatten_nil, List.append_nil] at hlen; omega
      have hrn : r = [] := by
        rcases hYr with h | h
        · exact h
        · simp only [List.flatten_cons, List.length_append] at hlen
          omega
      subst hrn
      simp only [List.flatten_cons, List.flatten_nil, List.append_nil, List.length_append] at hlen
      simp [hlt, R42_15, f0, f7, f1, f2]
      refine CalV.of (sym68 (tg := tg) (Pd := Pd) ho hc hb n _ D.flatten X Y s a m N K (Nat.le_refl _) (by simpa using hC.1) hJK (hEl X (by simp)) (hEl Y (by simp)) (by omega) hY0 (by omega) hDl.symm (by omega) (by omega)) fun w K' n'' ⟨q1, ⟨M, hM, q2⟩, q3⟩ => ?_
      subst q1 q3
      have hMl := hM.1.length_eq
      rw [List.length_append] at hMl
      simp [R42_16, f6, w0']
      exact hgo _ _ (D ++ [M]) (by simp [f0]) (by simp [f1]) (by simp [f2]) (by simp) (Sh.join hD (by omega) (by omega)) (hP.merge hM) (by simpa using hC.trans q2)
    · simp [hlt, R42_16, f6, w0']
      refine hgo _ _ (D ++ R) (by simp [f0]) (by simp [f1]) (by simp [f2]) (by simp) ?_ hP (by simpa using hC)
      rcases hR.cases with rfl | ⟨X, rfl, h1, h2⟩ | ⟨X, Y, r, rfl, hX, hY0, hYB, hYr, hr⟩
      · rw [List.append_nil]; exact Sh.all (by omega) hD
      · exact Sh.join hD h1 (by omega)
      · exfalso
        simp only [List.flatten_cons, List.length_append] at hlen; omega
theorem stable27 (ho : C.Ok Tryz.prog) (hc : Srt.Ord C.c Pd) {H : Hp} {n : Nat} {S s : List α} {N : Nat} (hd : Dt C H (S ++ s)) (hN : N = S.length) (hJ : C.J H) (hS : ∀ z ∈ S, C.El z) (hb : N < 1000000) :
    CallR Tryz.prog 42 [.sl C.bk 0 N 1, .int .i64 (N : Int), C.fv] H n (fun w K j => w = .tup [] ∧ (∃ T, GoodI C tg Pd S T ∧ Ch C H (T ++ s) K) ∧ j = n) := by
  refine CallR.of c42 (by simp [A42]) fun F hF => ?_
  show VC Tryz.prog B42 F H n [] (RetQ [] _)
  refine phase1 (tg := tg) ho hc hd hN hJ hS hb (by simp [hF]) (by simp [hF]) (by simp [hF]) (.block 2 (.loop L42_2)) _ fun F' K D f0 f1 f2 f6 hsh hP hC => ?_
  simp
  refine LoopV.of (fun t F' K n' ms => ∃ B, t = N - B ∧ 0 < B ∧ F'.get 0 = some (.sl C.bk 0 N 1) ∧ F'.get 1 = some (.int .i64 (N : Int)) ∧ F'.get 2 = some C.fv ∧ F'.get 6 = some (.int .i64 (B : Int)) ∧ n = n' ∧ ms = [] ∧ ∃ D, Sh B D ∧ Ph2 C tg Pd S D ∧ Ch C H (D.flatten ++ s) K) (N - 20) ⟨20, rfl, by omega, f0, f1, f2, f6, rfl, rfl, D, hsh, hP, hC⟩ ?_
  clear f0 f1 f2 f6 hsh hP hC D
  rintro t F1 K n' ms ⟨B, rfl, hB, f0, f1, f2, f6, rfl, rfl, D, hsh, hP, hC⟩
  by_cases hlt : B < N
  · simp [L42_2, R42_7, f6, f1, hlt]
    rw [← vc_seq]
    refine pass27 (tg := tg) ho hc hN hJ hS hb hB hlt hsh hP hC (by simp [f0]) (by simp [f1]) (by simp [f2]) (by simp [f6]) _ fun F' K' D' g0 g1 g2 g6 hsh' hP' hC' => ?_
    simp
    exact ⟨N - 2 * B, by omega, 2 * B, rfl, by omega, g0, g1, g2, g6, D', hsh', hP', hC'⟩
  · have hl : D.flatten.length ≤ B := by have := hP.perm.length_eq; omega
    simp [L42_2, R42_7, f6, f1, hlt]
    refine ⟨D.flatten, ⟨hP.perm, fun hp ht => ?_⟩, hC⟩
    rcases hsh.one hl with rfl | ⟨X, rfl⟩
    · simp
    · simpa using (hP.srt hp ht).1 X (by simp)
theorem sort16 (ho : C.Ok Tryz.prog) (hc : Srt.Ord C.c Pd) {H : Hp} {n : Nat} {S s : List α} {N : Nat} (hd : Dt C H (S ++ s)) (hN : N = S.length) (hJ : C.J H) (hS : ∀ z ∈ S, C.El z) (hb : N < 1000000) :
    CallR Tryz.prog 20 [.sl C.bk 0 N 1, C.fv] H n (fun w K j => w = .tup [] ∧ (∃ T, GoodI C tg Pd S T ∧ Ch C H (T ++ s) K) ∧ j = n) := by
  refine CallR.of c20 (by simp [A20]) fun F hF => ?_
  simp [A20, B20, R20_0, hF]
  refine CalV.of (stable27 (tg := tg) ho hc hd hN hJ hS hb) fun w K' n'' ⟨q1, q2, q3⟩ => ?_
  subst q1 q3
  simp
  exact q2
end Go.Abs
