/- Sorting in place: few elements, one by one. -/
import Derived.Test.YtlnbbokmibfegaaGreatSr7
namespace Go.Abs
open Go.Proofs
set_option maxRecDepth 100000
open Classical
variable {α : Type} {C : Cm α} {tg : α → Nat} {Pd : α → Prop}
/-- sorted, if it can be -/
def GoodI (C : Cm α) (tg : α → Nat) (Pd : α → Prop) (S T : List α) : Prop := T.Perm S ∧ ((∀ x ∈ S, Pd x) → S.Pairwise (fun x y => tg x < tg y) → T.Pairwise (Srt.Le C.c tg))
theorem GoodI.add {S T T' : List α} {x : α} (h : GoodI C tg Pd S T) (g : Srt.Good C.c tg Pd T [x] T') : GoodI C tg Pd (S ++ [x]) T' := by
  refine ⟨g.1.trans (List.Perm.append_right _ h.1), fun hp ht => ?_⟩
  rw [List.pairwise_append] at ht
  refine g.2 (fun y hy => ?_) (h.2 (fun y hy => hp y (by simp [hy])) ht.1) (by simp) fun y hy z hz => ht.2.2 y (h.1.mem_iff.1 hy) z hz
  rcases List.mem_append.1 hy with hy | hy
  · exact hp y (by simp [h.1.mem_iff.1 hy])
  · exact hp y (by simp [List.mem_singleton.1 hy])
theorem ins67 (ho : C.Ok Tryz.prog) (hc : Srt.Ord C.c Pd) {H : Hp} {n : Nat} {p S s : List α} {N : Nat} (hd : Dt C H (p ++ (S ++ s))) (hJ : C.J H) (hS : ∀ z ∈ S, C.El z) (hN : p.length + S.length ≤ N) (hb : N < 1000000) {a b : Nat} (ea : a = p.length) (eb : b = p.length + S.length) :
    CallR Tryz.prog 83 [.sl C.bk 0 N 1, .int .i64 (a : Int), .int .i64 (b : Int), C.fv] H n (fun w K j => w = .tup [] ∧ (∃ T, GoodI C tg Pd S T ∧ Ch C H (p ++ (T ++ s)) K) ∧ j = n) := by
  refine CallR.of c83 (by simp [A83]) fun F hF => ?_
  have w0 : IntKind.i64.wrap ((a : Int) + 1) = ((a + 1 : Nat) : Int) := by rw [wrapS _ (by omega) (by omega)]; omega
  simp [A83, B83, R83_0, hF, w0]
  have h00 : ∃ T, GoodI C tg Pd (S.take 1) T ∧ Ch C H (p ++ (T ++ (S.drop 1 ++ s))) H := by
    refine ⟨S.take 1, ⟨.refl _, fun _ _ => ?_⟩, .refl ?_⟩
    · cases S with
      | nil => simp
      | cons x r => simp
    · rw [← List.append_assoc (S.take 1), List.take_append_drop]; exact hd
  refine LoopV.of (fun t F' K n' ms => ∃ e, t = S.length + 1 - e ∧ 1 ≤ e ∧ e ≤ S.length + 1 ∧ F'.get 0 = some (.sl C.bk 0 N 1) ∧ F'.get 1 = some (.int .i64 (a : Int)) ∧ F'.get 2 = some (.int .i64 (b : Int)) ∧ F'.get 3 = some C.fv ∧ F'.get 8 = some (.int .i64 ((a + e : Nat) : Int)) ∧ n = n' ∧ ms = [] ∧ ∃ T, GoodI C tg Pd (S.take e) T ∧ Ch C H (p ++ (T ++ (S.drop e ++ s))) K) S.length ⟨1, by omega, by omega, by omega, by simp [hF], by simp [hF], by simp [hF], by simp [hF], by simp, rfl, rfl, h00⟩ ?_
  rintro t F1 K n' ms ⟨e, rfl, he1, he2, f0, f1, f2, f3, f8, rfl, rfl, T, hT, hC⟩
  obtain ⟨E, hE⟩ : ∃ E, E = a + e := ⟨_, rfl⟩
  rw [← hE] at f8
  by_cases hlt : E < b
  · have hel : e < S.length := by omega
    have hTl : T.length = e := by have := hT.1.length_eq; simp at this; omega
    have hEl : ∀ z ∈ T, C.El z := fun z hz => hS z (List.mem_of_mem_take (hT.1.mem_iff.1 hz))
    have hx := hS S[e] (List.getElem_mem hel)
    have hsn : S.take (e + 1) = S.take e ++ [S[e]] := List.take_succ_eq_append_getElem hel
    rw [List.drop_eq_getElem_cons hel] at hC
    generalize S[e] = x at hx hsn hC
    generalize hrest : S.drop (e + 1) ++ s = rest at hC
    simp [L83_1, R83_1, f8, f2, hlt, R83_2]
    have hC0 : Ch C H (p ++ (T ++ x :: ([] ++ rest))) K := by
      rw [← hrest]; simpa using hC
    refine LoopV.of (fun t F' K' n' ms => ∃ T1 T2, t = T1.length ∧ T = T1 ++ T2 ∧ F'.get 0 = some (.sl C.bk 0 N 1) ∧ F'.get 1 = some (.int .i64 (a : Int)) ∧ F'.get 2 = some (.int .i64 (b : Int)) ∧ F'.get 3 = some C.fv ∧ F'.get 8 = some (.int .i64 (E : Int)) ∧ F'.get 9 = some (.int .i64 ((a + T1.length : Nat) : Int)) ∧ n = n' ∧ ms = [] ∧ (∀ y, T2.head? = some y → C.c x y < 0) ∧ Ch C H (p ++ (T1 ++ x :: (T2 ++ rest))) K') T.length ⟨T, [], rfl, by simp, by simp [f0], by simp [f1], by simp [f2], by simp [f3], by simp [f8], by simp [hE, hTl], rfl, rfl, by simp, hC0⟩ ?_
    clear f0 f1 f2 f3 f8 hC hC0
    rintro t F2 K' n' ms ⟨T1, T2, rfl, hT12, f0, f1, f2, f3, f8, f9, rfl, rfl, h2, hC⟩
    obtain ⟨B, hB⟩ : ∃ B, B = a + T1.length := ⟨_, rfl⟩
    rw [← hB] at f9
    have done : (∀ y, T1.getLast? = some y → ¬ C.c x y < 0) → ∃ T', GoodI C tg Pd (S.take (e + 1)) T' ∧ Ch C H (p ++ (T' ++ (S.drop (e + 1) ++ s))) K' := fun h1 => by
      refine ⟨T1 ++ x :: T2, ?_, by rw [hrest]; simpa using hC⟩
      rw [hsn]
      have := Srt.Good.snoc (c := C.c) (tg := tg) (Pd := Pd) hc h1 h2
      rw [← hT12] at this
      exact hT.add this
    by_cases h0 : T1.length = 0
    · have hT1 : T1 = [] := List.length_eq_zero_iff.1 h0
      subst hT1
      have hBa : ¬ a < B := by simp at hB; omega
      simp [L83_0, R83_3]
      refine DrwV.of (ce0_ok (P := Tryz.prog)) ?_
      have w1 : IntKind.i64.wrap ((E : Int) + 1) = ((a + (e + 1) : Nat) : Int) := by rw [wrapS _ (by omega) (by omega)]; omega
      simp [clearF_get, f1, f9, hBa, R83_6, f8, w1]
      exact ⟨S.length + 1 - (e + 1), by omega, e + 1, rfl, by omega, by omega, f0, f2, f3, by omega, done (by simp)⟩
    · obtain ⟨U, y, rfl⟩ : ∃ U y, T1 = U ++ [y] := ⟨T1.dropLast, T1.getLast (by intro e; rw [e] at h0; exact h0 rfl), (List.dropLast_concat_getLast _).symm⟩
      rw [List.length_append, List.length_singleton] at hB
      have hBa : a < B := by omega
      obtain ⟨A, hA⟩ : ∃ A, A = a + U.length := ⟨_, rfl⟩
      have hlen : T.length = U.length + 1 + T2.length := by rw [hT12]; simp; omega
      have w2 : IntKind.i64.wrap ((B : Int) - 1) = (A : Int) := by rw [wrapS _ (by omega) (by omega)]; omega
      have eD : p ++ ((U ++ [y]) ++ x :: (T2 ++ rest)) = (p ++ U) ++ y :: ([] ++ x :: (T2 ++ rest)) := by simp
      rw [eD] at hC
      obtain ⟨y1, y2, l1, l2, s1, s2, t2⟩ := hC.swap' ho rfl (A := A) (B := B) (by simp; omega) (by simp; omega)
      have x1 := ix_dt (bk := C.bk) (N := N) (i := A) (by omega)
      have x2 := ix_dt (bk := C.bk) (N := N) (i := B) (by omega)
      have hEy : C.El y := hEl y (by rw [hT12]; simp)
      have hJ' : C.J K' := ho.stay _ _ hJ hC.2
      simp [L83_0, R83_3]
      refine DrwV.of (C.ce_ok ho hx hEy) ?_
      simp [clearF_get, f0, f1, f3, f9, hBa, Cm.fv, w2, x1, x2, l1, l2, Cm.ce_call hJ']
      by_cases hlt0 : C.c x y < 0
      · simp [hlt0, R83_4]
        refine DrwV.of (ce0_ok (P := Tryz.prog)) ?_
        simp [clearF_get, f0, f1, f2, f3, f8, f9, Cm.fv, w2, x1, x2, l1, l2, s1, s2, R83_5]
        refine ⟨U.length, by omega, U, rfl, y :: T2, by rw [hT12]; simp, by omega, by simpa using hlt0, by simpa using t2⟩
      · have w1 : IntKind.i64.wrap ((E : Int) + 1) = ((a + (e + 1) : Nat) : Int) := by rw [wrapS _ (by omega) (by omega)]; omega
        simp [clearF_get, hlt0, R83_6, f0, f1, f2, f3, f8, w1, Cm.fv]
        rw [← eD] at hC
        exact ⟨S.length + 1 - (e + 1), by omega, e + 1, rfl, by omega, by omega, by omega, done fun z hz => by simp at hz; subst hz; exact hlt0⟩
  · have hee : S.take e = S := List.take_of_length_le (by omega)
    have hed : S.drop e = [] := List.drop_eq_nil_of_le (by omega)
    rw [hee] at hT
    rw [hed] at hC
    simp [L83_1, R83_1, f8, f2, hlt]
    exact ⟨T, hT, by simpa using hC⟩
end Go.Abs
