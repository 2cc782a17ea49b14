/- A part of the proof. -/
import Derived.Test.YtfjojlmeaeoncaaBq7
namespace Go.Abs
open Go.Proofs
set_option maxRecDepth 100000

theorem OwnB.ld1 {k : ABlk} {l : List AV} {o : Nat} (h : OwnB k l) (ho : o < l.length) : Go.Abs.ld1 (some k) o = .val l[o] := by
  obtain ⟨u, z, bs, t, rfl, hu, hg, hi⟩ := h
  rw [ld1_some, hg, List.getElem?_eq_getElem ho]; rfl
theorem kinds3 (e : Ex) (ks : List Int) (h : e.sz ≤ lim) (hks : ks.length ≤ lim) : FnPure Try.prog 3 [e.av, .ds (intsC ks) ks.length 1] (.bool true) := by
  refine pureV c3 (by simp) (by simp) (by simp [A3]) fun F hF => ?_
  have cont : ∀ (F : Fr) (H : Hp) (n b : Nat) (kb : ABlk), F.get 1 = some (.ds (intsC ks) ks.length 1) → F.get 2 = some (.ptr 0 0) → F.get 5 = some (.sl b 0 ks.length 1) → H.get b = some kb → OwnB kb (intsC ks) → b < n → H.get 0 = some (.cells 8 [] e.cells .nil) →
      VC Try.prog (.seq R3_2 (.seq R3_3 (.seq (.seq R3_4 (.block 0 (.loop L3_0))) (.seq R3_9 .ret)))) F H n [] (RetQ [rTmp 4] fun v1 H' _ => Frz H'.get v1 (.bool true)) := by
    intro F H n b kb f1 f2 f5 hb ho hbn h0
    have hz : Frz H.get (.sl b 0 ks.length 1) (.ds (intsC ks) ks.length 1) := OwnS.frz (n := n) ⟨by simp, .inr ⟨b, kb, rfl, hbn, hb, ho⟩⟩ (.pure (by simp))
    simp [R3_2, f1, f2, f5, h0]
    refine CalV.frz (kind7 ks hks e h) (by simp) (.cons _ _ _ _ (.pure _ (by simp)) (.cons _ _ _ _ hz .nil)) ?_
    simp [R3_3, f1, f2, h0]
    refine CalV.pure (kind8 ks hks e h) ?_
    simp [R3_4]
    unfold lim at hks
    refine LoopV.of (fun j F K m_ ms => ∃ i, j = ks.length - i ∧ i ≤ ks.length ∧ F.get 1 = some (.ds (intsC ks) ks.length 1) ∧ F.get 5 = some (.sl b 0 ks.length 1) ∧ F.get 10 = some (.int .i64 (i : Int)) ∧ K = H ∧ ms = [] ∧
      F.get 6 = some (.int .i64 (e.kindOf ks).1) ∧ F.get 7 = some (.int .i64 (e.kindOf ks).2) ∧ F.get 8 = some (.int .i64 (e.kindOf ks).1) ∧ F.get 9 = some (.int .i64 (e.kindOf ks).2)) ks.length ⟨0, by simp [f1, f5]⟩ ?_
    rintro j F K m_ ms ⟨i, rfl, hi, f1, f5, f10, rfl, rfl, f6, f7, f8, f9⟩
    by_cases hlt : i < ks.length
    · have hx := ixa_int (k := .i64) hlt
      have hy := cIxa_sl (b := b) (o := 0) (sz := 1) (k := .i64) hlt
      have hl := ho.ld1 (o := 0 + i * 1) (by simp; omega)
      have hv : (intsC ks)[0 + i * 1]'(by simp; omega) = .int .i64 ks[i] := by simp [intsC]
      rw [hv] at hl
      simp [L3_0, R3_5, f1, f5, f10, hlt, R3_6]
      refine DrwV.of (ce0_ok (P := Try.prog)) ?_
      simp at hy hl
      simp [clearF_get, f1, f5, f10, hx, hy, hb, hl, R3_8, wrap_nat i (by omega), f6, f7, f8, f9]
      exact ⟨ks.length - (i + 1), by omega, i + 1, rfl, hlt, by omega⟩
    · simp [L3_0, R3_5, f1, f5, f10, hlt, R3_9, f6, f7, f8, f9]
      refine CalV.pure awake9 ?_
      simp
      exact .bool rfl
  obtain ⟨op, v, t, m, col, args⟩ := e
  cases ks with
  | nil =>
    simp [A3, B3, R3_0, R3_1, hF, Ex.av, Ex.cells]
    rw [show ∀ H, cApp 1 8 2 (.sl 1 0 0 1) (.ds (intsC []) 0 1) H = .val (.sl 1 0 0 1) from fun _ => rfl]
    simp
    refine cont _ _ 2 1 (.cells 0 [] [] .nil) ?_ ?_ ?_ ?_ (OwnB.list rfl) (by omega) ?_ <;> simp [hF, Ex.cells]
  | cons a r =>
    unfold lim at hks
    simp [A3, B3, R3_0, R3_1, hF, Ex.av, Ex.cells]
    refine OwnS.app (k := r.length + 1) (new := intsC (a :: r)) (len := 0) (l := []) ⟨by simp, .inr ⟨1, .cells 0 [] [] .nil, rfl, by omega, by simp, .list rfl⟩⟩ (by simp) (by simp) (by simp) (by omega) (by omega) (by unfold big; simp at hks; omega) (by omega) (by simp) fun H' ho' hk => ?_
    obtain ⟨_, ⟨hh, _⟩ | ⟨b, kb, hb, hbn, hkb, hob⟩⟩ := ho'
    · cases hh
    · injection hb with hb
      subst hb
      simp
      refine cont _ H' 3 2 kb ?_ ?_ ?_ hkb hob (by omega) ?_
      · simp [hF]
      · simp
      · simp
      · rw [hk 0 (by omega) (by simp)]; simp [Ex.cells]
end Go.Abs
