/- A part of the proof. -/
import Derived.Test.YtmmgdjecahcemaaGreatEk1
namespace Go.Abs
open Go.Proofs
set_option maxRecDepth 100000

set_option maxHeartbeats 1000000 in
theorem ins8 (c : Cod) (hc : 0 ≤ c.regs ∧ c.regs ≤ 256) (x : Ins) : FnPure Tryz.prog 17 [c.av, x.av] (.bool (c.ok x)) := by
  refine pureV c17 (by simp) (by simp) (by simp [A17]) fun F hF => ?_
  obtain ⟨op, a, b, cc, n, j, ex, id, lo, hi, li, hii, v⟩ := x
  simp only [Cod.ok]
  by_cases h1 : op = 1
  · subst h1
    simp [A17, B17, R17_0, R17_1, R17_2, hF, Cod.av, Cod.cells, Ins.av, Ins.cells]
    refine CalV.pure (cur14 c a) ?_
    simp
    exact .bool (by simp)
  by_cases h2 : op = 2
  · subst h2
    simp [A17, B17, R17_0, R17_1, R17_3, R17_4, hF, Cod.av, Cod.cells, Ins.av, Ins.cells]
    refine CalV.pure (cur14 c a) ?_
    generalize c.cursor a = q
    cases q with
    | false => simp; exact .bool (by simp)
    | true =>
      simp
      refine CalV.pure (rgs15 c hc b n) ?_
      generalize c.rgs b n = q
      cases q with
      | false => simp; exact .bool (by simp)
      | true =>
        by_cases hl : lo = -1
        · by_cases hh : hi = -1
          · simp [hl, hh]; exact .bool (by simp)
          · simp [hl, hh]
            refine CalV.pure (reg16 c hi) ?_
            simp
            exact .bool (by simp)
        · simp [hl]
          refine CalV.pure (reg16 c lo) ?_
          generalize c.reg lo = q
          cases q with
          | false => simp; exact .bool (by simp)
          | true =>
            by_cases hh : hi = -1
            · simp [hh]; exact .bool (by simp)
            · simp [hh]
              refine CalV.pure (reg16 c hi) ?_
              simp
              exact .bool (by simp)
  by_cases h3 : op = 3
  · subst h3
    simp [A17, B17, R17_0, R17_1, R17_3, R17_5, R17_6, hF, Cod.av, Cod.cells, Ins.av, Ins.cells]
    refine CalV.pure (cur14 c a) ?_
    generalize c.cursor a = q
    cases q with
    | false => simp; exact .bool (by simp)
    | true =>
      simp
      refine CalV.pure (tgt17 c j) ?_
      simp
      exact .bool (by simp)
  by_cases h4 : op = 4
  · subst h4
    simp [A17, B17, R17_0, R17_1, R17_3, R17_5, R17_7, R17_8, hF, Cod.av, Cod.cells, Ins.av, Ins.cells]
    refine CalV.pure (reg16 c a) ?_
    generalize c.reg a = q
    cases q with
    | false => simp; exact .bool (by simp)
    | true =>
      simp
      refine CalV.pure (cur14 c b) ?_
      generalize c.cursor b = q
      cases q with
      | false => simp; exact .bool (by simp)
      | true =>
        by_cases g3 : 0 ≤ cc
        · simp [g3]; exact .bool (by simp)
        · simp [g3]; exact .bool (by simp)
  by_cases h5 : op = 5
  · subst h5
    simp [A17, B17, R17_0, R17_1, R17_3, R17_5, R17_7, R17_9, R17_10, hF, Cod.av, Cod.cells, Ins.av, Ins.cells]
    refine CalV.pure (reg16 c a) ?_
    generalize c.reg a = q
    cases q with
    | false => simp; exact .bool (by simp)
    | true =>
      simp
      refine CalV.pure (may18 v) ?_
      simp
      exact .bool (by simp)
  by_cases h6 : op = 6
  · subst h6
    simp only [show ¬ (6 : Int) = 1 by decide, show ¬ (6 : Int) = 2 by decide, show ¬ (6 : Int) = 3 by decide, show ¬ (6 : Int) = 4 by decide, show ¬ (6 : Int) = 5 by decide, if_false, if_true]
    obtain ⟨w, hw⟩ : ∃ w, w = (c.reg a && (c.reg b && (decide (4 ≤ ex) && (decide (ex ≤ 21) && ((decide (ex < 8) || c.reg cc) && c.target j))))) := ⟨_, rfl⟩
    rw [← hw]
    have key : ∀ (F : Fr) (H : Hp) (m : Nat) (p q : Bool), (decide (4 ≤ ex) && (decide (ex ≤ 21) && (decide (ex < 8) || c.reg cc))) = (q || (p && c.reg cc)) → F.get 2 = some (.ptr 0 0) → F.get 3 = some (.ptr 1 0) → F.get 5 = some (.bool p) → F.get 6 = some (.bool q) →
        H.get 0 = some (.cells 3 [] c.cells .nil) → H.get 1 = some (.cells 15 [] (Ins.mk 6 a b cc n j ex id lo hi li hii v).cells .nil) →
        VC Tryz.prog (.seq R17_14 .ret) F H m [] (RetQ [rTmp 4] fun u H' _ => Frz H'.get u (.bool w)) := by
      intro F H m p q hpq f2 f3 f5 f6 hb hx
      have e : (decide (4 ≤ ex) && (decide (ex ≤ 21) && ((decide (ex < 8) || c.reg cc) && c.target j))) = ((q || (p && c.reg cc)) && c.target j) := by
        rw [← hpq]; simp only [Bool.and_assoc]
      rw [hw, e]
      clear e hpq hw
      simp only [Cod.cells] at hb
      simp only [Ins.cells] at hx
      simp [R17_14, f2, f3, hb, hx]
      refine CalV.pure (reg16 c a) ?_
      generalize c.reg a = r1
      cases r1 with
      | false => simp; exact .bool (by simp)
      | true =>
        simp [f2, f3, hb, hx]
        refine CalV.pure (reg16 c b) ?_
        generalize c.reg b = r2
        cases r2 with
        | false => simp; exact .bool (by simp)
        | true =>
          cases q with
          | true =>
            simp [f2, f3, f6, hb, hx]
            refine CalV.pure (tgt17 c j) ?_
            simp
            exact .bool (by simp)
          | false =>
            cases p with
            | false => simp [f5, f6]; exact .bool (by simp)
            | true =>
              simp [f2, f3, f5, f6, hb, hx]
              refine CalV.pure (reg16 c cc) ?_
              generalize c.reg cc = r3
              cases r3 with
              | false => simp; exact .bool (by simp)
              | true =>
                simp [f2, f3, hb, hx]
                refine CalV.pure (tgt17 c j) ?_
                simp
                exact .bool (by simp)
    by_cases g1 : 8 ≤ ex
    · by_cases g2 : ex ≤ 21
      · simp [A17, B17, R17_0, R17_1, R17_3, R17_5, R17_7, R17_9, R17_11, R17_12, R17_13, hF, Cod.av, Cod.cells, Ins.av, Ins.cells, g1, g2, show ¬ ex = 4 by omega, show ¬ ex = 5 by omega, show ¬ ex = 6 by omega, show ¬ ex = 7 by omega]
        refine key _ _ _ true false ?_ ?_ ?_ ?_ ?_ ?_ ?_
        · simp [show 4 ≤ ex by omega, g2, show ¬ ex < 8 by omega]
        all_goals simp [Cod.cells, Ins.cells]
      · simp [A17, B17, R17_0, R17_1, R17_3, R17_5, R17_7, R17_9, R17_11, R17_12, R17_13, hF, Cod.av, Cod.cells, Ins.av, Ins.cells, g1, g2, show ¬ ex = 4 by omega, show ¬ ex = 5 by omega, show ¬ ex = 6 by omega, show ¬ ex = 7 by omega]
        refine key _ _ _ false false ?_ ?_ ?_ ?_ ?_ ?_ ?_
        · simp [g2]
        all_goals simp [Cod.cells, Ins.cells]
    · by_cases g3 : 4 ≤ ex
      · have : ex = 4 ∨ ex = 5 ∨ ex = 6 ∨ ex = 7 := by omega
        rcases this with rfl | rfl | rfl | rfl <;>
        · simp [A17, B17, R17_0, R17_1, R17_3, R17_5, R17_7, R17_9, R17_11, R17_12, R17_13, hF, Cod.av, Cod.cells, Ins.av, Ins.cells]
          refine key _ _ _ false true ?_ ?_ ?_ ?_ ?_ ?_ ?_
          · simp
          all_goals simp [Cod.cells, Ins.cells]
      · simp [A17, B17, R17_0, R17_1, R17_3, R17_5, R17_7, R17_9, R17_11, R17_12, R17_13, hF, Cod.av, Cod.cells, Ins.av, Ins.cells, g1, show ¬ ex = 4 by omega, show ¬ ex = 5 by omega, show ¬ ex = 6 by omega, show ¬ ex = 7 by omega]
        refine key _ _ _ false false ?_ ?_ ?_ ?_ ?_ ?_ ?_
        · simp [g3]
        all_goals simp [Cod.cells, Ins.cells]
  by_cases h7 : op = 7
  · subst h7
    simp [A17, B17, R17_0, R17_1, R17_3, R17_5, R17_7, R17_9, R17_11, R17_15, R17_16, hF, Cod.av, Cod.cells, Ins.av, Ins.cells]
    refine CalV.pure (reg16 c a) ?_
    generalize c.reg a = q
    cases q with
    | false => simp; exact .bool (by simp)
    | true =>
      simp
      refine CalV.pure (tgt17 c j) ?_
      simp
      exact .bool (by simp)
  by_cases h8 : op = 8
  · subst h8
    simp [A17, B17, R17_0, R17_1, R17_3, R17_5, R17_7, R17_9, R17_11, R17_15, R17_17, R17_18, hF, Cod.av, Cod.cells, Ins.av, Ins.cells]
    refine CalV.pure (rgs15 c hc a n) ?_
    simp
    exact .bool (by simp)
  by_cases h9 : op = 9
  · subst h9
    simp [A17, B17, R17_0, R17_1, R17_3, R17_5, R17_7, R17_9, R17_11, R17_15, R17_17, R17_19, R17_20, hF, Cod.av, Cod.cells, Ins.av, Ins.cells]
    refine CalV.pure (cur14 c a) ?_
    generalize c.cursor a = q
    cases q with
    | false => simp; exact .bool (by simp)
    | true =>
      simp
      refine CalV.pure (rgs15 c hc b n) ?_
      simp
      exact .bool (by simp)
  by_cases h10 : op = 10
  · subst h10
    simp [A17, B17, R17_0, R17_1, R17_3, R17_5, R17_7, R17_9, R17_11, R17_15, R17_17, R17_19, R17_21, R17_22, hF, Cod.av, Cod.cells, Ins.av, Ins.cells]
    refine CalV.pure (tgt17 c j) ?_
    simp
    exact .bool (by simp)
  simp [A17, B17, R17_0, R17_1, R17_3, R17_5, R17_7, R17_9, R17_11, R17_15, R17_17, R17_19, R17_21, R17_23, hF, Cod.av, Cod.cells, Ins.av, Ins.cells, h1, h2, h3, h4, h5, h6, h7, h8, h9, h10]
  exact .bool (by simp)
end Go.Abs
