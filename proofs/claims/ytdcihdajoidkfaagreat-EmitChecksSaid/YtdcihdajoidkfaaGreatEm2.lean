/- A part of the proof. -/
import Derived.Test.YtdcihdajoidkfaaGreatEm1
namespace Go.Abs
open Go.Proofs
set_option maxRecDepth 100000

theorem may7 (c : Cod) (hc : 0 ≤ c.regs ∧ c.regs ≤ 256) (x : Ins) : FnPure Tryz.prog 7 [c.av, x.av] (.bool (c.ok x)) := by
  refine pureV c7 (by simp) (by simp) (by simp [A7]) fun F hF => ?_
  obtain ⟨op, a, b, cc, n, j, ex, id, lo, hi, li, hii, v⟩ := x
  have cont : ∀ (F : Fr) (H : Hp), F.get 2 = some (.ptr 0 0) → F.get 3 = some (.ptr 1 0) → F.get 4 = some (.bool false) → F.get 5 = some (.fn (.func 11) [] [.ptr 0 0]) → F.get 6 = some (.fn (.func 12) [] [.ptr 0 0]) → F.get 7 = some (.bool (c.cursor a)) → F.get 8 = some (.bool (c.target j)) →
      H.get 0 = some (.cells 3 [] c.cells .nil) → H.get 1 = some (.cells 15 [] (Ins.mk op a b cc n j ex id lo hi li hii v).cells .nil) →
      VC Tryz.prog (.seq (.seq R7_5 (.block 0 (.seq R7_6 (.cond (slotG 34) (.seq R7_7 .ret) (.seq R7_8 (.cond (slotG 37) (.seq R7_9 .ret) (.seq R7_10 (.cond (slotG 70) (.seq R7_11 .ret) (.seq R7_12 (.cond (slotG 76) (.seq R7_13 .ret) (.seq R7_14 (.cond (slotG 104) (.seq R7_15 .ret) (.seq R7_16 (.cond (slotG 115) (.seq R7_17 .ret) (.seq R7_18 (.cond (slotG 151) (.seq R7_19 .ret) (.seq R7_20 (.cond (slotG 160) (.seq R7_21 .ret) (.seq R7_22 (.cond (slotG 168) (.seq R7_23 .ret) (.seq R7_24 (.cond (slotG 179) (.seq R7_25 .ret) .skip)))))))))))))))))))))) (.seq R7_26 .ret)) F H 2 [] (RetQ [rTmp 4] fun u H' _ => Frz H'.get u (.bool (c.ok (Ins.mk op a b cc n j ex id lo hi li hii v)))) := by
    intro F H f2 f3 f4 f5 f6 f7 f8 hb hx
    have hb' := hb
    simp only [Cod.cells] at hb'
    simp only [Ins.cells] at hx
    simp only [Cod.ok]
    by_cases h1 : op = 1
    · subst h1
      simp [R7_5, R7_6, R7_7, f2, f3, f7, hx]
      exact .bool (by simp)
    by_cases h2 : op = 2
    · subst h2
      generalize c.cursor a = cu at *
      cases cu with
      | false =>
        simp [R7_5, R7_6, R7_8, R7_9, f2, f3, f7, hx]
        exact .bool (by simp)
      | true =>
        simp [R7_5, R7_6, R7_8, R7_9, f2, f3, f5, f6, f7, hx]
        refine CalV.same (rgs12 c hc b n hb) ?_
        generalize c.rgs b n = q
        cases q with
        | false => simp [hx, f3]; exact .bool (by simp)
        | true =>
          by_cases hl : lo = -1
          · by_cases hh : hi = -1
            · simp [hx, hl, hh, f3]; exact .bool (by simp)
            · simp [hx, hl, hh, f3, f5]
              refine CalV.same (reg11 c hi hb) ?_
              simp
              exact .bool (by simp)
          · simp [hx, hl, f3, f5]
            refine CalV.same (reg11 c lo hb) ?_
            generalize c.reg lo = q
            cases q with
            | false => simp [hx, f3]; exact .bool (by simp)
            | true =>
              by_cases hh : hi = -1
              · simp [hx, hh, f3]; exact .bool (by simp)
              · simp [hx, hh, f3, f5]
                refine CalV.same (reg11 c hi hb) ?_
                simp
                exact .bool (by simp)
    by_cases h3 : op = 3
    · subst h3
      generalize c.cursor a = cu at *
      cases cu with
      | false => simp [R7_5, R7_6, R7_8, R7_10, R7_11, f3, f7, hx]; exact .bool (by simp)
      | true => simp [R7_5, R7_6, R7_8, R7_10, R7_11, f3, f7, f8, hx]; exact .bool (by simp)
    by_cases h4 : op = 4
    · subst h4
      simp [R7_5, R7_6, R7_8, R7_10, R7_12, R7_13, f2, f3, f5, hx]
      refine CalV.same (reg11 c a hb) ?_
      generalize c.reg a = q
      cases q with
      | false => simp [hx, f3]; exact .bool (by simp)
      | true =>
        by_cases g1 : 0 ≤ b
        · by_cases g2 : b < c.cur
          · by_cases g3 : 0 ≤ cc
            · simp [hx, f2, f3, hb', g1, g2, g3]; exact .bool (by simp [Cod.cursor, g1, g2, g3])
            · simp [hx, f2, f3, hb', g1, g2, g3]; exact .bool (by simp [Cod.cursor, g1, g2, g3])
          · simp [hx, f2, f3, hb', g1, g2]; exact .bool (by simp [Cod.cursor, g1, g2])
        · simp [hx, f2, f3, hb', g1]; exact .bool (by simp [Cod.cursor, g1])
    by_cases h5 : op = 5
    · subst h5
      simp [R7_5, R7_6, R7_8, R7_10, R7_12, R7_14, R7_15, f2, f3, f5, hx]
      refine CalV.same (reg11 c a hb) ?_
      generalize c.reg a = q
      cases q with
      | false => simp [hx, f3]; exact .bool (by simp)
      | true =>
        simp [hx, f3]
        refine CalV.pure (may13 v) ?_
        simp
        exact .bool (by simp)
    by_cases h6 : op = 6
    · subst h6
      simp [R7_5, R7_6, R7_8, R7_10, R7_12, R7_14, R7_16, R7_17, f2, f3, f5, hx]
      refine CalV.same (reg11 c a hb) ?_
      generalize c.reg a = q
      cases q with
      | false => simp [hx, f3]; exact .bool (by simp)
      | true =>
        simp [hx, f3, f5]
        refine CalV.same (reg11 c b hb) ?_
        generalize c.reg b = q
        cases q with
        | false => simp [hx, f3]; exact .bool (by simp)
        | true =>
          by_cases g1 : 4 ≤ ex
          · by_cases g2 : ex ≤ 21
            · by_cases g3 : ex < 8
              · simp [hx, f3, f8, g1, g2, g3]; exact .bool (by simp [g1, g2, g3])
              · simp [hx, f3, f5, g1, g2, g3]
                refine CalV.same (reg11 c cc hb) ?_
                generalize c.reg cc = q
                cases q with
                | false => simp [hx, f3]; exact .bool (by simp [g1, g2, g3])
                | true => simp [hx, f3, f8]; exact .bool (by simp [g1, g2, g3])
            · simp [hx, f3, g1, g2]; exact .bool (by simp [g1, g2])
          · simp [hx, f3, g1]; exact .bool (by simp [g1])
    by_cases h7 : op = 7
    · subst h7
      simp [R7_5, R7_6, R7_8, R7_10, R7_12, R7_14, R7_16, R7_18, R7_19, f2, f3, f5, hx]
      refine CalV.same (reg11 c a hb) ?_
      generalize c.reg a = q
      cases q with
      | false => simp [hx, f3]; exact .bool (by simp)
      | true => simp [hx, f3, f8]; exact .bool (by simp)
    by_cases h8 : op = 8
    · subst h8
      simp [R7_5, R7_6, R7_8, R7_10, R7_12, R7_14, R7_16, R7_18, R7_20, R7_21, f2, f3, f6, hx]
      refine CalV.same (rgs12 c hc a n hb) ?_
      simp
      exact .bool (by simp)
    by_cases h9 : op = 9
    · subst h9
      generalize c.cursor a = cu at *
      cases cu with
      | false => simp [R7_5, R7_6, R7_8, R7_10, R7_12, R7_14, R7_16, R7_18, R7_20, R7_22, R7_23, f3, f7, hx]; exact .bool (by simp)
      | true =>
        simp [R7_5, R7_6, R7_8, R7_10, R7_12, R7_14, R7_16, R7_18, R7_20, R7_22, R7_23, f3, f6, f7, hx]
        refine CalV.same (rgs12 c hc b n hb) ?_
        simp
        exact .bool (by simp)
    by_cases h10 : op = 10
    · subst h10
      simp [R7_5, R7_6, R7_8, R7_10, R7_12, R7_14, R7_16, R7_18, R7_20, R7_22, R7_24, R7_25, f3, f8, hx]
      exact .bool (by simp)
    simp [R7_5, R7_6, R7_8, R7_10, R7_12, R7_14, R7_16, R7_18, R7_20, R7_22, R7_24, R7_26, f3, hx, h1, h2, h3, h4, h5, h6, h7, h8, h9, h10]
    exact .bool (by simp [h1, h2, h3, h4, h5, h6, h7, h8, h9, h10])
  have fin : ∀ (F : Fr) (H : Hp) (p q : Bool), F.get 2 = some (.ptr 0 0) → F.get 3 = some (.ptr 1 0) → F.get 4 = some (.bool false) → F.get 5 = some (.fn (.func 11) [] [.ptr 0 0]) → F.get 6 = some (.fn (.func 12) [] [.ptr 0 0]) → F.get 7 = some (.bool p) → p = c.cursor a → F.get 8 = some (.bool q) → q = c.target j →
      H.get 0 = some (.cells 3 [] c.cells .nil) → H.get 1 = some (.cells 15 [] (Ins.mk op a b cc n j ex id lo hi li hii v).cells .nil) →
      VC Tryz.prog (.seq (.seq R7_5 (.block 0 (.seq R7_6 (.cond (slotG 34) (.seq R7_7 .ret) (.seq R7_8 (.cond (slotG 37) (.seq R7_9 .ret) (.seq R7_10 (.cond (slotG 70) (.seq R7_11 .ret) (.seq R7_12 (.cond (slotG 76) (.seq R7_13 .ret) (.seq R7_14 (.cond (slotG 104) (.seq R7_15 .ret) (.seq R7_16 (.cond (slotG 115) (.seq R7_17 .ret) (.seq R7_18 (.cond (slotG 151) (.seq R7_19 .ret) (.seq R7_20 (.cond (slotG 160) (.seq R7_21 .ret) (.seq R7_22 (.cond (slotG 168) (.seq R7_23 .ret) (.seq R7_24 (.cond (slotG 179) (.seq R7_25 .ret) .skip)))))))))))))))))))))) (.seq R7_26 .ret)) F H 2 [] (RetQ [rTmp 4] fun u H' _ => Frz H'.get u (.bool (c.ok (Ins.mk op a b cc n j ex id lo hi li hii v)))) := by
    intro F H p q f2 f3 f4 f5 f6 f7 e1 f8 e2 hb hx
    subst e1; subst e2
    exact cont F H f2 f3 f4 f5 f6 f7 f8 hb hx
  clear cont
  by_cases g1 : 0 ≤ a
  · by_cases g2 : 0 ≤ j
    · simp [A7, B7, R7_0, R7_1, R7_2, R7_3, R7_4, hF, g1, g2, Cod.av, Cod.cells, Ins.av, Ins.cells]
      refine fin _ _ _ _ ?_ ?_ ?_ ?_ ?_ (by simp; rfl) ?_ (by simp; rfl) ?_ ?_ ?_ <;> simp [hF, Cod.cursor, Cod.target, g1, g2, Cod.cells, Ins.cells]
    · simp [A7, B7, R7_0, R7_1, R7_2, R7_3, R7_4, hF, g1, g2, Cod.av, Cod.cells, Ins.av, Ins.cells]
      refine fin _ _ _ _ ?_ ?_ ?_ ?_ ?_ (by simp; rfl) ?_ (by simp; rfl) ?_ ?_ ?_ <;> simp [hF, Cod.cursor, Cod.target, g1, g2, Cod.cells, Ins.cells]
  · by_cases g2 : 0 ≤ j
    · simp [A7, B7, R7_0, R7_1, R7_2, R7_3, R7_4, hF, g1, g2, Cod.av, Cod.cells, Ins.av, Ins.cells]
      refine fin _ _ _ _ ?_ ?_ ?_ ?_ ?_ (by simp; rfl) ?_ (by simp; rfl) ?_ ?_ ?_ <;> simp [hF, Cod.cursor, Cod.target, g1, g2, Cod.cells, Ins.cells]
    · simp [A7, B7, R7_0, R7_1, R7_2, R7_3, R7_4, hF, g1, g2, Cod.av, Cod.cells, Ins.av, Ins.cells]
      refine fin _ _ _ _ ?_ ?_ ?_ ?_ ?_ (by simp; rfl) ?_ (by simp; rfl) ?_ ?_ ?_ <;> simp [hF, Cod.cursor, Cod.target, g1, g2, Cod.cells, Ins.cells]
end Go.Abs
