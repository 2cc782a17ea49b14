/- Expressions that may stand in a statement. -/
import Derived.Test.YtmmgdjecahcemaaGreatBd2
namespace Go.Abs
open Go.Proofs
open Classical
set_option maxRecDepth 100000

def Val.z : Val := ⟨0, 0, []⟩
def Ex.bare (op : Int) : Ex → Prop
  | .mk o v t m col args => o = op ∧ (v.kind = 0 ∧ v.num = 0 ∧ v.s = []) ∧ t = [] ∧ m = [] ∧ col = 0 ∧ args = []
theorem bare90 (e : Ex) (op : Int) : FnPure Tryz.prog 94 [e.av, .int .i64 op] (.bool (decide (e.bare op))) := by
  obtain ⟨o, ⟨k, a, s⟩, t, m, col, args⟩ := e
  refine pureV c94 (by simp) (by simp) (by simp [A94]) fun F hF => ?_
  simp only [Ex.bare]
  by_cases h1 : o = op
  · by_cases h2 : k = 0 ∧ a = 0 ∧ s = []
    · by_cases h3 : t = []
      · by_cases h4 : m = []
        · by_cases h5 : col = 0
          · simp [A94, B94, R94_0, R94_1, hF, Ex.av, Ex.cells, h1, h2, h3, h4, h5]
            exact .bool (by simp)
          · simp [A94, B94, R94_0, R94_1, hF, Ex.av, Ex.cells, h1, h2, h3, h4, h5]
            exact .bool (by simp)
        · simp [A94, B94, R94_0, R94_1, hF, Ex.av, Ex.cells, h1, h2, h3, h4]
          exact .bool (by simp)
      · simp [A94, B94, R94_0, R94_1, hF, Ex.av, Ex.cells, h1, h2, h3]
        exact .bool (by simp)
    · have h2' : (decide (k = 0) && (decide (a = 0) && decide (s = []))) = false := by simpa using fun a b c => h2 ⟨a, b, c⟩
      simp [A94, B94, R94_0, R94_1, hF, Ex.av, Ex.cells, h1, h2']
      exact .bool (by simp)
  · simp [A94, B94, R94_0, R94_1, hF, Ex.av, Ex.cells, h1]
    exact .bool (by simp)
theorem lacks91 (e : Ex) : FnPure Tryz.prog 95 [e.av] (.bool (decide (e.bare 0))) := by
  refine pureV c95 (by simp) (by simp) (by simp [A95]) fun F hF => ?_
  simp [A95, B95, R95_0, R95_1, hF]
  refine CalV.pure (bare90 e 0) ?_
  simp
  exact .bool (by simp)
mutual
/-- may an expression stand in a statement's tree? -/
noncomputable def Ex.may : Ex → Bool
  | .mk op v t m col args => if op = 1 then decide (t = [] ∧ m = [] ∧ col = 0 ∧ args = []) && (v.may && (decide (v.kind ≠ 1) || decide (0 ≤ v.num)))
    else if op = 2 then decide (NamedOk m) && ((decide (t = []) || decide (NamedOk t)) && decide ((v.kind = 0 ∧ v.num = 0 ∧ v.s = []) ∧ col = 0 ∧ args = []))
    else decide (4 ≤ op ∧ op ≤ 21) && (decide ((args.length : Int) = if op ≤ 7 then 1 else 2) && (decide ((v.kind = 0 ∧ v.num = 0 ∧ v.s = []) ∧ t = [] ∧ m = [] ∧ col = 0) && Ex.mayL args))
noncomputable def Ex.mayL : List Ex → Bool
  | [] => true
  | e :: r => e.may && Ex.mayL r
end
theorem Ex.mayL_get {l : List Ex} (h : Ex.mayL l = true) : ∀ i (hi : i < l.length), l[i].may = true := by
  induction l with
  | nil => intro i hi; simp at hi
  | cons e r ih =>
    simp [Ex.mayL] at h
    intro i hi
    cases i with
    | zero => exact h.1
    | succ i => exact ih h.2 i (by simpa using hi)
theorem Ex.mayL_of {l : List Ex} (h : ∀ i (hi : i < l.length), l[i].may = true) : Ex.mayL l = true := by
  induction l with
  | nil => rfl
  | cons e r ih =>
    simp only [Ex.mayL, Bool.and_eq_true]
    exact ⟨h 0 (by simp), ih fun i hi => h (i + 1) (by simpa using hi)⟩
theorem Ex.mayL_not {l : List Ex} {i : Nat} (hi : i < l.length) (h : l[i].may = false) : Ex.mayL l = false := by
  cases hr : Ex.mayL l with
  | false => rfl
  | true => rw [Ex.mayL_get hr i hi] at h; cases h

theorem may53' : ∀ (N : Nat) (e : Ex), e.sz ≤ N → N ≤ lim → FnPure Tryz.prog 63 [e.av] (.bool e.may)
  | 0, e, h, _ => by have := Ex.sz_pos e; omega
  | N + 1, .mk op v t m col args, ha, hN => by
    simp only [Ex.sz] at ha
    have hla := Ex.sz_len args
    refine pureV c63 (by simp) (by simp) (by simp [A63]) fun F hF => ?_
    simp only [Ex.may]
    by_cases h1 : op = 1
    · subst h1
      obtain ⟨k, a, s⟩ := v
      rw [if_pos rfl]
      generalize hR : (decide (t = [] ∧ m = [] ∧ col = 0 ∧ args = []) && ((Val.mk k a s).may && (decide (k ≠ 1) || decide (0 ≤ a)))) = R
      simp [A63, B63, R63_0, R63_1, R63_2, R63_3, R63_4, R63_5, hF, Ex.av, Ex.cells]
      refine CalV.pure (bare90 (.mk 1 ⟨0, 0, []⟩ t m col args) 1) ?_
      simp only [Ex.bare]
      by_cases hb : t = [] ∧ m = [] ∧ col = 0 ∧ args = []
      · simp [hb]
        refine CalV.pure (may52 ⟨k, a, s⟩) ?_
        cases hm : (Val.mk k a s).may with
        | false =>
          simp
          exact .bool (by rw [← hR, hm]; simp)
        | true =>
          by_cases hk : k = 1
          · simp [hk]
            exact .bool (by rw [← hR, hm]; simp [hk, hb])
          · simp [hk]
            exact .bool (by rw [← hR, hm]; simp [hk, hb])
      · simp [hb]
        exact .bool (by rw [← hR, decide_eq_false hb, Bool.false_and])
    by_cases h2 : op = 2
    · subst h2
      rw [if_neg (by omega), if_pos rfl]
      generalize hR : (decide (NamedOk m) && ((decide (t = []) || decide (NamedOk t)) && decide ((v.kind = 0 ∧ v.num = 0 ∧ v.s = []) ∧ col = 0 ∧ args = []))) = R
      simp [A63, B63, R63_0, R63_1, R63_2, R63_6, R63_7, hF, Ex.av, Ex.cells]
      refine CalV.pure (named51 m) ?_
      have tail : ∀ (b : Bool), b = (decide (NamedOk m) && (decide (t = []) || decide (NamedOk t))) → ∀ (F' : Fr) (K : Hp) (n : Nat) (Q : QA), F'.get 5 = some (.bool b) → F'.get 1 = some (.ptr 0 0) → K.get 0 = some (.cells 8 [] (Ex.mk 2 v t m col args).cells .nil) → (∀ F2 K2 n2, F2.get 2 = some (.bool R) → Q .ret F2 K2 n2 []) → VC Tryz.prog R63_8 F' K n [] (SeqV Tryz.prog (.seq R63_9 .ret) Q) := by
        intro b hb F' K n Q g5 g1 hK hQ
        obtain ⟨k, a, s⟩ := v
        rw [← Bool.and_assoc, ← hb] at hR
        simp only [Ex.cells] at hK
        cases b with
        | false =>
          simp [R63_8, R63_9, g5, g1, hK]
          exact hQ _ _ _ (by rw [← hR]; simp)
        | true =>
          simp [R63_8, R63_9, g5, g1, hK]
          refine CalV.pure (bare90 (.mk 2 ⟨k, a, s⟩ [] [] col args) 2) ?_
          simp
          exact hQ _ _ _ (by rw [← hR]; simp [Ex.bare])
      have fin : ∀ F2 (K2 : Hp) (n2 : Nat), F2.get 2 = some (.bool R) → BlkQ 0 (SeqV Tryz.prog (.seq (.seq R63_14 (.cond (slotG 109) (.seq R63_15 .ret) .skip)) (.seq (.seq R63_16 (.block 1 (.loop L63_0))) (.seq R63_22 .ret))) (RetQ [rTmp 2] fun v1 H' _ => Frz H'.get v1 (.bool R))) .ret F2 K2 n2 [] := by
        intro F2 K2 n2 h
        simp [h]
        exact .bool rfl
      by_cases hm : NamedOk m
      · by_cases ht : t = []
        · simp [hm, ht]
          refine tail true (by simp [hm, ht]) _ _ _ _ (by simp) (by simp) (by simp [Ex.cells, ht]) fin
        · simp [hm, ht]
          refine CalV.pure (named51 t) ?_
          simp
          exact tail (decide (NamedOk t)) (by simp [hm, ht]) _ _ _ _ (by simp) (by simp) (by simp [Ex.cells]) fin
      · simp [hm]
        exact tail false (by simp [hm]) _ _ _ _ (by simp) (by simp) (by simp [Ex.cells]) fin
    rw [if_neg h1, if_neg h2]
    generalize hR : (decide (4 ≤ op ∧ op ≤ 21) && (decide ((args.length : Int) = if op ≤ 7 then 1 else 2) && (decide ((v.kind = 0 ∧ v.num = 0 ∧ v.s = []) ∧ t = [] ∧ m = [] ∧ col = 0) && Ex.mayL args))) = R
    have body : ∀ (wn : Int), wn = (if op ≤ 7 then 1 else 2) → (4 ≤ op ∧ op ≤ 21) → ∀ F' : Fr, F'.get 1 = some (.ptr 0 0) → F'.get 3 = some (.int .i64 wn) → ∀ K : Hp, K.get 0 = some (.cells 8 [] (Ex.mk op v t m col args).cells .nil) → ∀ n, 0 < n →
        VC Tryz.prog (.seq (.seq R63_14 (.cond (slotG 109) (.seq R63_15 .ret) .skip)) (.seq (.seq R63_16 (.block 1 (.loop L63_0))) (.seq R63_22 .ret))) F' K n [] (RetQ [rTmp 2] fun v1 H' _ => Frz H'.get v1 (.bool R)) := by
      intro wn hw hr F' g1 g3 K hK n hn
      rw [← hw, decide_eq_true hr, Bool.true_and] at hR
      obtain ⟨k, a, s⟩ := v
      simp only [Ex.cells] at hK
      by_cases hlen : (args.length : Int) = wn
      · by_cases hv : k = 0 ∧ a = 0 ∧ s = []
        · by_cases ht : t = []
          · by_cases hm : m = []
            · by_cases hc : col = 0
              · simp [R63_14, g1, g3, hK, hlen, hv, ht, hm, hc, R63_16]
                obtain ⟨rfl, rfl, rfl⟩ := hv
                subst ht hm hc
                have hR' : Ex.mayL args = R := by rw [← hR]; simp [hlen]
                unfold lim at hN
                refine LoopV.of (fun q F K n' ms => ∃ i, q = args.length - i ∧ i ≤ args.length ∧ F.get 111 = some (.ds (Ex.cellsL args) args.length 8) ∧ F.get 112 = some (.int .i64 (args.length : Int)) ∧ F.get 113 = some (.int .i64 (i : Int)) ∧ ms = [] ∧ ∀ j (hj : j < i) (h : j < args.length), args[j].may = true) args.length ⟨0, by simp [hlen]⟩ ?_
                clear g1 g3 hK hF F F'
                rintro q F K n' ms ⟨i, rfl, hi, f111, f112, f113, rfl, hj⟩
                by_cases hlt : i < args.length
                · have hx := ixa_ex (k := .i64) hlt
                  have m1 := Ex.sz_mem (List.getElem_mem hlt)
                  simp [L63_0, R63_17, f112, f113, hlt, R63_18, f111, hx, R63_19]
                  refine CalV.pure (may53' N args[i] (by omega) (by unfold lim; omega)) ?_
                  cases hr' : args[i].may with
                  | true =>
                    simp [R63_21, f111, f112, f113, wrap_nat i (by omega)]
                    refine ⟨args.length - (i + 1), by omega, i + 1, rfl, hlt, by omega, fun j hj' h => ?_⟩
                    by_cases e : j = i
                    · subst e; exact hr'
                    · exact hj j (by omega) h
                  | false =>
                    simp [R63_20]
                    exact .bool (by rw [← hR', Ex.mayL_not hlt hr'])
                · obtain rfl : i = args.length := by omega
                  simp [L63_0, R63_17, f112, f113, R63_22]
                  exact .bool (by rw [← hR', Ex.mayL_of fun j h => hj j h h])
              · simp [R63_14, g1, g3, hK, hlen, hv, ht, hm, hc, R63_15]
                exact .bool (by rw [← hR]; simp [hc])
            · simp [R63_14, g1, g3, hK, hlen, hv, ht, hm, R63_15]
              exact .bool (by rw [← hR]; simp [hm])
          · simp [R63_14, g1, g3, hK, hlen, hv, ht, R63_15]
            exact .bool (by rw [← hR]; simp [ht])
        · have hv' : (decide (k = 0) && (decide (a = 0) && decide (s = []))) = false := by simpa using fun a b c => hv ⟨a, b, c⟩
          simp [R63_14, g1, g3, hK, hlen, hv', R63_15]
          exact .bool (by rw [← hR]; simp [hv])
      · simp [R63_14, g1, g3, hK, hlen, R63_15]
        exact .bool (by rw [← hR]; simp [hlen])
    by_cases hr : 4 ≤ op ∧ op ≤ 21
    · obtain ⟨r1, r2⟩ := hr
      by_cases h7 : op ≤ 7
      · have : op = 4 ∨ op = 5 ∨ op = 6 ∨ op = 7 := by omega
        rcases this with rfl | rfl | rfl | rfl <;> (simp [A63, B63, R63_0, R63_1, R63_2, R63_6, R63_10, R63_11, hF, Ex.av, Ex.cells]; simpa using body 1 (by simp) (by omega) _ (by simp) (by simp) _ (by simp [Ex.cells]) _ (by omega))
      · have n4 : ¬ op = 4 := by omega
        have n5 : ¬ op = 5 := by omega
        have n6 : ¬ op = 6 := by omega
        have n7 : ¬ op = 7 := by omega
        simp [A63, B63, R63_0, R63_1, R63_2, R63_6, R63_10, R63_12, hF, Ex.av, Ex.cells, h1, h2, n4, n5, n6, n7, show ¬ op < 8 by omega, show ¬ 21 < op by omega]
        simpa using body 2 (by simp [h7]) ⟨r1, r2⟩ _ (by simp) (by simp) _ (by simp [Ex.cells]) _ (by omega)
    · have n4 : ¬ op = 4 := by omega
      have n5 : ¬ op = 5 := by omega
      have n6 : ¬ op = 6 := by omega
      have n7 : ¬ op = 7 := by omega
      by_cases l8 : op < 8
      · simp [A63, B63, R63_0, R63_1, R63_2, R63_6, R63_10, R63_12, hF, Ex.av, Ex.cells, h1, h2, n4, n5, n6, n7, l8, R63_13]
        exact .bool (by rw [← hR, decide_eq_false hr, Bool.false_and])
      · simp [A63, B63, R63_0, R63_1, R63_2, R63_6, R63_10, R63_12, hF, Ex.av, Ex.cells, h1, h2, n4, n5, n6, n7, l8, show 21 < op by omega, R63_13]
        exact .bool (by rw [← hR, decide_eq_false hr, Bool.false_and])
theorem may53 (e : Ex) (h : e.sz ≤ lim) : FnPure Tryz.prog 63 [e.av] (.bool e.may) := may53' lim e h (Nat.le_refl _)
end Go.Abs
