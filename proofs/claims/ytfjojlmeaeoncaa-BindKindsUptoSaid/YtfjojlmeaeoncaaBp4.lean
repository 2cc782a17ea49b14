/- A part of the proof. -/
import Derived.Test.YtfjojlmeaeoncaaBp3
namespace Go.Abs
open Go.Proofs
set_option maxRecDepth 100000

open Classical in
/-- lists of expressions: the same? -/
noncomputable def Ex.sameL (l l' : List Ex) : Bool := decide (l = l')
theorem Ex.sameL_ne {a b : List Ex} (h : a ≠ b) : Ex.sameL a b = false := by simp [Ex.sameL, h]
theorem Ex.sameL_self (a : List Ex) : Ex.sameL a a = true := by simp [Ex.sameL]

theorem sameL11 (l l' : List Ex) (ha : Ex.szL l ≤ lim) (hb : Ex.szL l' ≤ lim) : FnPure Try.prog 11 [.ds (Ex.cellsL l) l.length 8, .ds (Ex.cellsL l') l'.length 8] (.bool (Ex.sameL l l')) := by
  have hla := Ex.sz_len l
  have hlb := Ex.sz_len l'
  unfold lim at ha hb
  refine pureV c11 (by simp) (by simp) (by simp [A11]) fun F hF => ?_
  by_cases hlen : l.length = l'.length
  · simp [A11, B11, R11_0, R11_1, R11_3, hF, hlen]
    refine LoopV.of (fun k F H n m_ => ∃ i, k = l.length - i ∧ i ≤ l.length ∧ F.get 0 = some (.ds (Ex.cellsL l) l.length 8) ∧ F.get 1 = some (.ds (Ex.cellsL l') l'.length 8) ∧ F.get 5 = some (.int .i64 (i : Int)) ∧
      m_ = [] ∧ l.take i = l'.take i) l.length ⟨0, by simp [hF, hlen]⟩ ?_
    rintro k F H n m_ ⟨i, rfl, hi, f0, f1, f5, rfl, ht⟩
    by_cases hlt : i < l.length
    · have hlt' : i < l'.length := by omega
      have hx := ixa_ex (k := .i64) hlt
      have hx' := ixa_ex (k := .i64) hlt'
      have m1 := Ex.sz_mem (List.getElem_mem hlt)
      have m2 := Ex.sz_mem (List.getElem_mem hlt')
      simp [L11_0, R11_4, f0, f1, f5, hlt, R11_5]
      refine DrwV.of (ceT_ok (l := [(31, [l[i].av, l'[i].av], fun H n => .mk (.bool (l[i].same l'[i])) H n)]) ?_) ?_
      · simp only [List.mem_singleton]; rintro x rfl; exact ceT_pure (same31 _ _ (by unfold lim; omega) (by unfold lim; omega))
      · by_cases hs : l[i] = l'[i]
        · have hb1 : l[i].same l'[i] = true := by rw [hs]; exact Ex.same_self _
          simp [clearF_get, f0, f1, f5, hx, hx', ceT_hd, hb1, R11_7, wrap_nat i (by omega)]
          refine ⟨_, ?_, i + 1, rfl, hlt, rfl, ?_⟩
          · omega
          · rw [List.take_succ_eq_append_getElem hlt, List.take_succ_eq_append_getElem hlt', ht, hs]
        · have hb1 := Ex.same_ne hs
          simp [clearF_get, f0, f1, f5, hx, hx', ceT_hd, hb1, R11_6]
          refine .bool ?_
          rw [Ex.sameL_ne]
          intro e
          subst e
          exact hs rfl
    · have hi' : i = l.length := by omega
      simp [L11_0, R11_4, f0, f1, f5, hlt, R11_8]
      refine .bool ?_
      have : l = l' := by
        have h1 := List.take_of_length_le (l := l) (i := i) (by omega)
        have h2 := List.take_of_length_le (l := l') (i := i) (by omega)
        rw [← h1, ← h2, ht]
      rw [this, Ex.sameL_self]
  · simp [A11, B11, R11_0, R11_1, R11_2, hF, hlen]
    refine .bool ?_
    rw [Ex.sameL_ne]
    exact fun e => hlen (by rw [e])

theorem Ex.cellsL_append (a b : List Ex) : Ex.cellsL (a ++ b) = Ex.cellsL a ++ Ex.cellsL b := by
  induction a with
  | nil => simp [Ex.cellsL]
  | cons e r ih => simp [Ex.cellsL, ih]
theorem OwnS.step {H H' : Hp} {n n' : Nat} {v : AV} {l : List AV} {len sz : Nat} (h : OwnS H n v l len sz) (hn : n ≤ n') (hk : ∀ c, c < n → v = .sl c 0 len sz → H'.get c = H.get c) : OwnS H' n' v l len sz := by
  obtain ⟨h0, h | ⟨b, k, rfl, hb, hkb, ho⟩⟩ := h
  · exact ⟨h0, .inl h⟩
  · exact ⟨h0, .inr ⟨b, k, rfl, by omega, by rw [hk b hb rfl, hkb], ho⟩⟩
theorem FrzL.app {h : Hf} {a a' b b' : List AV} (x : FrzL h a a') (y : FrzL h b b') : FrzL h (a ++ b) (a' ++ b') := by
  induction a generalizing a' with
  | nil => cases x; exact y
  | cons v r ih => cases x with
    | cons _ _ _ _ x1 x2 => exact .cons _ _ _ _ x1 (ih x2)
theorem FrzL.snoc {h : Hf} (a : List AV) {v v' : AV} (ha : PureL a) (hv : Frz h v v') : FrzL h (a ++ [v]) (a ++ [v']) := (FrzL.pure ha).app (.cons _ _ _ _ hv .nil)
/-- an expression in memory of its own is the same -/
theorem own30' : ∀ (N : Nat) (e : Ex), e.sz ≤ N → N ≤ lim → FnPure Try.prog 30 [e.av] e.av
  | 0, e, h, _ => by have := Ex.sz_pos e; omega
  | N + 1, .mk op v t m col args, ha, hN => by
    simp only [Ex.sz] at ha
    have hla := Ex.sz_len args
    have ih : ∀ (i : Nat) (h1 : i < args.length), FnPure Try.prog 30 [args[i].av] args[i].av := fun i h1 => by
      have m1 := Ex.sz_mem (List.getElem_mem h1)
      exact own30' N args[i] (by omega) (by omega)
    unfold lim at hN
    refine pureV c30 (by simp) (by simp) (by simp [A30]) fun F hF => ?_
    simp [A30, B30, R30_0, R30_1, R30_2, hF, Ex.av, Ex.cells]
    refine LoopV.of (fun k F H n m_ => ∃ i x, k = args.length - i ∧ i ≤ args.length ∧ F.get 1 = some (.ptr 0 0) ∧ F.get 2 = some (.ptr 1 0) ∧ F.get 7 = some (.ds (Ex.cellsL args) args.length 8) ∧ F.get 8 = some (.int .i64 (args.length : Int)) ∧ F.get 9 = some (.int .i64 (i : Int)) ∧ F.get 3 = some x ∧
      OwnS H n x (Ex.cellsL (args.take i)) i 8 ∧ 2 ≤ n ∧ x ≠ .sl 0 0 i 8 ∧ x ≠ .sl 1 0 i 8 ∧ H.get 0 = some (.cells 8 [] (Ex.mk op v t m col args).cells .nil) ∧ (∃ c, H.get 1 = some (.cells 8 [] c .nil) ∧ c.length = 8) ∧ m_ = []) args.length
      ⟨0, .cst (.slice none 0 0), by simp [Ex.cells, OwnS.nil, Ex.cellsL]⟩ ?_
    rintro k F H n m_ ⟨i, x, rfl, hi, f1, f2, f7, f8, f9, f3, ho, hn, hx0, hx1, h0, ⟨c, h1, hcl⟩, rfl⟩
    by_cases hlt : i < args.length
    · have hx := ixa_ex (k := .i64) hlt
      simp [L30_0, R30_3, R30_4, R30_5, f1, f2, f7, f8, f9, f3, hlt, hx]
      refine CalV.pure (ih i hlt) ?_
      simp
      refine OwnS.app (k := 1) (new := args[i].cells) (len := i) (l := Ex.cellsL (args.take i)) (OwnS.step ho (by omega) fun c hc _ => by simp [show ¬ c = n + 1 by omega, show ¬ c = n by omega]) ?_ (by simp) (by simp) (by omega) (by omega) (by unfold big; omega) (by omega) (by simp) fun H' ho' hk => ?_
      · rw [sliceCells_sl (l := args[i].cells) (k := .cells 8 [] args[i].cells .nil) (by simp) (OwnB.list (by simp)) (by simp)]; simp
      · simp [f1, f2, f7, f8, f9, R30_6, wrap_nat i (by omega)]
        refine ⟨args.length - (i + 1), by omega, i + 1, rfl, hlt, by omega, ?_, ?_, c, ?_, hcl⟩
        · rw [List.take_succ_eq_append_getElem hlt, Ex.cellsL_append]
          simpa [Ex.cellsL] using ho'
        · rw [hk 0 (by omega) hx0]; simp [show ¬ 0 = n by omega, h0]
        · rw [hk 1 (by omega) hx1]; simp [show ¬ 1 = n by omega, h1]; omega
    · have hi' : i = args.length := by omega
      subst hi'
      have ho2 := ho
      rw [List.take_length] at ho2
      obtain ⟨_, ⟨rfl, hl0⟩ | ⟨b, kb, rfl, hb, hkb, hob⟩⟩ := ho
      · have : args = [] := by simpa using hl0
        subst this
        simp [L30_0, R30_3, f1, f2, f7, f8, f9, f3, R30_7, R30_8, h0, h1, Ex.cells, hcl]
        refine .agg _ _ _ (FrzL.snoc [_, _, _, _, _, _, _] (by simp) (.nil 8))
      · have hb0 : ¬ b = 0 := fun e => hx0 (by rw [e])
        have hb1 : ¬ b = 1 := fun e => hx1 (by rw [e])
        simp [L30_0, R30_3, f1, f2, f7, f8, f9, f3, R30_7, R30_8, h0, h1, Ex.cells, hcl]
        refine .agg _ _ _ (FrzL.snoc [_, _, _, _, _, _, _] (by simp) ?_)
        refine (OwnS.step ho2 (Nat.le_refl _) fun c hc e => ?_).frz (.pure (by simp))
        injection e with e
        subst e
        simp [hb0, hb1]
theorem own30 (e : Ex) (h : e.sz ≤ lim) : FnPure Try.prog 30 [e.av] e.av := own30' lim e h (Nat.le_refl _)
end Go.Abs
