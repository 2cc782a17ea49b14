/- A part of the proof. -/
import Derived.Test.YtfjojlmeaeoncaaBp2
namespace Go.Abs
open Go.Proofs
set_option maxRecDepth 100000

mutual
theorem Ex.inj : ∀ (a b : Ex), a.cells = b.cells → a = b
  | .mk op v t m col args, .mk op' v' t' m' col' args', h => by
    simp only [Ex.cells, List.cons.injEq, AV.int.injEq, AV.str.injEq, AV.ds.injEq, true_and, and_true] at h
    obtain ⟨h1, h2, h3, h4, h5, h6, h7, h8, _⟩ := h
    have := Ex.injL args args' h8
    obtain ⟨k, i, s⟩ := v
    obtain ⟨k', i', s'⟩ := v'
    simp_all
theorem Ex.injL : ∀ (l l' : List Ex), Ex.cellsL l = Ex.cellsL l' → l = l'
  | [], [], _ => rfl
  | [], e :: r, h => by have := congrArg List.length h; simp at this
  | e :: r, [], h => by have := congrArg List.length h; simp at this
  | e :: r, e' :: r', h => by
    simp only [Ex.cellsL] at h
    obtain ⟨h1, h2⟩ := List.append_inj h (by simp)
    rw [Ex.inj e e' h1, Ex.injL r r' h2]
end
theorem Ex.av_inj {a b : Ex} (h : a.av = b.av) : a = b := Ex.inj a b (by simpa [Ex.av] using h)
mutual
/-- how many there are in it -/
def Ex.sz : Ex → Nat
  | .mk _ _ _ _ _ args => 1 + Ex.szL args
def Ex.szL : List Ex → Nat
  | [] => 0
  | e :: r => e.sz + Ex.szL r
end
theorem Ex.sz_pos (e : Ex) : 0 < e.sz := by cases e; simp [Ex.sz]; omega
theorem Ex.sz_len (l : List Ex) : l.length ≤ Ex.szL l := by
  induction l with
  | nil => simp [Ex.szL]
  | cons e r ih => have := Ex.sz_pos e; simp [Ex.szL]; omega
theorem Ex.sz_mem {l : List Ex} {e : Ex} (h : e ∈ l) : e.sz ≤ Ex.szL l := by
  induction l with
  | nil => cases h
  | cons a r ih =>
    cases h with
    | head => simp [Ex.szL]
    | tail _ hm => have := ih hm; simp [Ex.szL]; omega
def lim : Nat := 1048576
open Classical in
/-- the same? -/
noncomputable def Ex.same (a b : Ex) : Bool := decide (a = b)
theorem wrap_nat (i : Nat) (h : i < 2147483648) : IntKind.i64.wrap ((i : Int) + 1) = ((i + 1 : Nat) : Int) := by
  simp [IntKind.wrap, IntKind.signed, IntKind.bits]
  omega

theorem Ex.same_ne {a b : Ex} (h : a ≠ b) : a.same b = false := by simp [Ex.same, h]
theorem Ex.same_self (a : Ex) : a.same a = true := by simp [Ex.same]
theorem same31' : ∀ (N : Nat) (a b : Ex), a.sz ≤ N → N ≤ lim → b.sz ≤ lim → FnPure Try.prog 31 [a.av, b.av] (.bool (a.same b))
  | 0, a, _, ha, _, _ => by have := Ex.sz_pos a; omega
  | N + 1, .mk op v t m col args, .mk op' v' t' m' col' args', ha, hN, hb => by
    simp only [Ex.sz] at ha hb
    have hla := Ex.sz_len args
    have hlb := Ex.sz_len args'
    have ih : ∀ (i : Nat) (h1 : i < args.length) (h2 : i < args'.length), FnPure Try.prog 31 [args[i].av, args'[i].av] (.bool (args[i].same args'[i])) := fun i h1 h2 => by
      have m1 := Ex.sz_mem (List.getElem_mem h1)
      have m2 := Ex.sz_mem (List.getElem_mem h2)
      exact same31' N args[i] args'[i] (by omega) (by omega) (by omega)
    refine pureV c31 (by simp) (by simp) (by simp [A31]) fun F hF => ?_
    unfold lim at hN hb
    by_cases hc : op = op' ∧ v = v' ∧ t = t' ∧ m = m' ∧ col = col' ∧ args.length = args'.length
    · obtain ⟨rfl, rfl, rfl, rfl, rfl, hlen⟩ := hc
      simp [A31, B31, R31_0, R31_1, R31_2, R31_3, hF, Ex.av, Ex.cells, hlen]
      refine LoopV.of (fun k F H n m_ => ∃ i, k = args.length - i ∧ i ≤ args.length ∧ F.get 2 = some (.ptr 0 0) ∧ F.get 3 = some (.ptr 1 0) ∧ F.get 5 = some (.int .i64 (i : Int)) ∧
        H.get 0 = some (.cells 8 [] (Ex.mk op v t m col args).cells .nil) ∧ H.get 1 = some (.cells 8 [] (Ex.mk op v t m col args').cells .nil) ∧ m_ = [] ∧ args.take i = args'.take i) args.length ⟨0, by simp [Ex.cells, hlen]⟩ ?_
      rintro k F H n m_ ⟨i, rfl, hi, f2, f3, f5, h0, h1, rfl, ht⟩
      by_cases hlt : i < args.length
      · have hlt' : i < args'.length := by omega
        have hx := ixa_ex (k := .i64) hlt
        have hx' := ixa_ex (k := .i64) hlt'
        simp [L31_0, R31_4, f2, f3, f5, h0, h1, Ex.cells, hlt, R31_5]
        refine DrwV.of (ceT_ok (l := [(31, [args[i].av, args'[i].av], fun H n => .mk (.bool (args[i].same args'[i])) H n)]) ?_) ?_
        · simp only [List.mem_singleton]; rintro x rfl; exact ceT_pure (ih i hlt hlt')
        · by_cases hs : args[i] = args'[i]
          · have hb1 : args[i].same args'[i] = true := by rw [hs]; exact Ex.same_self _
            simp [clearF_get, f2, f3, f5, h0, h1, Ex.cells, hx, hx', ceT_hd, hb1, R31_7, wrap_nat i (by omega)]
            refine ⟨_, ?_, i + 1, rfl, hlt, rfl, ?_⟩
            · omega
            · rw [List.take_succ_eq_append_getElem hlt, List.take_succ_eq_append_getElem hlt', ht, hs]
          · have hb1 := Ex.same_ne hs
            simp [clearF_get, f2, f3, f5, h0, h1, Ex.cells, hx, hx', ceT_hd, hb1, R31_6]
            refine .bool ?_
            rw [Ex.same_ne]
            intro e
            injection e with _ _ _ _ _ e
            subst e
            exact hs rfl
      · have hi' : i = args.length := by omega
        simp [L31_0, R31_4, f2, f3, f5, h0, h1, Ex.cells, hlt, R31_8]
        refine .bool ?_
        have : args = args' := by
          have h1 := List.take_of_length_le (l := args) (i := i) (by omega)
          have h2 := List.take_of_length_le (l := args') (i := i) (by omega)
          rw [← h1, ← h2, ht]
        rw [this, Ex.same_self]
    · have hne : (Ex.mk op v t m col args).same (Ex.mk op' v' t' m' col' args') = false := Ex.same_ne fun e => hc (by injection e with a b c d e f; subst a b c d e f; simp)
      rw [hne]
      obtain ⟨k, j, s⟩ := v
      obtain ⟨k', j', s'⟩ := v'
      by_cases c1 : op = op'
      · by_cases c2 : k = k' ∧ j = j' ∧ s = s'
        · obtain ⟨rfl, rfl, rfl⟩ := c2
          by_cases c3 : t = t'
          · by_cases c4 : m = m'
            · by_cases c5 : col = col'
              · have c6 : ¬ args.length = args'.length := fun e => hc ⟨c1, rfl, c3, c4, c5, e⟩
                subst c1 c3 c4 c5
                simp [A31, B31, R31_0, R31_1, R31_2, hF, Ex.av, Ex.cells, c6]
                exact .bool rfl
              · subst c1 c3 c4
                simp [A31, B31, R31_0, R31_1, R31_2, hF, Ex.av, Ex.cells, c5]
                exact .bool rfl
            · subst c1 c3
              simp [A31, B31, R31_0, R31_1, R31_2, hF, Ex.av, Ex.cells, c4]
              exact .bool rfl
          · subst c1
            simp [A31, B31, R31_0, R31_1, R31_2, hF, Ex.av, Ex.cells, c3]
            exact .bool rfl
        · subst c1
          have c2' : (decide (k = k') && (decide (j = j') && decide (s = s'))) = false := by simpa using fun a b c => c2 ⟨a, b, c⟩
          simp [A31, B31, R31_0, R31_1, R31_2, hF, Ex.av, Ex.cells, c2']
          exact .bool rfl
      · simp [A31, B31, R31_0, R31_1, R31_2, hF, Ex.av, Ex.cells, c1]
        exact .bool rfl
theorem same31 (a b : Ex) (ha : a.sz ≤ lim) (hb : b.sz ≤ lim) : FnPure Try.prog 31 [a.av, b.av] (.bool (a.same b)) := same31' lim a b ha (Nat.le_refl _) hb
end Go.Abs
