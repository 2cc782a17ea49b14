/- A part of the proof. -/
import Derived.Test.YtfjojlmeaeoncaaBq2
namespace Go.Abs
open Go.Proofs
set_option maxRecDepth 100000

theorem wantE_in {op : Int} (h : 4 ≤ op ∧ op ≤ 21) : (wantE op).2 = true ∧ (wantE op).1.n = if op ≤ 7 then 1 else 2 := by
  have : op = 4 ∨ op = 5 ∨ op = 6 ∨ op = 7 ∨ op = 8 ∨ op = 9 ∨ op = 10 ∨ op = 11 ∨ op = 12 ∨ op = 13 ∨ op = 14 ∨ op = 15 ∨ op = 16 ∨ op = 17 ∨ op = 18 ∨ op = 19 ∨ op = 20 ∨ op = 21 := by omega
  rcases this with h | h | h | h | h | h | h | h | h | h | h | h | h | h | h | h | h | h <;> subst h <;> decide
theorem wantE_out {op : Int} (h : ¬ (4 ≤ op ∧ op ≤ 21)) : (wantE op).2 = false := by
  unfold wantE; repeat (rw [if_neg (by omega)])
theorem Ex.rightL_of {n : Int} {l : List Ex} (h : ∀ i (hi : i < l.length), l[i].right n = true) : Ex.rightL n l = true := by
  induction l with
  | nil => rfl
  | cons e r ih =>
    simp only [Ex.rightL, Bool.and_eq_true]
    exact ⟨h 0 (by simp), ih fun i hi => h (i + 1) (by simpa using hi)⟩
theorem Ex.rightL_not {n : Int} {l : List Ex} {i : Nat} (hi : i < l.length) (h : l[i].right n = false) : Ex.rightL n l = false := by
  cases hr : Ex.rightL n l with
  | false => rfl
  | true => rw [Ex.rightL_get hr i hi] at h; cases h

theorem right24' : ∀ (N : Nat) (e : Ex) (k : Int), e.sz ≤ N → N ≤ lim → FnPure Try.prog 24 [e.av, .int .i64 k] (.bool (e.right k))
  | 0, e, _, h, _ => by have := Ex.sz_pos e; omega
  | N + 1, .mk op v t m col args, k, ha, hN => by
    simp only [Ex.sz] at ha
    have hla := Ex.sz_len args
    refine pureV c24 (by simp) (by simp) (by simp [A24]) fun F hF => ?_
    simp only [Ex.right]
    by_cases h1 : op = 1
    · subst h1
      by_cases h0 : args = []
      · subst h0
        simp [A24, B24, R24_0, R24_1, R24_2, hF, Ex.av, Ex.cells]
        refine CalV.pure (may57 v) ?_
        simp
        exact .bool (by simp)
      · simp [A24, B24, R24_0, R24_1, R24_2, hF, Ex.av, Ex.cells, h0]
        exact .bool (by simp)
    by_cases h3 : op = 3
    · subst h3
      by_cases h0 : args = []
      · subst h0
        by_cases hc : 0 ≤ col
        · simp [A24, B24, R24_0, R24_1, R24_3, R24_4, hF, Ex.av, Ex.cells, hc]
          exact .bool (by simp)
        · simp [A24, B24, R24_0, R24_1, R24_3, R24_4, hF, Ex.av, Ex.cells, hc]
          exact .bool (by simp)
      · simp [A24, B24, R24_0, R24_1, R24_3, R24_4, hF, Ex.av, Ex.cells, h0]
        exact .bool (by simp)
    rw [if_neg h1, if_neg h3]
    have loop : ∀ (wn : Nat) (F : Fr), (args.length = wn) → F.get 2 = some (.ptr 0 0) → F.get 1 = some (.int .i64 k) → F.get 5 = some (.int .i64 (wn : Int)) → F.get 6 = some (.int .i64 0) →
        LoopV L24_0 Try.prog F (Tr.nil.put 0 (some (.cells 8 [] (Ex.mk op v t m col args).cells .nil))) 1 [] (BlkQ 0 (SeqV Try.prog (.seq R24_15 .ret) (RetQ [rTmp 4] fun v1 H' _ => Frz H'.get v1 (.bool (Ex.rightL k args))))) := by
      intro wn F hw g2 g1 g5 g6
      subst hw
      refine LoopV.of (fun j F K m_ ms => ∃ i, j = args.length - i ∧ i ≤ args.length ∧ F.get 2 = some (.ptr 0 0) ∧ F.get 1 = some (.int .i64 k) ∧ F.get 5 = some (.int .i64 (args.length : Int)) ∧ F.get 6 = some (.int .i64 (i : Int)) ∧
        K.get 0 = some (.cells 8 [] (Ex.mk op v t m col args).cells .nil) ∧ ms = [] ∧ ∀ j (hj : j < i) (h : j < args.length), args[j].right k = true) args.length ⟨0, by simp [g1, g2, g5, g6]⟩ ?_
      rintro j F K m_ ms ⟨i, rfl, hi, f2, f1, f5, f6, h0, rfl, hj⟩
      by_cases hlt : i < args.length
      · have hx := ixa_ex (k := .i64) hlt
        have m1 := Ex.sz_mem (List.getElem_mem hlt)
        simp [L24_0, R24_11, R24_12, f2, f1, f5, f6, h0, Ex.cells, hlt, hx]
        refine CalV.pure (right24' N args[i] k (by omega) (by omega)) ?_
        cases hr : args[i].right k with
        | true =>
          unfold lim at hN
          simp [f2, f1, f5, f6, h0, Ex.cells, R24_14, wrap_nat i (by omega)]
          refine ⟨args.length - (i + 1), by omega, i + 1, rfl, hlt, by omega, fun j hj' h => ?_⟩
          by_cases e : j = i
          · subst e; exact hr
          · exact hj j (by omega) h
        | false =>
          simp [R24_13]
          exact .bool (Ex.rightL_not hlt hr).symm
      · simp [L24_0, R24_11, f2, f1, f5, f6, hlt, R24_15]
        exact .bool (Ex.rightL_of fun j h => hj j (by omega) h).symm
    by_cases hr : 4 ≤ op ∧ op ≤ 21
    · obtain ⟨w1, w2⟩ := wantE_in hr
      rw [w1, w2]
      obtain ⟨r1, r2⟩ := hr
      have r1' : ¬ op < 4 := by omega
      have r2' : ¬ 21 < op := by omega
      by_cases h7 : op ≤ 7
      · by_cases hlen : args.length = 1
        · have hI : (args.length : Int) = 1 := by omega
          simp [A24, B24, R24_0, R24_1, R24_3, R24_5, R24_6, R24_7, R24_8, R24_10, hF, Ex.av, Ex.cells, h1, h3, h7, hI, r1', r2']
          refine loop 1 _ hlen ?_ ?_ ?_ ?_ <;> simp [hF]
        · have hlen' : ¬ (args.length : Int) = 1 := by omega
          simp [A24, B24, R24_0, R24_1, R24_3, R24_5, R24_6, R24_7, R24_8, R24_9, hF, Ex.av, Ex.cells, h1, h3, h7, hlen', r1', r2']
          exact .bool (by simp)
      · by_cases hlen : args.length = 2
        · have hI : (args.length : Int) = 2 := by omega
          simp [A24, B24, R24_0, R24_1, R24_3, R24_5, R24_6, R24_7, R24_8, R24_10, hF, Ex.av, Ex.cells, h1, h3, h7, hI, r1', r2']
          refine loop 2 _ hlen ?_ ?_ ?_ ?_ <;> simp [hF]
        · have hlen' : ¬ (args.length : Int) = 2 := by omega
          simp [A24, B24, R24_0, R24_1, R24_3, R24_5, R24_6, R24_7, R24_8, R24_9, hF, Ex.av, Ex.cells, h1, h3, h7, hlen', r1', r2']
          exact .bool (by simp)
    · rw [wantE_out hr]
      by_cases r1 : op < 4
      · have h7 : op ≤ 7 := by omega
        simp [A24, B24, R24_0, R24_1, R24_3, R24_5, R24_6, R24_7, R24_8, R24_9, hF, Ex.av, Ex.cells, h1, h3, h7, r1]
        exact .bool (by simp)
      · have r2 : 21 < op := by omega
        have h7 : ¬ op ≤ 7 := by omega
        simp [A24, B24, R24_0, R24_1, R24_3, R24_5, R24_6, R24_7, R24_8, R24_9, hF, Ex.av, Ex.cells, h1, h3, h7, r1, r2]
        exact .bool (by simp)
theorem right24 (e : Ex) (k : Int) (h : e.sz ≤ lim) : FnPure Try.prog 24 [e.av, .int .i64 k] (.bool (e.right k)) := right24' lim e k h (Nat.le_refl _)
end Go.Abs
