/- A part of the proof. -/
import Derived.Test.YtfjojlmeaeoncaaBq6
namespace Go.Abs
open Go.Proofs
set_option maxRecDepth 100000

theorem wantE_any {op : Int} (ho : 4 ≤ op ∧ op ≤ 21) (h : (wantE op).1.any = true) : (wantE op).1.kind = 3 := by
  have : op = 4 ∨ op = 5 ∨ op = 6 ∨ op = 7 ∨ op = 8 ∨ op = 9 ∨ op = 10 ∨ op = 11 ∨ op = 12 ∨ op = 13 ∨ op = 14 ∨ op = 15 ∨ op = 16 ∨ op = 17 ∨ op = 18 ∨ op = 19 ∨ op = 20 ∨ op = 21 := by omega
  rcases this with h | h | h | h | h | h | h | h | h | h | h | h | h | h | h | h | h | h <;> subst h <;> first | rfl | (exact absurd h (by decide))
theorem kind8' (ks : List Int) (hks : ks.length ≤ lim) : ∀ (N : Nat) (e : Ex), e.sz ≤ N → N ≤ lim → FnPure Try.prog 8 [e.av, .ds (intsC ks) ks.length 1] (.tup [.int .i64 (e.kindOf ks).1, .int .i64 (e.kindOf ks).2])
  | 0, e, h, _ => by have := Ex.sz_pos e; omega
  | N + 1, .mk op v t m col args, ha, hN => by
    have hsz := ha
    simp only [Ex.sz] at ha
    have hla := Ex.sz_len args
    refine pureV c8 (by simp) (by simp) (by simp [A8]) fun F hF => ?_
    simp [A8, B8, R8_0, R8_1, hF, Ex.av, Ex.cells]
    refine CalV.pure (right24 (.mk op v t m col args) ks.length (by omega)) ?_
    unfold Ex.kindOf
    cases hr : (Ex.mk op v t m col args).right ks.length with
    | false =>
      simp [R8_2]
      exact .pure _ (by simp)
    | true =>
      simp only [if_true]
      simp only [Ex.right] at hr
      simp only [Ex.kind]
      by_cases h1 : op = 1
      · subst h1
        simp [R8_3, R8_4]
        exact .pure _ (by simp)
      by_cases h3 : op = 3
      · subst h3
        simp at hr
        obtain ⟨h0, hc0, hcl⟩ := hr
        obtain ⟨c, rfl⟩ := Int.eq_ofNat_of_zero_le hc0
        have hcl' : c < ks.length := by omega
        have hx := ixa_int (k := .i64) hcl'
        simp [R8_3, R8_5, R8_6, hF, hx]
        exact .eq (by simp) (by simp [hcl'])
      rw [if_neg h1, if_neg h3] at hr ⊢
      simp only [Bool.and_eq_true, decide_eq_true_eq] at hr
      obtain ⟨hok, hlen, hall⟩ := hr
      have hright := Ex.rightL_get hall
      have hop : 4 ≤ op ∧ op ≤ 21 := by
        by_cases h : 4 ≤ op ∧ op ≤ 21
        · exact h
        · rw [wantE_out h] at hok; cases hok
      unfold lim at hN hks
      simp [R8_3, R8_5, R8_7, R8_8, h1, h3]
      refine LoopV.of (fun j F H n m_ => ∃ i x, j = args.length - i ∧ i ≤ args.length ∧ F.get 1 = some (.ds (intsC ks) ks.length 1) ∧ F.get 2 = some (.ptr 0 0) ∧ F.get 7 = some (.int .i64 (i : Int)) ∧ F.get 6 = some x ∧
        OwnS H n x (intsC ((args.take i).map fun e => (e.kind ks).1)) i 1 ∧ 1 ≤ n ∧ x ≠ .sl 0 0 i 1 ∧ H.get 0 = some (.cells 8 [] (Ex.mk op v t m col args).cells .nil) ∧ m_ = [] ∧ ∀ j (hj : j < i) (h : j < args.length), (args[j].kind ks).2 = 0) args.length
        ⟨0, .cst (.slice none 0 0), by simp [Ex.cells, OwnS.nil, intsC, hF]⟩ ?_
      rintro j F H n m_ ⟨i, x, rfl, hi, f1, f2, f7, f6, ho, hn, hx0, h0, rfl, hj⟩
      by_cases hlt : i < args.length
      · have hx := ixa_ex (k := .i64) hlt
        have m1 := Ex.sz_mem (List.getElem_mem hlt)
        simp [L8_0, R8_9, R8_10, f1, f2, f7, f6, h0, Ex.cells, hlt, hx]
        have hkk : args[i].kindOf ks = args[i].kind ks := by unfold Ex.kindOf; rw [if_pos (hright i hlt)]
        have hrec := kind8' ks (by unfold lim; omega) N args[i] (by omega) (by unfold lim; omega)
        rw [hkk] at hrec
        refine CalV.pure hrec ?_
        by_cases he : (args[i].kind ks).2 = 0
        · simp [R8_11, R8_13, he, f6]
          refine OwnS.app (k := 1) (new := [.int .i64 (args[i].kind ks).1]) (len := i) (l := intsC ((args.take i).map fun e => (e.kind ks).1)) (OwnS.step ho (by omega) fun c hc _ => by simp [show ¬ c = n by omega]) ?_ (by simp) (by simp) (by omega) (by omega) (by unfold big; omega) (by omega) (by simp) fun H' ho' hk => ?_
          · rw [sliceCells_sl (l := [.int .i64 (args[i].kind ks).1]) (k := .cells 1 [] [.int .i64 (args[i].kind ks).1] .nil) (by simp) (OwnB.list (by simp)) (by simp)]; simp
          · simp [f1, f2, f7, R8_14, wrap_nat i (by omega)]
            refine ⟨args.length - (i + 1), by omega, i + 1, rfl, hlt, by omega, ?_, ?_⟩
            · rw [← List.map_take, List.take_succ_eq_append_getElem hlt, List.map_append, intsC_append]
              exact ho'
            · refine ⟨?_, fun j hj' h => ?_⟩
              · rw [hk 0 (by omega) hx0]; simp [show ¬ 0 = n by omega, h0, Ex.cells]
              · by_cases e : j = i
                · subst e; exact he
                · exact hj j (by omega) h
        · have hf := Ex.kindL_err hlt (fun j hj' => hj j hj' (by omega)) he
          simp [R8_11, R8_12, he]
          rw [hf]
          simp [he]
          exact .pure _ (by simp)
      · have hi' : i = args.length := by omega
        subst hi'
        have hall0 := Ex.kindL_ok (ks := ks) (l := args) fun j h => hj j (by omega) h
        rw [List.take_length] at ho
        simp [L8_0, R8_9, R8_15, f1, f2, f7, f6, h0, Ex.cells]
        have hmade := made25 op (args.map fun e => (e.kind ks).1) hop (by unfold lim; simp; omega) (by simp; exact hlen)
        refine CalV.frz hmade (by simp) (.cons _ _ _ _ (.pure _ (by simp)) (.cons _ _ _ _ ?_ .nil)) ?_
        · rw [kinds_len]
          exact ho.frz (.pure (by simp))
        · rw [hall0]
          have hany := wantE_any hop
          unfold madeK
          generalize wantE op = wo at hany
          obtain ⟨⟨wn, wp, wk, wa, wl⟩, wok⟩ := wo
          cases hft : Want.fits ⟨wn, wp, wk, wa, wl⟩ (args.map fun e => (e.kind ks).1) with
          | true =>
            cases wa with
            | true =>
              have : wk = 3 := hany rfl
              subst this
              simp [R8_16, R8_18]
              exact .pure _ (by simp)
            | false =>
              simp [R8_16, R8_18]
              exact .pure _ (by simp)
          | false =>
            cases wa with
            | true =>
              simp [R8_16, R8_17]
              exact .pure _ (by simp)
            | false =>
              simp [R8_16, R8_17]
              exact .pure _ (by simp)
theorem kind8 (ks : List Int) (hks : ks.length ≤ lim) (e : Ex) (h : e.sz ≤ lim) : FnPure Try.prog 8 [e.av, .ds (intsC ks) ks.length 1] (.tup [.int .i64 (e.kindOf ks).1, .int .i64 (e.kindOf ks).2]) := kind8' ks hks lim e h (Nat.le_refl _)
end Go.Abs
