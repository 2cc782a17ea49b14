/- A part of the proof. -/
import Derived.Test.YtfjojlmeaeoncaaBq4
namespace Go.Abs
open Go.Proofs
set_option maxRecDepth 100000

mutual
/-- a bound expression's kind, or its error -/
def Ex.kind (ks : List Int) : Ex → Int × Int
  | .mk op v _ _ col args => if op = 1 then (v.kind, 0) else if op = 3 then (ks.getD col.toNat 0, 0) else
    if (Ex.kindL ks args).2 ≠ 0 then (0, (Ex.kindL ks args).2) else if (wantE op).1.fits (Ex.kindL ks args).1 = true then ((wantE op).1.kind, 0) else (0, 203)
def Ex.kindL (ks : List Int) : List Ex → List Int × Int
  | [] => ([], 0)
  | e :: r => if (e.kind ks).2 ≠ 0 then ([], (e.kind ks).2) else if (Ex.kindL ks r).2 ≠ 0 then ([], (Ex.kindL ks r).2) else ((e.kind ks).1 :: (Ex.kindL ks r).1, 0)
end
theorem Ex.kindL_ok {ks : List Int} {l : List Ex} (h : ∀ i (hi : i < l.length), (l[i].kind ks).2 = 0) : Ex.kindL ks l = (l.map fun e => (e.kind ks).1, 0) := by
  induction l with
  | nil => rfl
  | cons e r ih =>
    have h0 := h 0 (by simp)
    have hr := ih fun i hi => h (i + 1) (by simpa using hi)
    simp at h0
    simp [Ex.kindL, h0, hr]
theorem Ex.kindL_err {ks : List Int} {l : List Ex} {i : Nat} (hi : i < l.length) (h : ∀ j (hj : j < i), ((l[j]'(by omega)).kind ks).2 = 0) (he : (l[i].kind ks).2 ≠ 0) : (Ex.kindL ks l).2 = (l[i].kind ks).2 := by
  induction l generalizing i with
  | nil => simp at hi
  | cons e r ih =>
    cases i with
    | zero => simp at he; simp [Ex.kindL, he]
    | succ i =>
      have h0 := h 0 (by omega)
      have hr := ih (i := i) (by simpa using hi) (fun j hj => h (j + 1) (by omega)) (by simpa using he)
      simp at h0 he
      simp [Ex.kindL, h0, hr, he]
theorem kinds_len (ks : List Int) (l : List Ex) : (l.map fun e => (e.kind ks).1).length = l.length := by simp
theorem wantE_two {op : Int} (h : (wantE op).1.alike = true) : (wantE op).1.n = 2 := by
  unfold wantE at h ⊢
  split at h <;> try (simp at h)
  split at h <;> try (simp at h)
  split at h <;> try (simp at h)
  split at h <;> try (simp at h)
  split at h <;> try (simp at h)
  split at h <;> try (simp at h)
  split at h
  · simp [*]
  · simp at h

theorem kind23' (ks : List Int) (hks : ks.length ≤ lim) : ∀ (N : Nat) (e : Ex), e.sz ≤ N → N ≤ lim → e.right ks.length = true → FnPure Try.prog 23 [e.av, .ds (intsC ks) ks.length 1] (.tup [.int .i64 (e.kind ks).1, .int .i64 (e.kind ks).2])
  | 0, e, h, _, _ => by have := Ex.sz_pos e; omega
  | N + 1, .mk op v t m col args, ha, hN, hr => by
    simp only [Ex.sz] at ha
    have hla := Ex.sz_len args
    refine pureV c23 (by simp) (by simp) (by simp [A23]) fun F hF => ?_
    simp only [Ex.right] at hr
    simp only [Ex.kind]
    by_cases h1 : op = 1
    · subst h1
      simp [A23, B23, R23_0, R23_1, R23_2, R23_3, hF, Ex.av, Ex.cells]
      exact .pure _ (by simp)
    by_cases h3 : op = 3
    · subst h3
      simp at hr
      obtain ⟨h0, hc0, hcl⟩ := hr
      obtain ⟨c, rfl⟩ := Int.eq_ofNat_of_zero_le hc0
      have hcl' : c < ks.length := by omega
      have hx := ixa_int (k := .i64) hcl'
      simp [A23, B23, R23_0, R23_1, R23_2, R23_4, R23_5, hF, Ex.av, Ex.cells, hx]
      exact .eq (by simp) (by simp [hcl'])
    rw [if_neg h1, if_neg h3] at hr ⊢
    simp only [Bool.and_eq_true, decide_eq_true_eq] at hr
    obtain ⟨hok, hlen, hall⟩ := hr
    have hright := Ex.rightL_get hall
    unfold lim at hN hks
    simp [A23, B23, R23_0, R23_1, R23_2, R23_4, R23_6, R23_7, hF, Ex.av, Ex.cells, h1, h3]
    refine LoopV.of (fun j F H n m_ => ∃ i x, j = args.length - i ∧ i ≤ args.length ∧ F.get 1 = some (.ds (intsC ks) ks.length 1) ∧ F.get 2 = some (.ptr 0 0) ∧ F.get 28 = some (.ds (Ex.cellsL args) args.length 8) ∧ F.get 29 = some (.int .i64 (args.length : Int)) ∧ F.get 30 = some (.int .i64 (i : Int)) ∧ F.get 6 = some x ∧
      OwnS H n x (intsC ((args.take i).map fun e => (e.kind ks).1)) i 1 ∧ 1 ≤ n ∧ x ≠ .sl 0 0 i 1 ∧ H.get 0 = some (.cells 8 [] (Ex.mk op v t m col args).cells .nil) ∧ m_ = [] ∧ ∀ j (hj : j < i) (h : j < args.length), (args[j].kind ks).2 = 0) args.length
      ⟨0, .cst (.slice none 0 0), by simp [Ex.cells, OwnS.nil, intsC, hF]⟩ ?_
    rintro j F H n m_ ⟨i, x, rfl, hi, f1, f2, f28, f29, f30, f6, ho, hn, hx0, h0, rfl, hj⟩
    by_cases hlt : i < args.length
    · have hx := ixa_ex (k := .i64) hlt
      have m1 := Ex.sz_mem (List.getElem_mem hlt)
      simp [L23_0, R23_8, R23_9, R23_10, f1, f2, f28, f29, f30, f6, hlt, hx]
      refine CalV.pure (kind23' ks (by unfold lim; omega) N args[i] (by omega) (by unfold lim; omega) (hright i hlt)) ?_
      by_cases he : (args[i].kind ks).2 = 0
      · simp [R23_11, R23_13, he, f6]
        refine OwnS.app (k := 1) (new := [.int .i64 (args[i].kind ks).1]) (len := i) (l := intsC ((args.take i).map fun e => (e.kind ks).1)) (OwnS.step ho (by omega) fun c hc _ => by simp [show ¬ c = n + 1 by omega, show ¬ c = n by omega]) ?_ (by simp) (by simp) (by omega) (by omega) (by unfold big; omega) (by omega) (by simp) fun H' ho' hk => ?_
        · rw [sliceCells_sl (l := [.int .i64 (args[i].kind ks).1]) (k := .cells 1 [] [.int .i64 (args[i].kind ks).1] .nil) (by simp) (OwnB.list (by simp)) (by simp)]; simp
        · simp [f1, f2, f28, f29, f30, R23_14, wrap_nat i (by omega)]
          refine ⟨args.length - (i + 1), by omega, i + 1, rfl, hlt, by omega, ?_, ?_⟩
          · rw [← List.map_take, List.take_succ_eq_append_getElem hlt, List.map_append, intsC_append]
            exact ho'
          · refine ⟨?_, fun j hj' h => ?_⟩
            · rw [hk 0 (by omega) hx0]; simp [show ¬ 0 = n by omega, h0]
            · by_cases e : j = i
              · subst e; exact he
              · exact hj j (by omega) h
      · have hf := Ex.kindL_err hlt (fun j hj' => hj j hj' (by omega)) he
        simp [R23_11, R23_12, he]
        rw [hf]
        simp [he]
        exact .pure _ (by simp)
    · have hi' : i = args.length := by omega
      subst hi'
      have hall0 := Ex.kindL_ok (ks := ks) (l := args) fun j h => hj j (by omega) h
      rw [List.take_length] at ho
      simp [L23_0, R23_8, R23_15, f1, f2, f28, f29, f30, f6, h0, Ex.cells]
      refine CalV.pure (wanted_pure op) ?_
      have hw2 := wantE_two (op := op)
      have hfit := fits56 (wantE op).1 (args.map fun e => (e.kind ks).1) (by unfold lim; simp; omega) (fun _ h => by have := hw2 h; simp; omega)
      rw [hall0]
      generalize wantE op = wo at hw2 hfit hok hlen
      obtain ⟨⟨wn, wp, wk, wa, wl⟩, wok⟩ := wo
      simp [Want.av, R23_16, f6]
      refine CalV.frz hfit (by simp) (.cons _ _ _ _ (.pure _ (by simp)) (.cons _ _ _ _ ?_ .nil)) ?_
      · rw [kinds_len]
        exact (OwnS.step ho (n' := n + 1) (by omega) fun c hc _ => by simp [show ¬ c = n by omega]).frz (.pure (by simp))
      · cases hft : Want.fits ⟨wn, wp, wk, wa, wl⟩ (args.map fun e => (e.kind ks).1) with
        | true =>
          simp [R23_18]
          exact .pure _ (by simp)
        | false =>
          simp [R23_17]
          exact .pure _ (by simp)
theorem kind23 (ks : List Int) (hks : ks.length ≤ lim) (e : Ex) (h : e.sz ≤ lim) (hr : e.right ks.length = true) : FnPure Try.prog 23 [e.av, .ds (intsC ks) ks.length 1] (.tup [.int .i64 (e.kind ks).1, .int .i64 (e.kind ks).2]) := kind23' ks hks lim e h (Nat.le_refl _) hr
/-- what Kind answers -/
def Ex.kindOf (ks : List Int) (e : Ex) : Int × Int := if e.right ks.length = true then e.kind ks else (0, 1)
theorem kind7 (ks : List Int) (hks : ks.length ≤ lim) (e : Ex) (h : e.sz ≤ lim) : FnPure Try.prog 7 [e.av, .ds (intsC ks) ks.length 1] (.tup [.int .i64 (e.kindOf ks).1, .int .i64 (e.kindOf ks).2]) := by
  refine pureV c7 (by simp) (by simp) (by simp [A7]) fun F hF => ?_
  obtain ⟨op, v, t, m, col, args⟩ := e
  simp [A7, B7, R7_0, R7_1, hF, Ex.av, Ex.cells]
  refine CalV.pure (right22 (.mk op v t m col args) ks.length h) ?_
  unfold Ex.kindOf
  cases hr : (Ex.mk op v t m col args).right ks.length with
  | false =>
    simp [R7_2]
    exact .pure _ (by simp)
  | true =>
    simp [R7_3, hF]
    refine CalV.pure (kind23 ks hks (.mk op v t m col args) h hr) ?_
    simp
    exact .pure _ (by simp)
end Go.Abs
