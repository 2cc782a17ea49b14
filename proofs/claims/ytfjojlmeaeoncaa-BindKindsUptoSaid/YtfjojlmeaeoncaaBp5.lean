/- A part of the proof. -/
import Derived.Test.YtfjojlmeaeoncaaBp4
namespace Go.Abs
open Go.Proofs
set_option maxRecDepth 100000

theorem Ex.sz_get {args : List Ex} {i : Nat} (h : i < args.length) : args[i].sz ≤ Ex.szL args := Ex.sz_mem (List.getElem_mem h)
/-- a condition's conjuncts -/
def Ex.split (e : Ex) : List Ex := match e with
  | .mk op v t m col args => if h : op = 20 ∧ args.length = 2 then (args[0]'(by omega)).split ++ (args[1]'(by omega)).split else [.mk op v t m col args]
  termination_by e.sz
  decreasing_by
  · have := Ex.sz_get (args := args) (i := 0) (by omega); simp [Ex.sz]; omega
  · have := Ex.sz_get (args := args) (i := 1) (by omega); simp [Ex.sz]; omega
theorem Ex.split_and {v t m col} (a b : Ex) : (Ex.mk 20 v t m col [a, b]).split = a.split ++ b.split := by
  rw [Ex.split]; simp
theorem Ex.split_one {op v t m col} {args : List Ex} (h : ¬ (op = 20 ∧ args.length = 2)) : (Ex.mk op v t m col args).split = [.mk op v t m col args] := by
  rw [Ex.split]; rw [dif_neg h]
theorem Ex.szL_append (a b : List Ex) : Ex.szL (a ++ b) = Ex.szL a + Ex.szL b := by
  induction a with
  | nil => simp [Ex.szL]
  | cons e r ih => simp [Ex.szL, ih]; omega
theorem Ex.split_sz : ∀ (N : Nat) (e : Ex), e.sz ≤ N → Ex.szL e.split ≤ e.sz ∧ 0 < e.split.length
  | 0, e, h => by have := Ex.sz_pos e; omega
  | N + 1, .mk op v t m col args, h => by
    by_cases hc : op = 20 ∧ args.length = 2
    · obtain ⟨rfl, hl⟩ := hc
      match args, hl with
      | [a, b], _ =>
        simp [Ex.sz, Ex.szL] at h
        have h1 := Ex.split_sz N a (by omega)
        have h2 := Ex.split_sz N b (by omega)
        rw [Ex.split_and, Ex.szL_append]
        simp [Ex.sz, Ex.szL]
        omega
    · rw [Ex.split_one hc]; simp [Ex.szL]
theorem Ex.drop_take (l : List Ex) (i : Nat) (h : i < l.length) : ((Ex.cellsL l).drop (i * 8)).take 8 = l[i].cells := by
  rw [Ex.drop l i h, List.take_append_of_le_length (by simp)]; simp

theorem own_one {H : Hp} (e : Ex) (h : H.get 1 = some (.cells 8 [] e.cells .nil)) : OwnS H 2 (.sl 1 0 1 8) (Ex.cellsL [e]) 1 8 :=
  ⟨by simp, .inr ⟨1, _, rfl, by omega, h, by simpa [Ex.cellsL] using OwnB.list (l := e.cells) (u := 8) (by simp)⟩⟩
theorem split12' : ∀ (N : Nat) (e : Ex), e.sz ≤ N → N ≤ lim → FnOwn Try.prog 12 [e.av] (Ex.cellsL e.split) e.split.length 8
  | 0, e, h, _ => by have := Ex.sz_pos e; omega
  | N + 1, .mk op v t m col args, ha, hN => by
    have hs := Ex.split_sz (N + 1) (.mk op v t m col args) ha
    refine FnOwn.of (by simp) (by simp) hs.2 (CallR.of c12 (by simp [A12]) fun F hF => ?_)
    by_cases hc : op = 20 ∧ args.length = 2
    · obtain ⟨rfl, hl⟩ := hc
      match args, hl with
      | [a, b], _ =>
        simp only [Ex.sz, Ex.szL] at ha
        have ia := split12' N a (by omega) (by omega)
        have ib := split12' N b (by omega) (by omega)
        have sa := Ex.split_sz N a (by omega)
        have sb := Ex.split_sz N b (by omega)
        have la := Ex.sz_len a.split
        have lb := Ex.sz_len b.split
        unfold lim at hN
        have x0 : cIxa 8 (.ds (Ex.cellsL [a, b]) 2 8) (.int .i64 0) = .val (.dp (a.cells ++ Ex.cellsL [b])) := by
          have := ixa_ex (l := [a, b]) (i := 0) (k := .i64) (by simp)
          simpa using this
        have x1 : cIxa 8 (.ds (Ex.cellsL [a, b]) 2 8) (.int .i64 1) = .val (.dp (b.cells ++ Ex.cellsL [])) := by
          have := ixa_ex (l := [a, b]) (i := 1) (k := .i64) (by simp)
          simpa using this
        rw [Ex.split_and]
        simp [A12, B12, R12_0, R12_1, R12_3, R12_4, R12_5, hF, Ex.av, Ex.cells, x0, x1]
        refine CalV.own ia ?_
        simp [x1]
        refine CalV.own ib ?_
        simp
        refine LoopV.of (fun k F H n m_ => ∃ i x, k = b.split.length - i ∧ i ≤ b.split.length ∧ F.get 4 = some (.sl 2 0 b.split.length 8) ∧ F.get 5 = some (.int .i64 (i : Int)) ∧ F.get 3 = some x ∧
          OwnS H n x (Ex.cellsL (a.split ++ b.split.take i)) (a.split.length + i) 8 ∧ 3 ≤ n ∧ x ≠ .sl 2 0 (a.split.length + i) 8 ∧ H.get 2 = some (.cells (b.split.length * 8) [] (Ex.cellsL b.split) .nil) ∧ m_ = []) b.split.length
          ⟨0, .sl 1 0 a.split.length 8, by simp; exact ⟨by simp, .inr ⟨1, _, rfl, by omega, by simp; rfl, .list (by simp)⟩⟩⟩ ?_
        rintro k F H n m_ ⟨i, x, rfl, hi, f4, f5, f3, ho, hn, hx2, h2, rfl⟩
        by_cases hlt : i < b.split.length
        · have hx := cIxa_sl (b := 2) (o := 0) (sz := 8) (k := .i64) hlt
          have hg : grab (b.split.length * 8) [] (Ex.cellsL b.split) .nil (0 + i * 8) 8 = some b.split[i].cells := by
            rw [grab_list (by simp) (by omega), Nat.zero_add, Ex.drop_take _ _ hlt]
          simp [L12_0, R12_6, R12_7, f4, f5, f3, hlt, hx, h2]
          rw [show i * 8 = 0 + i * 8 by omega, hg]
          simp
          refine OwnS.app (k := 1) (new := b.split[i].cells) (len := a.split.length + i) (l := Ex.cellsL (a.split ++ b.split.take i)) (OwnS.step ho (by omega) fun c hc _ => by simp [show ¬ c = n by omega]) ?_ (by simp) (by simp) (by omega) (by omega) (by unfold big; omega) (by omega) (by simp) fun H' ho' hk => ?_
          · rw [sliceCells_sl (l := b.split[i].cells) (k := .cells 8 [] b.split[i].cells .nil) (by simp) (OwnB.list (by simp)) (by simp)]; simp
          · simp [f4, f5, R12_8, wrap_nat i (by omega)]
            refine ⟨b.split.length - (i + 1), by omega, i + 1, rfl, hlt, by omega, ?_, by omega, by omega, ?_⟩
            · rw [List.take_succ_eq_append_getElem hlt, ← List.append_assoc, Ex.cellsL_append]
              simpa [Ex.cellsL, Nat.add_assoc] using ho'
            · rw [hk 2 (by omega) hx2]; simp [show ¬ 2 = n by omega, h2]
        · have hi' : i = b.split.length := by omega
          subst hi'
          rw [List.take_length] at ho
          simp [L12_0, R12_6, f4, f5, f3, R12_9]
          exact ho
    · rw [Ex.split_one hc]
      by_cases h20 : op = 20
      · have hl : ¬ args.length = 2 := fun e => hc ⟨h20, e⟩
        have hl' : ¬ (args.length : Int) = 2 := by omega
        simp [A12, B12, R12_0, R12_1, R12_2, hF, Ex.av, Ex.cells, h20, hl']
        exact own_one _ (by simp [Ex.cells])
      · simp [A12, B12, R12_0, R12_1, R12_2, hF, Ex.av, Ex.cells, h20]
        exact own_one _ (by simp [Ex.cells])
theorem split12 (e : Ex) (h : e.sz ≤ lim) : FnOwn Try.prog 12 [e.av] (Ex.cellsL e.split) e.split.length 8 := split12' lim e h (Nat.le_refl _)

theorem conj10' : ∀ (N : Nat) (e : Ex), e.sz ≤ N → N ≤ lim → FnOwn Try.prog 10 [e.av] (Ex.cellsL e.split) e.split.length 8
  | 0, e, h, _ => by have := Ex.sz_pos e; omega
  | N + 1, .mk op v t m col args, ha, hN => by
    have hs := Ex.split_sz (N + 1) (.mk op v t m col args) ha
    refine FnOwn.of (by simp) (by simp) hs.2 (CallR.of c10 (by simp [A10]) fun F hF => ?_)
    by_cases hc : op = 20 ∧ args.length = 2
    · obtain ⟨rfl, hl⟩ := hc
      match args, hl with
      | [a, b], _ =>
        simp only [Ex.sz, Ex.szL] at ha
        have ia := conj10' N a (by omega) (by omega)
        have ib := conj10' N b (by omega) (by omega)
        have sa := Ex.split_sz N a (by omega)
        have sb := Ex.split_sz N b (by omega)
        have la := Ex.sz_len a.split
        have lb := Ex.sz_len b.split
        unfold lim at hN
        have x0 : cIxa 8 (.ds (Ex.cellsL [a, b]) 2 8) (.int .i64 0) = .val (.dp (a.cells ++ Ex.cellsL [b])) := by
          have := ixa_ex (l := [a, b]) (i := 0) (k := .i64) (by simp)
          simpa using this
        have x1 : cIxa 8 (.ds (Ex.cellsL [a, b]) 2 8) (.int .i64 1) = .val (.dp (b.cells ++ Ex.cellsL [])) := by
          have := ixa_ex (l := [a, b]) (i := 1) (k := .i64) (by simp)
          simpa using this
        rw [Ex.split_and]
        simp [A10, B10, R10_0, R10_1, R10_2, hF, Ex.av, Ex.cells]
        refine DrwV.of (ceT_ok (l := [(10, [a.av], fun H n => .mk (.sl n 0 a.split.length 8) (H.put n (some (.cells (a.split.length * 8) [] (Ex.cellsL a.split) .nil))) (n + 1)), (10, [b.av], fun H n => .mk (.sl n 0 b.split.length 8) (H.put n (some (.cells (b.split.length * 8) [] (Ex.cellsL b.split) .nil))) (n + 1))]) ?_) ?_
        · simp only [List.mem_cons, List.not_mem_nil, or_false]
          rintro x (rfl | rfl)
          · exact ceT_own ia
          · exact ceT_own ib
        · have hb : ∀ H n, (ceT [((10 : Nat), [a.av], fun (H : Hp) (n : Nat) => CRes.mk (.sl n 0 a.split.length 8) (H.put n (some (.cells (a.split.length * 8) [] (Ex.cellsL a.split) .nil))) (n + 1)), (10, [b.av], fun H n => .mk (.sl n 0 b.split.length 8) (H.put n (some (.cells (b.split.length * 8) [] (Ex.cellsL b.split) .nil))) (n + 1))]).call 10 [b.av] H n = .mk (.sl n 0 b.split.length 8) (H.put n (some (.cells (b.split.length * 8) [] (Ex.cellsL b.split) .nil))) (n + 1) := by
            intro H n
            rw [ceT_tl, ceT_hd]
            intro _ e H n
            have e : b = a := Ex.av_inj (by simpa using e)
            subst e
            rw [ceT_hd]
          simp [clearF_get, hF, x0, x1, ceT_hd, hb]
          refine OwnS.appI (k := b.split.length) (new := Ex.cellsL b.split) (len := a.split.length) (l := Ex.cellsL a.split) ⟨by simp, .inr ⟨1, _, rfl, by omega, by simp; rfl, .list (by simp)⟩⟩ ?_ (by simp) (by simp) (by omega) (by omega) (by unfold big; omega) (by omega) (by simp) fun H' ho' hk => ?_
          · rw [sliceCells_sl (l := Ex.cellsL b.split) (k := .cells (b.split.length * 8) [] (Ex.cellsL b.split) .nil) (by simp) (OwnB.list (by simp)) (by simp)]
            simp [List.take_of_length_le]
          · simp
            rw [Ex.cellsL_append]
            exact ho'
    · rw [Ex.split_one hc]
      have ho := own30 (.mk op v t m col args) (by omega)
      by_cases h20 : op = 20
      · have hl : ¬ args.length = 2 := fun e => hc ⟨h20, e⟩
        have hl' : ¬ (args.length : Int) = 2 := by omega
        simp [A10, B10, R10_0, R10_1, R10_3, hF, Ex.av, Ex.cells, h20, hl']
        subst h20
        refine CalV.pure ho ?_
        simp
        exact own_one _ (by simp [Ex.cells])
      · simp [A10, B10, R10_0, R10_1, R10_3, hF, Ex.av, Ex.cells, h20]
        refine CalV.pure ho ?_
        simp
        exact own_one _ (by simp [Ex.cells])
theorem conj10 (e : Ex) (h : e.sz ≤ lim) : FnOwn Try.prog 10 [e.av] (Ex.cellsL e.split) e.split.length 8 := conj10' lim e h (Nat.le_refl _)
end Go.Abs
