/- A part of the proof. -/
import Derived.Test.YtmmgdjecahcemaaGreatEd4
namespace Go.Abs
open Go.Proofs
set_option maxRecDepth 100000

/-- a query of one item -/
def qC (e : Ex) : List AV := [.bool false, .bool false, .ds (e.cells ++ [.str []]) 1 9, nilS, .int .i64 0, .int .i64 0, .int .i64 0, .str [], .str [], .str [], .int .i64 0, .ds [] 0 8, nilS, .bool false, .int .i64 0]
def stC (e : Ex) : List AV := [.int .i64 8, .str [], .str [], nilS, nilS, .bool false, nilS, nilS, .int .i64 0, .int .i64 0, .int .i64 0, .str [], .str [], .str [], .int .i64 0, .ds [] 0 8] ++ qC e
def bdC (i n k : AV) : List AV := [.int .i64 8, .str [], .int .u32 0, .str [], nilS, .int .u32 0, .int .u32 0, .int .u32 0, .str [], nilS, .bool false, .int .u32 0, nilS, nilS, nilS, nilS, nilS, nilS, i, n, k, nilS, .bool false, .bool false, .int .i64 0]
def scAv : AV := .agg [nilS, nilS] 2
theorem noneAt_nil (n : Nat) : (noneAt n [] = true) = True := by simp [noneAt]
theorem noneAt_cons (n : Nat) (h : Hp) (l : List Hp) : (noneAt n (h :: l) = true) = (h.get n = none ∧ noneAt n l = true) := by
  cases e : h.get n <;> simp [noneAt, e]
/-- before and behind the items -/
def BdH (H : Hp) (i n k : AV) : Prop := H.get 3 = some (.cells 3 [] [nilS, nilS, .int .i64 0] .nil) ∧ H.get 4 = some (.cells 25 [] (bdC i n k) .nil)
def ItP (t : Tm) (H0 H : Hp) : Prop := ∃ i n k, BdH H i n k ∧ FrzL (above 5 H) [i, n, k] [.ds t.ex.cells 1 8, .ds [.str []] 1 1, .ds [.int .i64 1] 1 1] ∧ ∀ b, b < 5 → b ≠ 4 → H.get b = H0.get b
theorem items86 (t : Tm) (H : Hp) (hh : BdH H nilS nilS nilS) (ht : Top H 7) : CallR Tryz.prog 86 [.ptr 3 0, scAv, .agg (qC t.ex) 15, .ptr 4 0] H 7 (fun v H' n' => v = .tup [] ∧ ItP t H H' ∧ 7 ≤ n' ∧ Top H' n' ∧ H'.get 5 = H.get 5 ∧ H'.get 6 = H.get 6) := by
  obtain ⟨h3, h4⟩ := hh
  have hx : ∀ l : List AV, cIxa 9 (.ds l 1 9) (.int .i64 0) = .val (.dp l) := fun l => by
    have := cIxa_ds (cs := l) (len := 1) (sz := 9) (i := 0) (k := .i64) (by omega)
    simpa using this
  have hy : ∀ (a b c d e f g h i : AV) (H : Hp), cLoadN 9 (.dp [a, b, c, d, e, f, g, h, i]) H = .val (.agg [a, b, c, d, e, f, g, h, i] 9) := fun a b c d e f g h i H => by
    have := cLoadN_dp (l := [a, b, c, d, e, f, g, h, i]) (k := 9) [] rfl (H := H)
    simpa using this
  have he := expr81 t
  have hop : ¬ t.op = 2 := by cases t <;> simp [Tm.op]
  rw [show t.ex.av = .agg (t.cl (.ds (Ex.cellsL t.args) t.args.length 8)) 8 by rw [Ex.av, Tm.cells]] at he
  refine CallR.of c86 (by simp [A86]) fun F hF => ?_
  simp [A86, B86, R86_0, R86_1, R86_14, hF, qC, scAv, Tm.cells, Tm.cl]
  refine LoopV.ofU 1 (LoopU.step ?_)
  simp [L86_2, R86_15, R86_16, R86_17, R86_18, R86_19, hF, hx, hy]
  generalize hH1 : Tr.put _ 9 _ = H1
  have g1 : Grow H 7 H1 10 := by rw [← hH1]; ((repeat (refine Grow.upd ?_ _ (by omega) (by omega))); (first | exact Grow.le (Grow.refl (by assumption)) (by omega) | exact Grow.le (by assumption) (by omega)))
  have a3 := (g1.2.1 3 (by omega)).trans h3
  have a4 := (g1.2.1 4 (by omega)).trans h4
  have a9 : H1.get 9 = some (.cells 9 [] (t.cl (.ds (Ex.cellsL t.args) t.args.length 8) ++ [.str []]) .nil) := by rw [← hH1]; simp [Tm.cl]
  have a7 : H1.get 7 = some (.cells 2 [] [nilS, nilS] .nil) := by rw [← hH1]; simp
  refine CalV.of (he H1 10 3 g1.2.2 (by omega)) ?_
  clear hH1
  rintro v K n1 ⟨vx, rfl, ov, hz, g2⟩
  have hn1 := g2.1
  have b3 := (g2.2.1 3 (by omega)).trans a3
  have b4 := (g2.2.1 4 (by omega)).trans a4
  have b9 := (g2.2.1 9 (by omega)).trans a9
  simp [Tm.cl, ov, b9, neC (show 9 < n1 by omega), hop]
  generalize hH2 : Tr.put _ n1 _ = H2
  have c3 : H2.get 3 = some (.cells 3 [] [nilS, nilS, .int .i64 0] .nil) := by rw [← hH2]; simp [neC (show 3 < n1 by omega), b3]
  have c4 : H2.get 4 = some (.cells 25 [] (bdC nilS nilS nilS) .nil) := by rw [← hH2]; simp [neC (show 4 < n1 by omega), b4]
  have cn : H2.get n1 = some (.cells 8 [] (t.cl vx) .nil) := by rw [← hH2]; simp [Tm.cl]
  have g12 := g1.trans g2
  have g3 : Grow H 7 H2 (n1 + 1) := by rw [← hH2]; ((repeat (refine Grow.upd ?_ _ (by omega) (by omega))); (first | exact Grow.le (Grow.refl (by assumption)) (by omega) | exact Grow.le (by assumption) (by omega)))
  have hk : ∀ c kk, K.get c = some kk → H2.get c = some kk := by
    intro c kk h
    have hc := g2.2.2.lt h
    rw [← hH2]; simp [neC hc, h]
  clear hH2
  simp [R86_21, R86_22]
  refine DrwV.of (ce0_ok (P := Tryz.prog)) ?_
  have z := g3.2.2.none
  have y4 := neC (show 4 < n1 by omega)
  have nz : ¬ n1 = 0 ∧ ¬ n1 = 1 ∧ ¬ n1 = 2 ∧ ¬ n1 = 3 ∧ ¬ n1 = 4 ∧ ¬ 1 = n1 ∧ ¬ 2 = n1 ∧ ¬ 3 = n1 ∧ ¬ 4 = n1 := by omega
  simp [clearF_get, hF, c4, cn, bdC, Tm.cl, z, noneAt_cons, noneAt_nil]
  rw [cApp_n (new := t.cl vx) (k := 1) (sliceCells_one (by simp [Tm.cl])) (by simp) (by omega) (by omega) (by unfold big; omega) (by omega) (by simp [Tm.cl, ov])]
  simp [clearF_get, hF, c4, bdC, Tm.cl, z, y4, noneAt_cons, noneAt_nil]
  rw [cApp_n (new := [.str []]) (k := 1) (sliceCells_one (by simp)) (by simp) (by omega) (by omega) (by unfold big; omega) (by omega) (by simp)]
  simp [clearF_get, hF, c4, bdC, z, y4, nz, noneAt_cons, noneAt_nil]
  rw [cApp_n (new := [.int .i64 1]) (k := 1) (sliceCells_one (by simp)) (by simp) (by omega) (by omega) (by unfold big; omega) (by omega) (by simp)]
  simp [clearF_get, hF, c4, bdC, y4, nz]
  refine LoopU.step ?_
  have e5 := g3.2.1 5 (by omega)
  have e6 := g3.2.1 6 (by omega)
  have y5 := neC (show 5 < n1 by omega)
  have y6 := neC (show 6 < n1 by omega)
  simp [clearF_get, nz, e5, e6, show ¬ n1 = 5 by omega]
  generalize hH9 : Tr.put _ 4 _ = H9
  have hget : ∀ c, c ≠ 4 → c ≤ n1 → H9.get c = H2.get c := by
    intro c h1 h2
    rw [← hH9]; simp [h1, neC (show c < n1 + 1 by omega)]
  have k4 : H9.get 4 = some (.cells 25 [] (bdC (.sl (n1 + 1 + 1) 0 1 8) (.sl (n1 + 1 + 1 + 1 + 1) 0 1 1) (.sl (n1 + 1 + 1 + 1 + 1 + 1 + 1) 0 1 1)) .nil) := by rw [← hH9]; simp [bdC]
  have w0 : (n1 + 1 + 1 = 4) = False := by simp only [eq_iff_iff, iff_false]; omega
  have w1 : (n1 + 1 + 1 + 1 + 1 = 4) = False := by simp only [eq_iff_iff, iff_false]; omega
  have w2 : (n1 + 1 + 1 + 1 + 1 + 1 + 1 = 4) = False := by simp only [eq_iff_iff, iff_false]; omega
  have k1 : H9.get (n1 + 1 + 1) = some (.cells 8 [] (t.cl vx) .nil) := by rw [← hH9]; simp [nz, Tm.cl]
  have k2 : H9.get (n1 + 1 + 1 + 1 + 1) = some (.cells 1 [] [.str []] .nil) := by rw [← hH9]; simp [nz]
  have k3 : H9.get (n1 + 1 + 1 + 1 + 1 + 1 + 1) = some (.cells 1 [] [.int .i64 1] .nil) := by rw [← hH9]; simp
  have tp : Top H9 (n1 + 1 + 1 + 1 + 1 + 1 + 1 + 1) := by
    intro b hb
    have q0 : ¬ b = 4 := by omega
    have q1 : ¬ b = n1 + 1 := by omega
    have q2 : ¬ b = n1 + 1 + 1 := by omega
    have q3 : ¬ b = n1 + 1 + 1 + 1 := by omega
    have q4 : ¬ b = n1 + 1 + 1 + 1 + 1 := by omega
    have q5 : ¬ b = n1 + 1 + 1 + 1 + 1 + 1 := by omega
    have q6 : ¬ b = n1 + 1 + 1 + 1 + 1 + 1 + 1 := by omega
    rw [← hH9]; simp [q0, q1, q2, q3, q4, q5, q6, g3.2.2 b (by omega)]
  clear hH9
  have ab : ∀ c kk, 5 ≤ c → H9.get c = some kk → above 5 H9 c = some kk := by
    intro c kk h1 h2
    unfold above; rw [if_pos h1, h2]
  have zx : Frz (above 5 H9) vx (.ds (Ex.cellsL t.args) t.args.length 8) := hz.mono (above_le fun c kk h1 h2 => by
    have hc := g2.2.2.lt h2
    exact ⟨by omega, (hget c (by omega) (by omega)).trans (hk c kk h2)⟩)
  refine ⟨⟨_, _, _, ⟨(hget 3 (by omega) (by omega)).trans c3, k4⟩, ?_, fun b h1 h2 => (hget b h2 (by omega)).trans (g3.2.1 b (by omega))⟩, tp⟩
  refine .cons _ _ _ _ ?_ (.cons _ _ _ _ ?_ (.cons _ _ _ _ ?_ .nil))
  · exact .sl _ _ _ _ _ _ _ _ _ _ (ab _ _ (by omega) k1) (by simp [Tm.cl]) (t.frz zx)
  · exact .sl _ _ _ _ _ _ _ _ _ _ (ab _ _ (by omega) k2) (by simp) (FrzL.pure (by simp))
  · exact .sl _ _ _ _ _ _ _ _ _ _ (ab _ _ (by omega) k3) (by simp) (FrzL.pure (by simp))
theorem cond32 (H : Hp) (n : Nat) (p : AV) : CallR Tryz.prog 32 [p, scAv, .agg [.int .i64 0, .int .i64 0, .int .i64 0, .str [], .str [], .str [], .int .i64 0, .ds [] 0 8] 8] H n (fun v K k => v = nilS ∧ (∀ b, b < n → K.get b = H.get b) ∧ n ≤ k) := by
  refine CallR.of c32 (by simp [A32]) fun F hF => ?_
  simp [A32, B32, R32_0, R32_1, R32_2, hF, scAv]
  refine ⟨fun b hb => ?_, by omega⟩
  have q0 : ¬ b = n := by omega
  have q1 : ¬ b = n + 1 := by omega
  simp [q0, q1]
/-- what the query makes -/
def QuP (t : Tm) (H0 H : Hp) : Prop := ∃ i n k, BdH H i n k ∧ FrzL (above 5 H) [i, n, k] [.ds t.ex.cells 1 8, .ds [.str []] 1 1, .ds [.int .i64 1] 1 1] ∧ ∀ b, b < 4 → H.get b = H0.get b
theorem query35 (t : Tm) (H : Hp) (hh : BdH H nilS nilS nilS) (ht : Top H 5) : CallR Tryz.prog 35 [.ptr 3 0, .agg (qC t.ex) 15, .ptr 4 0] H 5 (fun v H' n' => v = .tup [] ∧ QuP t H H' ∧ 5 ≤ n') := by
  obtain ⟨h3, h4⟩ := hh
  refine CallR.of c35 (by simp [A35]) fun F hF => ?_
  simp [A35, B35, R35_0, R35_1, R35_2, hF, qC]
  refine LoopV.ofU 0 (LoopU.step ?_)
  simp [L35_0, R35_3, R35_12, R35_13, R35_14, hF, h3, h4, bdC]
  refine LoopV.ofU 0 (LoopU.step ?_)
  simp [L35_1, R35_15, R35_19, hF]
  generalize hH1 : Tr.put _ 4 _ = H1
  have a3 : H1.get 3 = some (.cells 3 [] [nilS, nilS, .int .i64 0] .nil) := by rw [← hH1]; simp [h3]
  have a4 : H1.get 4 = some (.cells 25 [] (bdC nilS nilS nilS) .nil) := by rw [← hH1]; simp [bdC]
  have a5 : H1.get 5 = some (.cells 15 [] (qC t.ex) .nil) := by rw [← hH1]; simp [qC]
  have a6 : H1.get 6 = some (.cells 2 [] [nilS, nilS] .nil) := by rw [← hH1]; simp
  have at7 : Top H1 7 := by
    intro b hb
    have q0 : ¬ b = 4 := by omega
    have q1 : ¬ b = 5 := by omega
    have q2 : ¬ b = 6 := by omega
    rw [← hH1]; simp [q0, q1, q2, ht b (by omega)]
  have ak : ∀ b, b < 4 → H1.get b = H.get b := by
    intro b hb
    have q0 : ¬ b = 4 := by omega
    have q1 : ¬ b = 5 := by omega
    have q2 : ¬ b = 6 := by omega
    rw [← hH1]; simp [q0, q1, q2]
  clear hH1
  refine CalV.of (items86 t H1 ⟨a3, a4⟩ at7) ?_
  rintro v K n1 ⟨rfl, ⟨i, nm, k, ⟨b3, b4⟩, hz, hk⟩, hn, tp, e5, e6⟩
  have b5 := e5.trans a5
  have b6 := e6.trans a6
  simp [R35_20, R35_21, hF, b5, b6, qC]
  refine CalV.of (cond32 K n1 (.ptr 3 0)) ?_
  rintro v K2 n2 ⟨rfl, hk2, hn2⟩
  have c3 := (hk2 3 (by omega)).trans b3
  have c4 := (hk2 4 (by omega)).trans b4
  have c5 := (hk2 5 (by omega)).trans b5
  simp [c4, c5, bdC, qC]
  refine LoopV.ofU 0 (LoopU.step ?_)
  simp [L35_2, R35_22, R35_29]
  refine DrwV.of (ce0_ok (P := Tryz.prog)) ?_
  simp [clearF_get, hF, c5, qC]
  refine ⟨⟨i, nm, k, ⟨by simp [c3], by simp [bdC]⟩, FrzL.mono (above_le fun c kk h1 h2 => ?_) hz, fun b hb => ?_⟩, by omega⟩
  · have hc := tp.lt h2
    have q0 : ¬ c = 4 := by omega
    exact ⟨h1, by simp [q0, hk2 c hc, h2]⟩
  · have q0 : ¬ b = 4 := by omega
    simp only [Tr.get_put, q0, if_false]
    exact (hk2 b (by omega)).trans ((hk b (by omega) q0).trans (ak b hb))
theorem bind10 (t : Tm) (h23 : FnPure Tryz.prog 23 [scAv] (.bool true)) (h24 : FnPure Tryz.prog 24 [.agg (stC t.ex) 31] (.bool true)) : FnPure Tryz.prog 10 [scAv, .agg (stC t.ex) 31] (.tup [.agg (bdC (.ds t.ex.cells 1 8) (.ds [.str []] 1 1) (.ds [.int .i64 1] 1 1)) 25, .int .i64 0]) := by
  refine pureV c10 (by simp [scAv, stC, qC]) (by simp [bdC]) (by simp [A10]) fun F hF => ?_
  simp [A10, B10, R10_0, R10_1, hF, scAv]
  refine CalV.pure h23 ?_
  simp [stC, qC]
  refine CalV.pure h24 ?_
  simp [R10_3, R10_4, R10_5, R10_6, R10_8, R10_10, R10_12, R10_17, R10_19, R10_23]
  simp [R10_25, R10_26]
  generalize hH1 : Tr.put _ 4 _ = H1
  have h3 : H1.get 3 = some (.cells 3 [] [nilS, nilS, .int .i64 0] .nil) := by rw [← hH1]; simp
  have h4 : H1.get 4 = some (.cells 25 [] (bdC nilS nilS nilS) .nil) := by rw [← hH1]; simp [bdC]
  have h2 : H1.get 2 = some (.cells 25 [] [.int .i64 0, .str [], .int .u32 0, .str [], nilS, .int .u32 0, .int .u32 0, .int .u32 0, .str [], nilS, .bool false, .int .u32 0, nilS, nilS, nilS, nilS, nilS, nilS, nilS, nilS, nilS, nilS, .bool false, .bool false, .int .i64 0] .nil) := by rw [← hH1]; simp
  have tp : Top H1 5 := by
    intro b hb
    have q0 : ¬ b = 0 := by omega
    have q1 : ¬ b = 1 := by omega
    have q2 : ¬ b = 2 := by omega
    have q3 : ¬ b = 3 := by omega
    have q4 : ¬ b = 4 := by omega
    rw [← hH1]; simp [q0, q1, q2, q3, q4]
  clear hH1
  refine CalV.of (query35 t H1 ⟨h3, h4⟩ tp) ?_
  rintro v K n1 ⟨rfl, ⟨i, nm, k, ⟨b3, b4⟩, hz, hk⟩, hn⟩
  have b2 := (hk 2 (by omega)).trans h2
  simp [R10_27, b3, b4, b2, R10_29, bdC]
  have hz2 : FrzL (Tr.get (K.put 2 (some (ABlk.cells 25 [] (bdC i nm k) .nil)))) [i, nm, k] [.ds t.ex.cells 1 8, .ds [.str []] 1 1, .ds [.int .i64 1] 1 1] := hz.mono fun c kk h1 => by
    unfold above at h1
    split at h1
    · rename_i hc
      have q : ¬ c = 2 := by omega
      simp [q, h1]
    · cases h1
  have o1 := hz2.one (by simp)
  simp only [allOne_cons, allOne_nil, Bool.and_eq_true, Bool.and_true] at o1
  simp [o1]
  cases hz2 with
  | cons _ _ _ _ z1 z2 => cases z2 with
    | cons _ _ _ _ z3 z4 => cases z4 with
      | cons _ _ _ _ z5 z6 =>
        have p : ∀ v, Pure v → Frz (Tr.get (K.put 2 (some (ABlk.cells 25 [] (bdC i nm k) .nil)))) v v := fun v h => .pure v h
        simp only [bdC] at z1 z3 z5 p
        refine .tup _ _ (.cons _ _ _ _ (.agg _ _ _ ?_) (.cons _ _ _ _ (.pure _ (by simp)) .nil))
        repeat (refine .cons _ _ _ _ (by first | assumption | exact .pure _ (by simp)) ?_)
        exact .nil
end Go.Abs
