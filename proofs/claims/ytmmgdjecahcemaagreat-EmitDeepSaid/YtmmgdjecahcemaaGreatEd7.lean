/- A part of the proof. -/
import Derived.Test.YtmmgdjecahcemaaGreatEd6
namespace Go.Abs
open Go.Proofs
set_option maxRecDepth 100000

theorem may_tm (t : Tm) : t.ex.may = true := by
  induction t with
  | one => simp [Tm.ex, Ex.may, Val.may]
  | add a b ha hb => simp [Tm.ex, Ex.may, Ex.mayL, ha, hb]
/-- the statement, bound -/
def bndC (t : Tm) : List AV := bdC (.ds t.ex.cells 1 8) (.ds [.str []] 1 1) (.ds [.int .i64 1] 1 1)
theorem bnd_pure (t : Tm) : PureL (bndC t) := by simp [bndC, bdC]
theorem planned19 (t : Tm) (hb : FnPure Tryz.prog 10 [scAv, .agg (stC t.ex) 31] (.tup [.agg (bndC t) 25, .int .i64 0])) : FnPure Tryz.prog 19 [scAv, .agg (stC t.ex) 31] (.tup [.agg (bndC t) 25, .int .i64 0]) := by
  refine pureV c19 (by simp [scAv, stC, qC]) (by simp [bndC, bdC]) (by simp [A19]) fun F hF => ?_
  simp [A19, B19, R19_0, R19_1, hF, scAv, stC, qC]
  refine CalV.pure hb ?_
  simp [bndC, bdC, R19_2, R19_3, R19_4]
  exact .pure _ (by simp)
theorem sources20 (t : Tm) : FnPure Tryz.prog 20 [.agg (bndC t) 25] (.tup [nilS, nilS]) := by
  refine pureV c20 (by simp [bndC, bdC]) (by simp) (by simp [A20]) fun F hF => ?_
  simp [A20, B20, R20_0, R20_1, R20_2, hF, bndC, bdC]
  refine DrwV.of (ce0_ok (P := Tryz.prog)) ?_
  simp [clearF_get]
  exact .pure _ (by simp)
theorem right9 (t : Tm) (hb : FnPure Tryz.prog 10 [scAv, .agg (stC t.ex) 31] (.tup [.agg (bndC t) 25, .int .i64 0])) : FnPure Tryz.prog 9 [scAv, .agg (stC t.ex) 31, nilS] (.int .i64 0) := by
  have h19 := planned19 t hb
  have h20 := sources20 t
  refine pureV c9 (by simp [scAv, stC, qC]) (by simp) (by simp [A9]) fun F hF => ?_
  simp [A9, B9, R9_0, R9_1, hF, scAv, stC, qC]
  refine CalV.pure h19 ?_
  simp [bndC, bdC, R9_2, R9_4]
  refine CalV.pure h20 ?_
  simp [R9_5, R9_7, hF]
  refine LoopV.ofU 0 (LoopU.step ?_)
  simp [L9_0, R9_8, R9_13]
  exact .pure _ (by simp)
theorem add36e (H : Hp) (n : Nat) (p q : AV) : CallR Tryz.prog 36 [nilS, p, q] H n (fun v K k => v = .tup [] ∧ K = H ∧ k = n) := by
  refine CallR.of c36 (by simp [A36]) fun F hF => ?_
  simp [A36, B36, R36_0, hF]
  refine LoopV.ofU 0 (LoopU.step ?_)
  simp [L36_0, R36_1]
theorem add36 (t : Tm) (ht : t.ex.sz ≤ lim) (H : Hp) (c d : Nat) (h1 : H.get 1 = some (.cells 1 [] [.int .i64 (c : Int)] .nil)) (h2 : H.get 2 = some (.cells 1 [] [.int .i64 (d : Int)] .nil)) (hc : c ≤ lim) (_hd : d ≤ lim) :
    CallR Tryz.prog 36 [.ds t.ex.cells 1 8, .ptr 1 0, .ptr 2 0] H 3 (fun v K k => v = .tup [] ∧ K.get 0 = H.get 0 ∧ K.get 1 = some (.cells 1 [] [.int .i64 ((c + (t.ex.sz + 1) : Nat) : Int)] .nil) ∧ K.get 2 = some (.cells 1 [] [.int .i64 ((max d t.ex.rgs : Nat) : Int)] .nil) ∧ 3 ≤ k) := by
  have hx : cIxa 8 (.ds t.ex.cells 1 8) (.int .i64 0) = .val (.dp (t.ex.cells ++ [])) := by
    have := ixa_ex (l := [t.ex]) (i := 0) (k := .i64) (by simp)
    simpa [Ex.cellsL] using this
  have hs := size37 t.ex ht
  have hr := Ex.rgs_le _ _ (Nat.le_refl t.ex.sz)
  unfold lim at ht hc
  refine CallR.of c36 (by simp [A36]) fun F hF => ?_
  simp [A36, B36, R36_0, hF]
  refine LoopV.ofU 1 (LoopU.step ?_)
  simp only [List.append_nil] at hx
  have hl : ∀ H, cLoadN 8 (.dp t.ex.cells) H = .val t.ex.av := fun H => by
    have := ld_ex t.ex [] H
    simpa using this
  simp [L36_0, R36_1, R36_2, R36_3, hx, hl]
  refine CalV.pure hs ?_
  have w1 : IntKind.i64.wrap ((t.ex.sz : Int) + 1) = ((t.ex.sz + 1 : Nat) : Int) := by
    simp [IntKind.wrap, IntKind.signed, IntKind.bits]; omega
  have w2 : IntKind.i64.wrap ((c : Int) + ((t.ex.sz : Int) + 1)) = ((c + (t.ex.sz + 1) : Nat) : Int) := by
    simp [IntKind.wrap, IntKind.signed, IntKind.bits]; omega
  have hmx := maxN d t.ex.rgs
  simp only [Int.natCast_add, Int.natCast_one] at w1
  simp [R36_4, R36_5, R36_6, hF, h1, h2, w1, w2, eMnx, hmx]
  refine LoopU.step ?_
  simp
theorem counted11 (t : Tm) (ht : t.ex.sz ≤ lim) : FnPure Tryz.prog 11 [.agg (bndC t) 25, nilS] (.tup [.int .i64 ((8 + (t.ex.sz + 1) : Nat) : Int), .int .i64 ((18 + t.ex.rgs : Nat) : Int)]) := by
  have hr := Ex.rgs_le _ _ (Nat.le_refl t.ex.sz)
  refine pureV c11 (by simp [bndC, bdC]) (by simp) (by simp [A11]) fun F hF => ?_
  simp [A11, B11, R11_0, R11_1, R11_2, R11_3, R11_4, hF, bndC, bdC]
  refine LoopV.ofU 0 (LoopU.step ?_)
  simp [L11_0, R11_5, R11_9]
  refine CalV.same (add36e _ _ _ _) ?_
  simp [R11_10]
  generalize hH : Tr.put _ 1 _ = H
  have h0 : H.get 0 = some (.cells 25 [] (bndC t) .nil) := by rw [← hH]; simp [bndC, bdC]
  have h1 : H.get 1 = some (.cells 1 [] [.int .i64 ((8 : Nat) : Int)] .nil) := by rw [← hH]; simp [IntKind.wrap, IntKind.signed, IntKind.bits]
  have h2 : H.get 2 = some (.cells 1 [] [.int .i64 ((0 : Nat) : Int)] .nil) := by rw [← hH]; simp
  clear hH
  refine CalV.of (add36 t ht H 8 0 h1 h2 (by unfold lim; omega) (by unfold lim; omega)) ?_
  rintro v K k ⟨rfl, e0, e1, e2, hk⟩
  have k0 := e0.trans h0
  rw [Nat.zero_max] at e2
  simp [R11_11, k0, bndC, bdC]
  refine CalV.same (add36e _ _ _ _) ?_
  simp [R11_12, hF]
  refine LoopV.ofU 0 (LoopU.step ?_)
  simp [L11_2, R11_13, R11_23]
  refine DrwV.of (ce0_ok (P := Tryz.prog)) ?_
  unfold lim at ht
  have w : IntKind.i64.wrap (18 + (t.ex.rgs : Int)) = ((18 + t.ex.rgs : Nat) : Int) := by
    simp [IntKind.wrap, IntKind.signed, IntKind.bits]; omega
  simp [clearF_get, e1, e2, w]
  exact .pure _ (by simp)
end Go.Abs
