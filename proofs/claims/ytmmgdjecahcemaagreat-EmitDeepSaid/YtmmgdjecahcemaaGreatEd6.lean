/- A part of the proof. -/
import Derived.Test.YtmmgdjecahcemaaGreatEd5
namespace Go.Abs
open Go.Proofs
set_option maxRecDepth 100000

/-- no expression -/
def Ex.zero : Ex := .mk 0 ⟨0, 0, []⟩ [] [] 0 []
theorem zero_av : Ex.zero.av = .agg [.int .i64 0, .int .i64 0, .int .i64 0, .str [], .str [], .str [], .int .i64 0, .ds [] 0 8] 8 := by simp [Ex.zero, Ex.av, Ex.cells, Ex.cellsL]
theorem lacks95z : FnPure Tryz.prog 95 [.agg [.int .i64 0, .int .i64 0, .int .i64 0, .str [], .str [], .str [], .int .i64 0, .ds [] 0 8] 8] (.bool true) := by
  have := lacks91 Ex.zero
  rw [zero_av] at this
  simpa [Ex.bare, Ex.zero] using this
theorem maybe64z : FnPure Tryz.prog 64 [.agg [.int .i64 0, .int .i64 0, .int .i64 0, .str [], .str [], .str [], .int .i64 0, .ds [] 0 8] 8] (.bool true) := by
  refine pureV c64 (by simp) (by simp) (by simp [A64]) fun F hF => ?_
  simp [A64, B64, R64_0, R64_1, hF]
  refine CalV.pure lacks95z ?_
  simp
  exact .pure _ (by simp)
def stC2 (e : Ex) : List AV := [.int .i64 8, .str [], .str [], nilS, nilS, .bool false, nilS, nilS, .int .i64 0, .int .i64 0, .int .i64 0, .str [], .str [], .str [], .int .i64 0, nilS] ++ qC e
theorem rest66 (e : Ex) : FnPure Tryz.prog 66 [.agg (stC e) 31, .agg (stC2 e) 31] (.bool true) := by
  refine pureV c66 (by simp [stC, stC2, qC]) (by simp) (by simp [A66]) fun F hF => ?_
  simp [A66, B66, R66_0, R66_1, R66_2, hF, stC, stC2, qC]
  refine DrwV.of (ce0_ok (P := Tryz.prog)) ?_
  simp [clearF_get, noneAt_cons, noneAt_nil]
  refine CalV.pure lacks95z ?_
  simp
  refine CalV.pure lacks95z ?_
  simp
  exact .pure _ (by simp)
theorem query65 (t : Tm) (hm : FnPure Tryz.prog 63 [t.ex.av] (.bool true)) : FnPure Tryz.prog 65 [.agg (qC t.ex) 15] (.bool true) := by
  have hx : ∀ l : List AV, cIxa 9 (.ds l 1 9) (.int .i64 0) = .val (.dp l) := fun l => by
    have := cIxa_ds (cs := l) (len := 1) (sz := 9) (i := 0) (k := .i64) (by omega)
    simpa using this
  have hy : ∀ (a b c d e f g h i : AV) (H : Hp), cLoadN 9 (.dp [a, b, c, d, e, f, g, h, i]) H = .val (.agg [a, b, c, d, e, f, g, h, i] 9) := fun a b c d e f g h i H => by
    have := cLoadN_dp (l := [a, b, c, d, e, f, g, h, i]) (k := 9) [] rfl (H := H)
    simpa using this
  rw [show t.ex.av = .agg (t.cl (.ds (Ex.cellsL t.args) t.args.length 8)) 8 by rw [Ex.av, Tm.cells]] at hm
  have hop : ¬ t.op = 2 := by cases t <;> simp [Tm.op]
  refine pureV c65 (by simp [qC]) (by simp) (by simp [A65]) fun F hF => ?_
  simp [A65, B65, R65_0, R65_1, hF, qC, Tm.cells, Tm.cl]
  refine CalV.pure maybe64z ?_
  simp [R65_2, R65_3, R65_4, R65_5]
  refine CalV.pure (upTo52 1 16) ?_
  simp
  refine LoopV.ofU 1 (LoopU.step ?_)
  simp [L65_0, R65_6, R65_7, R65_8, R65_9, hx, hy]
  refine CalV.pure hm ?_
  simp
  refine LoopU.step ?_
  simp [R65_10]
  refine LoopV.ofU 0 (LoopU.step ?_)
  simp [L65_1, R65_11, R65_15]
  refine LoopV.ofU 0 (LoopU.step ?_)
  simp [L65_2, R65_16, R65_20]
  exact .pure _ (by simp)
theorem may24 (t : Tm) (hm : FnPure Tryz.prog 63 [t.ex.av] (.bool true)) : FnPure Tryz.prog 24 [.agg (stC t.ex) 31] (.bool true) := by
  have hr := rest66 t.ex
  have hq := query65 t hm
  refine pureV c24 (by simp [stC, qC]) (by simp) (by simp [A24]) fun F hF => ?_
  simp [A24, B24, R24_0, R24_1, R24_2, R24_3, R24_4, R24_12, R24_15, R24_23, R24_26, R24_39, R24_42, R24_50, hF, stC, qC]
  simp [R24_51, R24_52]
  refine CalV.pure hq ?_
  simp [R24_57]
  refine CalV.pure hr ?_
  simp
  exact .pure _ (by simp)
end Go.Abs
