/- The words that are kept; what a name in a statement is; columns that may be. -/
import Derived.Test.YtmmgdjecahcemaaGreatBd1
import Derived.Test.YtmmgdjecahcemaaGreatBdS
namespace Go.Abs
open Go.Proofs
open Classical
set_option maxRecDepth 100000

theorem word89 (s : List Nat) : FnPure Tryz.prog 93 [.str s] (.bool (decide (s ∈ kws))) := by
  by_cases h : s ∈ kws
  · simpa [h] using word_in s h
  · refine pureV c93 (by simp) (by simp) (by simp [A93]) fun F hF => ?_
    have h0 : ¬ s = [97, 110, 100] := fun e => h (by simp [kws, e])
    have h1 : ¬ s = [97, 115] := fun e => h (by simp [kws, e])
    have h2 : ¬ s = [98, 101, 103, 105, 110] := fun e => h (by simp [kws, e])
    have h3 : ¬ s = [98, 111, 111, 108] := fun e => h (by simp [kws, e])
    have h4 : ¬ s = [98, 121] := fun e => h (by simp [kws, e])
    have h5 : ¬ s = [99, 111, 109, 109, 105, 116] := fun e => h (by simp [kws, e])
    have h6 : ¬ s = [99, 114, 101, 97, 116, 101] := fun e => h (by simp [kws, e])
    have h7 : ¬ s = [100, 101, 108, 101, 116, 101] := fun e => h (by simp [kws, e])
    have h8 : ¬ s = [100, 101, 115, 99] := fun e => h (by simp [kws, e])
    have h9 : ¬ s = [100, 105, 115, 116, 105, 110, 99, 116] := fun e => h (by simp [kws, e])
    have h10 : ¬ s = [100, 114, 111, 112] := fun e => h (by simp [kws, e])
    have h11 : ¬ s = [102, 97, 108, 115, 101] := fun e => h (by simp [kws, e])
    have h12 : ¬ s = [102, 114, 111, 109] := fun e => h (by simp [kws, e])
    have h13 : ¬ s = [105, 110, 100, 101, 120] := fun e => h (by simp [kws, e])
    have h14 : ¬ s = [105, 110, 115, 101, 114, 116] := fun e => h (by simp [kws, e])
    have h15 : ¬ s = [105, 110, 116] := fun e => h (by simp [kws, e])
    have h16 : ¬ s = [105, 110, 116, 111] := fun e => h (by simp [kws, e])
    have h17 : ¬ s = [105, 115] := fun e => h (by simp [kws, e])
    have h18 : ¬ s = [106, 111, 105, 110] := fun e => h (by simp [kws, e])
    have h19 : ¬ s = [108, 105, 109, 105, 116] := fun e => h (by simp [kws, e])
    have h20 : ¬ s = [110, 111, 116] := fun e => h (by simp [kws, e])
    have h21 : ¬ s = [110, 117, 108, 108] := fun e => h (by simp [kws, e])
    have h22 : ¬ s = [111, 110] := fun e => h (by simp [kws, e])
    have h23 : ¬ s = [111, 114] := fun e => h (by simp [kws, e])
    have h24 : ¬ s = [111, 114, 100, 101, 114] := fun e => h (by simp [kws, e])
    have h25 : ¬ s = [114, 111, 108, 108, 98, 97, 99, 107] := fun e => h (by simp [kws, e])
    have h26 : ¬ s = [115, 101, 108, 101, 99, 116] := fun e => h (by simp [kws, e])
    have h27 : ¬ s = [115, 101, 116] := fun e => h (by simp [kws, e])
    have h28 : ¬ s = [116, 97, 98, 108, 101] := fun e => h (by simp [kws, e])
    have h29 : ¬ s = [116, 101, 120, 116] := fun e => h (by simp [kws, e])
    have h30 : ¬ s = [116, 114, 117, 101] := fun e => h (by simp [kws, e])
    have h31 : ¬ s = [117, 110, 105, 113, 117, 101] := fun e => h (by simp [kws, e])
    have h32 : ¬ s = [117, 112, 100, 97, 116, 101] := fun e => h (by simp [kws, e])
    have h33 : ¬ s = [118, 97, 108, 117, 101, 115] := fun e => h (by simp [kws, e])
    have h34 : ¬ s = [119, 104, 101, 114, 101] := fun e => h (by simp [kws, e])
    simp [A93, B93, R93_0, R93_1, R93_2, R93_3, R93_4, R93_5, R93_6, R93_7, R93_8, R93_9, R93_10, R93_11, R93_12, R93_13, R93_14, R93_15, R93_16, R93_17, R93_18, R93_19, R93_20, R93_21, R93_22, R93_23, R93_24, R93_25, R93_26, R93_27, R93_28, R93_29, R93_30, R93_31, R93_32, R93_33, R93_34, R93_35, R93_36, R93_37, R93_38, hF, h0, h1, h2, h3, h4, h5, h6, h7, h8, h9, h10, h11, h12, h13, h14, h15, h16, h17, h18, h19, h20, h21, h22, h23, h24, h25, h26, h27, h28, h29, h30, h31, h32, h33, h34]
    exact .bool (by simp [h])
def NamedOk (s : List Nat) : Prop := NameOk s ∧ s ∉ kws
theorem named51 (s : List Nat) : FnPure Tryz.prog 61 [.str s] (.bool (decide (NamedOk s))) := by
  refine pureV c61 (by simp) (by simp) (by simp [A61]) fun F hF => ?_
  unfold NamedOk
  simp [A61, B61, R61_0, R61_1, hF]
  refine CalV.pure (name44 s) ?_
  by_cases h : NameOk s
  · simp [h, hF]
    refine CalV.pure (word89 s) ?_
    simp
    exact .bool (by simp)
  · simp [h]
    exact .bool (by simp)
theorem upTo52 (a b : Int) : FnPure Tryz.prog 62 [.int .i64 a, .int .i64 b] (.bool (decide (1 ≤ a ∧ a ≤ b))) := by
  refine pureV c62 (by simp) (by simp) (by simp [A62]) fun F hF => ?_
  by_cases h : 1 ≤ a
  · simp [A62, B62, R62_0, R62_1, hF, h]
    exact .bool (by simp)
  · simp [A62, B62, R62_0, R62_1, hF, h]
    exact .bool (by simp)
end Go.Abs
