/- StoreEntry: true of any index, row and place. -/
import Derived.Test.YtggnidngekkkpaaGreatSa5
import Derived.Test.YtggnidngekkkpaaGreatSwR
namespace Go.Abs
open Go.Proofs
set_option maxRecDepth 100000

theorem law4 (x : Ix) (row : List Val) (page : Nat) (slot : Int) (hs : ∀ v ∈ row, ∀ c ∈ v.s, c < 256) (hc : x.cols.length ≤ 1048576) (hpg : page < 4294967296) :
    FnPure Tryz.prog 4 [x.av, .ds (VL row) row.length 3, .agg [.int .u32 (page : Int), .int .i64 slot] 2] (.bool true) := by
  refine pureV c4 (by simp) (by simp) (by simp [A4]) fun F hF => ?_
  by_cases h0 : slot < 0
  · simp [A4, B4, R4_0, R4_1, R4_2, hF, Ix.av, h0]
    refine CalV.pure run22 ?_
    simp
    exact .pure _ (by simp)
  by_cases h1 : 65535 < slot
  · simp [A4, B4, R4_0, R4_1, R4_2, hF, Ix.av, h0, h1]
    refine CalV.pure run22 ?_
    simp
    exact .pure _ (by simp)
  obtain ⟨s, rfl⟩ : ∃ s : Nat, slot = (s : Int) := ⟨slot.toNat, by omega⟩
  have ht : x.cells.take 6 = x.cells := List.take_of_length_le (by simp)
  have h1' : ¬ (65535 : Int) < (s : Int) := h1
  simp [A4, B4, R4_0, R4_1, R4_3, hF, Ix.av, h0, h1', ht]
  refine CalV.pure (entry19 x row page s hs hc (by omega)) ?_
  simp [R4_4, hF, ht]
  refine CalV.pure (entry23 x row page s hs hc hpg (by omega)) ?_
  simp [R4_5]
  refine CalV.pure run22 ?_
  simp
  exact .pure _ (by simp)
end Go.Abs
