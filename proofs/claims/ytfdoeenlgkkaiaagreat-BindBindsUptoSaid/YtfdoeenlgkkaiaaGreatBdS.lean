/- A part. -/
import Derived.Test.YtfdoeenlgkkaiaaGreatBt2
noncomputable section
namespace Go.Abs
open List
open Go.Proofs
set_option maxRecDepth 100000
theorem ZT (s:List Nat)(h:s∈iW):ai pG 99 [.str s] (.bool true):=by
 simp only[iW,mem_cons,not_mem_nil,or_false]at h
 rcases h with h | h | h | h | h | h | h | h | h | h | h | h | h | h | h | h | h | h | h | h | h | h | h | h | h | h | h | h | h | h | h | h | h | h | h<;>subst h<;>exact .lit (by simp) (by simp) (by kernel_rfl)
end Go.Abs
