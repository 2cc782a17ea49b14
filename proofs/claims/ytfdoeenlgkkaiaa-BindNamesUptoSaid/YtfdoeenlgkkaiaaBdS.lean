/- The words that are kept: each is one. -/
import Derived.Test.YtfdoeenlgkkaiaaBt2
import Derived.Test.YtfdoeenlgkkaiaaBdC
namespace Go.Abs
open Go.Proofs
set_option maxRecDepth 100000
theorem word_in (s : List Nat) (h : s ∈ kws) : FnPure Try.prog 89 [.str s] (.bool true):=by
 simp only [kws,List.mem_cons,List.not_mem_nil,or_false] at h
 rcases h with h | h | h | h | h | h | h | h | h | h | h | h | h | h | h | h | h | h | h | h | h | h | h | h | h | h | h | h | h | h | h | h | h | h | h <;> subst h <;> exact .lit (by simp) (by simp) (by kernel_rfl)
end Go.Abs
