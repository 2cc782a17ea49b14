/- A part of the proof. -/
import Derived.Test.YtmmgdjecahcemaaGreatBp2
namespace Go.Abs
open Go.Proofs
set_option maxRecDepth 100000

mutual
theorem Ex.inj : ∀ (a b : Ex), a.cells = b.cells → a = b
  | .mk op v t m col args, .mk op' v' t' m' col' args', h => by
    simp only [Ex.cells, List.cons.injEq, AV.int.injEq, AV.str.injEq, AV.ds.injEq, true_and, and_true] at h
    obtain ⟨h1, h2, h3, h4, h5, h6, h7, h8, _⟩ := h
    have := Ex.injL args args' h8
    obtain ⟨k, i, s⟩ := v
    obtain ⟨k', i', s'⟩ := v'
    simp_all
theorem Ex.injL : ∀ (l l' : List Ex), Ex.cellsL l = Ex.cellsL l' → l = l'
  | [], [], _ => rfl
  | [], e :: r, h => by have := congrArg List.length h; simp at this
  | e :: r, [], h => by have := congrArg List.length h; simp at this
  | e :: r, e' :: r', h => by
    simp only [Ex.cellsL] at h
    obtain ⟨h1, h2⟩ := List.append_inj h (by simp)
    rw [Ex.inj e e' h1, Ex.injL r r' h2]
end
theorem Ex.av_inj {a b : Ex} (h : a.av = b.av) : a = b := Ex.inj a b (by simpa [Ex.av] using h)
mutual
/-- how many there are in it -/
def Ex.sz : Ex → Nat
  | .mk _ _ _ _ _ args => 1 + Ex.szL args
def Ex.szL : List Ex → Nat
  | [] => 0
  | e :: r => e.sz + Ex.szL r
end
theorem Ex.sz_pos (e : Ex) : 0 < e.sz := by cases e; simp [Ex.sz]; omega
theorem Ex.sz_len (l : List Ex) : l.length ≤ Ex.szL l := by
  induction l with
  | nil => simp [Ex.szL]
  | cons e r ih => have := Ex.sz_pos e; simp [Ex.szL]; omega
theorem Ex.sz_mem {l : List Ex} {e : Ex} (h : e ∈ l) : e.sz ≤ Ex.szL l := by
  induction l with
  | nil => cases h
  | cons a r ih =>
    cases h with
    | head => simp [Ex.szL]
    | tail _ hm => have := ih hm; simp [Ex.szL]; omega
def lim : Nat := 1048576
theorem wrap_nat (i : Nat) (h : i < 2147483648) : IntKind.i64.wrap ((i : Int) + 1) = ((i + 1 : Nat) : Int) := by
  simp [IntKind.wrap, IntKind.signed, IntKind.bits]
  omega

end Go.Abs
