/- The document's Sorted. -/
import Derived.Test.YtlnbbokmibfegaaGreatMs7
namespace Go.Abs
open Go.Proofs
set_option maxRecDepth 100000

/-- an order of the rows of a list -/
structure OrdL (od : List Val → List Val → Int) (S : List Val → Prop) : Prop where
  tot : ∀ a b, S a → S b → ¬ od a b ≤ 0 → od b a ≤ 0
  trans : ∀ a b c, S a → S b → S c → od a b ≤ 0 → od b c ≤ 0 → od a c ≤ 0
def leR (od : List Val → List Val → Int) (a b : List Val) : Bool := decide (od a b ≤ 0)
theorem mem_mrg {f : List Val → List Val → Bool} {x : List Val} {A B : List (List Val)} (h : x ∈ A.merge B f) : x ∈ A ∨ x ∈ B := by
  have := (List.merge_perm_append (xs := A) (ys := B) f).mem_iff.1 h
  simpa using this
theorem mrg_sorted {od : List Val → List Val → Int} {S : List Val → Prop} (ho : OrdL od S) {A B : List (List Val)} (mA : ∀ r ∈ A, S r) (mB : ∀ r ∈ B, S r) (hA : A.Pairwise fun a b => od a b ≤ 0) (hB : B.Pairwise fun a b => od a b ≤ 0) : (A.merge B (leR od)).Pairwise fun a b => od a b ≤ 0 := by
  induction A generalizing B with
  | nil => simpa using hB
  | cons a A ihA =>
    induction B with
    | nil => simpa using hA
    | cons b B ihB =>
      have ma := mA a (by simp)
      have mb := mB b (by simp)
      have mA' : ∀ r ∈ A, S r := fun r hr => mA r (by simp [hr])
      have mB' : ∀ r ∈ B, S r := fun r hr => mB r (by simp [hr])
      rw [List.pairwise_cons] at hA hB
      rw [List.cons_merge_cons]
      cases hle : leR od a b with
      | true =>
        have hab : od a b ≤ 0 := by simpa [leR] using hle
        rw [if_pos rfl]
        refine List.pairwise_cons.2 ⟨fun x hx => ?_, ihA mA' mB hA.2 (List.pairwise_cons.2 hB)⟩
        rcases mem_mrg hx with h | h
        · exact hA.1 x h
        · rcases List.mem_cons.1 h with rfl | h
          · exact hab
          · exact ho.trans _ _ _ ma mb (mB' x h) hab (hB.1 x h)
      | false =>
        have hba := ho.tot _ _ ma mb (by simpa [leR] using hle)
        rw [if_neg (by simp)]
        refine List.pairwise_cons.2 ⟨fun x hx => ?_, ihB mB' hB.2⟩
        rcases mem_mrg hx with h | h
        · rcases List.mem_cons.1 h with rfl | h
          · exact hba
          · exact ho.trans _ _ _ mb ma (mA' x h) hba (hA.1 x h)
        · exact hB.1 x h
theorem ld_own {K : Hp} {b i : Nat} {y : ABlk} {l : List AV} (h : K.get b = some y) (ho : OwnB y l) (hi : i < l.length) : cLoad1 (.ptr b i) K = .val l[i] := by
  obtain ⟨u, z, bs, t, rfl, h3, h4, _⟩ := ho
  have := h4 i
  rw [List.getElem?_eq_getElem hi] at this
  simp [h, this]
def SdR (od : List Val → List Val → Int) (H : Hp) (n : Nat) (L : List (List Val)) (v : AV) (K : Hp) (n' : Nat) : Prop := n ≤ n' ∧ (∀ c, c < n → K.get c = H.get c) ∧ (∀ c, v = .sl c 0 L.length 1 → n ≤ c) ∧
  ∃ M : List (List Val), M.Perm L ∧ (M.Pairwise fun a b => od a b ≤ 0) ∧ OwnS K n' v (rowsC M) L.length 1
theorem sorted8_small {od : List Val → List Val → Int} (kv : AV) (L : List (List Val)) (hL : L.length < 2) (H : Hp) (n : Nat) : CallR Tryz.prog 23 [.ds (rowsC L) L.length 1, kv] H n (SdR od H n L) := by
  refine CallR.of c23 (by simp [A23]) fun F hF => ?_
  simp [A23, B23, R23_0, R23_1, hF, show (L.length : Int) < 2 by omega, R23_2]
  match L, hL with
  | [], _ =>
    simp [rowsC, cApp, sliceCells, sliceLen, cApp1]
    exact ⟨by omega, fun c hc => by simp [show ¬ c = n by omega], fun c h => by injection h with h; omega, [], by simp, by simp, ⟨by simp [rowsC], .inr ⟨n, .cells 0 [] [] .nil, rfl, by omega, by simp, .list (u := 0) (l := []) rfl⟩⟩⟩
  | [r], _ =>
    refine OwnS.app (l := []) (len := 0) (new := rowsC [r]) (k := 1) ⟨by simp, .inr ⟨n, _, rfl, by omega, by simp; rfl, .list (by simp)⟩⟩ (by simp) rfl (by simp) (by omega) (by omega) (by unfold big; omega) (by omega) rfl fun H' ho hk => ?_
    simp
    simp only [List.nil_append, Nat.zero_add] at ho
    refine ⟨by omega, fun c hc => ?_, fun c h => by injection h with h; omega, [r], by simp, by simp, ho⟩
    rw [hk c (by omega) (fun e => by injection e with e; omega)]
    simp [show ¬ c = n by omega]
theorem cSlc_hi {cs : List AV} {len k : Nat} (h : k ≤ len) : cSlc 1 none (some (.int .i64 (k : Int))) none (.ds cs len 1) = .val (.ds (cs.take k) k 1) := by
  unfold cSlc
  have : bnds len none (some (.int .i64 (k : Int))) none = some (0, k) := by
    simp [bnds, show bnd len (some (.int .i64 (k : Int))) = some k from rfl, show bnd len none = some len from rfl, show bnd 0 none = some 0 from rfl, h]
  simp only [this]
  simp
theorem cSlc_lo {cs : List AV} {len k : Nat} (h : k ≤ len) (hc : cs.length = len) : cSlc 1 (some (.int .i64 (k : Int))) none none (.ds cs len 1) = .val (.ds (cs.drop k) (len - k) 1) := by
  unfold cSlc
  have : bnds len (some (.int .i64 (k : Int))) none none = some (k, len) := by
    simp [bnds, show bnd 0 (some (.int .i64 (k : Int))) = some k from rfl, show bnd len none = some len from rfl, h]
  simp only [this]
  simp
  rw [List.take_of_length_le (by simp; omega)]
theorem OwnS.blk {H : Hp} {n len sz : Nat} {v : AV} {l : List AV} (h : OwnS H n v l len sz) (h0 : 0 < len) : ∃ b y, v = .sl b 0 len sz ∧ b < n ∧ H.get b = some y ∧ OwnB y l := by
  obtain ⟨_, ⟨_, e⟩ | h⟩ := h
  · omega
  · exact h
end Go.Abs
