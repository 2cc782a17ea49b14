/- How many expressions an expression is, and how many registers it needs. -/
import Derived.Test.YtmmgdjecahcemaaGreatBd4
namespace Go.Abs
open Go.Proofs
set_option maxRecDepth 100000

mutual
def Ex.rgs : Ex → Nat
  | .mk _ _ _ _ _ args => Ex.rgsL 0 1 args
def Ex.rgsL : Nat → Nat → List Ex → Nat
  | _, acc, [] => acc
  | i, acc, e :: r => Ex.rgsL (i + 1) (max acc (e.rgs + i)) r
end
theorem Ex.rgs_le : ∀ (N : Nat) (e : Ex), e.sz ≤ N → e.rgs ≤ e.sz
  | 0, e, h => by have := Ex.sz_pos e; omega
  | N + 1, .mk op v t m col args, h => by
    simp only [Ex.sz] at h
    simp only [Ex.rgs, Ex.sz]
    have key : ∀ (l : List Ex) (i acc : Nat), (∀ e ∈ l, e.sz ≤ N) → acc ≤ 1 + i → Ex.rgsL i acc l ≤ 1 + i + Ex.szL l := by
      intro l
      induction l with
      | nil => intro i acc _ ha; simp [Ex.rgsL, Ex.szL]; exact ha
      | cons e r ih =>
        intro i acc hl ha
        have h1 := Ex.rgs_le N e (hl e (by simp))
        have h0 := Ex.sz_pos e
        simp only [Ex.rgsL, Ex.szL]
        by_cases hm : max acc (e.rgs + i) ≤ 1 + (i + 1)
        · have := ih (i + 1) (max acc (e.rgs + i)) (fun x hx => hl x (by simp [hx])) hm
          omega
        · -- a deep one
          have mono : ∀ (l : List Ex) (j acc B : Nat), (∀ e ∈ l, e.sz ≤ N) → acc ≤ B → 1 + j ≤ B → Ex.rgsL j acc l ≤ B + Ex.szL l := by
            intro l
            induction l with
            | nil => intro j acc B _ h1 _; simp [Ex.rgsL, Ex.szL]; exact h1
            | cons e r ih2 =>
              intro j acc B hl h1 h2
              have h3 := Ex.rgs_le N e (hl e (by simp))
              have h4 := Ex.sz_pos e
              simp only [Ex.rgsL, Ex.szL]
              have := ih2 (j + 1) (max acc (e.rgs + j)) (B + e.sz) (fun x hx => hl x (by simp [hx])) (by omega) (by omega)
              omega
          have := mono r (i + 1) (max acc (e.rgs + i)) (1 + i + e.sz) (fun x hx => hl x (by simp [hx])) (by omega) (by omega)
          omega
    have := key args 0 1 (fun e he => by have := Ex.sz_mem he; omega) (by omega)
    omega
theorem Ex.szL_append (a b : List Ex) : Ex.szL (a ++ b) = Ex.szL a + Ex.szL b := by
  induction a with
  | nil => simp [Ex.szL]
  | cons e r ih => simp [Ex.szL, ih]; omega
theorem maxN (a b : Nat) : maxI [.int .i64 (a : Int), .int .i64 (b : Int)] = some (.int .i64 ((max a b : Nat) : Int)) := by
  simp [maxI, maxR]
  omega
theorem size37' : ∀ (N : Nat) (e : Ex), e.sz ≤ N → N ≤ lim → FnPure Tryz.prog 37 [e.av] (.tup [.int .i64 (e.sz : Int), .int .i64 (e.rgs : Int)])
  | 0, e, h, _ => by have := Ex.sz_pos e; omega
  | N + 1, .mk op v t m col args, ha, hN => by
    have hrg := Ex.rgs_le _ _ (Nat.le_refl (Ex.mk op v t m col args).sz)
    simp only [Ex.sz] at ha hrg ⊢
    simp only [Ex.rgs] at hrg ⊢
    have hla := Ex.sz_len args
    unfold lim at hN
    refine pureV c37 (by simp) (by simp) (by simp [A37]) fun F hF => ?_
    simp [A37, B37, R37_0, R37_1, R37_2, hF, Ex.av, Ex.cells]
    refine LoopV.of (fun q F K n' ms => ∃ i acc : Nat, q = args.length - i ∧ i ≤ args.length ∧ F.get 9 = some (.ds (Ex.cellsL args) args.length 8) ∧ F.get 10 = some (.int .i64 (args.length : Int)) ∧ F.get 11 = some (.int .i64 (i : Int)) ∧ F.get 2 = some (.int .i64 (Ex.szL (args.take i) : Int)) ∧ F.get 3 = some (.int .i64 (acc : Int)) ∧ acc ≤ 2097152 ∧ ms = [] ∧ Ex.rgsL 0 1 args = Ex.rgsL i acc (args.drop i)) args.length ⟨0, by simp [Ex.szL]; exact ⟨1, by simp⟩⟩ ?_
    clear hF F
    rintro q F K n' ms ⟨i, acc, rfl, hi, f9, f10, f11, f2, f3, hacc, rfl, he⟩
    have hsl : Ex.szL (args.take i) ≤ Ex.szL args := by
      conv => rhs; rw [← List.take_append_drop i args, Ex.szL_append]
      omega
    by_cases hlt : i < args.length
    · have hx := ixa_ex (k := .i64) hlt
      have m1 := Ex.sz_mem (List.getElem_mem hlt)
      have hr1 := Ex.rgs_le _ _ (Nat.le_refl args[i].sz)
      rw [List.drop_eq_getElem_cons hlt, Ex.rgsL] at he
      simp [L37_0, R37_3, f10, f11, hlt, R37_4, f9, hx, R37_5]
      refine CalV.pure (size37' N args[i] (by omega) (by unfold lim; omega)) ?_
      have w1 : IntKind.i64.wrap ((Ex.szL (args.take i) : Int) + (args[i].sz : Int)) = ((Ex.szL (args.take i) + args[i].sz : Nat) : Int) := by
        simp [IntKind.wrap, IntKind.signed, IntKind.bits]; omega
      have w2 : IntKind.i64.wrap ((args[i].rgs : Int) + (i : Int)) = ((args[i].rgs + i : Nat) : Int) := by
        simp [IntKind.wrap, IntKind.signed, IntKind.bits]; omega
      have hmx : maxI [.int .i64 (acc : Int), .int .i64 ((args[i].rgs : Int) + (i : Int))] = some (.int .i64 ((max acc (args[i].rgs + i) : Nat) : Int)) := by
        rw [← maxN]; simp
      have ht : Ex.szL (args.take (i + 1)) = Ex.szL (args.take i) + args[i].sz := by
        rw [List.take_add_one, List.getElem?_eq_getElem hlt, Ex.szL_append]; simp [Ex.szL]
      have w3 := wrap_nat i (by omega)
      simp [R37_6, R37_7, R37_8, f2, f3, f9, f10, f11, w1, w2, w3, eMnx, hmx]
      exact ⟨_, by omega, i + 1, rfl, by omega, by simp, by rw [ht]; simp, by omega, he⟩
    · simp [L37_0, R37_3, f10, f11, hlt, R37_9, f2, f3]
      have hie : i = args.length := by omega
      subst hie
      simp [Ex.rgsL] at he
      have w1 : IntKind.i64.wrap ((Ex.szL args : Int) + 1) = 1 + (Ex.szL args : Int) := by
        simp [IntKind.wrap, IntKind.signed, IntKind.bits]; omega
      simp [w1, he]
      exact .pure _ (by simp)
theorem size37 (e : Ex) (h : e.sz ≤ lim) : FnPure Tryz.prog 37 [e.av] (.tup [.int .i64 (e.sz : Int), .int .i64 (e.rgs : Int)]) := size37' _ e (Nat.le_refl _) h
end Go.Abs
