/- KernelPages: what a kernel's readers tell. -/
import Derived.Test.YthmkafloklnghaaGreatKpC
namespace Go.Abs
open Go.Proofs
set_option maxRecDepth 100000

def kDisk : ABlk := .cells 7 [] [.sl 0 0 25 512, .sl 423 0 0 513, .int .i64 (-1), .bool false, .int .i64 17, .int .i64 27, .int .i64 4] .nil
def kLog : ABlk := .cells 9 [] [.ptr 1 0, .int .i64 16, .int .u64 1, .int .u64 0, .int .u32 1, .bool false, .sl 998 0 24 1, .sl 997 0 1 1, .int .u64 1] .nil
def kPool : ABlk := .cells 7 [] [.ptr 1 0, .ptr 269 0, .int .i64 8, .sl 1051 0 5 1, .map 288, .map 289, .int .i64 0] .nil
def kKern : ABlk := .cells 6 [] [.ptr 269 0, .ptr 290 0, .map 297, .int .u32 1, .map 298, .bool false] .nil
def kPlay : ABlk := .cells 4 [] [.ptr 1 0, .ptr 299 0, .ptr 425 0, .cst (.slice none 0 0)] .nil
structure KH (H : Hp) : Prop where
  d : H.get 1 = some kDisk
  l : H.get 269 = some kLog
  p : H.get 290 = some kPool
  k : H.get 299 = some kKern
/-- it alone -/
noncomputable def Sk : Hp := ((((Tr.nil : Hp).put 1 (some kDisk)).put 269 (some kLog)).put 290 (some kPool)).put 299 (some kKern)
theorem Sk_get (b : Nat) : Sk.get b = if b = 299 then some kKern else if b = 290 then some kPool else if b = 269 then some kLog else if b = 1 then some kDisk else none := by
  unfold Sk
  simp only [Tr.get_put, Tr.get_nil]
theorem Sk_KH : KH Sk := ⟨by rw [Sk_get]; rfl, by rw [Sk_get]; rfl, by rw [Sk_get]; rfl, by rw [Sk_get]; rfl⟩
theorem Sk_wf {n : Nat} (hn : 1453 ≤ n) (b : Nat) (k : ABlk) (h : Sk.get b = some k) : b < n ∧ RLtB n k := by
  rw [Sk_get] at h
  split at h
  · injection h with h; subst h; exact ⟨by omega, rLtB_list (by simp; omega)⟩
  split at h
  · injection h with h; subst h; exact ⟨by omega, rLtB_list (by simp; omega)⟩
  split at h
  · injection h with h; subst h; exact ⟨by omega, rLtB_list (by simp; omega)⟩
  split at h
  · injection h with h; subst h; exact ⟨by omega, rLtB_list (by simp; omega)⟩
  · cases h
theorem Sk_sub {H : Hp} (hk : KH H) (b : Nat) (k : ABlk) (h : Sk.get b = some k) : H.get b = some k := by
  rw [Sk_get] at h
  split at h
  · rename_i e; subst e; rw [hk.k]; exact h
  split at h
  · rename_i e; subst e; rw [hk.p]; exact h
  split at h
  · rename_i e; subst e; rw [hk.l]; exact h
  split at h
  · rename_i e; subst e; rw [hk.d]; exact h
  · cases h
/-- what reads the kernel alone -/
theorem KH.ok {g : FuncId} {b o : Nat} {v : AV} {H : Hp} {n : Nat} (hb : b < 1453) (hn : 1453 ≤ n) (h : CallR Tryz.prog g [.ptr b o] Sk n (fun u K k => u = v ∧ K = Sk ∧ k = n)) (hk : KH H) : CallOk Tryz.prog g [.ptr b o] H n v H n :=
  CallR.okS (S' := Sk) (h.mono fun u K k ⟨a, b, c⟩ => ⟨a, fun b' y hy => ⟨y, by rw [b]; exact hy, .refl y⟩, Nat.le_of_eq c⟩) (Nat.le_refl _) (by simp; omega) (Sk_wf hn) (Sk_sub hk) (fun b hb => by
    rcases hb with hb | hb
    · cases hx : Sk.get b with
      | none => exact absurd hx hb
      | some y => exact Sk_sub hk b y hx
    · omega) (fun _ _ _ => rfl)

@[simp] theorem cEq_pn (b o : Nat) : cEq false .ptr (.ptr b o) (.cst (.pointer none)) = .val (.bool false) := Eq.trans rfl rfl
theorem ceT_ne {g g' : FuncId} {args args' : List AV} {f : Hp → Nat → CRes} {l : List (FuncId × List AV × (Hp → Nat → CRes))} (h : g ≠ g') (H : Hp) (n : Nat) : (ceT ((g', args', f) :: l)).call g args H n = (ceT l).call g args H n := ceT_tl (fun e => absurd e h) H n
open Classical
variable {H : Hp} {n : Nat}
theorem none82 (hk : KH H) : CallR Tryz.prog 82 [.ptr 269 0] H n (fun u K k => u = .bool false ∧ K = H ∧ k = n) := by
  refine CallR.of c82 (by simp [A82]) fun F hF => ?_
  simp [A82, B82, R82_0, R82_1, hF, hk.l, kLog]
theorem sec72 (hk : KH H) : CallR Tryz.prog 72 [.ptr 269 0] H n (fun u K k => u = .int .i64 16 ∧ K = H ∧ k = n) := by
  refine CallR.of c72 (by simp [A72]) fun F hF => ?_
  simp [A72, B72, R72_0, R72_1, hF]
  refine CalV.same (none82 hk) ?_
  simp [R72_3, hF, hk.l, kLog]
theorem sec23 (hk : KH H) : CallR Tryz.prog 23 [.ptr 1 0] H n (fun u K k => u = .int .i64 25 ∧ K = H ∧ k = n) := by
  refine CallR.of c23 (by simp [A23]) fun F hF => ?_
  simp [A23, B23, R23_0, R23_1, R23_3, hF, hk.d, kDisk]
theorem pg35 (hn : 1453 ≤ n) (hk : KH H) : CallR Tryz.prog 35 [.ptr 290 0] H n (fun u K k => u = .int .i64 8 ∧ K = H ∧ k = n) := by
  refine CallR.of c35 (by simp [A35]) fun F hF => ?_
  simp [A35, B35, R35_0, R35_1, hF, hk.p, kPool, R35_3]
  refine DrwV.of (ceT_ok (l := [(23, [.ptr 1 0], fun K k => if KH K ∧ 1453 ≤ k then .mk (.int .i64 25) K k else .fail), (72, [.ptr 269 0], fun K k => if KH K ∧ 1453 ≤ k then .mk (.int .i64 16) K k else .fail)]) ?_) ?_
  · simp only [List.mem_cons, List.not_mem_nil, or_false]
    rintro x (rfl | rfl) H n v H' n' h
    · dsimp only at h
      split at h
      · rename_i hc; injection h with h1 h2 h3; subst h1 h2 h3; exact KH.ok (by omega) hc.2 (sec23 Sk_KH) hc.1
      · cases h
    · dsimp only at h
      split at h
      · rename_i hc; injection h with h1 h2 h3; subst h1 h2 h3; exact KH.ok (by omega) hc.2 (sec72 Sk_KH) hc.1
      · cases h
  · simp [clearF_get, hF, hk.p, kPool, ceT_hd, ceT_ne, if_pos (⟨hk, hn⟩ : KH H ∧ 1453 ≤ n)]
    decide
theorem pg13 (hn : 1453 ≤ n) (hk : KH H) : CallR Tryz.prog 13 [.ptr 299 0] H n (fun u K k => u = .int .i64 8 ∧ K = H ∧ k = n) := by
  refine CallR.of c13 (by simp [A13]) fun F hF => ?_
  simp [A13, B13, R13_0, R13_1, hF, R13_3, hk.k, kKern]
  refine CalV.same (pg35 hn hk) ?_
  simp
theorem gone22 (hk : KH H) : CallR Tryz.prog 22 [.ptr 299 0] H n (fun u K k => u = .bool false ∧ K = H ∧ k = n) := by
  refine CallR.of c22 (by simp [A22]) fun F hF => ?_
  simp [A22, B22, R22_0, R22_1, hF, hk.k, kKern]
end Go.Abs
