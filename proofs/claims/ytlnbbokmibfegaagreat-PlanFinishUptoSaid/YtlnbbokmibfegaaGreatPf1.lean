/- Rows compared by keys, then by the order of rows. -/
import Derived.Test.YtlnbbokmibfegaaGreatMs9
namespace Go.Abs
open Go.Proofs
set_option maxRecDepth 100000

structure Ky where
  at_ : Int
  desc : Bool
def Ky.cells (k : Ky) : List AV := [.int .i64 k.at_, .bool k.desc]
@[simp] theorem Ky.cells_len (k : Ky) : k.cells.length = 2 := rfl
def keysC : List Ky → List AV
  | [] => []
  | v :: r => v.cells ++ keysC r
@[simp] theorem keysC_len (l : List Ky) : (keysC l).length = l.length * 2 := by
  induction l with
  | nil => simp [keysC]
  | cons e r ih => simp [keysC, ih]; omega
theorem keysC_flat (l : List Ky) : l.flatMap Ky.cells = keysC l := by
  induction l with
  | nil => rfl
  | cons e r ih => simp [keysC, ih]
theorem keysC_drop (l : List Ky) (i : Nat) (h : i < l.length) : (keysC l).drop (i * 2) = l[i].cells ++ keysC (l.drop (i + 1)) := by
  induction l generalizing i with
  | nil => simp at h
  | cons e r ih =>
    cases i with
    | zero => simp [keysC]
    | succ i =>
      have : (i + 1) * 2 = e.cells.length + i * 2 := by simp; omega
      rw [keysC, this, ← List.drop_drop, List.drop_left' rfl]
      simpa using ih i (by simpa using h)
@[simp] theorem keysC_pure (l : List Ky) : PureL (keysC l) := by
  induction l with
  | nil => simp [keysC]
  | cons e r ih => simp [keysC, Ky.cells, ih]
theorem ixa_key {l : List Ky} {i : Nat} {k : IntKind} (h : i < l.length) : cIxa 2 (.ds (keysC l) l.length 2) (.int k (i : Int)) = .val (.dp (.int .i64 l[i].at_ :: .bool l[i].desc :: keysC (l.drop (i + 1)))) := by
  rw [cIxa_ds h, keysC_drop l i h]; rfl
def kAV (ks : List Ky) : AV := .ds (keysC ks) ks.length 2
@[simp] theorem kAV_pure (ks : List Ky) : Pure (kAV ks) := by simp [kAV]
def kc (k : Ky) (l m : List Val) : Int :=
  let c := (l.getD k.at_.toNat ⟨0, 0, []⟩).ord (m.getD k.at_.toNat ⟨0, 0, []⟩)
  if k.desc then -c else c
def ordK : List Ky → List Val → List Val → Int
  | [], l, m => rowR l m
  | k :: r, l, m => if kc k l m ≠ 0 then kc k l m else ordK r l m
def kIn (ks : List Ky) (l : List Val) : Prop := ∀ k ∈ ks, 0 ≤ k.at_ ∧ k.at_ < (l.length : Int)
theorem cmpL_rng (a b : List Nat) : -1 ≤ cmpL a b ∧ cmpL a b ≤ 1 := by
  induction a generalizing b with
  | nil => cases b <;> simp [cmpL]
  | cons x a ih =>
    cases b with
    | nil => simp [cmpL]
    | cons y b =>
      simp only [cmpL]
      split
      · exact ih b
      · split <;> omega
theorem ord_rng (a b : Val) : -1 ≤ a.ord b ∧ a.ord b ≤ 1 := by
  have := cmpL_rng a.s b.s
  unfold Val.ord
  repeat' split
  all_goals omega

set_option maxHeartbeats 1000000 in
theorem Order19K (ks : List Ky) (l m : List Val) (hl : l.length ≤ 1048576) (hm : m.length ≤ 1048576) (al : rMay l) (am : rMay m) (hk : ks.length ≤ 1048576) (il : kIn ks l) (im : kIn ks m) : FnPure Tryz.prog 45 [rowAV l, rowAV m, kAV ks] (.int .i64 (ordK ks l m)) := by
  refine pureV c45 (by simp) (by simp) (by simp [A45]) fun F hF => ?_
  simp [A45, B45, R45_0, R45_1]
  refine LoopV.of (fun t F K n ms => ∃ i, t = ks.length - i ∧ i ≤ ks.length ∧ F.get 0 = some (rowAV l) ∧ F.get 1 = some (rowAV m) ∧ F.get 2 = some (kAV ks) ∧ F.get 7 = some (.int .i64 (i : Int)) ∧ K = .nil ∧ ms = [] ∧ ordK ks l m = ordK (ks.drop i) l m) ks.length ⟨0, by simp [hF]⟩ ?_
  rintro t F K n ms ⟨i, rfl, hi, f0, f1, f2, f7, rfl, rfl, he⟩
  by_cases hlt : i < ks.length
  · have hx := ixa_key (k := .i64) hlt
    obtain ⟨a1, a2⟩ := il ks[i] (List.getElem_mem _)
    obtain ⟨b1, b2⟩ := im ks[i] (List.getElem_mem _)
    rw [List.drop_eq_getElem_cons hlt, ordK] at he
    obtain ⟨p, hp⟩ : ∃ p : Nat, ks[i].at_ = (p : Int) := ⟨ks[i].at_.toNat, by omega⟩
    have hkc : kc ks[i] l m = if ks[i].desc then -((l[p]'(by omega)).ord (m[p]'(by omega))) else (l[p]'(by omega)).ord (m[p]'(by omega)) := by
      unfold kc
      simp only [hp, Int.toNat_natCast]
      rw [show l.getD p ⟨0, 0, []⟩ = l[p]'(by omega) by simp [List.getD, show p < l.length by omega], show m.getD p ⟨0, 0, []⟩ = m[p]'(by omega) by simp [List.getD, show p < m.length by omega]]
    rw [hp] at hx
    have hy := ixa_val (k := .i64) (show p < l.length by omega)
    have hz := ixa_val (k := .i64) (show p < m.length by omega)
    simp [L45_0, R45_2, f2, f7, kAV, hlt, R45_3]
    refine DrwV.of (ceT_ok (l := [(87, [(l[p]'(by omega)).av, (m[p]'(by omega)).av], fun H n => .mk (.int .i64 ((l[p]'(by omega)).ord (m[p]'(by omega)))) H n)]) ?_) ?_
    · intro x hx
      simp only [List.mem_cons, List.not_mem_nil, or_false] at hx
      subst hx
      exact ceT_pure (Order30 _ _ (al _ (List.getElem_mem _)) (am _ (List.getElem_mem _)))
    · simp [clearF_get, f0, f1, f2, f7, rowAV, kAV, hx, hy, hz, ld_val]
      rw [ceT_hd]
      have hr := ord_rng (l[p]'(by omega)) (m[p]'(by omega))
      have w := wrap_nat i (by omega)
      have wn := wrap_sm (-((l[p]'(by omega)).ord (m[p]'(by omega)))) (by omega) (by omega)
      have en : cUn .neg (.int .i64 ((l[p]'(by omega)).ord (m[p]'(by omega)))) = .val (.int .i64 (-((l[p]'(by omega)).ord (m[p]'(by omega))))) := by
        show vint .i64 (IntKind.i64.wrap (0 - (l[p]'(by omega)).ord (m[p]'(by omega)))) = _
        rw [Int.zero_sub, wn]; simp
      simp [R45_4, clearF_get, f2, f7, kAV, hx]
      have hda : ∀ H, cLoad1 (.dp (.bool ks[i].desc :: keysC (ks.drop (i + 1)))) H = .val (.bool ks[i].desc) := fun _ => rfl
      cases hd : ks[i].desc with
      | true =>
        rw [hd] at hkc
        simp only [if_true] at hkc
        simp [R45_5, en, R45_6]
        by_cases hc : (l[p]'(by omega)).ord (m[p]'(by omega)) = 0
        · rw [hkc, hc] at he
          simp at he
          simp [hc, R45_8, clearF_get, f0, f1, f2, f7, w, rowAV, kAV]
          exact ⟨ks.length - (i + 1), by omega, i + 1, rfl, hlt, rfl, by simpa using he⟩
        · rw [hkc, if_pos (by omega)] at he
          simp [hc, R45_7, he]
          exact .pure _ (by simp)
      | false =>
        rw [hd] at hkc
        simp at hkc
        simp [R45_6]
        by_cases hc : (l[p]'(by omega)).ord (m[p]'(by omega)) = 0
        · rw [hkc, hc] at he
          simp at he
          simp [hc, R45_8, clearF_get, f0, f1, f2, f7, w, rowAV, kAV]
          exact ⟨ks.length - (i + 1), by omega, i + 1, rfl, hlt, rfl, by simpa using he⟩
        · rw [hkc, if_pos (by omega)] at he
          simp [hc, R45_7, he]
          exact .pure _ (by simp)
  · obtain rfl : i = ks.length := by omega
    rw [List.drop_length, ordK] at he
    simp [L45_0, R45_2, f2, f7, kAV, R45_9, f0, f1]
    refine CalV.pure (Order31 l m hl hm al am) ?_
    simp [he]
    exact .pure _ (by simp)
end Go.Abs
