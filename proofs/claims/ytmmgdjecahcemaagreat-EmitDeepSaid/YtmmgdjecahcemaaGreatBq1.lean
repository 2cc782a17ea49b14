/- A part of the proof. -/
import Derived.Test.YtmmgdjecahcemaaGreatBp3
namespace Go.Abs
open Go.Proofs
set_option maxRecDepth 100000

/-! ### the first place at which something is so -/
def idxI {α : Type} (p : α → Bool) (l : List α) : Int := match l.findIdx? p with
  | some i => (i : Int)
  | none => -1
/-- the code of slices.IndexFunc -/
noncomputable def idxC (s : Nat) (ld : Eff) : CF := { res := [rTmp 4], code := .seq (.reg [oP (pdT 4) (eMov (constG (.int .i64 0)))]) (.seq (.seq (.reg [oP (pdT 6) (eMov (slotG 0)), oP (pdT 7) (e1 cLenL (slotG 6)), oP (pdT 8) (eMov (constG (.int .i64 0)))]) (.block 0 (.loop
  (.seq (.reg [oP (pdT 9) (e2 (cBin .lss) (slotG 8) (slotG 7))]) (.seq (.cond (slotG 9) .skip (.exit 0)) (.seq (.block 1 (.seq (.reg [oP (pdT 10) (eMov (slotG 8)), oP (pdT 5) (eMov (slotG 10))]) (.seq (.reg [oP (pdT 11) (eMov (slotG 1)), oP (pdT 12) (eMov (slotG 0)), oP (pdT 13) (eMov (slotG 5)), oP (pdT 14) (e2 (cIxa s) (slotG 12) (slotG 13)), oP (pdT 15) ld, vP (pdT 16) (slotG 11) [(slotG 15)]])
    (.cond (slotG 16) (.seq (.reg [oP (pdT 17) (eMov (slotG 5)), oP (pdT 4) (eMov (slotG 17))]) .ret) .skip)))) (.reg [oP (pdT 18) (e2 (cBin .add) (slotG 8) (constG (.int .i64 1))), oP (pdT 8) (eMov (slotG 18))])))))))
  (.seq (.reg [oP (pdT 4) (eMov (constG (.int .i64 (-1))))]) .ret)), nt := 19 }
theorem idxI_some {α : Type} {p : α → Bool} {l : List α} {i : Nat} (h : i < l.length) (hp : p l[i] = true) (hn : ∀ j (hj : j < i), p (l[j]'(by omega)) = false) : idxI p l = (i : Int) := by
  have : l.findIdx? p = some i := by
    rw [List.findIdx?_eq_some_iff_getElem]
    exact ⟨h, hp, fun j hj => by simpa using hn j hj⟩
  simp [idxI, this]
theorem idxI_none {α : Type} {p : α → Bool} {l : List α} (hn : ∀ j (hj : j < l.length), p l[j] = false) : idxI p l = -1 := by
  have : l.findIdx? p = none := by
    rw [List.findIdx?_eq_none_iff]
    intro x hx
    obtain ⟨j, hj, rfl⟩ := List.getElem_of_mem hx
    simpa using hn j hj
  simp [idxI, this]
theorem idx_ok {α : Type} {P : Program} {g : FuncId} {s : Nat} {ld : Eff} {v : AV} {el : α → AV} {xs : List α} {f : FuncId} {first cap : List AV} {p : α → Bool} {H : Hp} {n : Nat} (hc : ctF P g = some (idxC s ld)) (hl : xs.length ≤ lim) (hlen : cLenL v = .val (.int .i64 (xs.length : Int)))
    (hx : ∀ i (h : i < xs.length), ∃ q, cIxa s v (.int .i64 (i : Int)) = .val q ∧ ∀ (F : Fr) H n, F.get 14 = some q → ld F H n = .val (el xs[i]))
    (hp : ∀ x ∈ xs, CallR P f (first ++ ([el x] ++ cap)) H n (fun u K k => u = .bool (p x) ∧ K = H ∧ k = n)) :
    CallR P g [v, .fn (.func f) first cap] H n (fun u K k => u = .int .i64 (idxI p xs) ∧ K = H ∧ k = n) := by
  refine CallR.of hc (by simp [idxC]) fun F hF => ?_
  unfold lim at hl
  simp [idxC, hF, hlen]
  refine LoopV.of (fun k F K m m_ => ∃ i, k = xs.length - i ∧ i ≤ xs.length ∧ F.get 0 = some v ∧ F.get 1 = some (.fn (.func f) first cap) ∧ F.get 7 = some (.int .i64 (xs.length : Int)) ∧ F.get 8 = some (.int .i64 (i : Int)) ∧
    K = H ∧ m = n ∧ m_ = [] ∧ ∀ j (hj : j < i) (h : j < xs.length), p xs[j] = false) xs.length ⟨0, by simp [hF]⟩ ?_
  rintro k F K m m_ ⟨i, rfl, hi, f0, f1, f7, f8, rfl, rfl, rfl, hj⟩
  by_cases hlt : i < xs.length
  · obtain ⟨q, hq, hld⟩ := hx i hlt
    simp [f0, f1, f7, f8, hlt, hq]
    rw [hld _ _ _ (by simp)]
    simp
    refine CalV.same (hp xs[i] (List.getElem_mem hlt)) ?_
    simp
    refine CondV.ofB (fun hb => ?_) fun hb => ?_
    · simp
      exact (idxI_some hlt hb fun j hj' => hj j hj' (by omega)).symm
    · simp [f0, f1, f7, f8, wrap_nat i (by omega)]
      refine ⟨xs.length - (i + 1), by omega, i + 1, rfl, hlt, by omega, fun j hj' h => ?_⟩
      by_cases e : j = i
      · subst e; exact hb
      · exact hj j (by omega) h
  · simp [f7, f8, hlt]
    exact (idxI_none fun j h => hj j (by omega) h).symm
/-- the code of slices.ContainsFunc -/
noncomputable def conC (g : FuncId) : CF := { res := [rTmp 4], code := .seq (.reg [oP (pdT 4) (eMov (constG (.bool false)))]) (.seq (.reg [oP (pdT 5) (eMov (slotG 0)), oP (pdT 6) (eMov (slotG 1)), cP (pdT 7) g [(slotG 5), (slotG 6)], oP (pdT 8) (e2 (cBin .geq) (slotG 7) (constG (.int .i64 0))), oP (pdT 4) (eMov (slotG 8))]) .ret), nt := 9 }
theorem idxI_any {α : Type} (p : α → Bool) (l : List α) : decide (0 ≤ idxI p l) = l.any p := by
  unfold idxI
  cases h : l.findIdx? p with
  | none =>
    rw [List.findIdx?_eq_none_iff] at h
    have : l.any p = false := by
      rw [List.any_eq_false]
      intro x hx; simpa using h x hx
    simp [this]
  | some i =>
    rw [List.findIdx?_eq_some_iff_getElem] at h
    obtain ⟨h1, h2, _⟩ := h
    have : l.any p = true := by rw [List.any_eq_true]; exact ⟨_, List.getElem_mem h1, h2⟩
    simp [this]
theorem con_ok {α : Type} {P : Program} {g c : FuncId} {v fv : AV} {xs : List α} {p : α → Bool} {H : Hp} {n : Nat} (hc : ctF P c = some (conC g)) (h : CallR P g [v, fv] H n (fun u K k => u = .int .i64 (idxI p xs) ∧ K = H ∧ k = n)) :
    CallR P c [v, fv] H n (fun u K k => u = .bool (xs.any p) ∧ K = H ∧ k = n) := by
  refine CallR.of hc (by simp [conC]) fun F hF => ?_
  simp [conC, hF]
  refine CalV.same h ?_
  simp [idxI_any]
theorem i93 : A114 = idxC 8 (eLoadN 8 (slotG 14)) := rfl
theorem i54 : A107 = conC 114 := rfl
theorem i109 : A115 = idxC 1 (eLoad1 (slotG 14)) := rfl
theorem i94 : A111 = conC 115 := rfl
end Go.Abs
