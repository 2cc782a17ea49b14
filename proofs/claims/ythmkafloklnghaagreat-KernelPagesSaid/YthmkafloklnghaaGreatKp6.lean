/- KernelPages: Use, Fresh, Release as calls come to. -/
import Derived.Test.YthmkafloklnghaaGreatKp5
namespace Go.Abs
open Go.Proofs
set_option maxRecDepth 100000
open Classical
variable {H : Hp} {n : Nat} {s s' : Us × Nat} {ub : Ub}

noncomputable def Sm (s : Us × Nat) : Hp := Sk.put 298 (some (mapB s))
theorem Sm_KM (s : Us × Nat) : KM (Sm s) s := ⟨⟨by simp [Sm, Sk_get], by simp [Sm, Sk_get], by simp [Sm, Sk_get], by simp [Sm, Sk_get]⟩, by simp [Sm]⟩
theorem mapB_wf (n : Nat) (s : Us × Nat) : RLtB n (mapB s) := by
  intro e he
  simp only [encU, List.mem_map] at he
  obtain ⟨p, _, rfl⟩ := he
  simp
theorem Sm_wf (hn : 1453 ≤ n) (b : Nat) (k : ABlk) (h : (Sm s).get b = some k) : b < n ∧ RLtB n k := by
  unfold Sm at h
  rw [Tr.get_put] at h
  split at h
  · injection h with h; subst h; exact ⟨by omega, mapB_wf n s⟩
  · exact Sk_wf hn b k h
theorem Sm_sub (hk : KM H s) (b : Nat) (k : ABlk) (h : (Sm s).get b = some k) : H.get b = some k := by
  unfold Sm at h
  rw [Tr.get_put] at h
  split at h
  · rename_i e; subst e; rw [hk.m]; exact h
  · exact Sk_sub hk.k b k h
theorem own_wf {y : ABlk} {l : List Nat} (h : OwnB y (u32s l)) : RLtB n y := by
  obtain ⟨u, z, bs, t, rfl, _, hg, _⟩ := h
  intro i v hv
  rw [hg] at hv
  have := List.mem_of_getElem? hv
  simp only [u32s, List.mem_map] at this
  obtain ⟨x, _, rfl⟩ := this
  simp
theorem Sm_none {b : Nat} (hb : 1453 ≤ b) : (Sm s).get b = none := by
  unfold Sm
  rw [Tr.get_put, if_neg (by omega), Sk_get, if_neg (by omega), if_neg (by omega), if_neg (by omega), if_neg (by omega)]
/-- a call that changes which pages are in use, alone -/
theorem KM.okSl {g : FuncId} {b : Nat} {l : List Nat} {v : AV} (hn : 1453 ≤ n) (hb : 1453 ≤ b) (hbn : b < n) (hk : KM H s) (hs : Sl H b l)
    (h : ∀ S : Hp, KM S s → Sl S b l → CallR Tryz.prog g [.ptr 299 0, .sl b 0 l.length 1] S n (fun u K k => u = v ∧ Upd S s' K ∧ k = n)) : CallOk Tryz.prog g [.ptr 299 0, .sl b 0 l.length 1] H n v (H.put 298 (some (mapB s'))) n := by
  obtain ⟨h298, y, hy, ho⟩ := hs
  have hS : ∀ c, ((Sm s).put b (some y)).get c = if c = b then some y else (Sm s).get c := fun c => by rw [Tr.get_put]
  have hSs : ∀ c k, ((Sm s).put b (some y)).get c = some k → H.get c = some k := by
    intro c k hc
    rw [hS] at hc
    split at hc
    · rename_i e; subst e; rw [hy]; exact hc
    · exact Sm_sub hk c k hc
  refine CallR.okS (S := (Sm s).put b (some y)) (S' := ((Sm s).put b (some y)).put 298 (some (mapB s'))) ((h _ ?_ ?_).mono fun u K k ⟨a, c, d⟩ => ⟨a, fun b' y' hy' => ?_, Nat.le_of_eq d⟩) (Nat.le_refl _) (by simp; omega) (fun c k hc => ?_) hSs (fun c hc => ?_) (fun c hc _ => ?_)
  · have := Sm_KM s
    exact ⟨⟨by rw [hS, if_neg (by omega)]; exact this.k.d, by rw [hS, if_neg (by omega)]; exact this.k.l, by rw [hS, if_neg (by omega)]; exact this.k.p, by rw [hS, if_neg (by omega)]; exact this.k.k⟩, by rw [hS, if_neg (by omega)]; exact this.m⟩
  · exact ⟨h298, y, by rw [hS, if_pos rfl], ho⟩
  · rw [Tr.get_put] at hy'
    split at hy'
    · rename_i e; subst e; exact ⟨y', by rw [c.1]; exact hy', .refl _⟩
    · rename_i e; exact ⟨y', by rw [c.2 _ e]; exact hy', .refl _⟩
  · rw [hS] at hc
    split at hc
    · injection hc with hc; subst hc; exact ⟨by omega, own_wf ho⟩
    · exact Sm_wf hn c k hc
  · rcases hc with hc | hc
    · rw [Tr.get_put, Tr.get_put]
      split
      · rfl
      · cases hx : ((Sm s).put b (some y)).get c with
        | none => exact absurd hx hc
        | some z => exact hSs c z hx
    · omega
  · rw [Tr.get_put]
    split
    · rename_i e
      subst e
      rw [hS, if_neg (by omega), (Sm_KM s).m] at hc
      cases hc
    · rfl
/-- k blocks from n on are none -/
noncomputable def clr (H : Hp) (n : Nat) : Nat → Hp
  | 0 => H
  | k + 1 => (clr H n k).put (n + k) none
theorem clr_get (H : Hp) (n : Nat) : ∀ k b, (clr H n k).get b = if n ≤ b ∧ b < n + k then none else H.get b
  | 0, b => by rw [if_neg (by omega)]; rfl
  | k + 1, b => by
    unfold clr
    rw [Tr.get_put, clr_get H n k b]
    by_cases h : b = n + k
    · rw [if_pos h, if_pos (by omega)]
    · rw [if_neg h]
      by_cases h2 : n ≤ b ∧ b < n + k
      · rw [if_pos h2, if_pos (by omega)]
      · rw [if_neg h2, if_neg (by omega)]
noncomputable def frN (H : Hp) (n : Nat) (s' : Us × Nat) (l : List Nat) : Hp := if l = [] then H.put 298 (some (mapB s')) else ((clr H n (2 * l.length)).put 298 (some (mapB s'))).put (n + 2 * l.length - 1) (some (.cells l.length [] (u32s l) .nil))
theorem frN_old (H : Hp) (n : Nat) (s' : Us × Nat) (l : List Nat) {c : Nat} (hc : c < n) (h : c ≠ 298) : (frN H n s' l).get c = H.get c := by
  unfold frN
  split
  · rw [Tr.get_put, if_neg h]
  · rename_i hl
    have : l.length ≠ 0 := fun h => hl (List.length_eq_zero_iff.1 h)
    rw [Tr.get_put, if_neg (by omega), Tr.get_put, if_neg h, clr_get, if_neg (by omega)]
theorem frN_m (H : Hp) {n : Nat} (hn : 1453 ≤ n) (s' : Us × Nat) (l : List Nat) : (frN H n s' l).get 298 = some (mapB s') := by
  unfold frN
  split
  · rw [Tr.get_put, if_pos rfl]
  · rename_i hl
    have : l.length ≠ 0 := fun h => hl (List.length_eq_zero_iff.1 h)
    rw [Tr.get_put, if_neg (by omega), Tr.get_put, if_pos rfl]
theorem frN_ts (H : Hp) {n : Nat} (s' : Us × Nat) (l : List Nat) {ab : Nat} (hab : ab < n) : TS (frN H n s' l) ab (frS n l) l := by
  unfold frN frS TS
  split
  · rename_i e; exact .inl ⟨rfl, e⟩
  · rename_i hl
    have : l.length ≠ 0 := fun h => hl (List.length_eq_zero_iff.1 h)
    exact .inr ⟨_, _, rfl, by omega, by rw [Tr.get_put, if_pos rfl], .list (by simp)⟩
theorem fresh7ok (hn : 1453 ≤ n) (hk : KM H s) (ha : Agr s.1 ub) (m : Int) : CallOk Tryz.prog 7 [.ptr 299 0, .int .i64 m] H n (.tup [frS n (frL ub m), .int .i64 (frE ub m)]) (frN H n ((frL ub m).foldl putU s) (frL ub m)) (n + 2 * (frL ub m).length) := by
  generalize hs' : (frL ub m).foldl putU s = s'
  have hR := fresh7 hn (Sm_KM s) ha m
  rw [hs'] at hR
  generalize frL ub m = l at *
  refine CallR.okS (S := Sm s) (S' := frN (Sm s) n s' l) (hR.mono fun u K k ⟨a, c, d⟩ => ⟨a, fun b y hy => ?_, Nat.le_of_eq d⟩) (by omega) (by simp; omega) (Sm_wf hn) (Sm_sub hk) (fun b hb => ?_) (fun b hb hb2 => ?_)
  · by_cases h298 : b = 298
    · subst h298; rw [frN_m _ hn] at hy; exact ⟨y, by rw [c.m]; exact hy, .refl _⟩
    by_cases hbn : b < n
    · rw [frN_old _ _ _ _ hbn h298] at hy; exact ⟨y, by rw [c.old b hbn h298]; exact hy, .refl _⟩
    unfold frN at hy
    split at hy
    · rw [Tr.get_put, if_neg h298, Sm_none (by omega)] at hy; cases hy
    · rename_i hl
      have hl0 : l.length ≠ 0 := fun h => hl (List.length_eq_zero_iff.1 h)
      rw [Tr.get_put] at hy
      split at hy
      · rename_i e
        injection hy with hy
        subst hy e
        obtain ⟨_, h1 | ⟨b', y', h1, h2, h3, h4⟩⟩ := c.own
        · unfold frS at h1; rw [if_neg hl] at h1; cases h1.1
        · unfold frS at h1
          rw [if_neg hl] at h1
          injection h1 with h1
          subst h1
          exact ⟨y', h3, h4.ble (by simp)⟩
      · rw [Tr.get_put, if_neg h298, clr_get] at hy
        split at hy
        · cases hy
        · rw [Sm_none (by omega)] at hy; cases hy
  · rcases hb with hb | hb
    · have hlt : b < n := by
        cases hx : (Sm s).get b with
        | none => exact absurd hx hb
        | some y => exact (Sm_wf hn b y hx).1
      by_cases h298 : b = 298
      · subst h298; rw [frN_m _ hn, frN_m _ hn]
      · rw [frN_old _ _ _ _ hlt h298, frN_old _ _ _ _ hlt h298]
        cases hx : (Sm s).get b with
        | none => exact absurd hx hb
        | some y => exact Sm_sub hk b y hx
    · have hl : l ≠ [] := by rintro rfl; simp at hb; omega
      unfold frN
      rw [if_neg hl, if_neg hl]
      simp only [Tr.get_put, clr_get, if_pos hb]
  · have h298 : b ≠ 298 := by
      rintro rfl
      rw [(Sm_KM s).m] at hb; cases hb
    unfold frN
    split
    · rw [Tr.get_put, if_neg h298]
    · rename_i hl
      have hl0 : l.length ≠ 0 := fun h => hl (List.length_eq_zero_iff.1 h)
      rw [Tr.get_put, if_neg (by omega), Tr.get_put, if_neg h298, clr_get, if_neg hb2]
end Go.Abs
