/- KernelPages: which pages are free; the law in plain lists. -/
import Derived.Test.YthmkafloklnghaaGreatKp2
namespace Go.Abs
open Go.Proofs
set_option maxRecDepth 100000

abbrev Ub := Nat → Bool
def arr (ub : Ub) : List AV := (List.range 9).map fun i => .bool (ub i)
@[simp] theorem arr_len (ub : Ub) : (arr ub).length = 9 := by simp [arr]
theorem arr_get (ub : Ub) {i : Nat} (h : i < 9) : (arr ub)[i]? = some (.bool (ub i)) := by
  simp [arr, h]
def setB (ub : Ub) (k : Nat) (b : Bool) : Ub := fun j => if j = k then b else ub j
theorem arr_set (ub : Ub) (k : Nat) (b : Bool) : (arr ub).set k (.bool b) = arr (setB ub k b) := by
  apply List.ext_getElem?
  intro i
  rw [List.getElem?_set]
  by_cases h : i < 9
  · rw [arr_get _ h, arr_get _ h]
    by_cases e : k = i
    · subst e; simp [h, setB]
    · rw [if_neg e]
      simp [setB, Ne.symm e]
  · rw [List.getElem?_eq_none (by simp; omega), List.getElem?_eq_none (by simp; omega)]
    simp
    omega
theorem patch_set1 (bs : List AV) (o : Nat) (v : AV) (h : o < bs.length) : patch bs o [v] = some (bs.set o v) := by
  induction bs generalizing o with
  | nil => simp at h
  | cons b r ih =>
    cases o with
    | zero => simp
    | succ o => simp [ih o (by simpa using h)]
theorem arr_patch (ub : Ub) {k : Nat} (b : Bool) (h : k < 9) : patch (arr ub) k [.bool b] = some (arr (setB ub k b)) := by
  rw [patch_set1 _ _ _ (by simpa using h), arr_set]
def full (ub : Ub) : List Nat := (List.range' 1 8).filter ub
def free (ub : Ub) (i : Nat) : List Nat := (List.range' i (9 - i)).filter fun k => !ub k
theorem full_free (ub : Ub) : (full ub).length + (free ub 1).length = 8 := by
  unfold full free
  have := List.length_eq_countP_add_countP (l := List.range' 1 8) ub
  rw [List.countP_eq_length_filter, List.countP_eq_length_filter] at this
  simp at this
  simp
  omega
theorem free_9 (ub : Ub) : free ub 9 = [] := rfl
theorem free_step (ub : Ub) {i : Nat} (h : i ≤ 8) : free ub i = if ub i then free ub (i + 1) else i :: free ub (i + 1) := by
  unfold free
  have : 9 - i = (9 - (i + 1)) + 1 := by omega
  rw [this, List.range'_succ, List.filter_cons]
  cases ub i <;> simp
theorem free_ge (ub : Ub) {i j : Nat} (h : j ∈ free ub i) : i ≤ j ∧ j ≤ 8 ∧ ub j = false := by
  unfold free at h
  simp [List.mem_filter, List.mem_range'_1] at h
  obtain ⟨⟨h1, h2⟩, h3⟩ := h
  exact ⟨h1, by omega, h3⟩
theorem mem_full (ub : Ub) (k : Nat) : k ∈ full ub ↔ 1 ≤ k ∧ k ≤ 8 ∧ ub k = true := by
  unfold full
  simp only [List.mem_filter, List.mem_range'_1]
  constructor
  · rintro ⟨⟨h1, h2⟩, h3⟩; exact ⟨h1, by omega, h3⟩
  · rintro ⟨h1, h2, h3⟩; exact ⟨⟨h1, by omega⟩, h3⟩

/-- the list, and which pages are in use -/
def Agr (U : Us) (ub : Ub) : Prop := (U.map (·.1)).Perm (full ub)
theorem has_mem (U : Us) (k : Nat) : has U k = true ↔ k ∈ U.map (·.1) := by
  unfold has
  simp [List.any_eq_true, List.mem_map]
theorem Agr.has {U : Us} {ub : Ub} (h : Agr U ub) (k : Nat) : Go.Abs.has U k = decide (1 ≤ k ∧ k ≤ 8 ∧ ub k = true) := by
  rw [Bool.eq_iff_iff, has_mem, h.mem_iff, mem_full, decide_eq_true_iff]
theorem Agr.len {U : Us} {ub : Ub} (h : Agr U ub) : U.length + (free ub 1).length = 8 := by
  have := h.length_eq
  have h2 := full_free ub
  simp at this
  omega
theorem Agr.nil : Agr [] fun _ => false := by unfold Agr full; simp
theorem filt_add (p : Ub) (k : Nat) (hp : p k = false) : ∀ L : List Nat, L.Nodup → k ∈ L → (L.filter (setB p k true)).Perm (k :: L.filter p)
  | [], _, h => by simp at h
  | a :: L, hn, h => by
    rw [List.nodup_cons] at hn
    have hc : ∀ L : List Nat, k ∉ L → L.filter (setB p k true) = L.filter p := fun L hk => by
      apply List.filter_congr
      intro j hj
      unfold setB
      rw [if_neg (fun e : j = k => hk (by rw [← e]; exact hj))]
    by_cases e : a = k
    · subst e
      rw [List.filter_cons, List.filter_cons, hp, hc L hn.1]
      simp [setB]
    · have hm : k ∈ L := by simpa [Ne.symm e] using h
      have ih := filt_add p k hp L hn.2 hm
      rw [List.filter_cons, List.filter_cons, show setB p k true a = p a by unfold setB; rw [if_neg e]]
      cases p a with
      | true => exact (List.Perm.cons a ih).trans (List.Perm.swap ..)
      | false => exact ih
theorem full_add {ub : Ub} {k : Nat} (h1 : 1 ≤ k) (h8 : k ≤ 8) (hk : ub k = false) : (full (setB ub k true)).Perm (k :: full ub) :=
  filt_add ub k hk _ (by decide) (by simp [List.mem_range'_1]; omega)
theorem Agr.put {s : Us × Nat} {ub : Ub} (h : Agr s.1 ub) {k : Nat} (h1 : 1 ≤ k) (h8 : k ≤ 8) : Agr (putU s k).1 (setB ub k true) := by
  have hh := h.has k
  unfold putU
  by_cases h2 : Go.Abs.has s.1 k = true
  · rw [if_pos h2]
    rw [h2] at hh
    have : ub k = true := by simpa [h1, h8] using hh.symm
    have e : setB ub k true = ub := by
      funext j; unfold setB; split
      · rename_i e; rw [e, this]
      · rfl
    rw [e]; exact h
  · rw [if_neg h2]
    have h3 : Go.Abs.has s.1 k = false := by simpa using h2
    rw [h3] at hh
    have : ub k = false := by simpa [h1, h8] using hh.symm
    unfold Agr
    simp only [List.map_append, List.map_cons, List.map_nil]
    exact (List.perm_append_comm.trans (List.Perm.cons k h)).trans (full_add h1 h8 this).symm
theorem del_perm {k : Nat} : ∀ {U : Us}, has U k = true → (U.map (·.1)).Perm (k :: (delK U k).map (·.1))
  | [], h => by simp [has] at h
  | p :: r, h => by
    unfold delK
    rw [List.eraseP_cons]
    by_cases e : k = p.1
    · subst e; simp
    · have h2 : has r k = true := by simpa [has, e] using h
      simp only [e, decide_false, cond_false, List.map_cons]
      exact (List.Perm.cons _ (del_perm h2)).trans (List.Perm.swap ..)
theorem Agr.del {s : Us × Nat} {ub : Ub} (h : Agr s.1 ub) (k : Nat) : Agr (delU s k).1 (setB ub k false) := by
  have hh := h.has k
  unfold delU
  dsimp only
  by_cases h2 : Go.Abs.has s.1 k = true
  · rw [h2] at hh
    have h3 : 1 ≤ k ∧ k ≤ 8 ∧ ub k = true := by simpa using hh.symm
    have e : setB (setB ub k false) k true = ub := by
      funext j; unfold setB; split
      · rename_i e; rw [e, h3.2.2]
      · rfl
    have h4 := full_add (ub := setB ub k false) h3.1 h3.2.1 (by simp [setB])
    rw [e] at h4
    exact (List.perm_cons k).1 ((del_perm h2).symm.trans (h.trans h4))
  · have h3 : Go.Abs.has s.1 k = false := by simpa using h2
    rw [h3] at hh
    rw [delK_not h3]
    unfold Agr
    have : full (setB ub k false) = full ub := by
      unfold full
      apply List.filter_congr
      intro j hj
      unfold setB
      split
      · rename_i e
        subst e
        rw [List.mem_range'_1] at hj
        have : ¬ (1 ≤ j ∧ j ≤ 8 ∧ ub j = true) := by simpa using hh.symm
        cases hb : ub j with
        | false => rfl
        | true => exact absurd ⟨hj.1, by omega, hb⟩ this
      · rfl
    rw [this]; exact h
def mark (ub : Ub) : List Nat → Ub := List.foldl (fun u k => setB u k true) ub
theorem mark_nil (ub : Ub) : mark ub [] = ub := rfl
theorem mark_snoc (ub : Ub) (l : List Nat) (k : Nat) : mark ub (l ++ [k]) = setB (mark ub l) k true := by simp [mark]
theorem mark_get (ub : Ub) (l : List Nat) (j : Nat) : mark ub l j = (ub j || l.contains j) := by
  induction l generalizing ub with
  | nil => simp [mark]
  | cons a r ih =>
    have : mark ub (a :: r) = mark (setB ub a true) r := rfl
    rw [this, ih]
    unfold setB
    by_cases e : j = a
    · subst e; simp
    · simp [e]
theorem Agr.puts {s : Us × Nat} {ub : Ub} (h : Agr s.1 ub) : ∀ l : List Nat, (∀ k ∈ l, 1 ≤ k ∧ k ≤ 8) → Agr (l.foldl putU s).1 (mark ub l) := by
  intro l
  induction l generalizing s ub with
  | nil => intro _; exact h
  | cons a r ih =>
    intro hl
    have ha := hl a (by simp)
    exact ih (h.put ha.1 ha.2) fun k hk => hl k (by simp [hk])
end Go.Abs
