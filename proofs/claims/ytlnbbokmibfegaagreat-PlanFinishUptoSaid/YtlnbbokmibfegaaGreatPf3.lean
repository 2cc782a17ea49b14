/- Sorted lists, and what is left of them once: plain laws. -/
import Derived.Test.YtlnbbokmibfegaaGreatPf2
namespace Go.Abs
set_option maxRecDepth 100000

/-- sorted: a list of its own -/
def srtL (od : List Val → List Val → Int) : List (List Val) → List (List Val)
  | [] => []
  | a :: L => [a].merge (srtL od L) (leR od)
theorem srtL_perm (od : List Val → List Val → Int) (L : List (List Val)) : (srtL od L).Perm L := by
  induction L with
  | nil => exact .refl _
  | cons a L ih => exact (List.merge_perm_append (xs := [a]) (ys := srtL od L) (leR od)).trans (by simpa using ih)
theorem srtL_srt {od : List Val → List Val → Int} {S : List Val → Prop} (ho : OrdL od S) {L : List (List Val)} (hm : ∀ r ∈ L, S r) : (srtL od L).Pairwise fun a b => od a b ≤ 0 := by
  induction L with
  | nil => exact .nil
  | cons a L ih =>
    have hL : ∀ r ∈ L, S r := fun r hr => hm r (by simp [hr])
    exact mrg_sorted ho (fun r hr => by simp at hr; subst hr; exact hm r (by simp)) (fun r hr => hL r ((srtL_perm od L).mem_iff.1 hr)) (by simp) (ih hL)
/-- sorted lists of the same rows -/
theorem sorted_uni {od : List Val → List Val → Int} {S : List Val → Prop} (hz : ∀ a b, S a → S b → od a b ≤ 0 → od b a ≤ 0 → a = b) {A B : List (List Val)} (h : A.Perm B) (hm : ∀ r ∈ A, S r) (hA : A.Pairwise fun a b => od a b ≤ 0) (hB : B.Pairwise fun a b => od a b ≤ 0) : A = B :=
  List.Perm.eq_of_pairwise (le := fun a b => od a b ≤ 0) (fun a b ha hb h1 h2 => hz a b (hm a ha) (hm b (h.mem_iff.2 hb)) h1 h2) hA hB h

/-- is the thing at a place the same as the one ahead? -/
def dupA {α β : Type} (f : α → β) (l : List α) (p : Nat) : Prop := 0 < p ∧ (l[p - 1]?).map f = (l[p]?).map f
theorem dupA_map {α β : Type} (f : α → β) {l : List α} {p : Nat} : dupA f l p ↔ dupA id (l.map f) p := by
  unfold dupA
  rw [List.getElem?_map, List.getElem?_map, Option.map_id, id, id]
section
variable {α β : Type} [DecidableEq β] (f : α → β)
instance (l : List α) (p : Nat) : Decidable (dupA f l p) := by unfold dupA; exact inferInstance
/-- of the first ones: those that are not as the one ahead of them -/
def onceTo (l : List α) : Nat → List α
  | 0 => []
  | p + 1 => onceTo l p ++ (if dupA f l p then [] else (l[p]?).toList)
theorem onceTo_sub (l : List α) (p : Nat) : (onceTo f l p).Sublist (l.take p) := by
  induction p with
  | zero => simp [onceTo]
  | succ p ih =>
    rw [onceTo, List.take_add_one]
    refine ih.append ?_
    split
    · simp
    · exact .refl _
theorem onceTo_len (l : List α) (p : Nat) : (onceTo f l p).length ≤ p := by
  have := (onceTo_sub f l p).length_le
  simp at this; omega
theorem onceTo_has (l : List α) (p : Nat) : ∀ q < p, ∀ x, l[q]? = some x → ∃ y ∈ onceTo f l p, f y = f x := by
  induction p with
  | zero => omega
  | succ p ih =>
    intro q hq x hx
    rw [onceTo]
    by_cases hqp : q = p
    · subst hqp
      by_cases hd : dupA f l q
      · obtain ⟨h0, he⟩ := hd
        rw [hx] at he
        cases hy : l[q - 1]? with
        | none => rw [hy] at he; cases he
        | some y =>
          rw [hy] at he
          simp at he
          obtain ⟨z, hz, e⟩ := ih (q - 1) (by omega) y hy
          exact ⟨z, by simp [hz], e.trans he⟩
      · exact ⟨x, by simp [hd, hx], rfl⟩
    · obtain ⟨y, hy, e⟩ := ih q (by omega) x hx
      exact ⟨y, by simp [hy], e⟩
theorem onceTo_map (l : List α) (p : Nat) : (onceTo f l p).map f = onceTo id (l.map f) p := by
  induction p with
  | zero => rfl
  | succ p ih =>
    rw [onceTo, onceTo, List.map_append, ih]
    congr 1
    by_cases hd : dupA f l p
    · rw [if_pos hd, if_pos ((dupA_map f).1 hd)]; rfl
    · rw [if_neg hd, if_neg fun h => hd ((dupA_map f).2 h), List.getElem?_map]
      cases l[p]? <;> rfl
end
def once (L : List (List Val)) : List (List Val) := onceTo id L L.length
theorem once_mem (L : List (List Val)) (x : List Val) : x ∈ once L ↔ x ∈ L := by
  constructor
  · intro h
    have := (onceTo_sub id L L.length).mem h
    simpa using this
  · intro h
    obtain ⟨q, hq, rfl⟩ := List.mem_iff_getElem.1 h
    obtain ⟨y, hy, e⟩ := onceTo_has id L L.length q hq L[q] (List.getElem?_eq_getElem hq)
    simp at e
    rw [← e]; exact hy
theorem once_sub (L : List (List Val)) : (once L).Sublist L := by simpa [once] using onceTo_sub id L L.length
theorem once_srt {od : List Val → List Val → Int} {L : List (List Val)} (h : L.Pairwise fun a b => od a b ≤ 0) : (once L).Pairwise fun a b => od a b ≤ 0 := h.sublist (once_sub L)
theorem once_nodup {od : List Val → List Val → Int} {S : List Val → Prop} (hz : ∀ a b, S a → S b → od a b ≤ 0 → od b a ≤ 0 → a = b) {L : List (List Val)} (hm : ∀ r ∈ L, S r) (h : L.Pairwise fun a b => od a b ≤ 0) : (once L).Nodup := by
  have key : ∀ p, p ≤ L.length → (onceTo id L p).Nodup := by
    intro p
    induction p with
    | zero => intro _; simp [onceTo]
    | succ p ih =>
      intro hp
      rw [onceTo]
      by_cases hd : dupA id L p
      · rw [if_pos hd, List.append_nil]; exact ih (by omega)
      · rw [if_neg hd, List.getElem?_eq_getElem (by omega), Option.toList_some, List.nodup_append]
        refine ⟨ih (by omega), by simp, fun y hy z hz' e => ?_⟩
        simp at hz'
        subst hz'
        subst e
        have hy2 := (onceTo_sub id L p).mem hy
        obtain ⟨q, hq, e⟩ := List.mem_iff_getElem.1 hy2
        simp at hq
        rw [List.getElem_take] at e
        refine hd ⟨by omega, ?_⟩
        rw [List.getElem?_eq_getElem (by omega), List.getElem?_eq_getElem (by omega)]
        simp
        rw [List.pairwise_iff_getElem] at h
        have hpp := h (p - 1) p (by omega) (by omega) (by omega)
        refine hz _ _ (hm _ (List.getElem_mem _)) (hm _ (List.getElem_mem _)) hpp ?_
        by_cases hqp : q = p - 1
        · subst hqp
          have e' : L[p - 1] = L[p] := e
          rw [e'] at hpp ⊢; exact hpp
        · have hqq := h q (p - 1) (by omega) (by omega) (by omega)
          rw [e] at hqq; exact hqq
  exact key _ (Nat.le_refl _)
theorem once_nil {L : List (List Val)} (h : once L = []) : L = [] := by
  cases L with
  | nil => rfl
  | cons a L => have := (once_mem (a :: L) a).2 (by simp); rw [h] at this; simp at this

/-- the rows of an answer -/
def finL (ks : List Ky) (d : Bool) (L : List (List Val)) : List (List Val) := if d then once (srtL (ordK ks) L) else srtL (ordK ks) L
theorem ordK_anti (ks : List Ky) : ∀ a b, KyS ks a → KyS ks b → ordK ks a b ≤ 0 → ordK ks b a ≤ 0 → a = b := fun a b ha hb h k => by
  have := ordK_neg ha hb (ks := ks) fun _ h => h
  exact ordK_zero ha hb (fun _ h => h) (by omega : ordK ks a b = 0)
theorem rowR_anti : ∀ a b, rMay a → rMay b → rowR a b ≤ 0 → rowR b a ≤ 0 → a = b := fun a b ha hb h k => by
  have := rowR_neg ha hb
  exact rowR_zero ha hb (by omega)
theorem finL_once {ks : List Ky} {L T : List (List Val)} (hm : ∀ r ∈ L, KyS ks r) (hp : T.Perm (once (srtL rowR L))) (hs : T.Pairwise fun a b => ordK ks a b ≤ 0) : T = finL ks true L := by
  have h1 : (srtL rowR L).Pairwise fun a b => rowR a b ≤ 0 := srtL_srt (S := rMay) ⟨fun a b ha hb h => by have := rowR_neg ha hb; omega, fun a b c ha hb hc h k => rowR_trans ha hb hc h k⟩ fun r hr => (hm r hr).1
  have h2 := srtL_srt (ordK_ord ks) hm
  have m1 : ∀ r ∈ srtL rowR L, rMay r := fun r hr => (hm r ((srtL_perm _ L).mem_iff.1 hr)).1
  have m2 : ∀ r ∈ srtL (ordK ks) L, KyS ks r := fun r hr => hm r ((srtL_perm _ L).mem_iff.1 hr)
  have n1 := once_nodup rowR_anti m1 h1
  have n2 := once_nodup (ordK_anti ks) m2 h2
  have hmT : ∀ r ∈ T, KyS ks r := fun r hr => hm r ((srtL_perm _ L).mem_iff.1 ((once_mem _ r).1 (hp.mem_iff.1 hr)))
  refine sorted_uni (ordK_anti ks) (hp.trans ?_) hmT hs ?_
  · show (once (srtL rowR L)).Perm (once (srtL (ordK ks) L))
    rw [List.perm_ext_iff_of_nodup n1 n2]
    intro r
    rw [once_mem, once_mem, (srtL_perm _ L).mem_iff, (srtL_perm _ L).mem_iff]
  · exact once_srt h2
theorem finL_all {ks : List Ky} {L T : List (List Val)} (hm : ∀ r ∈ L, KyS ks r) (hp : T.Perm L) (hs : T.Pairwise fun a b => ordK ks a b ≤ 0) : T = finL ks false L :=
  sorted_uni (ordK_anti ks) (hp.trans (srtL_perm _ L).symm) (fun r hr => hm r (hp.mem_iff.1 hr)) hs (srtL_srt (ordK_ord ks) hm)

/-- compared by keys alone -/
def kcs : List Ky → List Val → List Val → Int
  | [], _, _ => 0
  | k :: r, l, m => if kc k l m ≠ 0 then kc k l m else kcs r l m
theorem ordK_kcs (ks : List Ky) (l m : List Val) : ordK ks l m = if kcs ks l m ≠ 0 then kcs ks l m else rowR l m := by
  induction ks with
  | nil => simp [ordK, kcs]
  | cons k r ih =>
    rw [ordK, kcs]
    by_cases h : kc k l m = 0
    · simp [h, ih]
    · simp [h]
theorem kcs_neg {ks0 : List Ky} {l m : List Val} (hl : KyS ks0 l) (hm : KyS ks0 m) : ∀ {ks : List Ky}, (∀ k ∈ ks, k ∈ ks0) → kcs ks m l = - kcs ks l m
  | [], _ => rfl
  | k :: r, h => by
    have hk := kc_neg hl hm (h k (by simp))
    have ih := kcs_neg hl hm (ks := r) fun x hx => h x (by simp [hx])
    rw [kcs, kcs, hk, ih]
    by_cases e : kc k l m = 0
    · simp [e]
    · simp [e]
theorem kcs_trans {ks0 : List Ky} {a b c : List Val} (ha : KyS ks0 a) (hb : KyS ks0 b) (hc : KyS ks0 c) : ∀ {ks : List Ky}, (∀ k ∈ ks, k ∈ ks0) → kcs ks a b ≤ 0 → kcs ks b c ≤ 0 → kcs ks a c ≤ 0
  | [], _, _, _ => by simp [kcs]
  | k :: r, hs, h, h2 => by
    have hk := hs k (by simp)
    have ih := kcs_trans ha hb hc (ks := r) fun x hx => hs x (by simp [hx])
    rw [kcs] at h h2 ⊢
    have h1 : kc k a b ≤ 0 := by by_cases e : kc k a b = 0 <;> simp [e] at h ⊢; omega
    have k1 : kc k b c ≤ 0 := by by_cases e : kc k b c = 0 <;> simp [e] at h2 ⊢; omega
    have t := kc_trans ha hb hc hk h1 k1
    by_cases e : kc k a c = 0
    · have n1 := kc_neg ha hc hk
      have n2 := kc_neg ha hb hk
      have n3 := kc_neg hb hc hk
      have t2 := kc_trans hc ha hb hk (by omega) h1
      have t3 := kc_trans hb hc ha hk k1 (by omega)
      have e1 : kc k a b = 0 := by omega
      have e2 : kc k b c = 0 := by omega
      rw [if_neg (by simp [e1])] at h
      rw [if_neg (by simp [e2])] at h2
      rw [if_neg (by simp [e])]
      exact ih h h2
    · rw [if_pos e]; exact t
end Go.Abs
