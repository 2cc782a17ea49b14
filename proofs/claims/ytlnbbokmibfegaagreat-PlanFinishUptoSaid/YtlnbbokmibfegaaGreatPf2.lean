/- The order by keys: a plain law. -/
import Derived.Test.YtlnbbokmibfegaaGreatPf1
namespace Go.Abs
set_option maxRecDepth 100000

theorem rowR_neg : ∀ {l m : List Val}, rMay l → rMay m → rowR m l = - rowR l m
  | [], [], _, _ => by simp [rowR]
  | [], _ :: _, _, _ => by simp [rowR]
  | _ :: _, [], _, _ => by simp [rowR]
  | a :: l, b :: m, hl, hm => by
    have ha := hl a (by simp)
    have hb := hm b (by simp)
    have ih := rowR_neg (l := l) (m := m) (fun v hv => hl v (by simp [hv])) (fun v hv => hm v (by simp [hv]))
    rw [rowR, rowR, ord_neg ha hb, ih]
    by_cases e : a.ord b = 0
    · simp [e]
    · simp [e]
theorem rowR_zero : ∀ {l m : List Val}, rMay l → rMay m → rowR l m = 0 → l = m
  | [], [], _, _, _ => rfl
  | [], _ :: _, _, _, h => by simp [rowR] at h
  | _ :: _, [], _, _, h => by simp [rowR] at h
  | a :: l, b :: m, hl, hm, h => by
    have ha := hl a (by simp)
    have hb := hm b (by simp)
    rw [rowR] at h
    by_cases e : a.ord b = 0
    · rw [if_neg (by simp [e])] at h
      rw [ord_zero ha hb e, rowR_zero (fun v hv => hl v (by simp [hv])) (fun v hv => hm v (by simp [hv])) h]
    · rw [if_pos e] at h; exact absurd h e
theorem rowR_trans {a b c : List Val} (ha : rMay a) (hb : rMay b) (hc : rMay c) (h : rowR a b ≤ 0) (k : rowR b c ≤ 0) : rowR a c ≤ 0 := by
  rw [rowR_le ha hb] at h
  rw [rowR_le hb hc] at k
  rw [rowR_le ha hc]
  exact rowO_trans ha hb hc h k
/-- rows whose values may be, in reach of the keys -/
def KyS (ks : List Ky) (r : List Val) : Prop := rMay r ∧ kIn ks r
theorem KyS.val {ks : List Ky} {r : List Val} (h : KyS ks r) {k : Ky} (hk : k ∈ ks) : (r.getD k.at_.toNat ⟨0, 0, []⟩).may = true := by
  obtain ⟨h1, h2⟩ := h.2 k hk
  have hp : k.at_.toNat < r.length := by omega
  rw [show r.getD k.at_.toNat ⟨0, 0, []⟩ = r[k.at_.toNat] by simp [List.getD, hp]]
  exact h.1 _ (List.getElem_mem _)
theorem kc_neg {ks : List Ky} {l m : List Val} (hl : KyS ks l) (hm : KyS ks m) {k : Ky} (hk : k ∈ ks) : kc k m l = - kc k l m := by
  have := ord_neg (hl.val hk) (hm.val hk)
  simp only [kc]
  split <;> omega
theorem kc_trans {ks : List Ky} {a b c : List Val} (ha : KyS ks a) (hb : KyS ks b) (hc : KyS ks c) {k : Ky} (hk : k ∈ ks) (h : kc k a b ≤ 0) (h2 : kc k b c ≤ 0) : kc k a c ≤ 0 := by
  simp only [kc] at h h2 ⊢
  split at h
  · rename_i hd
    rw [if_pos hd] at h2 ⊢
    have e1 := ord_neg (ha.val hk) (hb.val hk)
    have e2 := ord_neg (hb.val hk) (hc.val hk)
    have e3 := ord_neg (ha.val hk) (hc.val hk)
    have := ord_trans (a := c.getD k.at_.toNat ⟨0, 0, []⟩) (b := b.getD k.at_.toNat ⟨0, 0, []⟩) (c := a.getD k.at_.toNat ⟨0, 0, []⟩) (by omega) (by omega)
    omega
  · rename_i hd
    rw [if_neg hd] at h2 ⊢
    exact ord_trans h h2
theorem ordK_neg {ks0 : List Ky} {l m : List Val} (hl : KyS ks0 l) (hm : KyS ks0 m) : ∀ {ks : List Ky}, (∀ k ∈ ks, k ∈ ks0) → ordK ks m l = - ordK ks l m
  | [], _ => rowR_neg hl.1 hm.1
  | k :: r, h => by
    have hk := kc_neg hl hm (h k (by simp))
    have ih := ordK_neg hl hm (ks := r) fun x hx => h x (by simp [hx])
    rw [ordK, ordK, hk, ih]
    by_cases e : kc k l m = 0
    · simp [e]
    · simp [e]
theorem ordK_zero {ks0 : List Ky} {l m : List Val} (hl : KyS ks0 l) (hm : KyS ks0 m) : ∀ {ks : List Ky}, (∀ k ∈ ks, k ∈ ks0) → ordK ks l m = 0 → l = m
  | [], _, h => rowR_zero hl.1 hm.1 h
  | k :: r, h, e => by
    rw [ordK] at e
    by_cases c : kc k l m = 0
    · rw [if_neg (by simp [c])] at e
      exact ordK_zero hl hm (ks := r) (fun x hx => h x (by simp [hx])) e
    · rw [if_pos c] at e; exact absurd e c
theorem ordK_trans {ks0 : List Ky} {a b c : List Val} (ha : KyS ks0 a) (hb : KyS ks0 b) (hc : KyS ks0 c) : ∀ {ks : List Ky}, (∀ k ∈ ks, k ∈ ks0) → ordK ks a b ≤ 0 → ordK ks b c ≤ 0 → ordK ks a c ≤ 0
  | [], _, h, k => rowR_trans ha.1 hb.1 hc.1 h k
  | k :: r, hs, h, h2 => by
    have hk := hs k (by simp)
    have ih := ordK_trans ha hb hc (ks := r) fun x hx => hs x (by simp [hx])
    rw [ordK] at h h2 ⊢
    have h1 : kc k a b ≤ 0 := by by_cases e : kc k a b = 0 <;> simp [e] at h ⊢; omega
    have k1 : kc k b c ≤ 0 := by by_cases e : kc k b c = 0 <;> simp [e] at h2 ⊢; omega
    have t := kc_trans ha hb hc hk h1 k1
    by_cases e : kc k a c = 0
    · have n1 := kc_neg ha hc hk
      have n2 := kc_neg ha hb hk
      have n3 := kc_neg hb hc hk
      have t2 := kc_trans hc ha hb hk (by omega) h1
      have t3 := kc_trans hb hc ha hk k1 (by omega)
      have e1 : kc k a b = 0 := by omega
      have e2 : kc k b c = 0 := by omega
      rw [if_neg (by simp [e1])] at h
      rw [if_neg (by simp [e2])] at h2
      rw [if_neg (by simp [e])]
      exact ih h h2
    · rw [if_pos e]; exact t
theorem ordK_ord (ks : List Ky) : OrdL (ordK ks) (KyS ks) :=
  ⟨fun a b ha hb h => by have := ordK_neg ha hb (ks := ks) (fun _ h => h); omega, fun a b c ha hb hc h k => ordK_trans ha hb hc (fun _ h => h) h k⟩
end Go.Abs
