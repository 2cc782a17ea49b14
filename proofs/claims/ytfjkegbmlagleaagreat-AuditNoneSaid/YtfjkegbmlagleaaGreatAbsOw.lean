/- Slices that a function made itself: what they hold. -/
import Derived.Test.YtfjkegbmlagleaaGreatAbsVs
namespace Go.Abs

/-- a block that holds these cells -/
def OwnB (k : ABlk) (l : List AV) : Prop := ∃ u z bs t, k = .cells u z bs t ∧ u = l.length ∧ (∀ i, getc u z bs t i = l[i]?) ∧ (t = .nil → z = [] → bs.length = u)
theorem OwnB.list {l : List AV} {u : Nat} (h : u = l.length) : OwnB (.cells u [] l .nil) l := ⟨u, [], l, .nil, rfl, h, fun i => by
  rw [getc_list]
  split
  · rfl
  · rw [List.getElem?_eq_none (by omega)], fun _ _ => h.symm⟩
theorem grabR_own {u : Nat} {z bs : List AV} {t : Ov AV} {l : List AV} (hg : ∀ i, getc u z bs t i = l[i]?) (o : Nat) : ∀ (k : Nat) (acc : List AV), o + k ≤ l.length → grabR u z bs t o k acc = some ((l.drop o).take k ++ acc)
  | 0, acc, _ => by simp; rfl
  | k + 1, acc, h => by
    show osel (getc u z bs t (o + k)) none (fun v => grabR u z bs t o k (v :: acc)) = _
    rw [hg, List.getElem?_eq_getElem (by omega)]
    simp only [osel_some]
    rw [grabR_own hg o k _ (by omega), List.take_add_one, List.append_assoc]
    congr 1
    simp [List.getElem?_drop, List.getElem?_eq_getElem (show o + k < l.length by omega)]
theorem OwnB.grab {k : ABlk} {l : List AV} (h : OwnB k l) {o c : Nat} (hc : o + c ≤ l.length) : ∃ u z bs t, k = .cells u z bs t ∧ Go.Abs.grab u z bs t o c = some ((l.drop o).take c) := by
  obtain ⟨u, z, bs, t, rfl, hu, hg, hi⟩ := h
  refine ⟨u, z, bs, t, rfl, ?_⟩
  have ex : ∃ r, Go.Abs.grab u z bs t o c = some r := by
    have hb : Nat.ble (Nat.add o c) u = true := Nat.ble_eq_true_of_le (by rw [hu]; exact hc)
    have orr : ∀ r, ∃ l', orR r u z bs t o c = some l' := by
      intro r
      unfold orR
      split
      · exact ⟨_, rfl⟩
      · exact ⟨_, grabR_own hg o c [] hc⟩
    unfold Go.Abs.grab
    split
    · split
      · split
        · exact ⟨_, rfl⟩
        · rw [hb]; exact orr _
      · split
        · rw [hb]; exact ⟨_, rfl⟩
        · exact ⟨_, grabR_own hg o c [] hc⟩
    · rw [hb]; exact orr _
    · rw [hb]
      dsimp only
      split
      · split
        · exact orr _
        · exact orr _
      · exact ⟨_, grabR_own hg o c [] hc⟩
  obtain ⟨r, hr⟩ := ex
  rw [hr]
  obtain ⟨h1, h2⟩ := grab_spec hi hr
  congr 1
  apply List.ext_getElem?
  intro i
  by_cases hlt : i < c
  · rw [← h2 i hlt, hg, List.getElem?_take, if_pos hlt, List.getElem?_drop]
  · rw [List.getElem?_eq_none (by omega), List.getElem?_eq_none (by simp; omega)]
/-- a slice of one's own -/
def OwnS (H : Hp) (n : Nat) (v : AV) (l : List AV) (len sz : Nat) : Prop := l.length = len * sz ∧ ((v = .cst (.slice none 0 0) ∧ len = 0) ∨ ∃ b k, v = .sl b 0 len sz ∧ b < n ∧ H.get b = some k ∧ OwnB k l)
section
variable {P : Program} {F : Fr} {H : Hp} {n : Nat} {m : List Nat} {Q : QA}
theorem OwnS.nil (H : Hp) (n sz : Nat) : OwnS H n (.cst (.slice none 0 0)) [] 0 sz := ⟨by simp, .inl ⟨rfl, rfl⟩⟩
theorem OwnS.frz {v : AV} {l l' : List AV} {len sz : Nat} (h : OwnS H n v l len sz) (hl : FrzL H.get l l') : Frz H.get v (.ds l' len sz) := by
  obtain ⟨h0, ⟨rfl, rfl⟩ | ⟨b, k, rfl, hb, hk, ho⟩⟩ := h
  · have : l = [] := by simpa using h0
    subst this
    cases hl
    exact .nil _
  · obtain ⟨u, z, bs, t, rfl, hg⟩ := ho.grab (o := 0) (c := len * sz) (by omega)
    refine .sl _ _ _ _ _ _ _ _ _ _ hk hg ?_
    rw [List.drop_zero, List.take_of_length_le (by omega)]; exact hl
theorem FrzL.pure {h : Hf} {l : List AV} (hl : PureL l) : FrzL h l l := by
  induction l with
  | nil => exact .nil
  | cons v r ih => simp only [pureL_cons] at hl; exact .cons _ _ _ _ (.pure _ hl.1) (ih hl.2)
/-- append to a slice of one's own: what it comes to -/
theorem OwnS.cApp {v x : AV} {l new : List AV} {len sz by_ k : Nat} (h : OwnS H n v l len sz) (hx : sliceCells H sz x = some new) (hk : sliceLen x = some k) (hn : new.length = k * sz)
    (hs : 0 < sz) (hk0 : 0 < k) (hbig : len + k ≤ big) (hby : by_ ≤ 4096) (h1 : allOne new = true) :
    ∃ H', (∀ K : AV → Hp → Nat → Prop, EvE (Go.Abs.cApp sz by_ n v x H) H n K = K (.sl n 0 (len + k) sz) H' (n + 1)) ∧ OwnS H' (n + 1) (.sl n 0 (len + k) sz) (l ++ new) (len + k) sz ∧ ∀ c, c < n → v ≠ .sl c 0 len sz → H'.get c = H.get c := by
  unfold Go.Abs.cApp
  rw [hx, hk]
  dsimp only
  obtain ⟨h0, ⟨rfl, rfl⟩ | ⟨b, kb, rfl, hb, hkb, u, z, bs, t, rfl, hu, hg, hi⟩⟩ := h
  · have hl : l = [] := by simpa using h0
    subst hl
    have e : cApp1 sz by_ n k new H (.cst (.slice none 0 0)) = .new (.sl n 0 k sz) (.cells (k * sz) [] new .nil) := by
      unfold cApp1
      simp only [nat_beq, nat_blt, nat_ble, show ¬ k = 0 by omega, hs, show k ≤ big by omega, hby, h1, decide_true, decide_false, Bool.and_self]
    rw [e]
    refine ⟨_, fun K => (by rw [Nat.zero_add]; rfl), ⟨by simp [hn], .inr ⟨n, .cells (k * sz) [] new .nil, by simp, by omega, by simp, ?_⟩⟩, fun c hc _ => ?_⟩
    · simpa using OwnB.list (l := new) hn.symm
    · simp [show ¬ c = n by omega]
  · have e : cApp1 sz by_ n k new H (.sl b 0 len sz) = .mv (.sl n 0 (len + k) sz) b (.cells ((len + k) * sz) z bs (Ov.putAll new (len * sz) t)) := by
      unfold cApp1 cApp2
      simp only [nat_beq, nat_blt, nat_ble, show ¬ k = 0 by omega, hs, hbig, hby, h1, decide_true, decide_false, Bool.and_self, hkb, hu, h0, Nat.le_refl, forceN_eq]
    rw [e]
    have hm : (len + k) * sz = len * sz + k * sz := Nat.add_mul _ _ _
    refine ⟨_, fun K => rfl, ⟨by simp [hn, h0, hm], .inr ⟨n, .cells ((len + k) * sz) z bs (Ov.putAll new (len * sz) t), rfl, by omega, by simp, _, z, bs, _, rfl, by simp [hn, h0, hm], fun i => ?_, fun ht => ?_⟩⟩, fun c hc hne => ?_⟩
    · rw [getc_eq, Ov.get_putAll]
      by_cases hlt : i < (len + k) * sz
      · rw [if_pos hlt]
        by_cases hin : len * sz ≤ i ∧ i < len * sz + new.length
        · rw [if_pos hin, List.getElem?_append_right (by omega), h0]
          rw [List.getElem?_eq_getElem (by omega)]
        · rw [if_neg hin, List.getElem?_append_left (by omega)]
          have := hg i
          rw [getc_eq, if_pos (by omega)] at this
          exact this
      · rw [if_neg hlt, List.getElem?_eq_none (by simp [h0, hn]; omega)]
    · exfalso
      cases new with
      | nil => simp at hn; have : 0 < k * sz := Nat.mul_pos hk0 hs; omega
      | cons v r =>
        have := Ov.get_putAll (v :: r) (len * sz) t (len * sz)
        rw [ht, if_pos (by simp)] at this
        simp at this
    · have : c ≠ b := fun e => hne (by rw [e])
      simp [show ¬ c = n by omega, this]
theorem OwnS.app {v x : AV} {l new : List AV} {len sz by_ k : Nat} {pd : Pd} {r : List (Option GO)} (h : OwnS H n v l len sz) (hx : sliceCells H sz x = some new) (hk : sliceLen x = some k) (hn : new.length = k * sz)
    (hs : 0 < sz) (hk0 : 0 < k) (hbig : len + k ≤ big) (hby : by_ ≤ 4096) (h1 : allOne new = true)
    (hgo : ∀ H', OwnS H' (n + 1) (.sl n 0 (len + k) sz) (l ++ new) (len + k) sz → (∀ c, c < n → v ≠ .sl c 0 len sz → H'.get c = H.get c) → VCO P r (pd.f (.sl n 0 (len + k) sz) F) H' (n + 1) m Q) : OpV (Go.Abs.cApp sz by_ n v x H) pd r P F H n m Q := by
  obtain ⟨H', e, h1, h2⟩ := h.cApp hx hk hn hs hk0 hbig hby h1
  unfold OpV
  rw [e]
  exact hgo H' h1 h2
theorem OwnS.appI {ce : Ce} {Hs : List Hp} {v x : AV} {l new : List AV} {len sz by_ k : Nat} {pd : Pd} {r : List (Option RO)} (h : OwnS H n v l len sz) (hx : sliceCells H sz x = some new) (hk : sliceLen x = some k) (hn : new.length = k * sz)
    (hs : 0 < sz) (hk0 : 0 < k) (hbig : len + k ≤ big) (hby : by_ ≤ 4096) (h1 : allOne new = true)
    (hgo : ∀ H', OwnS H' (n + 1) (.sl n 0 (len + k) sz) (l ++ new) (len + k) sz → (∀ c, c < n → v ≠ .sl c 0 len sz → H'.get c = H.get c) → Ev ((mkR r).f ce (pd.f (.sl n 0 (len + k) sz) F) H' (H' :: Hs) (n + 1) m) Q) : EvI (Go.Abs.cApp sz by_ n v x H) pd r ce F H Hs n m Q := by
  obtain ⟨H', e, h1, h2⟩ := h.cApp hx hk hn hs hk0 hbig hby h1
  unfold EvI
  rw [e]
  exact hgo H' h1 h2
/-- A FUNCTION THAT MAKES A SLICE out of what it reads. -/
def FnOwn (P : Program) (g : FuncId) (args l : List AV) (len sz : Nat) : Prop := ∀ (H : Hp) (n : Nat), CallOk P g args H n (.sl n 0 len sz) (H.put n (some (.cells (len * sz) [] l .nil))) (n + 1)
theorem FnOwn.of {g : FuncId} {args l : List AV} {len sz : Nat} (hp : PureL args) (hl : PureL l) (h0 : 0 < len) (h : CallR P g args .nil 0 (fun v H' n' => OwnS H' n' v l len sz)) : FnOwn P g args l len sz := by
  intro H n
  refine ⟨h.1, Nat.le_succ n, fun φ D w xs hr hv hf R hR => ?_⟩
  refine h.2 PhN D w xs (rel_none hr.dat) (hp.vrs hv) (fun _ _ => rfl) R fun v H' n' φ' D' w' x ho e r hx => ?_
  obtain ⟨hlen, ⟨_, hz⟩ | ⟨b, k, rfl, hb, hk, ho⟩⟩ := ho
  · omega
  cases hx with
  | sl _ _ _ _ cb co cz cap ad hp' hle had =>
  have hn : φ n = none := hf n (Nat.le_refl _) (by omega)
  have hm := Ph.set_mono (p := (cb, co, cz)) hn
  have hlive := r.block hk hp'
  have hcb : w.heap.size ≤ cb := by
    rcases e.live b _ (by rw [hk]; simp) hp' with h | ⟨b0, p0, hh, _⟩
    · exact h
    · simp at hh
  have hdn : ∀ c, D' c ≠ none → D c ≠ none ∨ w.heap.size ≤ c := by
    intro c hc
    rcases e.dnew c hc with h | h | ⟨b0, p0, hh, _⟩
    · exact .inl h
    · exact .inr h
    · simp at hh
  have hold : ∀ c p, H.get c ≠ none → φ c = some p → p.1 < w.heap.size := by
    intro c p hc hp
    cases hx : H.get c with
    | none => exact absurd hx hc
    | some k => exact (hr.block hx hp).1
  have hhn : H.get n = none := by
    cases hx : H.get n with
    | none => rfl
    | some k => obtain ⟨p, hp, _⟩ := hr.blk n k hx; rw [hn] at hp; cases hp
  refine hR (φ.set n (cb, co, cz)) D' w' _ ⟨Nat.le_succ n, hm, ?_, e.dat, e.size, fun c hc _ => e.keep c hc fun b p hb => by simp at hb, ?_, fun c hc => (hdn c hc).elim .inl fun h => .inr (.inl h), ?_, e.os, e.out⟩ ⟨?_, ?_, ?_, r.dat⟩ ?_
  · intro c h0 h1
    unfold Ph.set at h1
    by_cases hc : c = n
    · omega
    · simp [hc, h0] at h1
  · intro c p hc hp
    rw [Tr.get_put] at hc
    unfold Ph.set at hp
    by_cases hcn : c = n
    · subst hcn
      simp at hp
      subst hp
      exact .inl hcb
    · simp [hcn] at hc hp
      exact .inr ⟨c, p, hc, hp, rfl⟩
  · intro c hc
    rw [Tr.get_put] at hc
    by_cases hcn : c = n
    · exact .inr (by omega)
    · simp [hcn] at hc; exact .inl hc
  · intro c kk hc
    rw [Tr.get_put] at hc
    by_cases hcn : c = n
    · subst hcn
      simp at hc
      subst hc
      refine ⟨(cb, co, cz), by simp [Ph.set], hlive.1, ?_⟩
      obtain ⟨u, z, bs, t, rfl, hu, hg, hi⟩ := ho
      obtain ⟨cc, ee, fr, q1, q2, q3, q4, q5, q6⟩ := hlive.2
      refine ⟨cc, ee, fr, q1, q2, q3, fun i v hv => ?_, fun _ _ => hlen, by omega⟩
      rw [getc_list] at hv
      split at hv
      · have := hg i
        rw [hv] at this
        obtain ⟨y, hy, hvy⟩ := q4 i v this
        exact ⟨y, hy, (hl.mem v (List.mem_of_getElem? hv)).out hvy⟩
      · cases hv
    · rw [if_neg hcn] at hc
      obtain ⟨p, hp, hlt, hbk⟩ := hr.blk c kk hc
      exact ⟨p, hm _ _ hp, Nat.lt_of_lt_of_le hlt e.size, hbk.mono hm e.dat (e.keep _ hlt fun b p hb => by simp at hb)⟩
  · intro c d p q hc hd hp hq hpq
    rw [Tr.get_put] at hc hd
    unfold Ph.set at hp hq
    by_cases h1 : c = n <;> by_cases h2 : d = n <;> simp [h1, h2] at hc hd hp hq ⊢
    · have := hold d q hd hq; rw [← hp] at hpq; simp at hpq; omega
    · have := hold c p hc hp; rw [← hq] at hpq; simp at hpq; omega
    · exact hr.inj c d p q hc hd hp hq hpq
  · intro c p hc hp
    rw [Tr.get_put] at hc
    unfold Ph.set at hp
    by_cases h1 : c = n
    · subst h1
      simp at hp
      subst hp
      exact r.sep b (cb, co, cz) (by rw [hk]; simp) hp'
    · simp [h1] at hc hp
      cases hD : D' p.1 with
      | none => rfl
      | some x =>
        rcases hdn p.1 (by rw [hD]; simp) with h | h
        · exact absurd (hr.sep c p hc hp) h
        · have := hold c p hc hp; omega
  · exact .sl _ _ _ _ cb co cz cap ad (by simp [Ph.set]) hle had
theorem CalV.own {f : FuncId} {vs l : List AV} {len sz : Nat} {pd : Pd} {r : List (Option GO)} (h : FnOwn P f vs l len sz) (k : VCO P r (pd.f (.sl n 0 len sz) F) (H.put n (some (.cells (len * sz) [] l .nil))) (n + 1) m Q) : CalV f vs pd r P F H n m Q :=
  (h H n).callR.mono fun u K k' ⟨a, b, c⟩ => by subst a b c; exact k

/-! ### a few calls, told -/
open Classical in
/-- an environment of some calls -/
noncomputable def ceT (l : List (FuncId × List AV × (Hp → Nat → CRes))) : Ce := ceOf fun g args H n => match l.find? (fun x => decide (x.1 = g ∧ x.2.1 = args)) with
  | some x => x.2.2 H n
  | none => .fail
theorem ceT_ok {l : List (FuncId × List AV × (Hp → Nat → CRes))} (h : ∀ x ∈ l, ∀ H n v H' n', x.2.2 H n = .mk v H' n' → CallOk P x.1 x.2.1 H n v H' n') : CeOk P (ceT l) := by
  refine ceOf_ok fun g args H n v H' n' e => ?_
  split at e
  · rename_i x hx
    have h1 := List.find?_some hx
    simp at h1
    obtain ⟨rfl, rfl⟩ := h1
    exact h x (List.mem_of_find?_eq_some hx) H n v H' n' e
  · cases e
theorem ceT_hd (g : FuncId) (args : List AV) (f : Hp → Nat → CRes) (l : List (FuncId × List AV × (Hp → Nat → CRes))) (H : Hp) (n : Nat) : (ceT ((g, args, f) :: l)).call g args H n = f H n := by
  simp [ceT, ceOf]
theorem ceT_tl {g g' : FuncId} {args args' : List AV} {f : Hp → Nat → CRes} {l : List (FuncId × List AV × (Hp → Nat → CRes))} (h : g = g' → args = args' → ∀ H n, (ceT l).call g args H n = f H n) (H : Hp) (n : Nat) : (ceT ((g', args', f) :: l)).call g args H n = (ceT l).call g args H n := by
  by_cases e : g' = g ∧ args' = args
  · obtain ⟨rfl, rfl⟩ := e
    rw [h rfl rfl, ceT_hd]
  · simp only [ceT, ceOf, List.find?_cons, e, decide_false]
theorem ceT_pure {g : FuncId} {args : List AV} {u : AV} (h : FnPure P g args u) : ∀ H n v H' n', CRes.mk u H n = .mk v H' n' → CallOk P g args H n v H' n' := by
  intro H n v H' n' e
  cases e
  exact h.callOk H n
theorem ceT_own {g : FuncId} {args l : List AV} {len sz : Nat} (h : FnOwn P g args l len sz) : ∀ H n v H' n', CRes.mk (.sl n 0 len sz) (H.put n (some (.cells (len * sz) [] l .nil))) (n + 1) = .mk v H' n' → CallOk P g args H n v H' n' := by
  intro H n v H' n' e
  cases e
  exact h H n
end
theorem Frz.bool {h : Hf} {a b : Bool} (e : a = b) : Frz h (.bool a) (.bool b) := by subst e; exact .pure _ (by simp)
theorem Frz.eq {h : Hf} {v v' : AV} (hp : Pure v') (e : v = v') : Frz h v v' := by subst e; exact .pure _ hp
@[simp] theorem sliceCells_ds (H : Hp) (cs : List AV) (len sz : Nat) : sliceCells H sz (.ds cs len sz) = some cs := by simp [sliceCells]
@[simp] theorem sliceLen_ds (cs : List AV) (len sz : Nat) : sliceLen (.ds cs len sz) = some len := Eq.trans rfl rfl
@[simp] theorem sliceLen_sl (b o len sz : Nat) : sliceLen (.sl b o len sz) = some len := Eq.trans rfl rfl
theorem sliceCells_sl {H : Hp} {b o len sz : Nat} {k : ABlk} {l : List AV} (hb : H.get b = some k) (ho : OwnB k l) (hl : o + len * sz ≤ l.length) : sliceCells H sz (.sl b o len sz) = some ((l.drop o).take (len * sz)) := by
  obtain ⟨u, z, bs, t, rfl, hg⟩ := ho.grab hl
  simp only [sliceCells, nat_beq, decide_true, cond_true, hb, hg]
end Go.Abs
