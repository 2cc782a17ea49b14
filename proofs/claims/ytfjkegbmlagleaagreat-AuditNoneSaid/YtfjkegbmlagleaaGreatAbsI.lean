/- The abstract machine: regions that draw their order. Part three: the run, read off. -/
import Derived.Test.YtfjkegbmlagleaaGreatAbsH
namespace Go.Abs
section
variable {P : Program} {ce : Ce} {nt : Nat} {r : Option Nat} {ops : Array Oper} {T D : Tr Nat} {F0 : Fr} {n0 : Nat}

def DOk (D : Tr Nat) (ops : Array Oper) : Prop := ∀ i o d, ops[i]? = some o → o.dst = some d → D.get d = some i
/-- what is known at first: nothing of the slots that are written other than by an assignment -/
def EOk (D E : Tr Nat) (F0 : Fr) : Prop := ∀ t p, D.get t = some p → E.get t = none → F0.get t = none

theorem slotsOk_spec {E : Tr Nat} {i seen : Nat} : ∀ {l : List Nat}, slotsOk T D E i seen l = true → ∀ t, t ∈ l → ∀ p, D.get t = some p →
    (E.get t = none ∧ tb (ancOf T i) p = true) ∨ (E.get t ≠ none ∧ tb (ancOf T p) i = true ∧ tb seen p = false)
  | [], _, t, ht => by cases ht
  | s :: l, h, t, ht => by
    intro p hp
    simp only [slotsOk] at h
    split at h
    · rename_i hs
      rcases List.mem_cons.1 ht with rfl | ht
      · rw [hp] at hs; cases hs
      · exact slotsOk_spec h t ht p hp
    · rename_i q hs
      split at h
      · rename_i hE
        cases hq : tb (ancOf T i) q with
        | false => rw [hq] at h; cases h
        | true =>
          rw [hq] at h
          rcases List.mem_cons.1 ht with rfl | ht
          · rw [hp] at hs; injection hs with hs; subst hs; exact .inl ⟨hE, hq⟩
          · exact slotsOk_spec h t ht p hp
      · rename_i x hE
        cases hq : tb (ancOf T q) i && !tb seen q with
        | false => rw [hq] at h; cases h
        | true =>
          rw [hq] at h
          rcases List.mem_cons.1 ht with rfl | ht
          · rw [hp] at hs; injection hs with hs; subst hs
            simp only [Bool.and_eq_true, Bool.not_eq_true'] at hq
            exact .inr ⟨by rw [hE]; simp, hq.1, hq.2⟩
          · exact slotsOk_spec h t ht p hp
theorem grpOk_spec {m : Nat} : ∀ {l : List Nat}, grpOk m l = true → ∀ p, p ∈ l → tb m p = true
  | [], _, p, hp => by cases hp
  | s :: l, h, p, hp => by
    simp only [grpOk] at h
    cases hq : tb m s with
    | false => rw [hq] at h; cases h
    | true =>
      rw [hq] at h
      rcases List.mem_cons.1 hp with rfl | hp
      · exact hq
      · exact grpOk_spec h p hp
theorem rsOf_get : ∀ (l : List Nat) (F : Fr) (t : Nat), ((rsOf l).f F).get t = if t ∈ l then F.get t else none
  | [], F, t => rfl
  | s :: l, F, t => by
    show ((Tr.putK (Nat.succ s) s).f ((slotG s).f F) ((rsOf l).f F)).get t = _
    rw [Tr.get_putK _ _ _ _ _ (Nat.lt_succ_self s), rsOf_get l, slotG_eq]
    by_cases h : t = s
    · subst h; simp
    · simp [h]
theorem rsOf_some {l : List Nat} {F : Fr} {t : Nat} {u : AV} (h : ((rsOf l).f F).get t = some u) : t ∈ l ∧ F.get t = some u := by
  rw [rsOf_get] at h
  split at h
  · exact ⟨by assumption, h⟩
  · cases h
theorem pd_get {dst : Option Tmp} {pd : Pd} (h : compPd nt dst = some pd) : (∀ v (F : Fr) t, (pd.f v F).get t = if dst = some t then some v else F.get t) ∧ ∀ d, dst = some d → d < nt := by
  unfold compPd at h
  split at h
  · injection h with h; subst h; exact ⟨fun v F t => by simp, fun d hd => by cases hd⟩
  · rename_i d
    split at h
    · rename_i hd
      injection h with h; subst h
      refine ⟨fun v F t => ?_, fun d' hd' => by injection hd' with hd'; subst hd'; exact hd⟩
      dsimp only
      rw [Tr.get_putK _ _ _ _ _ (Nat.lt_succ_self d)]
      by_cases e : t = d
      · subst e; simp
      · simp [e, Ne.symm e]
    · cases h

theorem RecOk.mono {A A' : Nat → Hp} {j j' : Nat} {c : Rec} (h : RecOk P r ops A j c) (hph : c.ph ≤ j) (hA : ∀ q, q ≤ j → A' q = A q) (hj : j ≤ j') : RecOk P r ops A' j' c :=
  ⟨fun a b d => let ⟨x, y⟩ := h.val a b d; ⟨x, fun q h1 h2 => by rw [hA q (by omega)]; exact y q h1 h2⟩,
   fun a k b => let ⟨x, y, z⟩ := h.new a k b; ⟨x, y, fun q hq => by rw [hA q (by omega)]; exact z q hq⟩,
   fun b x y a => let ⟨u, v, w, s, t⟩ := h.flo b x y a; ⟨u, v, w, by rw [hA _ hph]; exact s, t⟩,
   fun a => let ⟨x, y, z⟩ := h.mod a; ⟨x, by omega, by rw [hA (c.ph + 1) (by omega)]; exact z⟩⟩

theorem good_step {A A' : Nat → Hp} {done : List Rec} {j j' : Nat} {F F1 : Fr} {H H1 : Hp} {n : Nat} {mods mods' grp grp' bad bad' : List Nat} {seen : Nat} {E : Tr Nat} (g : Good P r nt ops T D F0 n0 A done j F H n mods grp bad seen) (hnf : ∀ s ∈ done, s.flt = none) (c : Rec) {o : Oper} (ho : ops[c.i]? = some o)
    (hdst : c.dst = o.dst) (hlt : ∀ d, o.dst = some d → d < nt) (hlo : c.lo = n) (hhi : n ≤ c.hi) (hph : c.ph = j) (hFs : ∀ t u, c.Fs.get t = some u → t ∈ slotsOf ops o ∧ F.get t = some u)
    (hsl : slotsOk T D E c.i seen (slotsOf ops o) = true) (hD : DOk D ops) (hE : EOk D E F0) (hF1 : ∀ t, F1.get t = if c.dst = some t then some c.v else F.get t) (hA : ∀ q, q ≤ j → A' q = A q) (hok : RecOk P r ops A' j' c) (hcf : c.flt = none)
    (hcase : (c.isM = false ∧ j' = j ∧ mods' = mods ∧ grp' = c.i :: grp ∧ (bad' = c.i :: bad ∨ (bad' = bad ∧ c.hf = true)) ∧ (∀ b k, H1.get b = some k → H.get b = some k ∨ (c.blk = some k ∧ c.lo = b)) ∧
        (∀ q, c.e = q + 1 → ∃ x, mods[mods.length - (q + 1)]? = some x ∧ q + 1 ≤ mods.length ∧ tb (ancOf T c.i) x = true)) ∨
      (c.isM = true ∧ j' = j + 1 ∧ mods' = c.i :: mods ∧ grp' = [] ∧ A' (j + 1) = H1 ∧ c.X = H.get ∧ grpOk (ancOf T c.i) grp = true ∧ (∀ x l, mods = x :: l → tb (ancOf T c.i) x = true))) :
    Good P r nt ops T D F0 n0 A' (done ++ [c]) j' F1 H1 c.hi mods' grp' bad' (Nat.lor seen (Nat.shiftLeft 1 c.i)) := by
  have hjj : j ≤ j' := by rcases hcase with ⟨_, h, _⟩ | ⟨_, h, _⟩ <;> omega
  have mem : ∀ {s}, s ∈ done → s ∈ done ++ [c] := fun h => List.mem_append_left _ h
  have memc : c ∈ done ++ [c] := by simp
  have spl : ∀ {s}, s ∈ done ++ [c] → s ∈ done ∨ s = c := fun h => by simpa using h
  have hAj := hA j (Nat.le_refl _)
  have hnf' : ∀ s, s ∈ done ++ [c] → s.flt = none := fun s hs => by
    rcases spl hs with hs | rfl
    · exact hnf s hs
    · exact hcf
  refine ⟨Nat.le_trans g.nle hhi, ?_, ?_, ?_, ?_, ?_, ?_, ?_, ?_, ?_, ?_, ?_, ?_, ?_, ?_, ?_, ?_, ?_, ?_, ?_⟩
  · intro s hs
    rcases spl hs with hs | rfl
    · exact (g.ok s hs).mono (g.ph s hs) hA hjj
    · exact hok
  · intro s hs
    rcases spl hs with hs | rfl
    · obtain ⟨a, b, d⟩ := g.rng s hs; exact ⟨a, b, Nat.le_trans d hhi⟩
    · exact ⟨by rw [hlo]; exact g.nle, by omega, Nat.le_refl _⟩
  · rw [List.pairwise_append]
    refine ⟨g.pw, by simp, fun a ha b hb => ?_⟩
    have : b = c := by simpa using hb
    subst this
    rw [hlo]; exact (g.rng a ha).2.2
  · intro s hs
    rcases spl hs with hs | rfl
    · exact g.op s hs
    · exact ⟨o, ho, hdst, hlt⟩
  · intro s hs t u hu
    rcases spl hs with hs | rfl
    · rcases g.fs s hs t u hu with h | ⟨x, hx, h⟩
      · exact .inl h
      · exact .inr ⟨x, mem hx, h⟩
    · obtain ⟨h1, h2⟩ := hFs t u hu
      rcases g.ft t u h2 with ⟨h, _⟩ | ⟨x, hx, h3, h4⟩
      · refine .inl ⟨h, fun p hp => ?_⟩
        rcases slotsOk_spec hsl t h1 p hp with ⟨h5, _⟩ | ⟨_, h5, _⟩
        · rw [hE t p hp h5] at h; cases h
        · exact h5
      · obtain ⟨ox, hox, hdx, _⟩ := g.op x hx
        rcases slotsOk_spec hsl t h1 _ (hD _ _ _ hox (by rw [← hdx]; exact h3)) with ⟨_, h5⟩ | ⟨_, _, h5⟩
        · exact .inr ⟨x, mem hx, h3, h4, h5⟩
        · rw [g.sn x hx] at h5; cases h5
  · intro t u hu
    rw [hF1] at hu
    split at hu
    · rename_i hd
      injection hu with hu
      exact .inr ⟨c, memc, hd, hu⟩
    · rename_i hnd
      rcases g.ft t u hu with ⟨h, h'⟩ | ⟨x, hx, h⟩
      · refine .inl ⟨h, fun s hs => ?_⟩
        rcases spl hs with hs | rfl
        · exact h' s hs
        · exact hnd
      · exact .inr ⟨x, mem hx, h⟩
  · intro b k hb
    rcases hcase with ⟨h1, rfl, _, _, _, h2, _⟩ | ⟨h1, rfl, _, _, h2, _⟩
    · rcases h2 b k hb with h3 | ⟨h3, h4⟩
      · rcases g.hg b k h3 with h5 | ⟨s, hs, h5⟩ | ⟨s, hs, x, h5⟩
        · exact .inl ⟨by rw [hAj]; exact h5.1, fun s hs x y => by rw [hnf' s hs]; simp⟩
        · exact .inr (.inl ⟨s, mem hs, h5⟩)
        · rw [hnf s hs] at h5; cases h5
      · exact .inr (.inl ⟨c, memc, h1, h3, h4, hph⟩)
    · exact .inl ⟨by rw [h2]; exact hb, fun s hs x y => by rw [hnf' s hs]; simp⟩
  · intro s hs hm b k hb
    rcases spl hs with hs | rfl
    · rcases g.mx s hs hm b k hb with h | ⟨x, hx, h⟩
      · exact .inl (by rw [hA _ (g.ph s hs)]; exact h)
      · exact .inr ⟨x, mem hx, h⟩
    · rcases hcase with ⟨h1, _⟩ | ⟨_, _, _, _, _, h2, h3, _⟩
      · rw [h1] at hm; cases hm
      · rw [h2] at hb
        rcases g.hg b k hb with h5 | ⟨x, hx, h5, h6, h7, h8⟩ | ⟨s, hs, x, h5⟩
        rotate_left 2
        · rw [hnf s hs] at h5; cases h5
        · exact .inl (by rw [hph, hAj]; exact h5.1)
        · exact .inr ⟨x, mem hx, h5, h6, h7, by omega, grpOk_spec h3 _ ((g.gr x hx h5).2 h8)⟩
  · intro s hs
    rcases spl hs with hs | rfl
    · have := g.ph s hs; omega
    · omega
  · intro s hs hm
    rcases spl hs with hs | rfl
    · obtain ⟨h1, h2⟩ := g.gr s hs hm
      have hp := g.ph s hs
      rcases hcase with ⟨_, rfl, _, rfl, _⟩ | ⟨hcm, rfl, _, _, _, _, h3, _⟩
      · exact ⟨fun h => let ⟨x, hx, y⟩ := h1 h; ⟨x, mem hx, y⟩, fun h => List.mem_cons_of_mem _ (h2 h)⟩
      · refine ⟨fun _ => ?_, fun h => by omega⟩
        by_cases hj : s.ph < j
        · obtain ⟨x, hx, y⟩ := h1 hj; exact ⟨x, mem hx, y⟩
        · exact ⟨c, memc, hcm, by omega, grpOk_spec h3 _ (h2 (by omega))⟩
    · rcases hcase with ⟨_, rfl, _, rfl, _⟩ | ⟨hcm, _⟩
      · exact ⟨fun h => by omega, fun _ => by simp⟩
      · rw [hcm] at hm; cases hm
  · intro s hs hm q hq
    rcases spl hs with hs | rfl
    · obtain ⟨x, hx, y⟩ := g.ch s hs hm q hq; exact ⟨x, mem hx, y⟩
    · rcases hcase with ⟨h1, _⟩ | ⟨_, _, _, _, _, _, _, h3⟩
      · rw [h1] at hm; cases hm
      · cases hmods : mods with
        | nil => have := g.ml; rw [hmods] at this; simp at this; omega
        | cons x l =>
          obtain ⟨y, hy, h4, h5, h6⟩ := g.md 0 x (by rw [hmods]; rfl)
          exact ⟨y, mem hy, h4, by omega, by rw [h6]; exact h3 x l hmods⟩
  · intro s hs hm q hq
    rcases spl hs with hs | rfl
    · obtain ⟨x, hx, y⟩ := g.ea s hs hm q hq; exact ⟨x, mem hx, y⟩
    · rcases hcase with ⟨_, _, _, _, _, _, h3⟩ | ⟨hcm, _⟩
      · obtain ⟨x, h4, h5, h6⟩ := h3 q hq
        obtain ⟨y, hy, h7, h8, h9⟩ := g.md _ x h4
        have := g.ml
        exact ⟨y, mem hy, h7, by omega, by rw [h9]; exact h6⟩
      · rw [hcm] at hm; cases hm
  · have := g.ml
    rcases hcase with ⟨_, rfl, rfl, _⟩ | ⟨_, rfl, rfl, _⟩
    · exact this
    · simp [this]
  · intro q x hx
    rcases hcase with ⟨_, rfl, rfl, _⟩ | ⟨hcm, rfl, rfl, _⟩
    · obtain ⟨s, hs, y⟩ := g.md q x hx; exact ⟨s, mem hs, y⟩
    · cases q with
      | zero => simp at hx; exact ⟨c, memc, hcm, by omega, hx⟩
      | succ q =>
        obtain ⟨s, hs, y1, y2, y3⟩ := g.md q x (by simpa using hx)
        exact ⟨s, mem hs, y1, by omega, y3⟩
  · intro s hs u hu hsm hum hsu
    have modph : ∀ x, x ∈ done → x.isM = true → x.ph < j := fun x hx hm => ((g.ok x hx).mod hm).2.1
    rcases spl hs with hs' | e1 <;> rcases spl hu with hu' | e2
    · exact g.uq s hs' u hu' hsm hum hsu
    · have := modph s hs' hsm; rw [e2] at hsu; omega
    · have := modph u hu' hum; rw [e1] at hsu; omega
    · rw [e1, e2]
  · intro s hs
    rw [tb_lor, tb_one]
    rcases spl hs with hs | rfl
    · rw [g.sn s hs]; rfl
    · simp
  · intro s hs h1 h2 h3 h4
    rcases hcase with ⟨_, rfl, _, _, h5, _⟩ | ⟨hcm, rfl, _⟩
    · rcases spl hs with hs | rfl
      · rcases g.nh s hs h1 h2 h3 h4 with h6 | h6
        · rcases h5 with rfl | ⟨rfl, _⟩
          · exact .inl (List.mem_cons_of_mem _ h6)
          · exact .inl h6
        · exact .inr h6
      · rcases h5 with rfl | ⟨_, h5⟩
        · exact .inl (by simp)
        · exact .inr h5
    · rcases spl hs with hs | rfl
      · have := g.ph s hs; omega
      · rw [hcm] at h1; cases h1
  · intro s hs h; exact absurd (hnf' s hs) h
  · intro s hs u hu b x y x' y' h; rw [hnf' s hs] at h; cases h

/-- a floating store more -/
theorem good_flt {A : Nat → Hp} {done : List Rec} {j : Nat} {F F1 : Fr} {H : Hp} {n : Nat} {mods grp : List Nat} {seen : Nat} {E : Tr Nat} (g : Good P r nt ops T D F0 n0 A done j F H n mods grp [] seen) (c : Rec) {o : Oper} (ho : ops[c.i]? = some o)
    (hdst : c.dst = o.dst) (hlt : ∀ d, o.dst = some d → d < nt) (hlo : c.lo = n) (hhi : c.hi = n) (hph : c.ph = j) (hce : c.e = j) (hFs : ∀ t u, c.Fs.get t = some u → t ∈ slotsOf ops o ∧ F.get t = some u)
    (hsl : slotsOk T D E c.i seen (slotsOf ops o) = true) (hD : DOk D ops) (hE : EOk D E F0) (hF1 : ∀ t, F1.get t = if c.dst = some t then some c.v else F.get t) (hok : RecOk P r ops A j c)
    {b : Nat} {x y : ABlk} (hcf : c.flt = some (b, x, y)) (hfr : ∀ s ∈ done, ∀ x y, s.flt ≠ some (b, x, y)) (hch : ∀ x l, mods = x :: l → tb (ancOf T c.i) x = true) :
    Good P r nt ops T D F0 n0 A (done ++ [c]) j F1 (H.put b (some y)) n mods (c.i :: grp) [] (Nat.lor seen (Nat.shiftLeft 1 c.i)) := by
  have mem : ∀ {s}, s ∈ done → s ∈ done ++ [c] := fun h => List.mem_append_left _ h
  have memc : c ∈ done ++ [c] := by simp
  have spl : ∀ {s}, s ∈ done ++ [c] → s ∈ done ∨ s = c := fun h => by simpa using h
  obtain ⟨hcm, hcb, _, hAb, _⟩ := hok.flo b x y hcf
  refine ⟨g.nle, ?_, ?_, ?_, ?_, ?_, ?_, ?_, ?_, ?_, ?_, ?_, ?_, g.ml, ?_, ?_, ?_, ?_, ?_, ?_⟩
  · intro s hs
    rcases spl hs with hs | rfl
    · exact g.ok s hs
    · exact hok
  · intro s hs
    rcases spl hs with hs | rfl
    · exact g.rng s hs
    · exact ⟨by rw [hlo]; exact g.nle, by omega, by omega⟩
  · rw [List.pairwise_append]
    refine ⟨g.pw, by simp, fun a ha b hb => ?_⟩
    have : b = c := by simpa using hb
    subst this
    rw [hlo]; exact (g.rng a ha).2.2
  · intro s hs
    rcases spl hs with hs | rfl
    · exact g.op s hs
    · exact ⟨o, ho, hdst, hlt⟩
  · intro s hs t u hu
    rcases spl hs with hs | rfl
    · rcases g.fs s hs t u hu with h | ⟨x, hx, h⟩
      · exact .inl h
      · exact .inr ⟨x, mem hx, h⟩
    · obtain ⟨h1, h2⟩ := hFs t u hu
      rcases g.ft t u h2 with ⟨h, _⟩ | ⟨x, hx, h3, h4⟩
      · refine .inl ⟨h, fun p hp => ?_⟩
        rcases slotsOk_spec hsl t h1 p hp with ⟨h5, _⟩ | ⟨_, h5, _⟩
        · rw [hE t p hp h5] at h; cases h
        · exact h5
      · obtain ⟨ox, hox, hdx, _⟩ := g.op x hx
        rcases slotsOk_spec hsl t h1 _ (hD _ _ _ hox (by rw [← hdx]; exact h3)) with ⟨_, h5⟩ | ⟨_, _, h5⟩
        · exact .inr ⟨x, mem hx, h3, h4, h5⟩
        · rw [g.sn x hx] at h5; cases h5
  · intro t u hu
    rw [hF1] at hu
    split at hu
    · rename_i hd
      injection hu with hu
      exact .inr ⟨c, memc, hd, hu⟩
    · rename_i hnd
      rcases g.ft t u hu with ⟨h, h'⟩ | ⟨x, hx, h⟩
      · refine .inl ⟨h, fun s hs => ?_⟩
        rcases spl hs with hs | rfl
        · exact h' s hs
        · exact hnd
      · exact .inr ⟨x, mem hx, h⟩
  · intro b1 k hb
    rw [Tr.get_put] at hb
    split at hb
    · rename_i e1
      injection hb with hb
      subst hb; subst e1
      exact .inr (.inr ⟨c, memc, x, hcf⟩)
    · rename_i e1
      rcases g.hg b1 k hb with ⟨h5, h6⟩ | ⟨s, hs, h5⟩ | ⟨s, hs, x, h5⟩
      · refine .inl ⟨h5, fun s hs x' y' h => ?_⟩
        rcases spl hs with hs | rfl
        · exact h6 s hs x' y' h
        · rw [hcf] at h; injection h with h; injection h with h _; first | exact e1 h | exact e1 h.symm
      · exact .inr (.inl ⟨s, mem hs, h5⟩)
      · exact .inr (.inr ⟨s, mem hs, x, h5⟩)
  · intro s hs hm b k hb
    rcases spl hs with hs | rfl
    · rcases g.mx s hs hm b k hb with h | ⟨x, hx, h⟩
      · exact .inl h
      · exact .inr ⟨x, mem hx, h⟩
    · rw [hcm] at hm; cases hm
  · intro s hs
    rcases spl hs with hs | rfl
    · exact g.ph s hs
    · omega
  · intro s hs hm
    rcases spl hs with hs | rfl
    · obtain ⟨h1, h2⟩ := g.gr s hs hm
      exact ⟨fun h => let ⟨x, hx, y⟩ := h1 h; ⟨x, mem hx, y⟩, fun h => List.mem_cons_of_mem _ (h2 h)⟩
    · exact ⟨fun h => by omega, fun _ => by simp⟩
  · intro s hs hm q hq
    rcases spl hs with hs | rfl
    · obtain ⟨x, hx, y⟩ := g.ch s hs hm q hq; exact ⟨x, mem hx, y⟩
    · rw [hcm] at hm; cases hm
  · intro s hs hm q hq
    rcases spl hs with hs | rfl
    · obtain ⟨x, hx, y⟩ := g.ea s hs hm q hq; exact ⟨x, mem hx, y⟩
    · cases hmods : mods with
      | nil => have := g.ml; rw [hmods] at this; simp at this; omega
      | cons x l =>
        obtain ⟨y, hy, h4, h5, h6⟩ := g.md 0 x (by rw [hmods]; rfl)
        exact ⟨y, mem hy, h4, by omega, by rw [h6]; exact hch x l hmods⟩
  · intro q x hx
    obtain ⟨s, hs, y⟩ := g.md q x hx; exact ⟨s, mem hs, y⟩
  · intro s hs u hu hsm hum hsu
    rcases spl hs with hs' | e1 <;> rcases spl hu with hu' | e2
    · exact g.uq s hs' u hu' hsm hum hsu
    · rw [e2, hcm] at hum; cases hum
    · rw [e1, hcm] at hsm; cases hsm
    · rw [e1, e2]
  · intro s hs
    rw [tb_lor, tb_one]
    rcases spl hs with hs | rfl
    · rw [g.sn s hs]; rfl
    · simp
  · intro s hs h1 h2 h3 h4
    rcases spl hs with hs | rfl
    · exact g.nh s hs h1 h2 h3 h4
    · rw [hcf] at h3; cases h3
  · intro s hs h
    rcases spl hs with hs | rfl
    · exact g.ff s hs h
    · exact ⟨hph, hce, rfl⟩
  · intro s hs u hu b1 x1 y1 x2 y2 h1 h2
    rcases spl hs with hs' | e1 <;> rcases spl hu with hu' | e2
    · exact g.fd s hs' u hu' b1 x1 y1 x2 y2 h1 h2
    · rw [e2, hcf] at h2; injection h2 with h2; injection h2 with h2 _; subst h2; exact absurd h1 (hfr s hs' _ _)
    · rw [e1, hcf] at h1; injection h1 with h1; injection h1 with h1 _; subst h1; exact absurd h2 (hfr u hu' _ _)
    · rw [e1, e2]

/-- what a piece of the plan asks of the run so far, and what it leaves -/
def Reads (P : Program) (ce : Ce) (r : Option Nat) (nt : Nat) (ops : Array Oper) (T D : Tr Nat) (F0 : Fr) (n0 : Nat) (l : List PItem) (j : Nat) (mods grp bad : List Nat) (seen : Nat) (k : KR) : Prop :=
  ∀ (A : Nat → Hp) (done : List Rec) (F : Fr) (H : Hp) (Hs : List Hp) (n : Nat) (m : List Nat) (o : AOut) (F' : Fr) (H' : Hp) (n' : Nat) (m' : List Nat),
    Good P r nt ops T D F0 n0 A done j F H n mods grp bad seen → (∀ s ∈ done, s.flt = none) → HsOk A j Hs → k.f ce F H Hs n m = .mk o F' H' n' m' →
    ∃ A' all j' mods' grp' bad' seen', Good P r nt ops T D F0 n0 A' all j' F' H' n' mods' grp' bad' seen' ∧ o = .normal ∧ m' = m ∧ all.map (·.i) = done.map (·.i) ++ l.map idxOf ∧ A' 0 = A 0

theorem wants_guard {o : Oper} {rs : RS} {yes no : KR} {F F' : Fr} {H H' : Hp} {Hs : List Hp} {n n' : Nat} {m m' : List Nat} {ou : AOut} (h : (guarded ops rs o yes no).f ce F H Hs n m = .mk ou F' H' n' m') :
    (Wants P ops o (rs.f F) true ∧ yes.f ce F H Hs n m = .mk ou F' H' n' m') ∨ (Wants P ops o (rs.f F) false ∧ no.f ce F H Hs n m = .mk ou F' H' n' m') := by
  unfold guarded at h
  split at h
  · rename_i hg; exact .inl ⟨.free hg, h⟩
  · rename_i j b hg
    split at h
    · rename_i d hd
      simp only [guardR] at h
      split at h
      · rename_i c hv
        rw [slotG_eq] at hv
        have hw := Wants.tells (P := P) j d b c hg hd hv
        cases hcb : c == b with
        | true => rw [hcb] at h hw; exact .inl ⟨hw, h⟩
        | false => rw [hcb] at h hw; exact .inr ⟨hw, h⟩
      · rename_i v hnb hv
        rw [slotG_eq] at hv
        exact .inr ⟨.other j d b v hg hd hv (fun c hc => hnb c hc), h⟩
      · cases h
    · cases h

/-- one operation more, and on -/
theorem reads_more {A A' : Nat → Hp} {done : List Rec} {j' : Nat} {F1 F' : Fr} {H1 H' : Hp} {Hs1 : List Hp} {n1 n' : Nat} {m m' : List Nat} {o : AOut} {l : List PItem} {mods' grp' bad' : List Nat} {seen : Nat} {k : KR} {c : Rec} {x : PItem} (hc : c.i = idxOf x) (hnext : Reads P ce r nt ops T D F0 n0 l j' mods' grp' bad' seen k)
    (g : Good P r nt ops T D F0 n0 A' (done ++ [c]) j' F1 H1 n1 mods' grp' bad' seen) (hnf : ∀ s ∈ done, s.flt = none) (hcf : c.flt = none) (hs : HsOk A' j' Hs1) (hA : A' 0 = A 0) (h : k.f ce F1 H1 Hs1 n1 m = .mk o F' H' n' m') :
    ∃ A' all j' mods' grp' bad' seen', Good P r nt ops T D F0 n0 A' all j' F' H' n' mods' grp' bad' seen' ∧ o = .normal ∧ m' = m ∧ all.map (·.i) = done.map (·.i) ++ (x :: l).map idxOf ∧ A' 0 = A 0 := by
  obtain ⟨A2, all, j2, mods2, grp2, bad2, seen2, h1, h2, h3, h4, h5⟩ := hnext A' (done ++ [c]) F1 H1 Hs1 n1 m o F' H' n' m' g (fun s hs => by
    rcases List.mem_append.1 hs with hs | hs
    · exact hnf s hs
    · have : s = c := by simpa using hs
      subst this; exact hcf) hs h
  exact ⟨A2, all, j2, mods2, grp2, bad2, seen2, h1, h2, h3, by rw [h4]; simp [hc], by rw [h5, hA]⟩

def HsF (A : Nat → Hp) (j : Nat) (done : List Rec) (Hs : List Hp) : Prop := ∃ B l, Hs = B :: l ∧ ∀ b k, B.get b = some k → (A j).get b = some k ∧ ∀ s ∈ done, ∀ x y, s.flt ≠ some (b, x, y)
theorem store_loc {k : Nat} {x v : G} {F : Fr} {H : Hp} {n : Nat} {w : AV} {b : Nat} {y old : ABlk} (h : eStore k x v F H n = .upd w b y) (hb : H.get b = some old) : eStore k x v F (Tr.put .nil b (some old)) n = .upd w b y := by
  unfold eStore at h ⊢
  split at h
  · rename_i a ha
    split at h
    · rename_i u hu
      unfold cStore at h ⊢
      split at h
      · rename_i b0 o
        split at h
        · rename_i u' z bs t hg
          split at h
          · rename_i hc
            injection h with h1 h2 h3
            subst h2
            rw [Tr.get_put, if_pos rfl]
            rw [hb] at hg; injection hg with hg; subst hg
            dsimp only
            rw [hc, h1, h3]
          · cases h
        · cases h
      · cases h
    · cases h
  · cases h
theorem store_ef {P : Program} {o : Oper} {t : TypeId} {a v : Operand} {e : Eff} (ho : o.op = .store t a v) (h : compOp P o = some e) : ∃ k x y, e = eStore k x y := by
  unfold compOp at h
  rw [ho] at h
  simp only [Option.bind_eq_bind, Option.bind_eq_some_iff] at h
  obtain ⟨k, hk, g, hg, l, hl, h⟩ := h
  injection h with h; exact ⟨k, g, l, h.symm⟩
theorem put_noH (b : Nat) (x : Option ABlk) : ((Tr.nil : Hp).put b x).get = noH.set b x := by
  funext c
  rw [Tr.get_put]
  unfold Hf.set noH
  by_cases h : c = b
  · subst h; simp
  · simp [h, Ne.symm h]
theorem put_put_noH (b : Nat) (x y : Option ABlk) : (((Tr.nil : Hp).put b x).put b y).get = noH.set b y := by
  funext c
  rw [Tr.get_put, Tr.get_put]
  unfold Hf.set noH
  by_cases h : c = b
  · subst h; simp
  · simp [h, Ne.symm h]
theorem flts_read {E : Tr Nat} (hD : DOk D ops) (hE : EOk D E F0) (mods : List Nat) : ∀ (l : List PItem) (j : Nat) (grp : List Nat) (seen : Nat), fltsOk T D E ops mods l seen = true →
    ∀ (A : Nat → Hp) (done : List Rec) (F : Fr) (H : Hp) (Hs : List Hp) (n : Nat) (m : List Nat) (o : AOut) (F' : Fr) (H' : Hp) (n' : Nat) (m' : List Nat), Good P r nt ops T D F0 n0 A done j F H n mods grp [] seen → HsF A j done Hs → (compR P nt ops l j).f ce F H Hs n m = .mk o F' H' n' m' →
      ∃ all grp' seen', Good P r nt ops T D F0 n0 A all j F' H' n' mods grp' [] seen' ∧ o = .normal ∧ m' = m ∧ all.map (·.i) = done.map (·.i) ++ l.map idxOf
  | [], j, grp, seen, _ => by
    intro A done F H Hs n m o F' H' n' m' g hs h
    cases h
    exact ⟨done, grp, seen, g, rfl, rfl, by simp⟩
  | .op _ _ :: _, j, grp, seen, hp => by simp [fltsOk] at hp
  | .mod _ :: _, j, grp, seen, hp => by simp [fltsOk] at hp
  | .pur _ :: _, j, grp, seen, hp => by simp [fltsOk] at hp
  | .flt i :: l, j, grp, seen, hp => by
    intro A done F H Hs n m ou F' H' n' m' g hs h
    simp only [fltsOk] at hp
    simp only [compR] at h
    split at hp
    · rename_i o ho
      rw [ho] at h
      dsimp only at h
      simp only [Bool.and_eq_true] at hp
      obtain ⟨⟨hp1, hp2⟩, hp3⟩ := hp
      have hch : ∀ x l', mods = x :: l' → tb (ancOf T i) x = true := by
        intro x l' hx; subst hx; exact hp2
      split at h
      · rename_i pd hpd
        obtain ⟨hpg, hlt⟩ := pd_get hpd
        split at h
        · rename_i hgd
          unfold inF at h
          split at h
          · rename_i t a v hop
            split at h
            · rename_i ef hef
              have heo := op_sound hef
              have hq := compOp_quiet hef
              obtain ⟨sz, gx, gy, rfl⟩ := store_ef hop hef
              obtain ⟨B, lB, rfl, hB⟩ := hs
              simp only [fltR] at h
              split at h
              · rename_i u b k hk
                split at h
                · rename_i x hx
                  obtain ⟨hA, hfr⟩ := hB b x hx
                  have hst := step_eff (r := r) ho (.free hgd) heo hq (store_loc hk hx) (by simp)
                  rw [outH_upd, put_put_noH, put_noH] at hst
                  let c : Rec := { i, v := u, lo := n, hi := n, ph := j, e := j, dst := o.dst, Fs := (rsOf (slotsOf ops o)).f F, blk := none, isM := false, X := noH, hf := false, flt := some (b, x, k) }
                  have hok : RecOk P r ops A j c := by
                    refine ⟨fun _ _ hf => (by cases hf), fun _ k' hk => (by cases hk), fun b' x' y' hf => ?_, fun hm => (by cases hm)⟩
                    injection hf with hf; injection hf with h1 h2; injection h2 with h2 h3
                    subst h1; subst h2; subst h3
                    exact ⟨rfl, rfl, rfl, hA, hst⟩
                  have g' := good_flt (F1 := pd.f u F) g c ho rfl hlt rfl rfl rfl rfl (fun t u hu => rsOf_some hu) hp1 hD hE (fun t => hpg u F t) hok rfl hfr hch
                  have hsf : HsF A j (done ++ [c]) (B.put b none :: lB) := by
                    refine ⟨B.put b none, lB, rfl, fun b1 k1 hb1 => ?_⟩
                    rw [Tr.get_put] at hb1
                    split at hb1
                    · cases hb1
                    · rename_i hne
                      obtain ⟨h5, h6⟩ := hB b1 k1 hb1
                      refine ⟨h5, fun s hs x' y' hf => ?_⟩
                      rcases List.mem_append.1 hs with hs | hs
                      · exact h6 s hs x' y' hf
                      · have : s = c := by simpa using hs
                        subst this
                        injection hf with hf; injection hf with hf _
                        first | exact hne hf | exact hne hf.symm
                  obtain ⟨all, grp', seen', h1, h2, h3, h4⟩ := flts_read hD hE mods l j _ _ hp3 A (done ++ [c]) _ _ _ n m ou F' H' n' m' g' hsf h
                  exact ⟨all, grp', seen', h1, h2, h3, by rw [h4]; simp [c, idxOf]⟩
                · cases h
              · cases h
            · cases h
          · cases h
        · cases h
      · cases h
    · cases hp

theorem compR_reads {E : Tr Nat} (hce : CeOk P ce) (hD : DOk D ops) (hE : EOk D E F0) : ∀ (l : List PItem) (j : Nat) (mods grp bad : List Nat) (seen : Nat), planOk T D E ops l mods grp bad seen = true → Reads P ce r nt ops T D F0 n0 l j mods grp bad seen (compR P nt ops l j)
  | [], j, mods, grp, bad, seen, _ => by
    intro A done F H Hs n m o F' H' n' m' g hnf hs h
    cases h
    exact ⟨A, done, j, mods, grp, bad, seen, g, rfl, rfl, by simp, rfl⟩
  | .flt i :: l, j, mods, grp, bad, seen, hp => by
    intro A done F H Hs n m ou F' H' n' m' g hnf hs h
    simp only [planOk] at hp
    split at hp
    · have hsf : HsF A j done Hs := by
        obtain ⟨l', rfl⟩ : ∃ l', Hs = A j :: l' := by
          cases j with
          | zero => unfold HsOk at hs; exact ⟨[], hs⟩
          | succ j => obtain ⟨l, e, _⟩ := hs; exact ⟨l, e⟩
        exact ⟨A j, l', rfl, fun b k hb => ⟨hb, fun s hs x y => by rw [hnf s hs]; simp⟩⟩
      obtain ⟨all, grp', seen', h1, h2, h3, h4⟩ := flts_read hD hE mods (.flt i :: l) j grp seen hp A done F H Hs n m ou F' H' n' m' g hsf h
      exact ⟨A, all, j, mods, grp', [], seen', h1, h2, h3, h4, rfl⟩
    · cases hp
  | .op i e :: l, j, mods, grp, bad, seen, hp => by
    intro A done F H Hs n m ou F' H' n' m' g hnf hs h
    simp only [planOk] at hp
    simp only [compR] at h
    split at hp
    · rename_i o ho
      rw [ho] at h
      dsimp only at h
      simp only [Bool.and_eq_true] at hp
      obtain ⟨⟨hp1, hp2⟩, hp3⟩ := hp
      split at h
      · rename_i pd hpd
        obtain ⟨hpg, hlt⟩ := pd_get hpd
        have hnext := compR_reads hce hD hE l j mods (i :: grp) (i :: bad) _ hp3
        have hea : ∀ q, e = q + 1 → ∃ x, mods[mods.length - (q + 1)]? = some x ∧ q + 1 ≤ mods.length ∧ tb (ancOf T i) x = true := by
          intro q hq
          subst hq
          simp only [Bool.and_eq_true] at hp2
          have h1 := Nat.le_of_ble_eq_true hp2.1
          rw [lenAcc_zero] at h1
          cases hx : nth mods (Nat.sub (lenAcc mods 0) (q + 1)) with
          | none => rw [hx] at hp2; exact absurd hp2.2 (by simp)
          | some x =>
            rw [hx] at hp2
            rw [nth_eq, lenAcc_zero] at hx
            exact ⟨x, hx, h1, hp2.2⟩
        have go : ∀ (v : AV) (n1 : Nat) (H1 : Hp) (blk : Option ABlk), (compR P nt ops l j).f ce (pd.f v F) H1 Hs n1 m = .mk ou F' H' n' m' → n ≤ n1 → (∀ b k, H1.get b = some k → H.get b = some k ∨ (blk = some k ∧ n = b)) →
            RecOk P r ops A j { i, v, lo := n, hi := n1, ph := j, e, dst := o.dst, Fs := (rsOf (slotsOf ops o)).f F, blk, isM := false, X := noH, hf := false, flt := none } →
            ∃ A' all j' mods' grp' bad' seen', Good P r nt ops T D F0 n0 A' all j' F' H' n' mods' grp' bad' seen' ∧ ou = .normal ∧ m' = m ∧ all.map (·.i) = done.map (·.i) ++ (PItem.op i e :: l).map idxOf ∧ A' 0 = A 0 := by
          intro v n1 H1 blk hk hn hH hok
          exact reads_more (c := { i, v, lo := n, hi := n1, ph := j, e, dst := o.dst, Fs := (rsOf (slotsOf ops o)).f F, blk, isM := false, X := noH, hf := false, flt := none }) rfl hnext
            (good_step g hnf { i, v, lo := n, hi := n1, ph := j, e, dst := o.dst, Fs := (rsOf (slotsOf ops o)).f F, blk, isM := false, X := noH, hf := false, flt := none } ho rfl hlt rfl hn rfl (fun t u hu => rsOf_some hu) hp1 hD hE (fun t => hpg v F t) (fun _ _ => rfl) hok rfl
              (.inl ⟨rfl, rfl, rfl, rfl, .inl rfl, hH, hea⟩)) hnf rfl hs rfl hk
        rcases wants_guard (P := P) h with ⟨hw, h⟩ | ⟨hw, h⟩
        · unfold inR at h
          split at h
          · rename_i ef hef
            have heo := op_sound hef
            have hq := compOp_quiet hef
            simp only [opR] at h
            split at h
            · rename_i v hv
              refine go v n H none h (Nat.le_refl _) (fun b k hb => .inl hb) ⟨fun _ _ _ => ⟨rfl, fun q _ _ => ⟨(Tr.nil : Hp).get, fun h => (by cases h), fun b k hb => by simp at hb, ?_⟩⟩, fun _ k hk => (by cases hk), fun _ _ _ hm => (by cases hm), fun hm => (by cases hm)⟩
              exact step_eff ho hw heo hq hv (by simp)
            · rename_i v k hv
              split at h
              · rename_i hna
                refine go v (n + 1) _ (some k) h (Nat.le_succ n) (fun b k' hb => ?_) ⟨fun _ hb => (by cases hb), fun _ k' hk => ?_, fun _ _ _ hm => (by cases hm), fun hm => by cases hm⟩
                · rw [Tr.get_put] at hb
                  split at hb
                  · rename_i e1; injection hb with hb; subst hb; exact .inr ⟨rfl, e1.symm⟩
                  · exact .inl hb
                · injection hk with hk; subst hk
                  refine ⟨rfl, ?_, fun q hq => noneAt_spec hs hna q hq⟩
                  have := step_eff (r := r) ho hw heo hq hv (by simp)
                  exact this
              · cases h
            · rename_i hv
              split at h
              · rename_i v hall
                refine go v n H none h (Nat.le_refl _) (fun b k hb => .inl hb) ⟨fun _ _ _ => ⟨rfl, fun q h1 h2 => ⟨(A q).get, fun h => (by cases h), fun b k hb => hb, ?_⟩⟩, fun _ k hk => (by cases hk), fun _ _ _ hm => (by cases hm), fun hm => (by cases hm)⟩
                dsimp only at h1 h2 ⊢
                exact step_eff ho hw heo hq (allVal_spec hs hall q h2 (by simp only [Nat.succ_eq_add_one]; show j < q + ((j - e) + 1); omega)) (by simp)
              · cases h
            · cases h
          · cases h
        · simp only [nopR] at h
          refine go (.tup []) n H none h (Nat.le_refl _) (fun b k hb => .inl hb) ⟨fun _ _ _ => ⟨rfl, fun q _ _ => ⟨(Tr.nil : Hp).get, fun h => (by cases h), fun b k hb => by simp at hb, ?_⟩⟩, fun _ k hk => (by cases hk), fun _ _ _ hm => (by cases hm), fun hm => (by cases hm)⟩
          exact step_skip ho hw _ _
      · cases h
    · cases hp
  | .pur i :: l, j, mods, grp, bad, seen, hp => by
    intro A done F H Hs n m ou F' H' n' m' g hnf hs h
    simp only [planOk] at hp
    simp only [compR] at h
    split at hp
    · rename_i o ho
      rw [ho] at h
      dsimp only at h
      simp only [Bool.and_eq_true] at hp
      obtain ⟨hp1, hp3⟩ := hp
      split at h
      · rename_i pd hpd
        obtain ⟨hpg, hlt⟩ := pd_get hpd
        have hnext := compR_reads hce hD hE l j mods (i :: grp) bad _ hp3
        have go : ∀ (v : AV) (n1 : Nat) (H1 : Hp) (blk : Option ABlk), (compR P nt ops l j).f ce (pd.f v F) H1 Hs n1 m = .mk ou F' H' n' m' → n ≤ n1 → (∀ b k, H1.get b = some k → H.get b = some k ∨ (blk = some k ∧ n = b)) →
            RecOk P r ops A j { i, v, lo := n, hi := n1, ph := j, e := 0, dst := o.dst, Fs := (rsOf (slotsOf ops o)).f F, blk, isM := false, X := noH, hf := true, flt := none } →
            ∃ A' all j' mods' grp' bad' seen', Good P r nt ops T D F0 n0 A' all j' F' H' n' mods' grp' bad' seen' ∧ ou = .normal ∧ m' = m ∧ all.map (·.i) = done.map (·.i) ++ (PItem.pur i :: l).map idxOf ∧ A' 0 = A 0 := by
          intro v n1 H1 blk hk hn hH hok
          exact reads_more (c := { i, v, lo := n, hi := n1, ph := j, e := 0, dst := o.dst, Fs := (rsOf (slotsOf ops o)).f F, blk, isM := false, X := noH, hf := true, flt := none }) rfl hnext
            (good_step g hnf { i, v, lo := n, hi := n1, ph := j, e := 0, dst := o.dst, Fs := (rsOf (slotsOf ops o)).f F, blk, isM := false, X := noH, hf := true, flt := none } ho rfl hlt rfl hn rfl (fun t u hu => rsOf_some hu) hp1 hD hE (fun t => hpg v F t) (fun _ _ => rfl) hok rfl
              (.inl ⟨rfl, rfl, rfl, rfl, .inr ⟨rfl, rfl⟩, hH, fun q hq => (by cases hq)⟩)) hnf rfl hs rfl hk
        rcases wants_guard (P := P) h with ⟨hw, h⟩ | ⟨hw, h⟩
        · unfold inR at h
          split at h
          · rename_i ef hef
            have heo := op_sound hef
            have hq := compOp_quiet hef
            simp only [opR] at h
            split at h
            · rename_i v hv
              refine go v n H none h (Nat.le_refl _) (fun b k hb => .inl hb) ⟨fun _ _ _ => ⟨rfl, fun q _ _ => ⟨(Tr.nil : Hp).get, fun _ => rfl, fun b k hb => by simp at hb, ?_⟩⟩, fun _ k hk => (by cases hk), fun _ _ _ hm => (by cases hm), fun hm => (by cases hm)⟩
              exact step_eff ho hw heo hq hv (by simp)
            · rename_i v k hv
              split at h
              · rename_i hna
                refine go v (n + 1) _ (some k) h (Nat.le_succ n) (fun b k' hb => ?_) ⟨fun _ hb => (by cases hb), fun _ k' hk => ?_, fun _ _ _ hm => (by cases hm), fun hm => by cases hm⟩
                · rw [Tr.get_put] at hb
                  split at hb
                  · rename_i e1; injection hb with hb; subst hb; exact .inr ⟨rfl, e1.symm⟩
                  · exact .inl hb
                · injection hk with hk; subst hk
                  refine ⟨rfl, ?_, fun q hq => noneAt_spec hs hna q hq⟩
                  have := step_eff (r := r) ho hw heo hq hv (by simp)
                  exact this
              · cases h
            · rename_i hv
              simp [allVal] at h
            · cases h
          · cases h
        · simp only [nopR] at h
          refine go (.tup []) n H none h (Nat.le_refl _) (fun b k hb => .inl hb) ⟨fun _ _ _ => ⟨rfl, fun q _ _ => ⟨(Tr.nil : Hp).get, fun _ => rfl, fun b k hb => by simp at hb, ?_⟩⟩, fun _ k hk => (by cases hk), fun _ _ _ hm => (by cases hm), fun hm => (by cases hm)⟩
          exact step_skip ho hw _ _
      · cases h
    · cases hp
  | .mod i :: l, j, mods, grp, bad, seen, hp => by
    intro A done F H Hs n m ou F' H' n' m' g hnf hs h
    simp only [planOk] at hp
    simp only [compR] at h
    split at hp
    · rename_i o ho
      rw [ho] at h
      dsimp only at h
      simp only [Bool.and_eq_true] at hp
      obtain ⟨⟨⟨hp1, hp2⟩, hp4⟩, hp3⟩ := hp
      split at h
      · rename_i pd hpd
        obtain ⟨hpg, hlt⟩ := pd_get hpd
        have hnext := compR_reads hce hD hE l (j + 1) (i :: mods) [] [] _ hp3
        have hch : ∀ x l', mods = x :: l' → tb (ancOf T i) x = true := by
          intro x l' hx; subst hx; exact hp4
        have go : ∀ (v : AV) (n1 : Nat) (H1 : Hp), (compR P nt ops l (j + 1)).f ce (pd.f v F) H1 (H1 :: Hs) n1 m = .mk ou F' H' n' m' → n ≤ n1 →
            StepOk P r ops i o.dst ((rsOf (slotsOf ops o)).f F) H.get H1.get v n n1 →
            ∃ A' all j' mods' grp' bad' seen', Good P r nt ops T D F0 n0 A' all j' F' H' n' mods' grp' bad' seen' ∧ ou = .normal ∧ m' = m ∧ all.map (·.i) = done.map (·.i) ++ (PItem.mod i :: l).map idxOf ∧ A' 0 = A 0 := by
          intro v n1 H1 hk hn hst
          let A1 : Nat → Hp := fun q => if q = j + 1 then H1 else A q
          have hA1 : ∀ q, q ≤ j → A1 q = A q := fun q hq => by simp only [A1]; rw [if_neg (by omega)]
          have hA2 : A1 (j + 1) = H1 := by simp [A1]
          let c : Rec := { i, v, lo := n, hi := n1, ph := j, e := 0, dst := o.dst, Fs := (rsOf (slotsOf ops o)).f F, blk := none, isM := true, X := H.get, hf := false, flt := none }
          have hok : RecOk P r ops A1 (j + 1) c := by
            refine ⟨fun hm => (by cases hm), fun hm => (by cases hm), fun _ _ _ hm => (by cases hm), fun _ => ⟨rfl, Nat.lt_succ_self j, ?_⟩⟩
            show StepOk P r ops i o.dst ((rsOf (slotsOf ops o)).f F) H.get (A1 (j + 1)).get v n n1
            rw [hA2]; exact hst
          refine reads_more (A' := A1) (Hs1 := H1 :: Hs) (c := c) rfl hnext
            (good_step (A' := A1) (mods' := i :: mods) (grp' := []) (bad' := []) (j' := j + 1) (H1 := H1) (F1 := pd.f v F) g hnf c ho rfl hlt rfl hn rfl (fun t u hu => rsOf_some hu) hp1 hD hE (fun t => hpg v F t) hA1 hok rfl (.inr ⟨rfl, rfl, rfl, rfl, hA2, rfl, hp2, hch⟩)) hnf rfl
            ⟨Hs, by rw [hA2], hs.congr hA1⟩ (hA1 0 (Nat.zero_le _)) hk
        rcases wants_guard (P := P) h with ⟨hw, h⟩ | ⟨hw, h⟩
        · unfold inM at h
          split at h
          · rename_i f args tys hop
            split at h
            · rename_i ef hef
              have heo := op_sound hef
              have hq := compOp_quiet hef
              simp only [modR] at h
              split at h
              · rename_i v hv
                have := step_eff (r := r) ho hw heo hq hv (by simp)
                exact go v n H h (Nat.le_refl _) this
              · rename_i v k hv
                have := step_eff (r := r) ho hw heo hq hv (by simp)
                rw [outH_new] at this
                exact go v _ _ h (Nat.le_succ n) this
              · rename_i v b k hv
                have := step_eff (r := r) ho hw heo hq hv (by simp)
                rw [outH_upd] at this
                exact go v _ _ h (Nat.le_refl _) this
              · rename_i v b k hv
                have := step_eff (r := r) ho hw heo hq hv (by simp)
                rw [outH_mv] at this
                exact go v _ _ h (Nat.le_succ n) this
              · cases h
            · split at h
              · rename_i gg as hg has
                simp only [callR] at h
                split at h
                · rename_i f' first cap hgv
                  split at h
                  · rename_i vs hev
                    split at h
                    · rename_i v H1 n1 hcall
                      have := step_call (r := r) ho hw hop (.value rfl hg) has hce hgv hev hcall
                      exact go v n1 H1 h this.1 this
                    · cases h
                  · cases h
                · cases h
              · cases h
          · rename_i f name args tys hop
            split at h
            · rename_i gg as hg has
              simp only [callR] at h
              split at h
              · rename_i f' first cap hgv
                split at h
                · rename_i vs hev
                  split at h
                  · rename_i v H1 n1 hcall
                    have := step_call (r := r) ho hw hop (.invoke rfl hg) has hce hgv hev hcall
                    exact go v n1 H1 h this.1 this
                  · cases h
                · cases h
              · cases h
            · cases h
          · split at h
            · rename_i ef hef
              have heo := op_sound hef
              have hq := compOp_quiet hef
              simp only [modR] at h
              split at h
              · rename_i v hv
                have := step_eff (r := r) ho hw heo hq hv (by simp)
                exact go v n H h (Nat.le_refl _) this
              · rename_i v k hv
                have := step_eff (r := r) ho hw heo hq hv (by simp)
                rw [outH_new] at this
                exact go v _ _ h (Nat.le_succ n) this
              · rename_i v b k hv
                have := step_eff (r := r) ho hw heo hq hv (by simp)
                rw [outH_upd] at this
                exact go v _ _ h (Nat.le_refl _) this
              · rename_i v b k hv
                have := step_eff (r := r) ho hw heo hq hv (by simp)
                rw [outH_mv] at this
                exact go v _ _ h (Nat.le_succ n) this
              · cases h
            · cases h
        · simp only [nopM] at h
          exact go (.tup []) n H h (Nat.le_refl _) (step_skip ho hw _ _)
      · cases h
    · cases hp
end
end Go.Abs
