/- The abstract machine: regions that draw their order. Part five: whatever order is drawn. -/
import Derived.Test.YtfjkegbmlagleaaGreatAbsDa
namespace Go.Abs
section
variable {P : Program} {ce : Ce} {nt : Nat} {r : Option Nat} {ops : Array Oper} {T D : Tr Nat} {F0 F' : Fr} {H' : Hp} {n0 n' : Nat} {A : Nat → Hp} {all : List Rec} {k : Nat} {mods grp bad : List Nat} {seen : Nat}

theorem Ext.wide {φ D h w n φ' D' h' w' n'} (e : Ext φ D h w n φ' D' h' w' n') {lo hi : Nat} (h1 : lo ≤ n) (h2 : n' ≤ hi) : Ext φ D h w lo φ' D' h' w' hi :=
  ⟨by have := e.le; omega, e.phi, fun b x y => by have := e.new b x y; omega, e.dat, e.size, e.keep, e.live, e.dnew, fun b hb => by rcases e.hid b hb with h | h; exact .inl h; exact .inr (by omega), e.os, e.out⟩
theorem Ext.join {φ D h w lo hi φ1 D1 h1 w1 φ2 D2 h2 w2} (a : Ext φ D h w lo φ1 D1 h1 w1 hi) (b : Ext φ1 D1 h1 w1 lo φ2 D2 h2 w2 hi) : Ext φ D h w lo φ2 D2 h2 w2 hi where
  le := a.le
  phi := fun c x hx => b.phi _ _ (a.phi _ _ hx)
  new := fun c h0 h2 => by
    cases h1 : φ1 c with
    | none => exact b.new c h1 h2
    | some x => exact a.new c h0 (by simp [h1])
  dat := fun c x hx => b.dat _ _ (a.dat _ _ hx)
  size := Nat.le_trans a.size b.size
  keep := fun c hc hn => by
    have hc1 := Nat.lt_of_lt_of_le hc a.size
    rw [b.keep c hc1 fun d p hd hp e => ?_, a.keep c hc hn]
    rcases a.live d p hd hp with h | ⟨b0, p0, x, y, z⟩
    · omega
    · exact hn b0 p0 x y (z.trans e)
  live := fun c p hc hp => by
    have ha := a.size
    rcases b.live c p hc hp with h | ⟨b0, p0, x, y, z⟩
    · exact .inl (by omega)
    · rcases a.live b0 p0 x y with h | ⟨b1, p1, x1, y1, z1⟩
      · exact .inl (by omega)
      · exact .inr ⟨b1, p1, x1, y1, z1.trans z⟩
  dnew := fun c hc => by
    have ha := a.size
    rcases b.dnew c hc with h | h | ⟨b0, p0, x, y, z⟩
    · exact a.dnew c h
    · exact .inr (.inl (by omega))
    · rcases a.live b0 p0 x y with h | ⟨b1, p1, x1, y1, z1⟩
      · exact .inr (.inl (by omega))
      · exact .inr (.inr ⟨b1, p1, x1, y1, z1.trans z⟩)
  hid := fun c hc => by
    rcases b.hid c hc with h | h
    · exact a.hid c h
    · exact .inr h
  os := b.os.trans a.os
  out := b.out.trans a.out
theorem Ext.sub {φ D h w n φ' D' h' w' n' X} (e : Ext φ D h w n φ' D' h' w' n') (hs : Sub X h') : Ext φ D h w n φ' D' X w' n' := by
  have ne : ∀ b, X b ≠ none → h' b ≠ none := fun b hb => by
    cases e : X b with
    | none => exact absurd e hb
    | some k => rw [hs b k e]; simp
  exact ⟨e.le, e.phi, e.new, e.dat, e.size, e.keep, fun b p hb => e.live b p (ne b hb), e.dnew, fun b hb => e.hid b (ne b hb), e.os, e.out⟩

structure Facts (P : Program) (r : Option Nat) (nt : Nat) (ops : Array Oper) (T D : Tr Nat) (F0 F' : Fr) (H' : Hp) (n0 n' : Nat) (A : Nat → Hp) (all : List Rec) (k : Nat) (mods grp bad : List Nat) (seen : Nat) : Prop where
  good : Good P r nt ops T D F0 n0 A all k F' H' n' mods grp bad seen
  nodup : (all.map (·.i)).Nodup
  cover : ∀ i, i < ops.size → ∃ c ∈ all, c.i = i
  anc : ∀ (i : Nat) (o : Oper) (p : Nat), ops[i]? = some o → tb (ancOf T i) p = true → ∃ e ∈ o.after, Region.binds .any e = true ∧ (p = e.on ∨ tb (ancOf T e.on) p = true)
  back : ∀ (i : Nat) (o : Oper), ops[i]? = some o → ∀ e ∈ o.after, Region.binds .any e = true → e.on < i
  dok : DOk D ops
  dconv : ∀ t p, D.get t = some p → ∃ o, ops[p]? = some o ∧ o.dst = some t

theorem Facts.same (f : Facts P r nt ops T D F0 F' H' n0 n' A all k mods grp bad seen) {c s : Rec} (hc : c ∈ all) (hs : s ∈ all) (e : c.i = s.i) : c = s := by
  have := f.nodup
  clear f
  induction all with
  | nil => cases hc
  | cons x l ih =>
    rw [List.map_cons, List.nodup_cons] at this
    rcases List.mem_cons.1 hc with e1 | hc' <;> rcases List.mem_cons.1 hs with e2 | hs'
    · rw [e1, e2]
    · exact absurd (List.mem_map.2 ⟨s, hs', by rw [← e1]; exact e.symm⟩) this.1
    · exact absurd (List.mem_map.2 ⟨c, hc', by rw [← e2]; exact e⟩) this.1
    · exact ih hc' hs' this.2
theorem Facts.apart (f : Facts P r nt ops T D F0 F' H' n0 n' A all k mods grp bad seen) {c s : Rec} (hc : c ∈ all) (hs : s ∈ all) (e : c.i ≠ s.i) : c.hi ≤ s.lo ∨ s.hi ≤ c.lo := by
  have := f.good.pw
  clear f
  induction all with
  | nil => cases hc
  | cons x l ih =>
    rw [List.pairwise_cons] at this
    rcases List.mem_cons.1 hc with e1 | hc' <;> rcases List.mem_cons.1 hs with e2 | hs'
    · rw [e1, e2] at e; exact absurd rfl e
    · rw [e1]; exact .inl (this.1 s hs')
    · rw [e2]; exact .inr (this.1 c hc')
    · exact ih hc' hs' this.2
theorem Facts.dsts (f : Facts P r nt ops T D F0 F' H' n0 n' A all k mods grp bad seen) {c s : Rec} (hc : c ∈ all) (hs : s ∈ all) {t : Tmp} (h1 : c.dst = some t) (h2 : s.dst = some t) : c.i = s.i := by
  obtain ⟨o, ho, hd, _⟩ := f.good.op c hc
  obtain ⟨o', ho', hd', _⟩ := f.good.op s hs
  have e1 := f.dok _ _ _ ho (by rw [← hd]; exact h1)
  have e2 := f.dok _ _ _ ho' (by rw [← hd']; exact h2)
  rw [e1] at e2; injection e2

/-- the state when the operations L have run -/
structure Inv (nt : Nat) (D : Tr Nat) (F0 : Fr) (A : Nat → Hp) (all : List Rec) (k : Nat) (T : Tr Nat) (L : Nat → Prop) (m : List Nat) (φ0 : Ph) (D0 : Da) (h0 : Hf) (w0 : World) (n0 n' : Nat) (φ : Ph) (Da : Da) (h : Hf) (jj : Nat) (a : Act) (w : World) : Prop where
  ext : Ext φ0 D0 h0 w0 n0 φ Da h w n'
  rel : Rel φ Da h w
  sub : ∀ b kk, (A jj).get b = some kk → (∀ s ∈ all, L s.i → ∀ x y, s.flt ≠ some (b, x, y)) → h b = some kk
  flo : ∀ s ∈ all, L s.i → ∀ b x y, s.flt = some (b, x, y) → h b = some y
  blk : ∀ s ∈ all, L s.i → s.isM = false → jj ≤ s.ph → ∀ kk, s.blk = some kk → h s.lo = some kk
  fr0 : ∀ t u, F0.get t = some u → (∀ p, D.get t = some p → ¬ L p) → ∃ x, a.tmps[t]? = some x ∧ VR φ Da u x
  frp : ∀ s ∈ all, L s.i → ∀ t, s.dst = some t → ∃ x, a.tmps[t]? = some x ∧ VR φ Da s.v x
  sz : a.tmps.size = nt
  mar : MarksR φ m a.defers
  phs : ∀ s ∈ all, s.isM = true → (L s.i ↔ s.ph < jj)
  fresh : ∀ s ∈ all, ¬ L s.i → Fresh φ s.lo s.hi
  dc : ∀ i p, L i → tb (ancOf T i) p = true → L p
  jk : jj ≤ k

theorem inv_step (f : Facts P r nt ops T D F0 F' H' n0 n' A all k mods grp bad seen) {L : Nat → Prop} {m : List Nat} {φ0 : Ph} {D0 : Da} {h0 : Hf} {w0 : World} {φ : Ph} {Dd : Da} {h : Hf} {jj : Nat} {a : Act} {w : World}
    (I : Inv nt D F0 A all k T L m φ0 D0 h0 w0 n0 n' φ Dd h jj a w) {i : Nat} {o : Oper} (ho : ops[i]? = some o) (hL : ¬ L i) (hpre : ∀ e ∈ o.after, Region.binds .any e = true → L e.on) (K : Act → World → Prop) (Q : QT)
    (hK : ∀ φ' Dd' h' jj' a' w', Inv nt D F0 A all k T (fun p => p = i ∨ L p) m φ0 D0 h0 w0 n0 n' φ' Dd' h' jj' a' w' → K a' w') : wpOpIn (FW r) 0 P ops Q i K a w := by
  have hi : i < ops.size := (Array.getElem?_eq_some_iff.1 ho).1
  obtain ⟨c, hc, rfl⟩ := f.cover i hi
  have g := f.good
  have hanc : ∀ p, tb (ancOf T c.i) p = true → L p := fun p hp => by
    obtain ⟨e, he, hb, h1⟩ := f.anc _ _ p ho hp
    rcases h1 with rfl | h1
    · exact hpre e he hb
    · exact I.dc _ _ (hpre e he hb) h1
  obtain ⟨o', ho', hdst, hlt⟩ := g.op c hc
  have : o' = o := by rw [ho] at ho'; injection ho' with h; exact h.symm
  subst this
  obtain ⟨r1, r2, r3⟩ := g.rng c hc
  have hFs : FR φ Dd c.Fs.get a.tmps := by
    intro t u hu
    rcases g.fs c hc t u hu with ⟨h1, h2⟩ | ⟨s, hs, h1, h2, h3⟩
    · exact I.fr0 t u h1 fun p hp hl => hL (I.dc _ _ hl (h2 p hp))
    · subst h2; exact I.frp s hs (hanc _ h3) t h1
  have hfr : Fresh φ c.lo c.hi := I.fresh c hc hL
  have hphs : c.ph ≤ k := g.ph c hc
  have nofl : jj < k → ∀ s ∈ all, L s.i → s.flt = none := by
    intro hk s hs hl
    cases hsf : s.flt with
    | none => rfl
    | some t =>
      exfalso
      obtain ⟨b, x, y⟩ := t
      obtain ⟨e1, e2, _⟩ := g.ff s hs (by rw [hsf]; simp)
      obtain ⟨e3, _⟩ := (g.ok s hs).flo b x y hsf
      obtain ⟨u, hu, e4, e5, e6⟩ := g.ea s hs e3 (k - 1) (by omega)
      have := (I.phs u hu e4).1 (I.dc _ _ hl e6)
      omega
  -- what stays, whatever the step does
  have next : ∀ φ' Dd' w' cv h' jj', Ext φ Dd h w c.lo φ' Dd' h' w' c.hi → Rel φ' Dd' h' w' → VR φ' Dd' c.v cv → (∀ b kk, (A jj').get b = some kk → (∀ s ∈ all, (s.i = c.i ∨ L s.i) → ∀ x y, s.flt ≠ some (b, x, y)) → h' b = some kk) → (∀ s ∈ all, (s.i = c.i ∨ L s.i) → ∀ b x y, s.flt = some (b, x, y) → h' b = some y) →
      (∀ s ∈ all, (s.i = c.i ∨ L s.i) → s.isM = false → jj' ≤ s.ph → ∀ kk, s.blk = some kk → h' s.lo = some kk) →
      (∀ s ∈ all, s.isM = true → ((s.i = c.i ∨ L s.i) ↔ s.ph < jj')) → jj' ≤ k → Inv nt D F0 A all k T (fun p => p = c.i ∨ L p) m φ0 D0 h0 w0 n0 n' φ' Dd' h' jj' (a.put c.dst cv) w' := by
    intro φ' Dd' w' cv h' jj' hext hrel hvr hsub hflo hblk hmod hjk
    have put_other : ∀ t, c.dst ≠ some t → (a.put c.dst cv).tmps[t]? = a.tmps[t]? := by
      intro t ht
      unfold Act.put
      cases hd : c.dst with
      | none => rfl
      | some d => exact Array.getElem?_setIfInBounds_ne (fun e => ht (by rw [hd, e]))
    refine ⟨I.ext.join (hext.wide r1 r3), hrel, hsub, hflo, hblk, ?_, ?_, ?_, ?_, hmod, ?_, ?_, hjk⟩
    · intro t u hu hnl
      obtain ⟨x, hx, hv⟩ := I.fr0 t u hu fun p hp hl => hnl p hp (.inr hl)
      refine ⟨x, ?_, hv.mono hext.phi hext.dat⟩
      rw [put_other t fun e => ?_]; exact hx
      exact hnl _ (f.dok _ _ t ho (by rw [← hdst]; exact e)) (.inl rfl)
    · intro s hs hl t ht
      by_cases e : s.i = c.i
      · have := f.same hs hc e
        subst this
        refine ⟨cv, ?_, hvr⟩
        have := hlt t (by rw [← hdst]; exact ht)
        rw [ht]
        simp [Act.put, I.sz, this]
      · obtain ⟨x, hx, hv⟩ := I.frp s hs (hl.resolve_left e) t ht
        refine ⟨x, ?_, hv.mono hext.phi hext.dat⟩
        rw [put_other t fun e' => e (f.dsts hs hc ht e')]; exact hx
    · have := I.sz
      unfold Act.put
      cases c.dst <;> simp [this]
    · rw [put_defers]; exact I.mar.mono hext.phi
    · intro s hs hl b hb1 hb2
      have hne : s.i ≠ c.i := fun e => hl (.inl e)
      have h1 := I.fresh s hs (fun e => hl (.inr e)) b hb1 hb2
      cases hx : φ' b with
      | none => rfl
      | some p =>
        have := hext.new b h1 (by simp [hx])
        rcases f.apart hs hc hne with h2 | h2 <;> omega
    · intro p q hp hq
      rcases hp with rfl | hp
      · exact .inr (hanc q hq)
      · exact .inr (I.dc p q hp hq)
  have hok := g.ok c hc
  cases hm : c.isM with
  | false =>
    have hle : c.e ≤ jj := by
      cases he : c.e with
      | zero => exact Nat.zero_le _
      | succ q =>
        obtain ⟨s, hs, h1, h2, h3⟩ := g.ea c hc hm q he
        have := (I.phs s hs h1).1 (hanc _ h3)
        omega
    have hge : jj ≤ c.ph := by
      rcases Nat.lt_or_ge c.ph jj with hlt' | hge
      · exfalso
        rcases Nat.lt_or_ge c.ph k with hk | hk
        · obtain ⟨s, hs, h1, h2, h3⟩ := (g.gr c hc hm).1 hk
          exact hL (I.dc _ _ ((I.phs s hs h1).2 (by omega)) h3)
        · have := I.jk; omega
      · exact hge
    have hmo : ∀ s ∈ all, s.isM = true → ((s.i = c.i ∨ L s.i) ↔ s.ph < jj) := by
      intro s hs hsm
      rw [← I.phs s hs hsm]
      exact ⟨fun hx => hx.resolve_left fun e => (by have := f.same hs hc e; subst this; rw [hm] at hsm; cases hsm), .inr⟩
    cases hfl : c.flt with
    | some t =>
      obtain ⟨b, x, y⟩ := t
      obtain ⟨_, hb, h1, h2, hst⟩ := hok.flo b x y hfl
      obtain ⟨e1, e2, e3⟩ := g.ff c hc (by rw [hfl]; simp)
      have hjj : jj = k := by omega
      rw [h1] at hfr r3
      have hXh : Sub (noH.set b (some x)) h := fun b' kk hb' => by
        unfold Hf.set at hb'
        split at hb'
        · rename_i e; subst e
          injection hb' with hb'; subst hb'
          refine I.sub _ _ (by rw [hjj, ← e1]; exact h2) fun s hs hl x' y' hsf => ?_
          have := g.fd s hs c hc _ _ _ _ _ hsf hfl
          subst this; exact hL hl
        · cases hb'
      refine hst.2 φ Dd h a w I.rel hXh hFs hfr K Q fun φ' Dd' w' cv hext hrel hvr => ?_
      have hov : ∀ b', b' ≠ b → over (noH.set b (some x)) (noH.set b (some y)) h b' = h b' := fun b' hb' => over_keep (by simp [Hf.set, hb', noH]) (by simp [Hf.set, hb', noH])
      refine hK φ' Dd' _ jj _ w' (next φ' Dd' w' cv _ jj (by rw [h1]; exact hext) hrel hvr ?_ ?_ ?_ hmo I.jk)
      · intro b' kb hbk hno
        have : b' ≠ b := fun e => hno c hc (.inl rfl) x y (by rw [e]; exact hfl)
        rw [hov b' this]; exact I.sub b' kb hbk fun s hs hl => hno s hs (.inr hl)
      · intro s hs hl b' x' y' hsf
        by_cases e : s.i = c.i
        · have := f.same hs hc e; subst this
          rw [hfl] at hsf; injection hsf with hsf; injection hsf with h4 h5; injection h5 with h5 h6
          subst h4; subst h6
          exact over_sub _ _ (by simp [Hf.set])
        · have : b' ≠ b := fun e' => by
            subst e'
            have := g.fd s hs c hc _ _ _ _ _ hsf hfl
            subst this; exact e rfl
          rw [hov b' this]; exact I.flo s hs (hl.resolve_left e) b' x' y' hsf
      · intro s hs hl hsm hp ks hks
        have e : s.i ≠ c.i := fun e => by have := f.same hs hc e; subst this; rw [hb] at hks; cases hks
        obtain ⟨_, _, h6⟩ := (g.ok s hs).new hsm ks hks
        have : s.lo ≠ b := fun e' => by
          have := h6 c.ph (by omega)
          rw [e', h2] at this; cases this
        rw [hov s.lo this]
        exact I.blk s hs (hl.resolve_left e) hsm hp ks hks
    | none =>
    cases hb : c.blk with
    | none =>
      obtain ⟨h1, h2⟩ := hok.val hm hb hfl
      obtain ⟨X, hhf, hX, hst⟩ := h2 jj hle hge
      rw [h1] at hfr r3
      have hXh : Sub X h := by
        cases hcf : c.hf with
        | true => rw [hhf hcf]; intro b kk hb; cases hb
        | false =>
          intro b kk hb'
          refine I.sub b kk (hX b kk hb') fun s hs hl x y hsf => ?_
          obtain ⟨e1, e2, e3⟩ := g.ff s hs (by rw [hsf]; simp)
          rcases Nat.lt_or_ge jj k with h3 | h3
          · rw [nofl h3 s hs hl] at hsf; cases hsf
          · rcases g.nh c hc hm hb hfl (by omega) with h4 | h4
            · rw [e3] at h4; cases h4
            · rw [hcf] at h4; cases h4
      refine hst.2 φ Dd h a w I.rel hXh hFs hfr K Q fun φ' Dd' w' cv hext hrel hvr => ?_
      rw [over_same hXh] at hext hrel
      refine hK φ' Dd' h jj _ w' (next φ' Dd' w' cv h jj (by rw [h1]; exact hext) hrel hvr (fun b kk hb hno => I.sub b kk hb fun s hs hl => hno s hs (.inr hl)) ?_ ?_ hmo I.jk)
      · intro s hs hl b x y hsf
        rcases hl with e | hl
        · have := f.same hs hc e; subst this; rw [hfl] at hsf; cases hsf
        · exact I.flo s hs hl b x y hsf
      · intro s hs hl hsm hp kk hkk
        rcases hl with e | hl
        · have := f.same hs hc e; subst this; rw [hb] at hkk; cases hkk
        · exact I.blk s hs hl hsm hp kk hkk
    | some kk =>
      obtain ⟨h1, hst, h2⟩ := hok.new hm kk hb
      have hXh : Sub noH h := fun b kk hb => by cases hb
      rw [h1] at hfr
      refine hst.2 φ Dd h a w I.rel hXh hFs hfr K Q fun φ' Dd' w' cv hext hrel hvr => ?_
      have hov : ∀ b, b ≠ c.lo → over noH (noH.set c.lo (some kk)) h b = h b := fun b hb => over_keep rfl (by simp [Hf.set, hb, noH])
      refine hK φ' Dd' _ jj _ w' (next φ' Dd' w' cv _ jj (by rw [h1]; exact hext) hrel hvr ?_ ?_ ?_ hmo I.jk)
      · intro b kb hbk hno
        have : b ≠ c.lo := fun e => by subst e; rw [h2 jj hge] at hbk; cases hbk
        rw [hov b this]; exact I.sub b kb hbk fun s hs hl => hno s hs (.inr hl)
      · intro s hs hl b x y hsf
        rcases hl with e | hl
        · have := f.same hs hc e; subst this; rw [hfl] at hsf; cases hsf
        · obtain ⟨e1, e2, e3⟩ := g.ff s hs (by rw [hsf]; simp)
          have hjj : jj = k := by
            rcases Nat.lt_or_ge jj k with h3 | h3
            · rw [nofl h3 s hs hl] at hsf; cases hsf
            · have := I.jk; omega
          obtain ⟨_, _, _, h4, _⟩ := (g.ok s hs).flo b x y hsf
          have : b ≠ c.lo := fun e => by subst e; rw [h2 s.ph (by omega)] at h4; cases h4
          rw [hov b this]; exact I.flo s hs hl b x y hsf
      · intro s hs hl hsm hp ks hks
        by_cases e : s.i = c.i
        · have := f.same hs hc e; subst this
          rw [hb] at hks; injection hks with hks; subst hks
          exact over_sub _ _ (by simp [Hf.set])
        · obtain ⟨h3, _⟩ := (g.ok s hs).new hsm ks hks
          rw [hov s.lo (by rcases f.apart hs hc e with h4 | h4 <;> omega)]
          exact I.blk s hs (hl.resolve_left e) hsm hp ks hks
  | true =>
    obtain ⟨hb, hck, hst⟩ := hok.mod hm
    have hge : jj ≤ c.ph := by
      rcases Nat.lt_or_ge c.ph jj with h1 | h1
      · exact absurd ((I.phs c hc hm).2 h1) hL
      · exact h1
    have hle : c.ph ≤ jj := by
      cases hp : c.ph with
      | zero => exact Nat.zero_le _
      | succ q =>
        obtain ⟨s, hs, h1, h2, h3⟩ := g.ch c hc hm q hp
        have := (I.phs s hs h1).1 (hanc _ h3)
        omega
    have hjj : c.ph = jj := by omega
    subst hjj
    have hXh : Sub c.X h := fun b kb hbk => by
      rcases g.mx c hc hm b kb hbk with h1 | ⟨s, hs, h1, h2, h3, h4, h5⟩
      · exact I.sub b kb h1 fun s hs hl x y => by rw [nofl hck s hs hl]; simp
      · subst h3; exact I.blk s hs (hanc _ h5) h1 (by omega) kb h2
    refine hst.2 φ Dd h a w I.rel hXh hFs hfr K Q fun φ' Dd' w' cv hext hrel hvr => ?_
    refine hK φ' Dd' _ (c.ph + 1) _ w' (next φ' Dd' w' cv _ (c.ph + 1) hext hrel hvr (fun b kk hb _ => over_sub b kk hb) ?_ ?_ ?_ hck)
    · intro s hs hl b x y hsf
      rcases hl with e | hl
      · have := f.same hs hc e; subst this
        obtain ⟨e3, _⟩ := (g.ok s hs).flo b x y hsf
        rw [e3] at hm; cases hm
      · rw [nofl hck s hs hl] at hsf; cases hsf
    · intro s hs hl hsm hp ks hks
      have e : s.i ≠ c.i := fun e => by have := f.same hs hc e; subst this; rw [hm] at hsm; cases hsm
      obtain ⟨h3, _, h6⟩ := (g.ok s hs).new hsm ks hks
      rw [over_keep ?_ (h6 (c.ph + 1) hp)]
      · exact I.blk s hs (hl.resolve_left e) hsm (by omega) ks hks
      · cases hx : c.X s.lo with
        | none => rfl
        | some kx =>
          exfalso
          rcases g.mx c hc hm s.lo kx hx with h7 | ⟨u, hu, h7, h8, h9, h10, _⟩
          · rw [h6 c.ph (by omega)] at h7; cases h7
          · obtain ⟨h11, _⟩ := (g.ok u hu).new h7 kx h8
            have : u.i ≠ s.i := fun e => by have := f.same hu hs e; subst this; omega
            rcases f.apart hu hs this with h12 | h12 <;> omega
    · intro s hs hsm
      by_cases e : s.i = c.i
      · have := f.same hs hc e; subst this
        exact ⟨fun _ => Nat.lt_succ_self _, fun _ => .inl rfl⟩
      · have h1 := I.phs s hs hsm
        have h2 : s.ph ≠ c.ph := fun e' => e (by rw [g.uq s hs c hc hsm hm e'])
        constructor
        · intro hx; have := h1.1 (hx.resolve_left e); omega
        · intro hx; exact .inr (h1.2 (by omega))
end
end Go.Abs
