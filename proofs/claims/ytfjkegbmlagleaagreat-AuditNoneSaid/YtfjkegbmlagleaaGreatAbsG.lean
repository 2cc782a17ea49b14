/- The abstract machine: regions that draw their order. Part one: one operation, within a greater heap. -/
import Derived.Test.YtfjkegbmlagleaaGreatAbsM
namespace Go.Abs

def over (X X' h : Hf) : Hf := fun b => match X' b with
  | some k => some k
  | none => match X b with
    | some _ => none
    | none => h b
def Sub (X h : Hf) : Prop := ∀ b k, X b = some k → h b = some k

theorem over_some {X X' h : Hf} {b : Nat} {k : ABlk} (h1 : over X X' h b = some k) : X' b = some k ∨ (X' b = none ∧ X b = none ∧ h b = some k) := by
  unfold over at h1
  cases e1 : X' b with
  | some k' => rw [e1] at h1; exact .inl h1
  | none =>
    rw [e1] at h1
    cases e2 : X b with
    | some k' => rw [e2] at h1; cases h1
    | none => rw [e2] at h1; exact .inr ⟨rfl, rfl, h1⟩
theorem over_ne {X X' h : Hf} {b : Nat} (h1 : over X X' h b ≠ none) : X' b ≠ none ∨ (X' b = none ∧ X b = none ∧ h b ≠ none) := by
  cases e : over X X' h b with
  | none => exact absurd e h1
  | some k => rcases over_some e with h | ⟨a, b, c⟩
              · exact .inl (by rw [h]; simp)
              · exact .inr ⟨a, b, by rw [c]; simp⟩
theorem over_sub {X X' h : Hf} : Sub X' (over X X' h) := fun b k hb => by unfold over; rw [hb]
theorem over_keep {X X' h : Hf} {b : Nat} (h1 : X b = none) (h2 : X' b = none) : over X X' h b = h b := by unfold over; rw [h1, h2]
theorem over_same {X h : Hf} (hs : Sub X h) : over X X h = h := by
  funext b
  unfold over
  cases e : X b with
  | none => rfl
  | some k => exact (hs b k e).symm

theorem rel_sub {φ D h X w} (hr : Rel φ D h w) (hs : Sub X h) : Rel φ D X w := by
  have ne : ∀ b, X b ≠ none → h b ≠ none := fun b hb => by
    cases e : X b with
    | none => exact absurd e hb
    | some k => rw [hs b k e]; simp
  exact ⟨fun b k hb => hr.blk b k (hs b k hb), fun b c p q hb hc => hr.inj b c p q (ne b hb) (ne c hc), fun b p hb => hr.sep b p (ne b hb), hr.dat⟩

theorem frame_rule {φ D h w lo hi X X' φ' D' w'} (hr : Rel φ D h w) (hX : Sub X h) (e : Ext φ D X w lo φ' D' X' w' hi) (r : Rel φ' D' X' w') :
    Rel φ' D' (over X X' h) w' ∧ Ext φ D h w lo φ' D' (over X X' h) w' hi := by
  have ne : ∀ b, X b ≠ none → h b ≠ none := fun b hb => by
    cases e : X b with
    | none => exact absurd e hb
    | some k => rw [hX b k e]; simp
  -- an old block outside of the cut is no block of the later cut's
  have apart : ∀ b p c q, X b = none → h b ≠ none → φ' b = some p → X' c ≠ none → φ' c = some q → p.1 ≠ q.1 := by
    intro b p c q hXb hb hp hc hq eq
    cases hbk : h b with
    | none => exact absurd hbk hb
    | some k =>
      obtain ⟨p', hp', hlt, _⟩ := hr.blk b k hbk
      have := e.phi _ _ hp'
      rw [hp] at this; injection this with this; subst this
      rcases e.live c q hc hq with h1 | ⟨b0, p0, x, y, z⟩
      · omega
      · have := hr.inj b0 b p0 p (ne b0 x) hb y hp' (by omega)
        subst this; exact x hXb
  refine ⟨⟨?_, ?_, ?_, r.dat⟩, ⟨e.le, e.phi, e.new, e.dat, e.size, ?_, ?_, ?_, ?_, e.os, e.out⟩⟩
  · intro b k hb
    rcases over_some hb with h1 | ⟨h1, h2, h3⟩
    · exact r.blk b k h1
    · obtain ⟨p, hp, hlt, hk⟩ := hr.blk b k h3
      refine ⟨p, e.phi _ _ hp, Nat.lt_of_lt_of_le hlt e.size, hk.mono e.phi e.dat (e.keep _ hlt fun c q hc hq eq => ?_)⟩
      have := hr.inj c b q p (ne c hc) (by rw [h3]; simp) hq hp eq
      subst this; exact hc h2
  · intro b c p q hb hc hp hq eq
    rcases over_ne hb with h1 | ⟨h1, h2, h3⟩ <;> rcases over_ne hc with k1 | ⟨k1, k2, k3⟩
    · exact r.inj b c p q h1 k1 hp hq eq
    · exact absurd eq.symm (apart c q b p k2 k3 hq h1 hp)
    · exact absurd eq (apart b p c q h2 h3 hp k1 hq)
    · cases hbk : h b with
      | none => exact absurd hbk h3
      | some kb => cases hck : h c with
        | none => exact absurd hck k3
        | some kc =>
          obtain ⟨p', hp', _⟩ := hr.blk b kb hbk
          obtain ⟨q', hq', _⟩ := hr.blk c kc hck
          have e1 := e.phi _ _ hp'
          have e2 := e.phi _ _ hq'
          rw [hp] at e1; injection e1 with e1; subst e1
          rw [hq] at e2; injection e2 with e2; subst e2
          exact hr.inj b c p q h3 k3 hp' hq' eq
  · intro b p hb hp
    rcases over_ne hb with h1 | ⟨h1, h2, h3⟩
    · exact r.sep b p h1 hp
    · cases hD : D' p.1 with
      | none => rfl
      | some x =>
        exfalso
        cases hbk : h b with
        | none => exact absurd hbk h3
        | some kb =>
          obtain ⟨p', hp', hlt, _⟩ := hr.blk b kb hbk
          have e1 := e.phi _ _ hp'
          rw [hp] at e1; injection e1 with e1; subst e1
          rcases e.dnew p.1 (by rw [hD]; simp) with h4 | h4 | ⟨b0, p0, x0, y0, z0⟩
          · exact h4 (hr.sep b p h3 hp')
          · omega
          · have := hr.inj b0 b p0 p (ne b0 x0) h3 y0 hp' z0
            subst this; exact x0 h2
  · exact fun c hc hn => e.keep c hc fun b p hb => hn b p (ne b hb)
  · intro b p hb hp
    rcases over_ne hb with h1 | ⟨h1, h2, h3⟩
    · rcases e.live b p h1 hp with h4 | ⟨b0, p0, x, y, z⟩
      · exact .inl h4
      · exact .inr ⟨b0, p0, ne b0 x, y, z⟩
    · cases hbk : h b with
      | none => exact absurd hbk h3
      | some kb =>
        obtain ⟨p', hp', hlt, _⟩ := hr.blk b kb hbk
        have e1 := e.phi _ _ hp'
        rw [hp] at e1; injection e1 with e1; subst e1
        exact .inr ⟨b, p, h3, hp', rfl⟩
  · intro c hc
    rcases e.dnew c hc with h1 | h1 | ⟨b0, p0, x, y, z⟩
    · exact .inl h1
    · exact .inr (.inl h1)
    · exact .inr (.inr ⟨b0, p0, ne b0 x, y, z⟩)
  · intro b hb
    rcases over_ne hb with h1 | ⟨h1, h2, h3⟩
    · rcases e.hid b h1 with h4 | h4
      · exact .inl (ne b h4)
      · exact .inr h4
    · exact .inl h3

section
variable {P : Program} {ce : Ce} {nt : Nat} {r : Option Nat} {ops : Array Oper}

/-- what running operation i does, from the cut X of the heap to the cut X' -/
def StepOk (P : Program) (r : Option Nat) (ops : Array Oper) (i : Nat) (dst : Option Tmp) (Fs : Fr) (X X' : Hf) (v : AV) (lo hi : Nat) : Prop :=
  lo ≤ hi ∧ ∀ φ D h (a : Act) w, Rel φ D h w → Sub X h → FR φ D Fs.get a.tmps → Fresh φ lo hi → ∀ (K : Act → World → Prop) (Q : QT),
    (∀ φ' D' w' cv, Ext φ D h w lo φ' D' (over X X' h) w' hi → Rel φ' D' (over X X' h) w' → VR φ' D' v cv → K (a.put dst cv) w') → wpOpIn (FW r) 0 P ops Q i K a w

/-- its guard, if it has one -/
inductive Wants (P : Program) (ops : Array Oper) (o : Oper) (Fs : Fr) : Bool → Prop
  | free : o.guard = none → Wants P ops o Fs true
  | tells (j d : Nat) (b c : Bool) : o.guard = some (j, b) → (ops[j]?).bind (·.dst) = some d → Fs.get d = some (.bool c) → Wants P ops o Fs (c == b)
  | other (j d : Nat) (b : Bool) (v : AV) : o.guard = some (j, b) → (ops[j]?).bind (·.dst) = some d → Fs.get d = some v → (∀ c, v ≠ .bool c) → Wants P ops o Fs false

theorem wants_run {o : Oper} {Fs : Fr} {b : Bool} (h : Wants P ops o Fs b) {φ : Ph} {D : Da} {tmps : Array Value} (hF : FR φ D Fs.get tmps) : Region.wanted o (yielded ops tmps) = b := by
  cases h with
  | free h => simp [Region.wanted, h]
  | tells j d b c h1 h2 h3 =>
    obtain ⟨x, hx, hv⟩ := hF d _ h3
    cases hv with
    | bool => simp only [Region.wanted, h1, yielded, h2, Option.bind_some, hx]; cases b <;> cases c <;> rfl
  | other j d b v h1 h2 h3 h4 =>
    obtain ⟨x, hx, hv⟩ := hF d _ h3
    simp only [Region.wanted, h1, yielded, h2, Option.bind_some, hx]
    cases x <;> first | rfl | exact absurd (vr_bool hv) (h4 _)

theorem step_skip {i : Nat} {o : Oper} {Fs : Fr} (ho : ops[i]? = some o) (hw : Wants P ops o Fs false) (X : Hf) (n : Nat) : StepOk P r ops i o.dst Fs X X (.tup []) n n := by
  refine ⟨Nat.le_refl _, fun φ D h a w hr hX hF hf K Q hK => ?_⟩
  have hwr := wants_run hw hF
  unfold wpOpIn
  rw [over_same hX] at hK
  simp only [ho, hwr]
  exact ⟨fun _ _ => trivial, hK φ D w undef (Ext.refl ..) hr (.tup _ _ .nil)⟩

theorem step_eff {i : Nat} {o : Oper} {Fs : Fr} {e : Eff} {H : Hp} {n : Nat} {rr : ERes} (ho : ops[i]? = some o) (hw : Wants P ops o Fs true) (he : EffOk P o e) (hq : quietOp o.op = true) (hrr : e Fs H n = rr) (hne : rr ≠ .fail) :
    StepOk P r ops i o.dst Fs H.get (outH rr H.get n) (outV rr) n (outN rr n) := by
  refine ⟨by cases rr <;> simp [outN], fun φ D h a w hr hX hF hf K Q hK => ?_⟩
  have hwr := wants_run hw hF
  obtain ⟨nx, cv, φ', w', hrun, hnx, hext, hrel, hvr⟩ := by
    have := he Fs H n φ D a w (rel_sub hr hX) hF (by rw [hrr]; exact hf) (by rw [hrr]; exact hne)
    rw [hrr] at this; exact this
  obtain ⟨h1, h2⟩ := frame_rule hr hX hext hrel
  unfold wpOpIn
  simp only [ho, hwr, if_true]
  refine ⟨fun _ _ => trivial, ?_⟩
  rw [semAt_quiet hq, hrun]
  cases hnx with
  | value => exact hK φ' D w' _ h2 h1 hvr
  | skip => exact hK φ' D w' _ h2 h1 hvr

theorem step_call {i : Nat} {o : Oper} {Fs : Fr} {c : Call} {g : G} {as : List G} {f : FuncId} {first cap vs : List AV} {H H' : Hp} {n n' : Nat} {v : AV} (ho : ops[i]? = some o) (hw : Wants P ops o Fs true) (hc : o.op = .call c) (hg : CalOk P c g) (has : opds c.args.toList = some as)
    (hce : CeOk P ce) (hgv : g.f Fs = some (.fn (.func f) first cap)) (hev : evs Fs as = some vs) (hcall : ce.call f (first ++ (vs ++ cap)) H n = .mk v H' n') : StepOk P r ops i o.dst Fs H.get H'.get v n n' := by
  obtain ⟨⟨fn, b, hfn, hb, hname⟩, hn, hcs⟩ := hce.call _ _ _ _ _ _ _ hcall
  refine ⟨hn, fun φ D h a w hr hX hF hf K Q hK => ?_⟩
  have hwr := wants_run hw hF
  unfold wpOpIn
  simp only [ho, hwr, if_true]
  refine ⟨fun _ _ => trivial, ?_⟩
  obtain ⟨fl, cl, h1, h2, hrun0⟩ := hg.fn o a Fs φ D f first cap hc hF hgv
  have h3 := opds_sound has Fs φ D a hF vs hev
  have hrun : (o.semAt (FW r).round a.eval).run P w = .ok (.enter f ⟨fl ++ (c.args.toList.map a.eval ++ cl)⟩) w := by
    rw [semAt_quiet (by rw [hc]; rfl)]
    exact hrun0 fn b w hfn hname hb
  rw [hrun]
  refine ⟨fun h => by simp [FW] at h, callsIn_FW (hcs φ D w _ (rel_sub hr hX) (h1.append (h3.append h2)) hf _ fun φ1 D1 w1 cv hext hrel hvr => ?_)⟩
  obtain ⟨k1, k2⟩ := frame_rule hr hX hext hrel
  exact hK φ1 D1 w1 cv k2 k1 hvr
end
end Go.Abs
