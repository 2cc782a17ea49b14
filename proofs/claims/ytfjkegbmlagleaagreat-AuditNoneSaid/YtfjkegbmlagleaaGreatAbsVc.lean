/- What is to be shown of code: by steps, with calls by their contracts; and that it is enough. -/
import Derived.Test.YtfjkegbmlagleaaGreatAbsDp
namespace Go.Abs

def FrA (φ : Ph) (n : Nat) : Prop := ∀ b, n ≤ b → φ b = none
theorem FrA.fresh {φ : Ph} {n : Nat} (h : FrA φ n) (k : Nat) : Fresh φ n k := fun b hb _ => h b hb
theorem FrA.step {φ D h w n φ' D' h' w' n'} (hf : FrA φ n) (e : Ext φ D h w n φ' D' h' w' n') : FrA φ' n' := by
  intro b hb
  cases hx : φ' b with
  | none => rfl
  | some p => have := e.new b (hf b (Nat.le_trans e.le hb)) (by rw [hx]; simp); omega
section
variable {P : Program}
/-- a call's contract: whatever it comes to is one of these -/
def CallR (P : Program) (g : FuncId) (args : List AV) (H : Hp) (n : Nat) (R : AV → Hp → Nat → Prop) : Prop :=
  (∃ fn b, P.funcs[g]? = some fn ∧ fn.body = some b ∧ (fn.name == "runtime.NumGoroutine") = false) ∧
    ∀ φ D w xs, Rel φ D H.get w → VRs φ D args xs → FrA φ n → ∀ RR : Ending → World → Prop,
      (∀ v H' n' φ' D' w' x, R v H' n' → Ext φ D H.get w n φ' D' H'.get w' n' → Rel φ' D' H'.get w' → VR φ' D' v x → RR (.returned x) w') → CallsIn Fence.wide 0 P g ⟨xs⟩ w RR
theorem CallR.mono {g : FuncId} {args : List AV} {H : Hp} {n : Nat} {R S : AV → Hp → Nat → Prop} (h : CallR P g args H n R) (hs : ∀ v H' n', R v H' n' → S v H' n') : CallR P g args H n S :=
  ⟨h.1, fun φ D w xs a b c RR hR => h.2 φ D w xs a b c RR fun v H' n' φ' D' w' x r => hR v H' n' φ' D' w' x (hs _ _ _ r)⟩
theorem CallOk.callR {g : FuncId} {args : List AV} {H : Hp} {n : Nat} {v : AV} {H' : Hp} {n' : Nat} (h : CallOk P g args H n v H' n') : CallR P g args H n (fun u K k => u = v ∧ K = H' ∧ k = n') :=
  ⟨h.1, fun φ D w xs a b c RR hR => h.2.2 φ D w xs a b (c.fresh _) RR fun φ' D' w' x e r k => hR v H' n' φ' D' w' x ⟨rfl, rfl, rfl⟩ e r k⟩

/-! ### operations in a row -/
def VCO (P : Program) : List (Option GO) → Fr → Hp → Nat → List Nat → QA → Prop
  | [], F, H, n, m, Q => Q .normal F H n m
  | none :: _, _, _, _, _, _ => False
  | some ⟨none, pd, .eff e⟩ :: r, F, H, n, m, Q => EvE (e F H n) H n fun v H' n' => VCO P r (pd.f v F) H' n' m Q
  | some ⟨none, pd, .call g as⟩ :: r, F, H, n, m, Q => ∃ f first cap vs, g.f F = some (.fn (.func f) first cap) ∧ evs F as = some vs ∧ CallR P f (first ++ (vs ++ cap)) H n fun v H' n' => VCO P r (pd.f v F) H' n' m Q
  | some ⟨none, _, .bad⟩ :: _, _, _, _, _, _ => False
  | some ⟨none, _, .flt _⟩ :: _, _, _, _, _, _ => False
  | some ⟨some (g, b), pd, .eff e⟩ :: r, F, H, n, m, Q => GrdE (g.f F) b (EvE (e F H n) H n fun v H' n' => VCO P r (pd.f v F) H' n' m Q) (VCO P r (pd.f (.tup []) F) H n m Q)
  | some ⟨some (g, b), pd, .call h as⟩ :: r, F, H, n, m, Q => GrdE (g.f F) b (∃ f first cap vs, h.f F = some (.fn (.func f) first cap) ∧ evs F as = some vs ∧ CallR P f (first ++ (vs ++ cap)) H n fun v H' n' => VCO P r (pd.f v F) H' n' m Q) (VCO P r (pd.f (.tup []) F) H n m Q)
  | some ⟨some (g, b), pd, .bad⟩ :: r, F, H, n, m, Q => GrdE (g.f F) b False (VCO P r (pd.f (.tup []) F) H n m Q)
  | some ⟨some (g, b), pd, .flt _⟩ :: r, F, H, n, m, Q => GrdE (g.f F) b False (VCO P r (pd.f (.tup []) F) H n m Q)
/-- what is to be shown of code -/
def VC (P : Program) : CT → Fr → Hp → Nat → List Nat → QA → Prop
  | .reg l, F, H, n, m, Q => VCO P l F H n m Q
  | .drw ds l, F, H, n, m, Q => ∃ ce, CeOk P ce ∧ Ev ((drwK ds (mkR l)).f ce F H n m) Q
  | .seq a b, F, H, n, m, Q => VC P a F H n m fun o F' H' n' m' => match o with
    | .normal => VC P b F' H' n' m' Q
    | .exit i => Q (.exit i) F' H' n' m'
    | .ret => Q .ret F' H' n' m'
  | .cond g a b, F, H, n, m, Q => CondE (g.f F) (VC P a F H n m Q) (VC P b F H n m Q)
  | .block i b, F, H, n, m, Q => VC P b F H n m (BlkQ i Q)
  | .loop b, F, H, n, m, Q => ∃ (I : Nat → Fr → Hp → Nat → List Nat → Prop) (k : Nat), I k F H n m ∧ ∀ k F H n m, I k F H n m → VC P b F H n m (RndQ I k Q)
  | .exit i, F, H, n, m, Q => Q (.exit i) F H n m
  | .ret, F, H, n, m, Q => Q .ret F H n m
  | .skip, F, H, n, m, Q => Q .normal F H n m
  | .range .., _, _, _, _, _ => False
  | .bad, _, _, _, _, _ => False
  | .raw k, F, H, n, m, Q => ∃ ce, CeOk P ce ∧ Ev (k.f ce F H n m) Q

/-- enough of a run: whatever it comes to is one of these -/
def Wp (nt : Nat) (run : QT → Act → World → Prop) (F : Fr) (H : Hp) (n : Nat) (m : List Nat) (Q : QA) : Prop :=
  ∀ φ D a w, St nt φ D F H m a w → FrA φ n → ∀ QQ : QT, (∀ o F' H' n' m' φ' D' a' w', Q o F' H' n' m' → Ext φ D H.get w n φ' D' H'.get w' n' → St nt φ' D' F' H' m' a' w' → QQ (exitOf o) a' w') → run QQ a w
variable {nt : Nat} {ops : Array Oper}

theorem wp_of_sound {run : QT → Act → World → Prop} {f : Fr → Hp → Nat → List Nat → Res} (hs : Sound nt run f) {F : Fr} {H : Hp} {n : Nat} {m : List Nat} {Q : QA} (h : Ev (f F H n m) Q) : Wp nt run F H n m Q := by
  obtain ⟨o, F', H', n', m', h1, h2⟩ := ev_out.1 h
  obtain ⟨hn, hk⟩ := hs _ _ _ _ _ _ _ _ _ h1
  exact fun φ D a w st hf QQ hQ => hk φ D a w st (hf.fresh _) QQ fun φ' D' a' w' e s => hQ o F' H' n' m' φ' D' a' w' h2 e s

theorem wp_eff {rest : List Nat} {o : Oper} {e : Eff} {pd : Pd} {F : Fr} {H : Hp} {n : Nat} {m : List Nat} {Q : QA} {X : Fr → Hp → Nat → Prop} (he : EffOk P o e) (hq : quietOp o.op = true) (hpd : PdOk nt o.dst pd)
    (hnext : ∀ F H n, X F H n → Wp nt (fun QQ a w => wpOpsIn (FW none) 0 P ops QQ rest a w) F H n m Q) (h : EvE (e F H n) H n fun v H' n' => X (pd.f v F) H' n') :
    Wp nt (fun QQ a w => o.wpIn (FW none) 0 P a w (wpOpsIn (FW none) 0 P ops QQ rest) QQ) F H n m Q := by
  intro φ D a w st hf QQ hQ
  have key : ∀ (v : AV) (H1 : Hp) (n1 : Nat) (rr : ERes), e F H n = rr → rr ≠ .fail → outV rr = v → outH rr H.get n = H1.get → outN rr n = n1 → X (pd.f v F) H1 n1 →
      o.wpIn (FW none) 0 P a w (wpOpsIn (FW none) 0 P ops QQ rest) QQ := by
    intro v H1 n1 rr her hne hv hH hn hX
    have hd := he F H n φ D a w st.rel st.fr (by rw [her]; exact hf.fresh _) (by rw [her]; exact hne)
    rw [her] at hd
    obtain ⟨nx, cv, φ1, w1, hrun, hnx, hext, hrel, hvr⟩ := hd
    rw [hH] at hext hrel
    rw [hn] at hext
    rw [hv] at hvr
    have hfr := hpd v F φ1 D a cv (st.fr.mono hext.phi (fun _ _ h => h)) st.sz hvr
    have hst : St nt φ1 D (pd.f v F) H1 m (a.put o.dst cv) w1 := ⟨hrel, hfr.1, hfr.2, by rw [put_defers]; exact st.mar.mono hext.phi⟩
    have hgo := hnext _ _ _ hX φ1 D (a.put o.dst cv) w1 hst (hf.step hext) QQ fun o F' H' n' m' φ' D' a' w' q hx hst' => hQ o F' H' n' m' φ' D' a' w' q (hext.trans hx) hst'
    refine ⟨fun _ _ => trivial, ?_⟩
    rw [semAt_quiet hq, hrun]
    cases hnx with
    | value => exact hgo
    | skip => exact hgo
  cases her : e F H n with
  | fail => rw [her] at h; exact absurd h id
  | val v => rw [her] at h; exact key v H n _ her (by simp) rfl rfl rfl h
  | new v k => rw [her] at h; exact key v _ _ _ her (by simp) rfl (outH_new ..) rfl h
  | upd v b k => rw [her] at h; exact key v _ _ _ her (by simp) rfl (outH_upd ..) rfl h
  | mv v b k => rw [her] at h; exact key v _ _ _ her (by simp) rfl (outH_mv ..) rfl h

theorem wp_call {rest : List Nat} {o : Oper} {c : Call} {g : G} {as : List G} {pd : Pd} {F : Fr} {H : Hp} {n : Nat} {m : List Nat} {Q : QA} {X : Fr → Hp → Nat → Prop} (ho : o.op = .call c) (hg : CalOk P c g) (has : opds c.args.toList = some as) (hpd : PdOk nt o.dst pd)
    (hnext : ∀ F H n, X F H n → Wp nt (fun QQ a w => wpOpsIn (FW none) 0 P ops QQ rest a w) F H n m Q)
    (h : ∃ f first cap vs, g.f F = some (.fn (.func f) first cap) ∧ evs F as = some vs ∧ CallR P f (first ++ (vs ++ cap)) H n fun v H' n' => X (pd.f v F) H' n') :
    Wp nt (fun QQ a w => o.wpIn (FW none) 0 P a w (wpOpsIn (FW none) 0 P ops QQ rest) QQ) F H n m Q := by
  intro φ D a w st hf QQ hQ
  obtain ⟨f, first, cap, vs, hgv, hev, ⟨fn, b, hfn, hb, hname⟩, hcs⟩ := h
  refine ⟨fun _ _ => trivial, ?_⟩
  obtain ⟨fl, cl, h1, h2, hrun0⟩ := hg.fn o a F φ D f first cap ho st.fr hgv
  have h3 := opds_sound has F φ D a st.fr vs hev
  have hrun : (o.semAt (FW none).round a.eval).run P w = .ok (.enter f ⟨fl ++ (c.args.toList.map a.eval ++ cl)⟩) w := by
    rw [semAt_quiet (by rw [ho]; rfl)]
    exact hrun0 fn b w hfn hname hb
  rw [hrun]
  refine ⟨fun h => by simp [FW] at h, callsIn_FW (hcs φ D w _ st.rel (h1.append (h3.append h2)) hf _ fun v H' n' φ1 D1 w1 cv hX hext hrel hvr => ?_)⟩
  have hfr := hpd v F φ1 D1 a cv (st.fr.mono hext.phi hext.dat) st.sz hvr
  exact hnext _ _ _ hX φ1 D1 (a.put o.dst cv) w1 ⟨hrel, hfr.1, hfr.2, by rw [put_defers]; exact st.mar.mono hext.phi⟩ (hf.step hext) QQ fun o F' H' n' m' φ' D' a' w' q hx hst' => hQ o F' H' n' m' φ' D' a' w' q (hext.trans hx) hst'

theorem wp_skip {rest : List Nat} {o : Oper} {pd : Pd} {F : Fr} {H : Hp} {n : Nat} {m : List Nat} {Q : QA} (hpd : PdOk nt o.dst pd) (h : Wp nt (fun QQ a w => wpOpsIn (FW none) 0 P ops QQ rest a w) (pd.f (.tup []) F) H n m Q) :
    Wp nt (fun QQ a w => wpOpsIn (FW none) 0 P ops QQ rest (a.put o.dst undef) w) F H n m Q := by
  intro φ D a w st hf QQ hQ
  have hfr := hpd (.tup []) F φ D a undef st.fr st.sz (.tup _ _ .nil)
  exact h φ D (a.put o.dst undef) w ⟨st.rel, hfr.1, hfr.2, by rw [put_defers]; exact st.mar⟩ hf QQ hQ

theorem koOf_call {o : Oper} {g : G} {as : List G} (h : koOf P o = .call g as) : ∃ c, o.op = .call c ∧ CalOk P c g ∧ opds c.args.toList = some as := by
  unfold koOf at h
  split at h
  · rename_i f args tys ho
    split at h
    · cases h
    · split at h
      · rename_i g' as' h1 h2; injection h with a b; subst a b; exact ⟨_, ho, .value rfl h1, h2⟩
      · cases h
  · rename_i f name args tys ho
    split at h
    · rename_i g' as' h1 h2; injection h with a b; subst a b; exact ⟨_, ho, .invoke rfl h1, h2⟩
    · cases h
  · split at h <;> cases h
theorem koOf_eff {o : Oper} {e : Eff} (h : koOf P o = .eff e) : compOp P o = some e := by
  unfold koOf at h
  split at h
  · split at h
    · rename_i h1; injection h with h; subst h; exact h1
    · split at h <;> cases h
  · split at h <;> cases h
  · split at h
    · rename_i h1; injection h with h; subst h; exact h1
    · cases h

theorem tell {o : Oper} {F : Fr} {φ : Ph} {D : Da} {a : Act} {j d : Nat} (hd : (ops[j]?).bind (·.dst) = some d) (hF : FR φ D F.get a.tmps) {v : AV} (hv : F.get d = some v) : (∀ c, v = .bool c → yielded ops a.tmps j = some c) ∧ ((∀ c, v ≠ .bool c) → yielded ops a.tmps j = none) := by
  obtain ⟨x, hx, hvx⟩ := hF d v hv
  unfold yielded
  rw [hd]
  simp only [Option.bind_some, hx]
  refine ⟨fun c hc => ?_, fun hc => ?_⟩
  · subst hc; cases hvx; rfl
  · cases x <;> first | rfl | exact absurd (vr_bool hvx) (hc _)

theorem vcO_sound : ∀ (l : List Oper) (i : Nat) (F : Fr) (H : Hp) (n : Nat) (m : List Nat) (Q : QA), ops.toList.drop i = l → VCO P (l.map (goOf P nt ops)) F H n m Q →
    Wp nt (fun QQ a w => wpOpsIn (FW none) 0 P ops QQ (List.range' i l.length) a w) F H n m Q
  | [], i, F, H, n, m, Q, _, h => fun φ D a w st hf QQ hQ => hQ .normal F H n m φ D a w h (Ext.refl ..) st
  | o :: l, i, F, H, n, m, Q, hl, h => by
    have hi : ops[i]? = some o := by
      have := congrArg (fun (x : List Oper) => x[0]?) hl
      simpa [List.getElem?_drop] using this
    have hl' : ops.toList.drop (i + 1) = l := by
      have := congrArg (fun (x : List Oper) => x.drop 1) hl
      simpa [List.drop_drop] using this
    have ih := fun F H n => vcO_sound l (i + 1) F H n m Q hl'
    have h0 := h
    simp only [List.map_cons] at h
    unfold goOf at h
    cases hp : compPd nt o.dst with
    | none => rw [hp] at h; exact absurd h id
    | some pd =>
      rw [hp] at h
      have hpd := compPd_ok hp
      dsimp only at h
      cases hgd : o.guard with
      | none =>
        rw [hgd] at h
        dsimp only at h
        have fin : Wp nt (fun QQ a w => o.wpIn (FW none) 0 P a w (wpOpsIn (FW none) 0 P ops QQ (List.range' (i + 1) l.length)) QQ) F H n m Q → Wp nt (fun QQ a w => wpOpsIn (FW none) 0 P ops QQ (List.range' i (l.length + 1)) a w) F H n m Q := by
          intro hw φ D a w st hf QQ hQ
          show wpOpsIn (FW none) 0 P ops QQ (i :: List.range' (i + 1) l.length) a w
          simp only [wpOpsIn, hi, Region.wanted, hgd, if_true]
          exact hw φ D a w st hf QQ hQ
        refine fin ?_
        cases hk : koOf P o with
        | bad => rw [hk] at h; exact absurd h id
        | flt e => rw [hk] at h; exact absurd h id
        | eff e =>
          rw [hk] at h
          have hc := koOf_eff hk
          exact wp_eff (X := fun F H n => VCO P (l.map (goOf P nt ops)) F H n m Q) (op_sound hc) (compOp_quiet hc) hpd (fun F H n hx => ih F H n hx) h
        | call g as =>
          rw [hk] at h
          obtain ⟨c, h1, h2, h4⟩ := koOf_call hk
          exact wp_call (X := fun F H n => VCO P (l.map (goOf P nt ops)) F H n m Q) h1 h2 h4 hpd (fun F H n hx => ih F H n hx) h
      | some x =>
        obtain ⟨j, b⟩ := x
        rw [hgd] at h
        dsimp only at h
        cases hd : (ops[j]?).bind (·.dst) with
        | none => rw [hd] at h; exact absurd h id
        | some d =>
          rw [hd] at h
          dsimp only at h
          have fin : ∀ (Y N : Prop), (Y → Wp nt (fun QQ a w => o.wpIn (FW none) 0 P a w (wpOpsIn (FW none) 0 P ops QQ (List.range' (i + 1) l.length)) QQ) F H n m Q) → (N → VCO P (l.map (goOf P nt ops)) (pd.f (.tup []) F) H n m Q) →
              GrdE ((slotG d).f F) b Y N → Wp nt (fun QQ a w => wpOpsIn (FW none) 0 P ops QQ (List.range' i (l.length + 1)) a w) F H n m Q := by
            intro Y N hY hN hG
            have no : N → ∀ φ D a w, St nt φ D F H m a w → FrA φ n → ∀ QQ : QT, (∀ o F' H' n' m' φ' D' a' w', Q o F' H' n' m' → Ext φ D H.get w n φ' D' H'.get w' n' → St nt φ' D' F' H' m' a' w' → QQ (exitOf o) a' w') → wpOpsIn (FW none) 0 P ops QQ (List.range' (i + 1) l.length) (a.put o.dst undef) w :=
              fun hN' => wp_skip hpd (ih _ _ _ (hN hN'))
            rw [slotG_eq] at hG
            intro φ D a w st hf QQ hQ
            show wpOpsIn (FW none) 0 P ops QQ (i :: List.range' (i + 1) l.length) a w
            cases hv : F.get d with
            | none => rw [hv] at hG; exact absurd hG id
            | some v =>
              rw [hv] at hG
              by_cases hb : ∃ c, v = .bool c
              · obtain ⟨c, rfl⟩ := hb
                have hy := (tell (o := o) hd st.fr hv).1 c rfl
                have hG : (bif c == b then Y else N) := hG
                simp only [wpOpsIn, hi, Region.wanted, hgd, hy]
                cases hcb : c == b with
                | true =>
                  rw [hcb] at hG
                  rw [if_pos (by simpa using hcb)]
                  exact hY hG φ D a w st hf QQ hQ
                | false =>
                  rw [hcb] at hG
                  rw [if_neg (by simpa using hcb)]
                  exact ⟨fun _ _ => trivial, no hG φ D a w st hf QQ hQ⟩
              · have hnb : ∀ c, v ≠ .bool c := fun c e => hb ⟨c, e⟩
                have hy := (tell (o := o) hd st.fr hv).2 hnb
                have hG : N := by
                  cases v <;> first | exact hG | exact absurd rfl (hnb _)
                simp only [wpOpsIn, hi, Region.wanted, hgd, hy]
                rw [if_neg (by simp)]
                exact ⟨fun _ _ => trivial, no hG φ D a w st hf QQ hQ⟩
          cases hk : koOf P o with
          | bad => rw [hk] at h; exact fin _ _ (fun h => absurd h id) (fun h => h) h
          | flt e => rw [hk] at h; exact fin _ _ (fun h => absurd h id) (fun h => h) h
          | eff e =>
            rw [hk] at h
            have hc := koOf_eff hk
            exact fin _ _ (fun hy => wp_eff (X := fun F H n => VCO P (l.map (goOf P nt ops)) F H n m Q) (op_sound hc) (compOp_quiet hc) hpd (fun F H n hx => ih F H n hx) hy) (fun h => h) h
          | call g as =>
            rw [hk] at h
            obtain ⟨c, h1, h2, h4⟩ := koOf_call hk
            exact fin _ _ (fun hy => wp_call (X := fun F H n => VCO P (l.map (goOf P nt ops)) F H n m Q) h1 h2 h4 hpd (fun F H n hx => ih F H n hx) hy) (fun h => h) h

theorem Wp.seq {x y : Code} {F : Fr} {H : Hp} {n : Nat} {m : List Nat} {Q R : QA} (h1 : Wp nt (fun QQ a w => x.wpIn (FW none) 0 P QQ a w) F H n m R)
    (h2 : ∀ o F' H' n' m', R o F' H' n' m' → match o with
      | .normal => Wp nt (fun QQ a w => y.wpIn (FW none) 0 P QQ a w) F' H' n' m' Q
      | .exit i => Q (.exit i) F' H' n' m'
      | .ret => Q .ret F' H' n' m') : Wp nt (fun QQ a w => (Code.seq x y).wpIn (FW none) 0 P QQ a w) F H n m Q := by
  intro φ D a w st hf QQ hQ
  refine wpIn_seq (h1 φ D a w st hf _ fun o F' H' n' m' φ' D' a' w' hr e st' => ?_)
  have := h2 o F' H' n' m' hr
  cases o with
  | normal => exact this φ' D' a' w' st' (hf.step e) QQ fun o2 F2 H2 n2 m2 φ2 D2 a2 w2 q e2 s2 => hQ o2 F2 H2 n2 m2 φ2 D2 a2 w2 q (e.trans e2) s2
  | exit i => exact hQ _ _ _ _ _ _ _ _ _ this e st'
  | ret => exact hQ _ _ _ _ _ _ _ _ _ this e st'

theorem Wp.rounds {b : Code} {Q : QA} {I : Nat → Fr → Hp → Nat → List Nat → Prop} (hb : ∀ k F H n m, I k F H n m → Wp nt (fun QQ a w => b.wpIn (FW none) 0 P QQ a w) F H n m (RndQ I k Q)) :
    ∀ (j k : Nat) (F : Fr) (H : Hp) (n : Nat) (m : List Nat), k < j → I k F H n m → Wp nt (fun QQ a w => Code.roundsIn (FW none) 0 P b QQ j a w) F H n m Q
  | 0, k, _, _, _, _, h, _ => by omega
  | j + 1, k, F, H, n, m, h, hI => by
    intro φ D a w st hf QQ hQ
    show Code.roundsIn (FW none) 0 P b QQ (j + 1) a w
    rw [roundsIn_succ]
    refine hb k F H n m hI φ D a w st hf _ fun o F' H' n' m' φ' D' a' w' hr e st' => ?_
    cases o with
    | normal =>
      obtain ⟨k', hk, hI'⟩ := hr
      exact Wp.rounds hb j k' F' H' n' m' (by omega) hI' φ' D' a' w' st' (hf.step e) QQ fun o2 F2 H2 n2 m2 φ2 D2 a2 w2 q e2 s2 => hQ o2 F2 H2 n2 m2 φ2 D2 a2 w2 q (e.trans e2) s2
    | exit i => exact hQ _ _ _ _ _ _ _ _ _ hr e st'
    | ret => exact hQ _ _ _ _ _ _ _ _ _ hr e st'

theorem vc_sound : ∀ (c : Code) (F : Fr) (H : Hp) (n : Nat) (m : List Nat) (Q : QA), VC P (ctOf P nt false c) F H n m Q → Wp nt (fun QQ a w => c.wpIn (FW none) 0 P QQ a w) F H n m Q
  | .skip, F, H, n, m, Q, h => fun φ D a w st hf QQ hQ => wpIn_skip (hQ .normal _ _ _ _ _ _ _ _ h (Ext.refl ..) st)
  | .exit i, F, H, n, m, Q, h => fun φ D a w st hf QQ hQ => wpIn_exit (hQ (.exit i) _ _ _ _ _ _ _ _ h (Ext.refl ..) st)
  | .ret, F, H, n, m, Q, h => fun φ D a w st hf QQ hQ => wpIn_ret (hQ .ret _ _ _ _ _ _ _ _ h (Ext.refl ..) st)
  | .region rid ops d, F, H, n, m, Q, h => by
    cases d with
    | false =>
      have := vcO_sound (P := P) (nt := nt) (ops := ops) ops.toList 0 F H n m Q rfl h
      intro φ D a w st hf QQ hQ
      refine wpIn_region ?_
      rw [List.range_eq_range']
      exact this φ D a w st hf QQ hQ
    | true =>
      simp only [ctOf, cond_true] at h
      cases hmix : P.follows .mixedOrders with
      | false => rw [hmix] at h; exact absurd h id
      | true =>
        rw [hmix] at h
        simp only [cond_true] at h
        have hk : ∃ ce, CeOk P ce ∧ Ev ((comp P nt false (.region rid ops true)).f ce F H n m) Q := by
          cases hp : planAll (ancT ops.toList 0 .nil) ops (plan (ancT ops.toList 0 .nil) ops.toList) with
          | false => rw [hp] at h; exact absurd h id
          | true =>
            rw [hp] at h
            obtain ⟨ce, h1, h2⟩ := h
            refine ⟨ce, h1, ?_⟩
            rw [comp_eq]
            simp only [ctOf, cond_true, hmix, hp]
            exact h2
        obtain ⟨ce, h1, h2⟩ := hk
        exact wp_of_sound (comp_sound (P := P) (nt := nt) (r := none) h1 (.region rid ops true)) h2
  | .seq x y, F, H, n, m, Q, h => by
    refine Wp.seq (vc_sound x F H n m _ h) fun o F' H' n' m' hr => ?_
    cases o with
    | normal => exact vc_sound y F' H' n' m' Q hr
    | exit i => exact hr
    | ret => exact hr
  | .cond c x y, F, H, n, m, Q, h => by
    simp only [ctOf] at h
    cases hc : opd c with
    | none => rw [hc] at h; exact absurd h id
    | some g =>
      rw [hc] at h
      have h : CondE (g.f F) (VC P (ctOf P nt false x) F H n m Q) (VC P (ctOf P nt false y) F H n m Q) := h
      intro φ D a w st hf QQ hQ
      cases hg : g.f F with
      | none => rw [hg] at h; exact absurd h id
      | some v =>
        have hv := opd_sound hc F φ D a st.fr _ hg
        rw [hg] at h
        cases v with
        | bool b =>
          generalize hz : a.eval c = z at hv
          cases hv
          cases b with
          | true => exact wpIn_cond (t := true) hz (vc_sound x F H n m Q h φ D a w st hf QQ hQ)
          | false => exact wpIn_cond (t := false) hz (vc_sound y F H n m Q h φ D a w st hf QQ hQ)
        | _ => exact absurd h id
  | .block id b, F, H, n, m, Q, h => by
    intro φ D a w st hf QQ hQ
    refine wpIn_block (vc_sound b F H n m (BlkQ id Q) h φ D a w st hf _ fun o F' H' n' m' φ' D' a' w' hr e st' => ?_)
    cases o with
    | normal => exact hQ _ _ _ _ _ _ _ _ _ hr e st'
    | ret => exact hQ _ _ _ _ _ _ _ _ _ hr e st'
    | exit j =>
      have hr : (if id = j then Q .normal F' H' n' m' else Q (.exit j) F' H' n' m') := hr
      by_cases hij : j = id
      · subst hij
        rw [if_pos rfl] at hr
        simp only [exitOf, Exit.inBlock, if_true]
        exact hQ _ _ _ _ _ _ _ _ _ hr e st'
      · rw [if_neg (fun e => hij e.symm)] at hr
        simp only [exitOf, Exit.inBlock, hij, if_false]
        exact hQ _ _ _ _ _ _ _ _ _ hr e st'
  | .loop b, F, H, n, m, Q, h => by
    have ib := vc_sound b
    have plain : VC P (.loop (ctOf P nt false b)) F H n m Q → Wp nt (fun QQ a w => (Code.loop b).wpIn (FW none) 0 P QQ a w) F H n m Q := by
      intro h
      obtain ⟨I, k, hI, hs⟩ := h
      intro φ D a w st hf QQ hQ
      exact wpIn_loop_rounds (k + 1) (Wp.rounds (fun k F H n m hi => ib F H n m _ (hs k F H n m hi)) (k + 1) k F H n m (by omega) hI φ D a w st hf QQ hQ)
    cases b with
    | seq x y =>
      cases hm : mapHd x with
      | none =>
        refine plain ?_
        simp only [ctOf, hm] at h
        exact h
      | some q =>
        obtain ⟨x', d, ops, os⟩ := q
        simp only [ctOf, hm] at h
        obtain ⟨ce, h1, h2⟩ := h
        refine wp_of_sound (comp_sound (P := P) (nt := nt) (r := none) h1 (.loop (.seq x y))) ?_
        have : comp P nt (Option.isSome (none : Option Nat)) (.loop (.seq x y)) = mapK P nt x' d ops os (comp P nt false y) := by simp only [comp, hm]; rfl
        rw [this]
        exact h2
    | _ => exact plain h
  | .rangeFunc g ps ca cb, F, H, n, m, Q, h => by
    simp only [ctOf] at h
    cases hc : opd g with
    | none => rw [hc] at h; exact absurd h id
    | some x => rw [hc] at h; exact absurd h id
  | .scope b, F, H, n, m, Q, h => by
    intro φ D a w st hf QQ hQ
    refine wpIn_scope (vc_sound b F H n m Q h φ D a w st hf _ fun o F' H' n' m' φ' D' a' w' hr e st' => ?_)
    have := hQ o F' H' n' m' φ' D' a' w' hr e st'
    cases o <;> exact this
  | .label _, F, H, n, m, Q, h => fun φ D a w st hf QQ hQ => wpIn_label (hQ .normal _ _ _ _ _ _ _ _ h (Ext.refl ..) st)
  | .goto _, _, _, _, _, _, h => absurd h id
  | .refuse _, _, _, _, _, _, h => absurd h id

/-- A CALL, by what is to be shown of the function's code. -/
theorem CallR.of {g : FuncId} {c : CF} {args : List AV} {H : Hp} {n : Nat} {R : AV → Hp → Nat → Prop} (hc : ctF P g = some c) (hl : args.length ≤ c.nt)
    (h : ∀ F : Fr, (∀ i, F.get i = args[i]?) → VC P c.code F H n [] (RetQ c.res R)) : CallR P g args H n R := by
  unfold ctF at hc
  split at hc
  · rename_i fn hfn
    split at hc
    · rename_i b hb
      split at hc
      · cases hc
      · rename_i hname
        split at hc
        · rename_i gs hgs
          injection hc with hc; subst hc
          dsimp only at hl h
          refine ⟨⟨fn, b, hfn, hb, by simpa using hname⟩, fun φ D w xs hrel hvs hf RR hR => ?_⟩
          refine callsIn_of_wp_marks hfn hb trivial ?_
          have hsz : ((⟨xs⟩ : Array Value) ++ Array.replicate (fn.ntmps - (⟨xs⟩ : Array Value).size) undef).size = fn.ntmps := by
            have := hvs.length
            simp
            omega
          have hv := h (Tr.putAll args 0 .nil) fun i => by
            rw [Tr.get_putAll]
            split
            · simp
            · rw [List.getElem?_eq_none (by omega)]; rfl
          refine vc_sound b _ _ _ _ _ hv φ D { tmps := (⟨xs⟩ : Array Value) ++ Array.replicate (fn.ntmps - (⟨xs⟩ : Array Value).size) undef, defers := [] } w ⟨hrel, frame_ok hvs _, hsz, rfl⟩ hf _ fun o F1 H1 n1 m1 φ1 D1 a1 w1 hq hext st1 => ?_
          have key : (o = .normal ∨ o = .ret) → LeavesInM Fence.wide 0 P fn a1.tmps RR a1.defers .returning w1 := by
            intro ho
            have hq : OpB (unmark m1 H1) fun H' => OpB (evR F1 H' gs) fun vs => R (retV vs) H' n1 := by
              rcases ho with rfl | rfl
              · simpa using hq
              · simpa using hq
            cases hu : unmark m1 H1 with
            | none => rw [hu] at hq; exact absurd hq id
            | some H2 =>
              rw [hu] at hq
              simp only [opB_some] at hq
              cases he : evR F1 H2 gs with
              | none => rw [he] at hq; exact absurd hq id
              | some vs =>
                rw [he] at hq
                exact leaves_ok (P := P) (fn := fn) (vs := vs) hgs he m1 H1 a1.defers a1.tmps φ1 D1 w1 _ RR hu st1.rel st1.fr st1.mar fun φ2 D2 w2 x h1 h2 h3 => hR _ _ _ φ2 D2 w2 x hq (hext.trans h1) h2 h3
          cases o with
          | normal => exact key (.inl rfl)
          | ret => exact key (.inr rfl)
          | exit i => exact absurd hq id
        · cases hc
    · cases hc
  · cases hc

/-! ### functions that only read -/
theorem FnPure.ofR {g : FuncId} {args : List AV} {v : AV} (hp : PureL args) (hv : Pure v) (h : CallR P g args .nil 0 (fun v1 H' _ => Frz H'.get v1 v)) : FnPure P g args v := by
  obtain ⟨hb, hs⟩ := h
  refine ⟨hb, hp, hv, fun D w xs hd hv R hR => ?_⟩
  refine hs PhN D w xs (rel_none hd) hv (fun _ _ => rfl) R fun v1 H' n' φ' D' w' x h2 hext hrel hx => ?_
  refine hR (shut φ' D' H'.get w') w' x ⟨fun c x hx => shut_le c x (hext.dat c x hx), hext.size, fun c hc => hext.keep c hc fun b p hb => by simp at hb, fun c hc => ?_, hext.os, hext.out⟩ (shut_dat hrel.dat) (h2.vr hrel hx)
  unfold shut at hc
  split at hc
  · rename_i y hy
    rcases hext.dnew c (by rw [hy]; simp) with h | h | ⟨b0, p0, hh, _⟩
    · exact .inl h
    · exact .inr h
    · simp at hh
  · split at hc
    · rename_i hex
      obtain ⟨b, p, hb, hp, rfl⟩ := hex
      rcases hext.live b p hb hp with h | ⟨b0, p0, hh, _⟩
      · exact .inr h
      · simp at hh
    · exact absurd rfl hc
theorem FnPure.callR {g : FuncId} {args : List AV} {v : AV} (h : FnPure P g args v) (H : Hp) (n : Nat) : CallR P g args H n (fun u K k => u = v ∧ K = H ∧ k = n) := (h.callOk H n).callR
mutual
/-- a value that names nothing in memory -/
def Flat : AV → Prop
  | .int _ _ => True
  | .bool _ => True
  | .str _ => True
  | .cst _ => True
  | .agg cs _ => FlatL cs
  | .tup cs => FlatL cs
  | .ifc _ v => Flat v
  | _ => False
def FlatL : List AV → Prop
  | [] => True
  | v :: r => Flat v ∧ FlatL r
end
@[simp] theorem flat_int (k : IntKind) (i : Int) : Flat (.int k i) := by simp only [Flat]
@[simp] theorem flat_bool (b : Bool) : Flat (.bool b) := by simp only [Flat]
@[simp] theorem flat_str (l : List Nat) : Flat (.str l) := by simp only [Flat]
@[simp] theorem flat_cst (v : Value) : Flat (.cst v) := by simp only [Flat]
@[simp] theorem flat_agg (cs : List AV) (n : Nat) : Flat (.agg cs n) = FlatL cs := by simp only [Flat]
@[simp] theorem flat_tup (cs : List AV) : Flat (.tup cs) = FlatL cs := by simp only [Flat]
@[simp] theorem flatL_nil : FlatL [] := by simp only [FlatL]
@[simp] theorem flatL_cons (v : AV) (r : List AV) : FlatL (v :: r) = (Flat v ∧ FlatL r) := by simp only [FlatL]
mutual
theorem Flat.out {φ φ' : Ph} {D D' : Da} : ∀ {v : AV} {x : Value}, Flat v → VR φ D v x → VR φ' D' v x
  | .int _ _, _, _, .int _ _ => .int _ _
  | .bool _, _, _, .bool _ => .bool _
  | .str _, _, _, .str _ _ e => .str _ _ e
  | .cst _, _, _, .cst _ e => .cst _ e
  | .agg _ _, _, h, .agg _ _ _ a b => .agg _ _ _ (FlatL.vrs (by simpa only [Flat] using h) a) b
  | .tup _, _, h, .tup _ _ a => .tup _ _ (FlatL.vrs (by simpa only [Flat] using h) a)
  | .ifc _ _, _, h, .ifc _ _ _ a => .ifc _ _ _ (Flat.out (by simpa only [Flat] using h) a)
theorem FlatL.vrs {φ φ' : Ph} {D D' : Da} : ∀ {vs : List AV} {xs : List Value}, FlatL vs → VRs φ D vs xs → VRs φ' D' vs xs
  | [], _, _, .nil => .nil
  | _ :: _, _, h, .cons _ _ _ _ h1 h2 => .cons _ _ _ _ (Flat.out (by simp only [FlatL] at h; exact h.1) h1) (FlatL.vrs (by simp only [FlatL] at h; exact h.2) h2)
end
/-- a function that only reads, called with what lies in memory -/
theorem FnPure.callG {g : FuncId} {args args' : List AV} {v : AV} (h : FnPure P g args' v) (hf : Flat v) {H : Hp} (n : Nat) (hz : FrzL H.get args args') : ∀ φ D w xs, Rel φ D H.get w → VRs φ D args xs → ∀ R : Ending → World → Prop,
    (∀ φ' D' w' x, Ext φ D H.get w n φ' D' H.get w' n → Rel φ' D' H.get w' → VR φ' D' v x → R (.returned x) w') → CallsIn Fence.wide 0 P g ⟨xs⟩ w R := by
  intro φ D w xs hr hv R hR
  refine h.run (shut φ D H.get w) w xs (shut_dat hr.dat) (hz.vrs hr hv) R fun D' w' x hk hd hx => ?_
  let D2 : Da := fun c => match D c with
    | some y => some y
    | none => match shut φ D H.get w c with
      | some _ => none
      | none => D' c
  have e1 : ∀ c x, D c = some x → D2 c = some x := fun c x hc => by simp only [D2, hc]
  have e2 : ∀ c x, D2 c = some x → D' c = some x := by
    intro c x hc
    simp only [D2] at hc
    split at hc
    · rename_i y hy; injection hc with hc; subst hc; exact hk.dat c _ (shut_le c _ hy)
    · split at hc
      · cases hc
      · exact hc
  have e3 : ∀ c, D2 c ≠ none → D c ≠ none ∨ w.heap.size ≤ c := by
    intro c hc
    simp only [D2] at hc
    split at hc
    · rename_i y hy; exact .inl (by rw [hy]; simp)
    · split at hc
      · exact absurd rfl hc
      · rename_i hs
        rcases hk.dnew c hc with h | h
        · exact absurd hs h
        · exact .inr h
  refine hR φ D2 w' x ⟨Nat.le_refl _, fun _ _ h => h, fun _ a b => absurd a b, e1, hk.size, fun c hc _ => hk.keep c hc, fun b p hb hp => .inr ⟨b, p, hb, hp, rfl⟩, fun c hc => (e3 c hc).elim .inl fun h => .inr (.inl h), fun _ h => .inl h, hk.os, hk.out⟩ ?_ (hf.out hx)
  refine ⟨fun b k hb => ?_, hr.inj, fun b p hb hp => ?_, fun c x hc => hd c x (e2 c x hc)⟩
  · obtain ⟨p, hp, hl, hk'⟩ := hr.blk b k hb
    exact ⟨p, hp, Nat.lt_of_lt_of_le hl hk.size, hk'.mono (fun _ _ h => h) e1 (hk.keep _ hl)⟩
  · cases hD : D2 p.1 with
    | none => rfl
    | some x =>
      rcases e3 p.1 (by rw [hD]; simp) with h1 | h1
      · exact absurd (hr.sep b p hb hp) h1
      · cases hx : H.get b with
        | none => exact absurd hx hb
        | some k => have := (hr.block hx hp).1; omega
theorem FnPure.callF {g : FuncId} {args args' : List AV} {v : AV} (h : FnPure P g args' v) (hf : Flat v) {H : Hp} (n : Nat) (hz : FrzL H.get args args') : CallR P g args H n (fun u K k => u = v ∧ K = H ∧ k = n) :=
  ⟨h.body, fun φ D w xs hr hv _ R hR => h.callG hf n hz φ D w xs hr hv R fun φ' D' w' x e r k => hR v H n φ' D' w' x ⟨rfl, rfl, rfl⟩ e r k⟩
theorem FnPure.callFOk {g : FuncId} {args args' : List AV} {v : AV} (h : FnPure P g args' v) (hf : Flat v) {H : Hp} (n : Nat) (hz : FrzL H.get args args') : CallOk P g args H n v H n :=
  ⟨h.body, Nat.le_refl _, fun φ D w xs hr hv _ R hR => h.callG hf n hz φ D w xs hr hv R hR⟩

end
end Go.Abs
