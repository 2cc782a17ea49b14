/- The abstract machine: what its runs say of the code: operations in a row. -/
import Derived.Test.YtfjkegbmlagleaaGreatAbsJ
import Derived.RangeFuncRecord
namespace Go.Abs

def FW (r : Option Nat) : Fence := { fn := fun _ => True, depth := none, alive := false, round := r }
def exitOf : AOut → Exit
  | .normal => .normal
  | .exit i => .exit i
  | .ret => .ret
def MarksR (φ : Ph) : List Nat → List Deferred → Prop
  | [], ds => ds = []
  | m :: ms, ds => ∃ cb co cz r, φ m = some (cb, co, cz) ∧ ds = { target := .collected cb, args := #[] } :: r ∧ MarksR φ ms r

abbrev QT := Exit → Act → World → Prop

structure St (nt : Nat) (φ : Ph) (D : Da) (F : Fr) (H : Hp) (m : List Nat) (a : Act) (w : World) : Prop where
  rel : Rel φ D H.get w
  fr : FR φ D F.get a.tmps
  sz : a.tmps.size = nt
  mar : MarksR φ m a.defers

def Sound (nt : Nat) (run : QT → Act → World → Prop) (f : Fr → Hp → Nat → List Nat → Res) : Prop :=
  ∀ F H n m o F' H' n' m', f F H n m = .mk o F' H' n' m' → n ≤ n' ∧ ∀ φ D a w, St nt φ D F H m a w → Fresh φ n n' →
    ∀ Q : QT, (∀ φ' D' a' w', Ext φ D H.get w n φ' D' H'.get w' n' → St nt φ' D' F' H' m' a' w' → Q (exitOf o) a' w') → run Q a w

structure CeOk (P : Program) (ce : Ce) : Prop where
  call : ∀ g args H n v H' n', ce.call g args H n = .mk v H' n' → (∃ fn b, P.funcs[g]? = some fn ∧ fn.body = some b ∧ (fn.name == "runtime.NumGoroutine") = false) ∧ n ≤ n' ∧
    ∀ φ D w xs, Rel φ D H.get w → VRs φ D args xs → Fresh φ n n' → ∀ R : Ending → World → Prop,
      (∀ φ' D' w' x, Ext φ D H.get w n φ' D' H'.get w' n' → Rel φ' D' H'.get w' → VR φ' D' v x → R (.returned x) w') → CallsIn Fence.wide 0 P g ⟨xs⟩ w R
  code : ∀ nt c F H n o F' H' n' m', ce.code nt c F H n = .mk o F' H' n' m' → n ≤ n' ∧ ∀ l φ D a w, St nt φ D F H [] a w → Fresh φ n n' →
    ∀ Q : QT, (∀ φ' D' a' w', Ext φ D H.get w n φ' D' H'.get w' n' → St nt φ' D' F' H' m' a' w' → Q (exitOf o) a' w') → c.wpIn (FW (some l)) 0 P Q a w

theorem MarksR.mono {φ φ' : Ph} (hφ : ∀ b x, φ b = some x → φ' b = some x) : ∀ {m ds}, MarksR φ m ds → MarksR φ' m ds
  | [], _, h => h
  | _ :: _, _, ⟨cb, co, cz, r, h1, h2, h3⟩ => ⟨cb, co, cz, r, hφ _ _ h1, h2, MarksR.mono hφ h3⟩

theorem room_FW {r : Option Nat} (k : Nat) : (FW r).room k := fun _ h => by simp [FW] at h
theorem callsIn_FW {r : Option Nat} {n : Nat} {P : Program} {f : FuncId} {args : Array Value} {w : World} {R : Ending → World → Prop} (h : CallsIn Fence.wide 0 P f args w R) : CallsIn (FW r) n P f args w R :=
  ⟨trivial, fun cs _ => h.2 cs (room_wide _)⟩

section
variable {P : Program} {ce : Ce} {nt : Nat} {r : Option Nat}

/-- where a result goes -/
def PdOk (nt : Nat) (dst : Option Tmp) (pd : Pd) : Prop := ∀ v F φ D (a : Act) cv, FR φ D F.get a.tmps → a.tmps.size = nt → VR φ D v cv →
  FR φ D (pd.f v F).get (a.put dst cv).tmps ∧ (a.put dst cv).tmps.size = nt
theorem put_defers (a : Act) (dst : Option Tmp) (cv : Value) : (a.put dst cv).defers = a.defers := by cases dst <;> rfl
theorem compPd_ok {dst : Option Tmp} {pd : Pd} (h : compPd nt dst = some pd) : PdOk nt dst pd := by
  intro v F φ D a cv hF hs hv
  unfold compPd at h
  split at h
  · injection h with h; subst h; exact ⟨hF, hs⟩
  · rename_i d
    split at h
    · rename_i hd
      injection h with h; subst h
      refine ⟨?_, by simp [Act.put, hs]⟩
      intro t u hu
      dsimp only at hu
      rw [Tr.get_putK _ _ _ _ _ (Nat.lt_succ_self d)] at hu
      by_cases e : t = d
      · subst e
        rw [if_pos rfl] at hu; injection hu with hu; subst hu
        exact ⟨cv, by simp [Act.put, hs, hd], hv⟩
      · rw [if_neg e] at hu
        obtain ⟨x, hx, hvx⟩ := hF t u hu
        exact ⟨x, by simp only [Act.put]; rw [Array.getElem?_setIfInBounds_ne (Ne.symm e)]; exact hx, hvx⟩
    · cases h

/-- the heap that an effect leaves, by its functions -/
theorem outH_val (H : Hp) (n : Nat) (v : AV) : outH (.val v) H.get n = H.get := rfl
theorem outH_new (H : Hp) (n : Nat) (v : AV) (k : ABlk) : outH (.new v k) H.get n = (H.put n (some k)).get := by
  funext b; simp only [outH, Hf.set, Tr.get_put]
theorem outH_upd (H : Hp) (n : Nat) (v : AV) (b : Nat) (k : ABlk) : outH (.upd v b k) H.get n = (H.put b (some k)).get := by
  funext c; simp only [outH, Hf.set, Tr.get_put]
theorem outH_mv (H : Hp) (n : Nat) (v : AV) (b : Nat) (k : ABlk) : outH (.mv v b k) H.get n = ((H.put b none).put n (some k)).get := by
  funext c; simp only [outH, Hf.set, Tr.get_put]

/-- no call and no 'defer' -/
def quietOp : Op → Bool
  | .defer _ => false
  | _ => true
theorem semAt_quiet {o : Oper} (h : quietOp o.op = true) (ro : Option Nat) (ρ : Operand → Value) : o.semAt ro ρ = execOp ρ o :=
  Oper.semAt_eq ro ρ o fun c hc => by rw [hc] at h; cases h
theorem compOp_quiet {o : Oper} {e : Eff} (h : compOp P o = some e) : quietOp o.op = true := by
  cases ho : o.op <;> first | rfl | skip
  unfold compOp at h
  rw [ho] at h
  cases h

variable {ops : Array Oper} {rest : List Nat}

/-- one operation whose effect is known at this place, and on -/
theorem op_step {o : Oper} {e : Eff} {pd : Pd} {next : K} (hq : quietOp o.op = true) (hpd : PdOk nt o.dst pd)
    (hnext : Sound nt (fun Q a w => wpOpsIn (FW r) 0 P ops Q rest a w) (next.f ce)) {F : Fr} {H : Hp} {n : Nat} {m : List Nat} {ou : AOut} {F' : Fr} {H' : Hp} {n' : Nat} {m' : List Nat} (hk : (opK pd e next).f ce F H n m = .mk ou F' H' n' m') :
    n ≤ n' ∧ e F H n ≠ .fail ∧ ∀ φ D a w, St nt φ D F H m a w → Fresh φ n n' → (Fresh φ n (outN (e F H n) n) → Does P (execOp a.eval o) φ D H.get w n (e F H n)) → ∀ Q : QT, (∀ φ' D' a' w', Ext φ D H.get w n φ' D' H'.get w' n' → St nt φ' D' F' H' m' a' w' → Q (exitOf ou) a' w') →
      o.wpIn (FW r) 0 P a w (wpOpsIn (FW r) 0 P ops Q rest) Q := by
  have key : ∀ (v : AV) (H1 : Hp) (n1 : Nat) (rr : ERes), e F H n = rr → rr ≠ .fail → outV rr = v → outH rr H.get n = H1.get → outN rr n = n1 → n ≤ n1 → next.f ce (pd.f v F) H1 n1 m = .mk ou F' H' n' m' →
      n ≤ n' ∧ e F H n ≠ .fail ∧ ∀ φ D a w, St nt φ D F H m a w → Fresh φ n n' → (Fresh φ n (outN (e F H n) n) → Does P (execOp a.eval o) φ D H.get w n (e F H n)) → ∀ Q : QT, (∀ φ' D' a' w', Ext φ D H.get w n φ' D' H'.get w' n' → St nt φ' D' F' H' m' a' w' → Q (exitOf ou) a' w') →
        o.wpIn (FW r) 0 P a w (wpOpsIn (FW r) 0 P ops Q rest) Q := by
    intro v H1 n1 rr her hne hv hH hn hle hk1
    obtain ⟨hn1, hs⟩ := hnext _ _ _ _ _ _ _ _ _ hk1
    refine ⟨by omega, by rw [her]; exact hne, fun φ D a w st hf hd Q hQ => ?_⟩
    have hd := hd (by rw [her, hn]; exact hf.left hn1)
    rw [her] at hd
    obtain ⟨nx, cv, φ1, w1, hrun, hnx, hext, hrel, hvr⟩ := hd
    rw [hH] at hext hrel
    rw [hn] at hext
    rw [hv] at hvr
    have hfr := hpd v F φ1 D a cv (st.fr.mono hext.phi (fun _ _ h => h)) st.sz hvr
    have hst : St nt φ1 D (pd.f v F) H1 m (a.put o.dst cv) w1 := ⟨hrel, hfr.1, hfr.2, by rw [put_defers]; exact st.mar.mono hext.phi⟩
    have hgo := hs φ1 D (a.put o.dst cv) w1 hst (hf.step hext) Q fun φ' D' a' w' hx hst' => hQ φ' D' a' w' (hext.trans hx) hst'
    refine ⟨fun _ _ => trivial, ?_⟩
    rw [semAt_quiet hq, hrun]
    cases hnx with
    | value => exact hgo
    | skip => exact hgo
  unfold opK at hk
  dsimp only at hk
  cases her : e F H n with
  | fail => rw [her] at hk; cases hk
  | val v => rw [her] at hk; rw [her] at key; exact key v H n _ rfl (by simp) rfl rfl rfl (Nat.le_refl _) hk
  | new v k => rw [her] at hk; rw [her] at key; exact key v _ _ _ rfl (by simp) rfl (outH_new ..) rfl (Nat.le_succ n) hk
  | upd v b k => rw [her] at hk; rw [her] at key; exact key v _ _ _ rfl (by simp) rfl (outH_upd ..) rfl (Nat.le_refl _) hk
  | mv v b k => rw [her] at hk; rw [her] at key; exact key v _ _ _ rfl (by simp) rfl (outH_mv ..) rfl (Nat.le_succ n) hk
theorem opK_sound {o : Oper} {e : Eff} {pd : Pd} {next : K} (he : EffOk P o e) (hq : quietOp o.op = true) (hpd : PdOk nt o.dst pd)
    (hnext : Sound nt (fun Q a w => wpOpsIn (FW r) 0 P ops Q rest a w) (next.f ce)) :
    Sound nt (fun Q a w => o.wpIn (FW r) 0 P a w (wpOpsIn (FW r) 0 P ops Q rest) Q) ((opK pd e next).f ce) := by
  intro F H n m ou F' H' n' m' hk
  obtain ⟨h1, h2, h3⟩ := op_step hq hpd hnext hk
  exact ⟨h1, fun φ D a w st hf Q hQ => h3 φ D a w st hf (fun hf' => he F H n φ D a w st.rel st.fr hf' h2) Q hQ⟩

theorem putsF_ok {φ : Ph} {D : Da} : ∀ (ps : List Nat) (args : List AV) (xs : List Value) (F F1 : Fr) (tmps : Array Value), putsF nt ps args F = some F1 → VRs φ D args xs → FR φ D F.get tmps → tmps.size = nt →
    ps.length = xs.length ∧ FR φ D F1.get ((ps.zip xs).foldl (fun t (x : Nat × Value) => t.setIfInBounds x.1 x.2) tmps) ∧ ((ps.zip xs).foldl (fun t (x : Nat × Value) => t.setIfInBounds x.1 x.2) tmps).size = nt
  | [], [], xs, F, F1, tmps, h, hv, hF, hs => by
    cases hv
    simp only [putsF] at h; injection h with h; subst h
    exact ⟨rfl, hF, hs⟩
  | [], _ :: _, _, _, _, _, h, _, _, _ => by simp [putsF] at h
  | _ :: _, [], _, _, _, _, h, _, _, _ => by simp [putsF] at h
  | p :: ps, v :: vs, xs, F, F1, tmps, h, hv, hF, hs => by
    cases hv with
    | cons _ x _ xs h1 h2 =>
    simp only [putsF] at h
    split at h
    · rename_i hp
      have hp : p < nt := Nat.le_of_ble_eq_true hp
      have hF' : FR φ D (F.put p (some v)).get (tmps.setIfInBounds p x) := by
        intro t u hu
        rw [Tr.get_put] at hu
        split at hu
        · rename_i e; subst e; injection hu with hu; subst hu
          exact ⟨x, by simp [hs, hp], h1⟩
        · rename_i e
          obtain ⟨y, hy, hvy⟩ := hF t u hu
          exact ⟨y, by rw [Array.getElem?_setIfInBounds_ne (Ne.symm e)]; exact hy, hvy⟩
      obtain ⟨i1, i2, i3⟩ := putsF_ok ps vs xs (F.put p (some v)) F1 (tmps.setIfInBounds p x) h h2 hF' (by simp [hs])
      exact ⟨by simp [i1], by simpa using i2, by simpa using i3⟩
    · cases h

theorem hset_get (H : Hp) (b : Nat) (k : Option ABlk) : Hf.set H.get b k = (H.put b k).get := by funext c; simp only [Hf.set, Tr.get_put]

/-- a loop's record turns -/
theorem rel_loop {φ D} {H : Hp} {w : World} {n q cb co cz : Nat} {rr : Loop} {k : ABlk} (hr : Rel φ D H.get w) (hq : H.get q ≠ none) (hp : φ q = some (cb, co, cz)) 
    (hk : BlkR φ D (Go.World.putObj w cb (.loop rr)) (cb, co, cz) k) : Rel φ D (H.put q (some k)).get (Go.World.putObj w cb (.loop rr)) ∧ Ext φ D H.get w n φ D (H.put q (some k)).get (Go.World.putObj w cb (.loop rr)) n := by
  have := rel_upd (n := n) hr hq hp (Go.World.putObj w cb (.loop rr)) (fun c hc => Go.World.putObj_heap_other hc) Go.World.putObj_size rfl rfl hk
  rw [hset_get] at this
  exact this

theorem yieldK_sound {o : Oper} {c : Call} {pd : Pd} {as : List G} {next : K} {q : Nat} {vs : List AV} {F : Fr} {H : Hp} {n : Nat} {m : List Nat} {ou : AOut} {F' : Fr} {H' : Hp} {n' : Nat} {m' : List Nat} (ho : o.op = .call c) (has : opds c.args.toList = some as) (hev : evs F as = some vs) (hce : CeOk P ce) (hpd : PdOk nt o.dst pd)
    (hnext : Sound nt (fun Q a w => wpOpsIn (FW r) 0 P ops Q rest a w) (next.f ce)) (hk : (yieldK pd q vs next).f ce F H n m = .mk ou F' H' n' m') :
    n ≤ n' ∧ ∀ φ D a w, St nt φ D F H m a w → Fresh φ n n' → ∀ x, c.callee = .value x → VR φ D (.yld q) (a.eval x) → ∀ Q : QT, (∀ φ' D' a' w', Ext φ D H.get w n φ' D' H'.get w' n' → St nt φ' D' F' H' m' a' w' → Q (exitOf ou) a' w') →
      o.wpIn (FW r) 0 P a w (wpOpsIn (FW r) 0 P ops Q rest) Q := by
  unfold yieldK at hk
  dsimp only at hk
  split at hk
  · rename_i st0 j0 nt0 F0 ps ca cb' hq0
    split at hk
    · rename_i F1 hF1
      split at hk
      · rename_i F2 H2 n2 hc1
        obtain ⟨hn1, hs1⟩ := hce.code _ _ _ _ _ _ _ _ _ _ hc1
        split at hk
        · rename_i j2 nt2 G2 ps2 a2 b2 hq2
          split at hk
          · rename_i j F3 H3 n3 m3 hc2
            obtain ⟨hn2, hs2⟩ := hce.code _ _ _ _ _ _ _ _ _ _ hc2
            split at hk
            · rename_i st3 j3 nt3 G3 ps3 a3 b3 hq3
              -- the round's end, and on
              have fin : ∀ (b : Bool) (st : LoopState) (jj : AOut), next.f ce (pd.f (.bool b) F) (H3.put q (some (.loop st jj nt3 G3 ps3 a3 b3))) n3 m = .mk ou F' H' n' m' → (jumpCode jj).isNone = b → (st = if b then .ready else .done) → j = jj →
                  n ≤ n' ∧ ∀ φ D a w, St nt φ D F H m a w → Fresh φ n n' → ∀ x, c.callee = .value x → VR φ D (.yld q) (a.eval x) → ∀ Q : QT, (∀ φ' D' a' w', Ext φ D H.get w n φ' D' H'.get w' n' → St nt φ' D' F' H' m' a' w' → Q (exitOf ou) a' w') →
                    o.wpIn (FW r) 0 P a w (wpOpsIn (FW r) 0 P ops Q rest) Q := by
                intro b st jj hk1 hb hst hjj
                obtain ⟨hn3, hs3⟩ := hnext _ _ _ _ _ _ _ _ _ hk1
                refine ⟨by omega, fun φ D a w sta hf x hc hyl Q hQ => ?_⟩
                refine ⟨fun _ _ => trivial, ?_⟩
                generalize hxv : a.eval x = xv at hyl
                cases hyl with
                | yld _ cb co cz hp =>
                obtain ⟨_, rr, hr1, hr2, hr3, hr4, hr5, hr6, hr7, hr8⟩ := sta.rel.block hq0 hp
                have hr1 : w.heap[cb]? = some (.loop rr) := hr1
                have hargs := opds_sound has F φ D a sta.fr vs hev
                obtain ⟨p1, p2, p3⟩ := putsF_ok ps vs _ F0 F1 rr.tmps hF1 hargs hr5 hr4
                have hsz : (c.args.map a.eval).size = rr.params.size := by
                  have e1 : rr.params.size = ps.length := by rw [← hr6]; simp
                  rw [e1, p1]; simp
                have hrun : (o.semAt (FW r).round a.eval).run P w = .ok (.round cb rr.fn ((rr.params.zip (c.args.map a.eval)).foldl (fun tmps (t, a) => tmps.setIfInBounds t a) rr.tmps) rr.assign rr.body) w := by
                  rw [semAt_quiet (by rw [ho]; rfl)]
                  have hy := run_yield (P := P) (args := (#[] : Array Value) ++ Array.map a.eval c.args) hr1 (by simpa using hsz)
                  simp only [execOp, ho, resolve, hc, hxv, Deferred.ofValue, Sem.run_bind, Sem.run_pure, Result.andThen_ok, invoke, hy]
                  simp
                have hfold : (rr.params.zip (c.args.map a.eval)).foldl (fun tmps (t, a) => tmps.setIfInBounds t a) rr.tmps = ((ps.zip (c.args.toList.map a.eval)).foldl (fun t (x : Nat × Value) => t.setIfInBounds x.1 x.2) rr.tmps) := by
                  rw [← Array.foldl_toList, Array.toList_zip, hr6]; simp
                rw [hrun, hfold, hr7, hr8]
                refine ⟨fun h => by simp [FW] at h, roundIn_of_wpIn trivial ?_⟩
                refine hs1 cb φ D { tmps := _, defers := [] } w ⟨sta.rel, p2, p3, rfl⟩ (hf.left (by omega)) _ fun φ1 D1 a1 w1 e1 st1 => ?_
                have hp1 := e1.phi _ _ hp
                obtain ⟨hlt2, r2, hr21, hr22, hr23, hr24, hr25, hr26, hr27, hr28⟩ := st1.rel.block hq2 hp1
                have hr21 : w1.heap[cb]? = some (.loop r2) := hr21
                have hlt2 : cb < w1.heap.size := hlt2
                refine ⟨_, run_beginRound (P := P) hr21 hr22, ?_⟩
                obtain ⟨k1, k2⟩ := rel_loop (n := n2) (rr := { r2 with state := .busy }) (k := .loop .busy j2 nt2 G2 ps2 a2 b2) st1.rel (by rw [hq2]; simp) hp1 ⟨_, Go.World.putObj_heap_same hlt2, rfl, hr23, hr24, hr25, hr26, hr27, hr28⟩
                have f2 := (hf.step e1).step k2
                refine hs2 cb φ1 D1 a1 _ ⟨k1, st1.fr, st1.sz, ?_⟩ (f2.left (by omega)) _ fun φ2 D2 a2' w2 e2 st2 => ?_
                · exact st1.mar
                · have hp2 := e2.phi _ _ hp1
                  obtain ⟨hlt3, r3, hr31, hr32, hr33, hr34, hr35, hr36, hr37, hr38⟩ := st2.rel.block hq3 hp2
                  have hr31 : w2.heap[cb]? = some (.loop r3) := hr31
                  have hlt3 : cb < w2.heap.size := hlt3
                  have hend := run_endRound (P := P) (jumpCode jj) hr31
                  rw [hb, ← hst] at hend
                  obtain ⟨k3, k4⟩ := rel_loop (n := n3) (rr := { r3 with state := st, pending := jumpCode jj }) (k := .loop st jj nt3 G3 ps3 a3 b3) st2.rel (by rw [hq3]; simp) hp2 ⟨_, Go.World.putObj_heap_same hlt3, rfl, rfl, hr34, hr35, hr36, hr37, hr38⟩
                  have eall := ((e1.trans k2).trans e2).trans k4
                  have hfr := hpd (.bool b) F φ2 D2 a (.bool b) (sta.fr.mono eall.phi eall.dat) sta.sz (.bool _)
                  have hgo := hs3 φ2 D2 (a.put o.dst (.bool b)) _ ⟨k3, hfr.1, hfr.2, by rw [put_defers]; exact sta.mar.mono eall.phi⟩ (hf.step eall) Q fun φ' D' a' w' hx hst' => hQ φ' D' a' w' (eall.trans hx) hst'
                  subst hjj
                  cases j with
                  | normal => exact ⟨_, _, hend, hgo⟩
                  | exit i => exact ⟨_, _, hend, hgo⟩
                  | ret => exact ⟨_, _, hend, hgo⟩
              split at hk
              · exact fin true .ready .normal hk rfl rfl rfl
              · exact fin false .done (.exit _) hk rfl rfl rfl
              · exact fin false .done .ret hk rfl rfl rfl
            · cases hk
          · cases hk
        · cases hk
      · cases hk
    · cases hk
  · cases hk

/-- what a getter of a callee says -/
structure CalOk (P : Program) (c : Call) (g : G) : Prop where
  fn : ∀ (o : Oper) (a : Act) (F : Fr) (φ : Ph) (D : Da) (f : FuncId) (first cap : List AV), o.op = .call c → FR φ D F.get a.tmps → g.f F = some (.fn (.func f) first cap) → ∃ fl cl, VRs φ D first fl ∧ VRs φ D cap cl ∧
    ∀ fn b w, P.funcs[f]? = some fn → (fn.name == "runtime.NumGoroutine") = false → fn.body = some b → (execOp a.eval o).run P w = .ok (.enter f ⟨fl ++ (c.args.toList.map a.eval ++ cl)⟩) w
  yld : ∀ (a : Act) (F : Fr) (φ : Ph) (D : Da) (q : Nat), FR φ D F.get a.tmps → g.f F = some (.yld q) → ∃ x, c.callee = .value x ∧ VR φ D (.yld q) (a.eval x)
theorem CalOk.value {c : Call} {x : Operand} {g : G} (hc : c.callee = .value x) (hg : opd x = some g) : CalOk P c g := by
  refine ⟨fun o a F φ D f first cap ho hF hgv => ?_, fun a F φ D q hF hgv => ⟨x, hc, opd_sound hg F φ D a hF _ hgv⟩⟩
  have hgr := opd_sound hg F φ D a hF _ hgv
  cases hxv : a.eval x with
  | func ff fx cx =>
    rw [hxv] at hgr
    cases hgr with
    | fn _ _ _ fl cl h1 h2 =>
    refine ⟨fl, cl, h1, h2, fun fn b w hfn hname hb => ?_⟩
    have harr : (⟨fl⟩ : Array Value) ++ Array.map a.eval c.args ++ ⟨cl⟩ = ⟨fl ++ (c.args.toList.map a.eval ++ cl)⟩ := by apply Array.ext'; simp
    simp only [execOp, ho, resolve, hc, hxv, Deferred.ofValue, Sem.run_bind, Sem.run_pure, Result.andThen_ok, invoke, callFunc, run_program, hfn, hname, hb, harr]
    simp
  | _ => rw [hxv] at hgr; cases hgr
theorem methT_run {t : TypeId} {name : String} {f : FuncId} {v : Value} {w : World} {k : Nat} (h : methT P t name = some f) : (method (k + 1) t v name).run P w = .ok (f, v) w := by
  unfold methT at h
  split at h
  · rename_i ti hi
    split at h
    · rename_i m hm
      split at h
      · rename_i hp
        split at h
        · rename_i f' pr hf
          unfold method
          simp only [Sem.run_bind, run_typeInfo w hi, Result.andThen_ok, hm, Sem.run_pure, hp, follow, hf]
          split at h
          · rename_i e hu
            cases pr with
            | false => simp at h
            | true =>
              have h : some f' = some f := h
              injection h with h; subst h
              unfold receiverAt
              simp [run_underlying hu, Place.get]
          · rename_i d hu hd
            cases pr with
            | true => cases h
            | false =>
              have h : some f' = some f := h
              injection h with h; subst h
              unfold receiverAt
              simp only [Sem.run_bind, run_underlying hd, Result.andThen_ok]
              cases d <;> first | (simp [Place.get]; done) | (exact absurd rfl (hu _))
          · cases h
        · cases h
      · cases h
    · cases h
  · cases h
theorem CalOk.invoke {c : Call} {x : Operand} {name : String} {g : G} (hc : c.callee = .invoke x name) (hg : opd x = some g) : CalOk P c (invG P name g) := by
  refine ⟨fun o a F φ D f first cap ho hF hgv => ?_, fun a F φ D q hF hgv => ?_⟩
  · simp only [invG] at hgv
    split at hgv
    · rename_i t v hgx
      split at hgv
      · rename_i f' hm
        injection hgv with hgv; injection hgv with e1 e2 e3
        injection e1 with e1
        subst e1 e2 e3
        have hgr := opd_sound hg F φ D a hF _ hgx
        generalize hxv : a.eval x = xv at hgr
        cases hgr with
        | ifc _ _ y hy =>
        refine ⟨[y], [], .cons _ _ _ _ hy .nil, .nil, fun fn b w hfn hname hb => ?_⟩
        have hrun : (method (P.types.size + Made.depth) t y name).run P w = .ok (f', y) w := by
          rw [show P.types.size + Made.depth = (P.types.size + 99) + 1 from rfl]
          exact methT_run hm
        have harr : (#[Value.iface t y] ++ Array.map a.eval c.args)[0]? = some (.iface t y) := by
          rw [Array.getElem?_append_left (Nat.zero_lt_one)]; rfl
        have harr2 : #[y] ++ (#[Value.iface t y] ++ Array.map a.eval c.args).extract 1 (#[Value.iface t y] ++ Array.map a.eval c.args).size = ⟨y :: (c.args.toList.map a.eval)⟩ := by
          apply Array.ext'; simp [List.extract]
          exact List.take_of_length_le (by simp)
        simp only [execOp, ho, resolve, hc, hxv, Sem.run_bind, Sem.run_pure, Result.andThen_ok, Go.invoke, harr, callMethod, run_program, hrun, harr2, callFunc, hfn, hname, hb]
        simp
      · cases hgv
    · cases hgv
  · simp only [invG] at hgv
    split at hgv
    · split at hgv <;> cases hgv
    · cases hgv

theorem callK_sound {o : Oper} {c : Call} {pd : Pd} {g : G} {as : List G} {next : K} (ho : o.op = .call c) (hg : CalOk P c g) (has : opds c.args.toList = some as) (hce : CeOk P ce) (hpd : PdOk nt o.dst pd)
    (hnext : Sound nt (fun Q a w => wpOpsIn (FW r) 0 P ops Q rest a w) (next.f ce)) :
    Sound nt (fun Q a w => o.wpIn (FW r) 0 P a w (wpOpsIn (FW r) 0 P ops Q rest) Q) ((callK pd g as next).f ce) := by
  intro F H n m ou F' H' n' m' hk
  unfold callK at hk
  dsimp only at hk
  cases hgv : g.f F with
  | none => rw [hgv] at hk; cases hk
  | some fv =>
    rw [hgv] at hk
    split at hk
    · rename_i f first cap hfv
      injection hfv with hfv; subst hfv
      cases hev : evs F as with
      | none => rw [hev] at hk; cases hk
      | some vs =>
        rw [hev] at hk
        dsimp only at hk
        cases hcall : ce.call f (first ++ (vs ++ cap)) H n with
        | fail => rw [hcall] at hk; cases hk
        | mk v H1 n1 =>
          rw [hcall] at hk
          dsimp only at hk
          obtain ⟨⟨fn, b, hfn, hb, hname⟩, hn1, hcs⟩ := hce.call _ _ _ _ _ _ _ hcall
          obtain ⟨hn2, hs⟩ := hnext _ _ _ _ _ _ _ _ _ hk
          refine ⟨by omega, fun φ D a w st hf Q hQ => ?_⟩
          refine ⟨fun _ _ => trivial, ?_⟩
          obtain ⟨fl, cl, h1, h2, hrun0⟩ := hg.fn o a F φ D f first cap ho st.fr hgv
          have h3 := opds_sound has F φ D a st.fr vs hev
          have hrun : (o.semAt (FW r).round a.eval).run P w = .ok (.enter f ⟨fl ++ (c.args.toList.map a.eval ++ cl)⟩) w := by
            rw [semAt_quiet (by rw [ho]; rfl)]
            exact hrun0 fn b w hfn hname hb
          rw [hrun]
          refine ⟨fun h => by simp [FW] at h, callsIn_FW (hcs φ D w _ st.rel (h1.append (h3.append h2)) (hf.left hn2) _ fun φ1 D1 w1 cv hext hrel hvr => ?_)⟩
          have hfr := hpd v F φ1 D1 a cv (st.fr.mono hext.phi hext.dat) st.sz hvr
          exact hs φ1 D1 (a.put o.dst cv) w1 ⟨hrel, hfr.1, hfr.2, by rw [put_defers]; exact st.mar.mono hext.phi⟩ (hf.step hext) Q fun φ' D' a' w' hx hst' => hQ φ' D' a' w' (hext.trans hx) hst'
    · rename_i q hfv
      injection hfv with hfv; subst hfv
      cases hev : evs F as with
      | none => rw [hev] at hk; cases hk
      | some vs =>
        rw [hev] at hk
        obtain ⟨h1, h2⟩ := yieldK_sound ho has hev hce hpd hnext hk
        refine ⟨h1, fun φ D a w st hf Q hQ => ?_⟩
        obtain ⟨x, hc, hy⟩ := hg.yld a F φ D q st.fr hgv
        exact h2 φ D a w st hf x hc hy Q hQ
    · cases hk

theorem vr_bool {φ : Ph} {D : Da} {v : AV} {b : Bool} (h : VR φ D v (.bool b)) : v = .bool b := by
  cases h with
  | bool => rfl
  | cst _ ha => cases ha

end
end Go.Abs
