/- The abstract machine: what its runs say of the code: regions, control. -/
import Derived.Test.YtfjkegbmlagleaaGreatAbsDb
import Derived.Test.YtfjkegbmlagleaaGreatAbsMt
import Derived.Scope
import Derived.LoopNIn
namespace Go.Abs
section
variable {P : Program} {ce : Ce} {nt : Nat} {r : Option Nat} {ops : Array Oper} {rest : List Nat}

theorem compIn_sound {o : Oper} {pd : Pd} {next : K} (hce : CeOk P ce) (hpd : PdOk nt o.dst pd) (hnext : Sound nt (fun Q a w => wpOpsIn (FW r) 0 P ops Q rest a w) (next.f ce)) :
    Sound nt (fun Q a w => o.wpIn (FW r) 0 P a w (wpOpsIn (FW r) 0 P ops Q rest) Q) ((compIn P pd o next).f ce) := by
  unfold compIn
  split
  · rename_i f args tys ho
    split
    · rename_i e he
      exact opK_sound (op_sound he) (compOp_quiet he) hpd hnext
    · split
      · rename_i g as hg has
        exact callK_sound ho (.value rfl hg) has hce hpd hnext
      · intro F H n m ou F' H' n' m' hk; cases hk
  · rename_i x name args tys ho
    split
    · rename_i g as hg has
      exact callK_sound ho (.invoke rfl hg) has hce hpd hnext
    · intro F H n m ou F' H' n' m' hk; cases hk
  · split
    · rename_i e he
      exact opK_sound (op_sound he) (compOp_quiet he) hpd hnext
    · intro F H n m ou F' H' n' m' hk; cases hk

theorem nopK_sound {o : Oper} {pd : Pd} {next : K} (hpd : PdOk nt o.dst pd) (hnext : Sound nt (fun Q a w => wpOpsIn (FW r) 0 P ops Q rest a w) (next.f ce)) :
    Sound nt (fun Q a w => wpOpsIn (FW r) 0 P ops Q rest (a.put o.dst undef) w) ((nopK pd next).f ce) := by
  intro F H n m ou F' H' n' m' hk
  obtain ⟨hn, hs⟩ := hnext _ _ _ _ _ _ _ _ _ hk
  refine ⟨hn, fun φ D a w st hf Q hQ => ?_⟩
  have hfr := hpd (.tup []) F φ D a undef st.fr st.sz (.tup _ _ .nil)
  exact hs φ D (a.put o.dst undef) w ⟨st.rel, hfr.1, hfr.2, by rw [put_defers]; exact st.mar⟩ hf Q hQ

theorem compOne_sound {i : Nat} {o : Oper} {next : K} (ho : ops[i]? = some o) (hce : CeOk P ce) (hnext : Sound nt (fun Q a w => wpOpsIn (FW r) 0 P ops Q rest a w) (next.f ce)) :
    Sound nt (fun Q a w => wpOpsIn (FW r) 0 P ops Q (i :: rest) a w) ((compOne P nt ops o next).f ce) := by
  unfold compOne
  split
  · intro F H n m ou F' H' n' m' hk; cases hk
  · rename_i pd hpd
    have hpd := compPd_ok hpd
    have h1 := compIn_sound (r := r) (ops := ops) (rest := rest) hce hpd hnext
    have h2 := nopK_sound (r := r) (ops := ops) (rest := rest) hpd hnext
    split
    · rename_i hgd
      intro F H n m ou F' H' n' m' hk
      obtain ⟨hn, hs⟩ := h1 _ _ _ _ _ _ _ _ _ hk
      refine ⟨hn, fun φ D a w st hf Q hQ => ?_⟩
      simp only [wpOpsIn, ho, Region.wanted, hgd, if_true]
      exact hs φ D a w st hf Q hQ
    · rename_i j b hgd
      split
      · rename_i d hd
        intro F H n m ou F' H' n' m' hk
        unfold guardK at hk
        dsimp only at hk
        -- what the guard tells
        have tell : ∀ φ D (a : Act), FR φ D F.get a.tmps → ∀ v, (slotG d).f F = some v → (∀ c, v = .bool c → yielded ops a.tmps j = some c) ∧ ((∀ c, v ≠ .bool c) → yielded ops a.tmps j = none) := by
          intro φ D a hF v hv
          rw [slotG_eq] at hv
          obtain ⟨x, hx, hvx⟩ := hF d v hv
          unfold yielded
          rw [hd]
          simp only [Option.bind_some, hx]
          refine ⟨fun c hc => ?_, fun hc => ?_⟩
          · subst hc; cases hvx; rfl
          · cases x <;> first | rfl | exact absurd (vr_bool hvx) (hc _)
        split at hk
        · rename_i c hv
          cases hcb : c == b with
          | true =>
            rw [hcb] at hk
            obtain ⟨hn, hs⟩ := h1 _ _ _ _ _ _ _ _ _ hk
            refine ⟨hn, fun φ D a w st hf Q hQ => ?_⟩
            have hy := (tell φ D a st.fr _ hv).1 c rfl
            simp only [wpOpsIn, ho, Region.wanted, hgd, hy]
            rw [if_pos (by simpa using hcb)]
            exact hs φ D a w st hf Q hQ
          | false =>
            rw [hcb] at hk
            obtain ⟨hn, hs⟩ := h2 _ _ _ _ _ _ _ _ _ hk
            refine ⟨hn, fun φ D a w st hf Q hQ => ?_⟩
            have hy := (tell φ D a st.fr _ hv).1 c rfl
            simp only [wpOpsIn, ho, Region.wanted, hgd, hy]
            rw [if_neg (by simpa using hcb)]
            exact ⟨fun _ _ => trivial, hs φ D a w st hf Q hQ⟩
        · rename_i v hnb hv
          obtain ⟨hn, hs⟩ := h2 _ _ _ _ _ _ _ _ _ hk
          refine ⟨hn, fun φ D a w st hf Q hQ => ?_⟩
          have hy := (tell φ D a st.fr _ hv).2 (fun c hc => hnb c hc)
          simp only [wpOpsIn, ho, Region.wanted, hgd, hy]
          rw [if_neg (by simp)]
          exact ⟨fun _ _ => trivial, hs φ D a w st hf Q hQ⟩
        · cases hk
      · intro F H n m ou F' H' n' m' hk; cases hk

theorem endK_sound {run : QT → Act → World → Prop} (hrun : ∀ Q a w, Q .normal a w → run Q a w) : Sound nt run (endK.f ce) := by
  intro F H n m ou F' H' n' m' hk
  cases hk
  exact ⟨Nat.le_refl _, fun φ D a w st hf Q hQ => hrun Q a w (hQ φ D a w (Ext.refl ..) st)⟩

theorem compOps_sound (hce : CeOk P ce) : ∀ (l : List Oper) (i : Nat), ops.toList.drop i = l → Sound nt (fun Q a w => wpOpsIn (FW r) 0 P ops Q (List.range' i l.length) a w) ((compOps P nt ops l).f ce)
  | [], i, _ => endK_sound fun Q a w h => h
  | o :: l, i, h => by
    have hi : ops.toList[i]? = some o := by
      have := congrArg (fun (x : List Oper) => x[0]?) h
      simpa [List.getElem?_drop] using this
    have hl : ops.toList.drop (i + 1) = l := by
      have := congrArg (fun (x : List Oper) => x.drop 1) h
      simpa [List.drop_drop] using this
    exact compOne_sound (by simpa using hi) hce (compOps_sound hce l (i + 1) hl)

theorem loopN_sound {b : K} {c : Code} (ib : Sound nt (fun Q a w => c.wpIn (FW r) 0 P Q a w) (b.f ce)) : ∀ k, Sound nt (fun Q a w => Code.roundsIn (FW r) 0 P c Q k a w) (loopN b ce k)
  | 0 => by intro F H n m ou F' H' n' m' hk; cases hk
  | k + 1 => by
    have ih := loopN_sound ib k
    intro F H n m ou F' H' n' m' hk
    replace hk : (match b.f ce F H n m with
      | .mk .normal F' H' n' m' => loopN b ce k F' H' n' m'
      | r => r) = Res.mk ou F' H' n' m' := hk
    split at hk
    · rename_i F1 H1 n1 m1 hx
      obtain ⟨hn1, hs1⟩ := ib _ _ _ _ _ _ _ _ _ hx
      obtain ⟨hn2, hs2⟩ := ih _ _ _ _ _ _ _ _ _ hk
      refine ⟨by omega, fun φ D a w st hf Q hQ => ?_⟩
      show Code.roundsIn (FW r) 0 P c Q (k + 1) a w
      rw [roundsIn_succ]
      refine hs1 φ D a w st (hf.left hn2) _ fun φ1 D1 a1 w1 hext st1 => ?_
      exact hs2 φ1 D1 a1 w1 st1 (hf.step hext) Q fun φ2 D2 a2 w2 hx2 st2 => hQ φ2 D2 a2 w2 (hext.trans hx2) st2
    · rename_i hne
      obtain ⟨hn1, hs1⟩ := ib _ _ _ _ _ _ _ _ _ hk
      refine ⟨hn1, fun φ D a w st hf Q hQ => ?_⟩
      show Code.roundsIn (FW r) 0 P c Q (k + 1) a w
      rw [roundsIn_succ]
      refine hs1 φ D a w st hf _ fun φ1 D1 a1 w1 hext st1 => ?_
      have := hQ φ1 D1 a1 w1 hext st1
      cases ou with
      | normal => exact absurd hk (hne _ _ _ _)
      | exit i => exact this
      | ret => exact this

/-- A BLOCK IS SHUT and forgotten. -/
theorem rel_drop {φ D h w n b p} (hr : Rel φ D h w) (hb : h b ≠ none) (hp : φ b = some p) (w' : World)
    (hw : ∀ c, c ≠ p.1 → w'.heap[c]? = w.heap[c]?) (hs : w'.heap.size = w.heap.size) (hos : w'.os = w.os) (hout : w'.output = w.output) :
    Rel φ D (h.set b none) w' ∧ Ext φ D h w n φ D (h.set b none) w' n := by
  have hl : ∀ c, (h.set b none) c ≠ none → c ≠ b ∧ h c ≠ none := by
    intro c; unfold Hf.set; by_cases e : c = b <;> simp [e]
  refine ⟨⟨?_, fun c d q r hc hd => hr.inj c d q r (hl c hc).2 (hl d hd).2, fun c q hc => hr.sep c q (hl c hc).2, ?_⟩,
    ⟨Nat.le_refl _, fun _ _ h => h, fun _ a c => absurd a c, fun _ _ h => h, by omega, ?_, fun c q hc hq => .inr ⟨c, q, (hl c hc).2, hq, rfl⟩, fun _ h => .inl h, fun c hc => .inl (hl c hc).2, hos, hout⟩⟩
  · intro c k hc
    have hcb := (hl c (by rw [hc]; simp)).1
    have hc' : h c = some k := by unfold Hf.set at hc; rw [if_neg hcb] at hc; exact hc
    obtain ⟨q, hq, hlt, hk⟩ := hr.blk c k hc'
    exact ⟨q, hq, by omega, hk.mono (fun _ _ h => h) (fun _ _ h => h) (hw _ fun e' => hcb (hr.inj c b q p (by simp [hc']) hb hq hp e'))⟩
  · intro c x hx
    obtain ⟨e, fr, hh⟩ := hr.dat c x hx
    refine ⟨e, fr, (hw c fun e' => ?_).trans hh⟩
    have := hr.sep b p hb hp
    rw [← e', hx] at this; cases this
  · intro c _ hn; exact hw c fun e => hn b p hb hp e.symm

theorem World.newObj_get (w : World) (o : Obj) : (World.newObj w o).heap[w.heap.size]? = some o := by
  show (w.heap.push o)[w.heap.size]? = some o
  simp
theorem rangeK_sound {g : Operand} {x : G} {ps : Array Tmp} {ca cb : Code} (hce : CeOk P ce) (hg : opd g = some x) : Sound nt (fun Q a w => (Code.rangeFunc g ps ca cb).wpIn (FW none) 0 P Q a w) ((rangeK nt x ps.toList ca cb).f ce) := by
  intro F H n m ou F' H' n' m' hk
  unfold rangeK at hk
  dsimp only at hk
  split at hk
  · rename_i f first cap hx
    split at hk
    · rename_i v H1 n1 hcall
      obtain ⟨⟨fn, b, hfn, hb, hname⟩, hn1, hcs⟩ := hce.call _ _ _ _ _ _ _ hcall
      have hn1 : n + 2 ≤ n1 := hn1
      have fin : ∀ (st : LoopState) (j : AOut) nt3 G3 ps3 a3 b3, H1.get n = some (.loop st j nt3 G3 ps3 a3 b3) → st ≠ .busy → Res.mk j F (H1.put n none) n1 (Nat.succ n :: m) = .mk ou F' H' n' m' →
          n ≤ n' ∧ ∀ φ D a w, St nt φ D F H m a w → Fresh φ n n' → ∀ Q : QT, (∀ φ' D' a' w', Ext φ D H.get w n φ' D' H'.get w' n' → St nt φ' D' F' H' m' a' w' → Q (exitOf ou) a' w') → (Code.rangeFunc g ps ca cb).wpIn (FW none) 0 P Q a w := by
        intro st j nt3 G3 ps3 a3 b3 hq hst he
        cases he
        refine ⟨by omega, fun φ D a w sta hf Q hQ => wpIn_rangeFunc fun fid _ => ?_⟩
        have hgr := opd_sound hg F φ D a sta.fr _ hx
        cases hxv : a.eval g with
        | func ff fx cx =>
          rw [hxv] at hgr
          cases hgr with
          | fn _ _ _ fl cl h1 h2 =>
          -- the block for deferred calls, then the record
          obtain ⟨r1, e1⟩ := rel_new (n := n + 1) sta.rel (fun b hb1 hb2 => hf b (by omega) (by omega)) (.deferred (some [])) 0 .defd (World.newObj_get w _)
          rw [hset_get] at r1 e1
          let w1 := World.newObj w (.deferred (some []))
          let φ1 := Ph.set φ (n + 1) (w.heap.size, 0, 0)
          have hf1 : Fresh φ1 n (n + 1) := by
            intro b hb1 hb2
            have : b ≠ n + 1 := by omega
            simp only [φ1, Ph.set, this, if_false]
            exact hf b (by omega) (by omega)
          obtain ⟨r2, e2⟩ := rel_new (n := n) r1 hf1 (.loop { state := .ready, pending := none, fn := fid, tmps := a.tmps, params := ps, assign := ca, body := cb, defers := w.heap.size }) 0 (.loop .ready .normal nt F ps.toList ca cb)
            ⟨_, World.newObj_get w1 _, rfl, rfl, sta.sz, (sta.fr.mono e1.phi (fun _ _ h => h)).mono (Ph.set_mono (hf1 n (Nat.le_refl _) (by omega))) (fun _ _ h => h), rfl, rfl, rfl⟩
          rw [hset_get] at r2 e2
          let w2 := World.newObj w1 (.loop { state := .ready, pending := none, fn := fid, tmps := a.tmps, params := ps, assign := ca, body := cb, defers := w.heap.size })
          let φ2 := Ph.set φ1 n (w1.heap.size, 0, 0)
          have e12 : Ext φ D H.get w n φ2 D ((H.put (n + 1) (some .defd)).put n (some (.loop .ready .normal nt F ps.toList ca cb))).get w2 (n + 2) :=
            (e1.wide (Nat.le_succ n) (Nat.le_refl _)).join (e2.wide (Nat.le_refl _) (by omega))
          have hsz1 : w1.heap.size = w.heap.size + 1 := by simp [w1, World.newObj]
          have hφn : φ2 n = some (w.heap.size + 1, 0, 0) := by simp only [φ2, Ph.set, if_true, hsz1]
          have hφm : φ2 (n + 1) = some (w.heap.size, 0, 0) := e2.phi _ _ (by simp [Ph.set])
          refine ⟨w.heap.size + 1, [{ target := .collected w.heap.size, args := #[] }], w2, { target := .fn (.func f) ⟨cl⟩, args := ⟨fl⟩ ++ #[.func (.yield (w.heap.size + 1)) #[] #[]] }, w2, f, ⟨fl ++ (.func (.yield (w.heap.size + 1)) #[] #[] :: cl)⟩, w2, run_enterLoop_outer .., ?_, fun _ _ => trivial, ?_, fun h => by simp [FW] at h, ?_⟩
          · simp only [resolve, hxv, Deferred.ofValue, Sem.run_pure]
            simp [Act.eval]
          · have harr : (⟨fl⟩ : Array Value) ++ #[Value.func (.yield (w.heap.size + 1)) #[] #[]] ++ ⟨cl⟩ = ⟨fl ++ (.func (.yield (w.heap.size + 1)) #[] #[] :: cl)⟩ := by apply Array.ext'; simp
            simp only [invoke, callFunc, Sem.run_bind, run_program, Result.andThen_ok, hfn, hname, hb, harr]
            simp
          · refine callsIn_FW (hcs φ2 D w2 _ r2 ((h1.mono e12.phi (fun _ _ h => h)).append (.cons _ _ _ _ (.yld _ _ _ _ hφn) (h2.mono e12.phi (fun _ _ h => h)))) (hf.step e12) _ fun φ3 D3 w3 cv e3 hr3 _ => ?_)
            obtain ⟨hlt, rr, q1, q2, q3, q4, q5, q6⟩ := hr3.block hq (e3.phi _ _ hφn)
            have q1 : w3.heap[w.heap.size + 1]? = some (.loop rr) := q1
            have hend := run_endLoop (P := P) q1 (by rw [q2]; exact hst)
            obtain ⟨k1, k2⟩ := rel_drop (n := n') hr3 (b := n) (by rw [hq]; simp) (e3.phi _ _ hφn) (Go.World.putObj w3 (w.heap.size + 1) (.loop { rr with state := .exhausted })) (fun c hc => Go.World.putObj_heap_other hc) Go.World.putObj_size rfl rfl
            rw [hset_get] at k1 k2
            have eall := (e12.trans e3).trans k2
            have hst' : St nt φ3 D3 F (H1.put n none) (Nat.succ n :: m) { a with defers := [{ target := .collected w.heap.size, args := #[] }] ++ a.defers } (Go.World.putObj w3 (w.heap.size + 1) (.loop { rr with state := .exhausted })) :=
              ⟨k1, sta.fr.mono eall.phi eall.dat, sta.sz, ⟨_, _, _, _, e3.phi _ _ hφm, rfl, sta.mar.mono eall.phi⟩⟩
            refine ⟨_, _, hend, ?_⟩
            have := hQ φ3 D3 _ _ eall hst'
            rw [q3] at this ⊢
            cases ou with
            | normal => exact this
            | exit i => exact wpIn_exit this
            | ret => exact wpIn_ret this
        | _ => rw [hxv] at hgr; cases hgr
      split at hk
      · cases hk
      · rename_i st j nt3 G3 ps3 a3 b3 hnb hq
        exact fin st j nt3 G3 ps3 a3 b3 hq (fun e => hnb e) hk
      · cases hk
    · cases hk
  · cases hk

theorem mapHd_spec {c : Code} {x : Operand} {d : Tmp} {ops : Array Oper} {os : List Oper} (h : mapHd c = some (x, d, ops, os)) : ∃ rid o, c = .region rid ops false ∧ ops.toList = o :: os ∧ o.op = .next x false ∧ o.guard = none ∧ o.dst = some d := by
  unfold mapHd at h
  split at h
  · split at h
    · rename_i o os' hl
      split at h
      · rename_i h1 h2 h3
        injection h with h
        injection h with e1 h
        injection h with e2 h
        injection h with e3 e4
        subst e1 e2 e3 e4
        exact ⟨_, _, rfl, hl, h1, h2, h3⟩
      · cases h
    · cases h
  · cases h

section
variable {x : Operand} {g : G} {d : Tmp} {os : List Oper} {o : Oper} {pd : Pd} {rid : Nat} {rest' : Code} {restK : K}
/-- one round, the entry at place c being next -/
theorem mapRound (hce : CeOk P ce) (hol : ops.toList = o :: os) (hop : o.op = .next x false) (hgd : o.guard = none) (hds : o.dst = some d) (hpd : compPd nt (some d) = some pd)
    (irest : Sound nt (fun Q a w => rest'.wpIn (FW r) 0 P Q a w) (restK.f ce)) {c : Nat} {F : Fr} {H : Hp} {n : Nat} {m : List Nat} {ou : AOut} {F' : Fr} {H' : Hp} {n' : Nat} {m' : List Nat}
    (hk : (seqK (opK pd (eNxtC c g) (compOps P nt ops os)) restK).f ce F H n m = .mk ou F' H' n' m') :
    n ≤ n' ∧ eNxtC c g F H n ≠ .fail ∧ ∀ φ D a w, St nt φ D F H m a w → Fresh φ n n' → Does P (execOp a.eval o) φ D H.get w n (eNxtC c g F H n) → ∀ Q : QT, (∀ φ' D' a' w', Ext φ D H.get w n φ' D' H'.get w' n' → St nt φ' D' F' H' m' a' w' → Q (exitOf ou) a' w') →
      (Code.seq (.region rid ops false) rest').wpIn (FW r) 0 P Q a w := by
  have hPd : PdOk nt o.dst pd := by rw [hds]; exact compPd_ok hpd
  have hq : quietOp o.op = true := by rw [hop]; rfl
  have h0 : ops[0]? = some o := by
    rw [← Array.getElem?_toList, hol]; rfl
  have hnext := compOps_sound (r := r) (nt := nt) (ops := ops) hce os 1 (by rw [hol]; rfl)
  have reg : ∀ (Q : QT) (a : Act) (w : World), o.wpIn (FW r) 0 P a w (wpOpsIn (FW r) 0 P ops Q (List.range' 1 os.length)) Q → (Code.region rid ops false).wpIn (FW r) 0 P Q a w := by
    intro Q a w h
    refine wpIn_region ?_
    have hr : List.range ops.size = 0 :: List.range' 1 os.length := by
      have : ops.size = os.length + 1 := by rw [← Array.length_toList, hol]; rfl
      rw [this, List.range_eq_range']; rfl
    rw [hr]
    simp only [wpOpsIn, h0, Region.wanted, hgd]
    simpa using h
  replace hk : (match (opK pd (eNxtC c g) (compOps P nt ops os)).f ce F H n m with
    | .mk .normal F' H' n' m' => restK.f ce F' H' n' m'
    | r => r) = Res.mk ou F' H' n' m' := hk
  split at hk
  · rename_i F1 H1 n1 m1 hx
    obtain ⟨hn1, hne, hs1⟩ := op_step (r := r) hq hPd hnext hx
    obtain ⟨hn2, hs2⟩ := irest _ _ _ _ _ _ _ _ _ hk
    refine ⟨by omega, hne, fun φ D a w st hf hd Q hQ => wpIn_seq (reg _ a w (hs1 φ D a w st (hf.left hn2) (fun _ => hd) _ fun φ1 D1 a1 w1 hext st1 => ?_))⟩
    exact hs2 φ1 D1 a1 w1 st1 (hf.step hext) Q fun φ2 D2 a2 w2 hx2 st2 => hQ φ2 D2 a2 w2 (hext.trans hx2) st2
  · rename_i hne
    obtain ⟨hn1, hne1, hs1⟩ := op_step (r := r) hq hPd hnext hk
    refine ⟨hn1, hne1, fun φ D a w st hf hd Q hQ => wpIn_seq (reg _ a w (hs1 φ D a w st hf (fun _ => hd) _ fun φ1 D1 a1 w1 hext st1 => ?_))⟩
    have := hQ φ1 D1 a1 w1 hext st1
    cases ou with
    | normal => exact absurd hk (hne _ _ _ _)
    | exit i => exact this
    | ret => exact this

theorem loopM_sound (hce : CeOk P ce) (hg : opd x = some g) (hol : ops.toList = o :: os) (hop : o.op = .next x false) (hgd : o.guard = none) (hds : o.dst = some d) (hpd : compPd nt (some d) = some pd)
    (irest : Sound nt (fun Q a w => rest'.wpIn (FW r) 0 P Q a w) (restK.f ce)) : ∀ (k : Nat) (F : Fr) (H : Hp) (n : Nat) (m : List Nat) (l : List Res), loopM g (fun c => seqK (opK pd (eNxtC c g) (compOps P nt ops os)) restK) ce k F H n m = some l →
    ∀ N, (∀ y ∈ l, ∀ o F' H' n' m', y = .mk o F' H' n' m' → n' ≤ N) → n ≤ N ∧ ∀ φ D a w, St nt φ D F H m a w → Fresh φ n N → ∀ Q : QT,
      (∀ y ∈ l, ∀ o F' H' n' m', y = .mk o F' H' n' m' → ∀ φ' D' a' w', Ext φ D H.get w n φ' D' H'.get w' n' → St nt φ' D' F' H' m' a' w' → Q (exitOf o) a' w') →
      Code.roundsIn (FW r) 0 P (.seq (.region rid ops false) rest') Q k a w
  | 0, F, H, n, m, l, h => by cases h
  | k + 1, F, H, n, m, l, h => by
    intro N hN
    have ih := loopM_sound hce hg hol hop hgd hds hpd irest k
    have h : altsM (fun c => match (seqK (opK pd (eNxtC c g) (compOps P nt ops os)) restK).f ce F H n m with
      | .mk .normal F' H' n' m' => loopM g (fun c => seqK (opK pd (eNxtC c g) (compOps P nt ops os)) restK) ce k F' H' n' m'
      | .fail => none
      | r => some [r]) (Nat.succ (Nat.pred (nxtCnt g F H))) [] = some l := h
    obtain ⟨_, hal⟩ := altsM_spec _ _ _ h
    -- of each choice: the round, and on
    have key : ∀ c, c < Nat.succ (Nat.pred (nxtCnt g F H)) → n ≤ N ∧ eNxtC c g F H n ≠ .fail ∧ ∀ φ D a w, St nt φ D F H m a w → Fresh φ n N → Does P (execOp a.eval o) φ D H.get w n (eNxtC c g F H n) → ∀ Q : QT,
        (∀ y ∈ l, ∀ o F' H' n' m', y = .mk o F' H' n' m' → ∀ φ' D' a' w', Ext φ D H.get w n φ' D' H'.get w' n' → St nt φ' D' F' H' m' a' w' → Q (exitOf o) a' w') →
        Code.roundsIn (FW r) 0 P (.seq (.region rid ops false) rest') Q (k + 1) a w := by
      intro c hc
      obtain ⟨li, hli, hsub⟩ := hal c hc
      split at hli
      · rename_i F1 H1 n1 m1 hx
        obtain ⟨hn1, hne, hs1⟩ := mapRound (rid := rid) hce hol hop hgd hds hpd irest hx
        obtain ⟨hn2, hs2⟩ := ih F1 H1 n1 m1 li hli N fun y hy => hN y (hsub y hy)
        refine ⟨by omega, hne, fun φ D a w st hf hd Q hQ => ?_⟩
        show Code.roundsIn (FW r) 0 P _ Q (k + 1) a w
        rw [roundsIn_succ]
        refine hs1 φ D a w st (hf.left hn2) hd _ fun φ1 D1 a1 w1 hext st1 => ?_
        exact hs2 φ1 D1 a1 w1 st1 (hf.step hext) Q fun y hy o F' H' n' m' e φ2 D2 a2 w2 hx2 st2 => hQ y (hsub y hy) o F' H' n' m' e φ2 D2 a2 w2 (hext.trans hx2) st2
      · cases hli
      · rename_i rr hnn hnf
        injection hli with hli
        subst hli
        cases hrr : (seqK (opK pd (eNxtC c g) (compOps P nt ops os)) restK).f ce F H n m with
        | fail => exact absurd hrr hnf
        | mk o1 F1 H1 n1 m1 =>
          rw [hrr] at hsub
          obtain ⟨hn1, hne, hs1⟩ := mapRound (rid := rid) hce hol hop hgd hds hpd irest hrr
          have hN1 := hN _ (hsub _ (List.mem_singleton.2 rfl)) _ _ _ _ _ rfl
          refine ⟨by omega, hne, fun φ D a w st hf hd Q hQ => ?_⟩
          show Code.roundsIn (FW r) 0 P _ Q (k + 1) a w
          rw [roundsIn_succ]
          refine hs1 φ D a w st (hf.left hN1) hd _ fun φ1 D1 a1 w1 hext st1 => ?_
          have := hQ _ (hsub _ (List.mem_singleton.2 rfl)) _ _ _ _ _ rfl φ1 D1 a1 w1 hext st1
          cases o1 with
          | normal => exact absurd hrr (hnn _ _ _ _)
          | exit i => exact this
          | ret => exact this
    refine ⟨(key 0 (Nat.succ_pos _)).1, fun φ D a w st hf Q hQ => ?_⟩
    obtain ⟨c, hc, hd⟩ := nxt_alts hop hg st.rel st.fr fun c hc => (key c hc).2.1
    exact (key c hc).2.2 φ D a w st hf hd Q hQ
theorem mapK_sound {a' : Code} (hce : CeOk P ce) (hm : mapHd a' = some (x, d, ops, os)) (irest : Sound nt (fun Q a w => rest'.wpIn (FW r) 0 P Q a w) (restK.f ce)) :
    Sound nt (fun Q a w => (Code.loop (.seq a' rest')).wpIn (FW r) 0 P Q a w) ((mapK P nt x d ops os restK).f ce) := by
  obtain ⟨rid, o, rfl, hol, hop, hgd, hds⟩ := mapHd_spec hm
  intro F H n m ou F' H' n' m' hk
  unfold mapK at hk
  split at hk
  · rename_i g hg
    split at hk
    · rename_i pd hpd
      replace hk : (match loopM g (fun c => seqK (opK pd (eNxtC c g) (compOps P nt ops os)) restK) ce big F H n m with
        | some (r :: rs) => meetAll r rs
        | _ => .fail) = Res.mk ou F' H' n' m' := hk
      split at hk
      · rename_i r1 rs hl
        have hsp := meetAll_spec rs r1 ou F' H' n' m' hk
        obtain ⟨h1, h2⟩ := loopM_sound (r := r) (rid := rid) hce hg hol hop hgd hds hpd irest big F H n m (r1 :: rs) hl n' (fun y hy o1 F1 H1 n1 m1 e => by
          obtain ⟨F2, H2, n2, e2, hle, _⟩ := hsp y hy
          rw [e] at e2; injection e2 with _ _ _ e4 _; omega)
        refine ⟨h1, fun φ D a w st hf Q hQ => wpIn_loop_rounds big (h2 φ D a w st hf Q fun y hy o1 F1 H1 n1 m1 e φ1 D1 a1 w1 hext st1 => ?_)⟩
        obtain ⟨F2, H2, n2, e2, hle, hF2, hH2⟩ := hsp y hy
        rw [e] at e2
        injection e2 with b1 b2 b3 b4 b5
        subst b1 b2 b3 b4 b5
        refine hQ φ1 D1 a1 w1 (hext.less (fun b hb => ?_) hle) (st1.less hF2 hH2)
        cases hq : H'.get b with
        | none => exact absurd hq hb
        | some k => rw [hH2 b k hq]; simp
      · cases hk
    · cases hk
  · cases hk
end

theorem stepR_scope {P : Program} {b : Frame} {a : Act} {k : List Item} {cs : List Frame} {w : World} {c : Code} : step P (lone (b.atR a (.code (.scope c) :: k)) cs w) = .next (lone (b.atR a (.code c :: .inScope c :: k)) cs w) :=
  step_lone_go (by simp [stepG, stepG.exec, Frame.atR])
theorem stepR_inScope {P : Program} {b : Frame} {a : Act} {k : List Item} {cs : List Frame} {w : World} {c : Code} : step P (lone (b.atR a (.inScope c :: k)) cs w) = .next (lone (b.atR a k) cs w) :=
  step_lone_go (by simp [stepG, stepG.exec, Frame.atR])
theorem wpIn_scope {F : Fence} {n : Nat} {P : Program} {Q : Exit → Act → World → Prop} {a : Act} {w : World} {c : Code} (h : c.wpIn F n P (Exit.noGoto Q) a w) : (Code.scope c).wpIn F n P Q a w := by
  intro b k cs hro hb hr
  have h0 : (lone (b.atR a (.code (.scope c) :: k)) cs w).fenced P F := fenced_calm hb hr rfl
  obtain ⟨e, a₁, w₁, hq, harr⟩ := h b (.inScope c :: k) cs hro hb hr
  cases e with
  | normal => exact ⟨.normal, a₁, w₁, hq, .head h0 stepR_scope (StepsIn.trans harr (.one (fenced_calm hb hr rfl) stepR_inScope))⟩
  | exit id' =>
    have hx : exitTo id' (.inScope c :: k) = exitTo id' k := by simp [exitTo]
    exact ⟨.exit id', a₁, w₁, hq, fun k' hk => .head h0 stepR_scope (harr.1 k' (by rw [hx]; exact hk)),
      fun hr' hk => let ⟨k₁, h1, h2⟩ := harr.2 hr' (by rw [hx]; exact hk); ⟨k₁, h1, .head h0 stepR_scope h2⟩⟩
  | goto l => exact hq.elim
  | ret => exact ⟨.ret, a₁, w₁, hq, .of_steps (.one h0 stepR_scope) harr⟩
  | panic ch => exact ⟨.panic ch, a₁, w₁, hq, .of_steps (.one h0 stepR_scope) harr⟩
  | outgrown => exact ⟨.outgrown, a₁, w₁, hq, .of_steps (.one h0 stepR_scope) harr⟩

theorem comp_sound (hce : CeOk P ce) : ∀ (c : Code), Sound nt (fun Q a w => c.wpIn (FW r) 0 P Q a w) ((comp P nt r.isSome c).f ce)
  | .skip => endK_sound fun Q a w h => wpIn_skip h
  | .region id ops d => by
    cases d with
    | true =>
      intro F H n m ou F' H' n' m' hk
      simp only [comp, cond_true] at hk
      cases hmix : P.follows .mixedOrders with
      | false => rw [hmix] at hk; cases hk
      | true => rw [hmix] at hk; exact drawK_sound hmix hce _ _ _ _ _ _ _ _ _ hk
    | false =>
      intro F H n m ou F' H' n' m' hk
      obtain ⟨hn, hs⟩ := compOps_sound (r := r) (nt := nt) (ops := ops) hce ops.toList 0 rfl _ _ _ _ _ _ _ _ _ hk
      refine ⟨hn, fun φ D a w st hf Q hQ => wpIn_region ?_⟩
      rw [List.range_eq_range']
      exact hs φ D a w st hf Q hQ
  | .seq x y => by
    intro F H n m ou F' H' n' m' hk
    simp only [comp, seqK] at hk
    have ix := comp_sound hce x
    have iy := comp_sound hce y
    split at hk
    · rename_i F1 H1 n1 m1 hx
      obtain ⟨hn1, hs1⟩ := ix _ _ _ _ _ _ _ _ _ hx
      obtain ⟨hn2, hs2⟩ := iy _ _ _ _ _ _ _ _ _ hk
      refine ⟨by omega, fun φ D a w st hf Q hQ => wpIn_seq (hs1 φ D a w st (hf.left hn2) _ fun φ1 D1 a1 w1 hext st1 => ?_)⟩
      exact hs2 φ1 D1 a1 w1 st1 (hf.step hext) Q fun φ2 D2 a2 w2 hx2 st2 => hQ φ2 D2 a2 w2 (hext.trans hx2) st2
    · rename_i hne
      obtain ⟨hn1, hs1⟩ := ix _ _ _ _ _ _ _ _ _ hk
      refine ⟨hn1, fun φ D a w st hf Q hQ => wpIn_seq (hs1 φ D a w st hf _ fun φ1 D1 a1 w1 hext st1 => ?_)⟩
      have := hQ φ1 D1 a1 w1 hext st1
      cases ou with
      | normal => exact absurd hk (hne _ _ _ _)
      | exit i => exact this
      | ret => exact this
  | .cond c x y => by
    intro F H n m ou F' H' n' m' hk
    simp only [comp] at hk
    cases hc : opd c with
    | none => rw [hc] at hk; cases hk
    | some g =>
      rw [hc] at hk
      simp only [condK] at hk
      split at hk
      · rename_i hg
        obtain ⟨hn, hs⟩ := comp_sound hce x _ _ _ _ _ _ _ _ _ hk
        refine ⟨hn, fun φ D a w st hf Q hQ => wpIn_cond (t := true) ?_ (hs φ D a w st hf Q hQ)⟩
        have := opd_sound hc F φ D a st.fr _ hg
        generalize a.eval c = z at this ⊢
        cases this; rfl
      · rename_i hg
        obtain ⟨hn, hs⟩ := comp_sound hce y _ _ _ _ _ _ _ _ _ hk
        refine ⟨hn, fun φ D a w st hf Q hQ => wpIn_cond (t := false) ?_ (hs φ D a w st hf Q hQ)⟩
        have := opd_sound hc F φ D a st.fr _ hg
        generalize a.eval c = z at this ⊢
        cases this; rfl
      · cases hk
  | .scope b => by
    intro F H n m ou F' H' n' m' hk
    simp only [comp] at hk
    obtain ⟨hn, hs⟩ := comp_sound hce b _ _ _ _ _ _ _ _ _ hk
    refine ⟨hn, fun φ D a w st hf Q hQ => wpIn_scope (hs φ D a w st hf _ fun φ1 D1 a1 w1 hext st1 => ?_)⟩
    have := hQ φ1 D1 a1 w1 hext st1
    cases ou <;> exact this
  | .label l => endK_sound fun Q a w h => wpIn_label h
  | .block id b => by
    intro F H n m ou F' H' n' m' hk
    simp only [comp, blockK] at hk
    have ib := comp_sound hce b
    split at hk
    · rename_i j F1 H1 n1 m1 hb
      cases hij : Nat.beq id j with
      | true =>
        rw [hij] at hk
        cases hk
        obtain ⟨hn, hs⟩ := ib _ _ _ _ _ _ _ _ _ hb
        refine ⟨hn, fun φ D a w st hf Q hQ => wpIn_block (hs φ D a w st hf _ fun φ1 D1 a1 w1 hext st1 => ?_)⟩
        have := Nat.eq_of_beq_eq_true hij
        simp only [exitOf, Exit.inBlock, ← this, if_true]
        exact hQ φ1 D1 a1 w1 hext st1
      | false =>
        rw [hij] at hk
        cases hk
        obtain ⟨hn, hs⟩ := ib _ _ _ _ _ _ _ _ _ hb
        refine ⟨hn, fun φ D a w st hf Q hQ => wpIn_block (hs φ D a w st hf _ fun φ1 D1 a1 w1 hext st1 => ?_)⟩
        have hne : ¬ j = id := fun e => by rw [e] at hij; simp at hij
        simp only [exitOf, Exit.inBlock, hne, if_false]
        exact hQ φ1 D1 a1 w1 hext st1
    · rename_i hne
      obtain ⟨hn, hs⟩ := ib _ _ _ _ _ _ _ _ _ hk
      refine ⟨hn, fun φ D a w st hf Q hQ => wpIn_block (hs φ D a w st hf _ fun φ1 D1 a1 w1 hext st1 => ?_)⟩
      have := hQ φ1 D1 a1 w1 hext st1
      cases ou with
      | normal => exact this
      | exit i => exact absurd hk (hne _ _ _ _ _)
      | ret => exact this
  | .loop b => by
    have ib := comp_sound hce b
    have plain : Sound nt (fun Q a w => (Code.loop b).wpIn (FW r) 0 P Q a w) ((loopK (comp P nt r.isSome b)).f ce) := by
      intro F H n m ou F' H' n' m' hk
      obtain ⟨hn, hs⟩ := loopN_sound ib big _ _ _ _ _ _ _ _ _ hk
      exact ⟨hn, fun φ D a w st hf Q hQ => wpIn_loop_rounds big (hs φ D a w st hf Q hQ)⟩
    cases b with
    | seq a rest =>
      have ir := comp_sound hce rest
      simp only [comp]
      cases hm : mapHd a with
      | none => simpa only [comp] using plain
      | some y =>
        obtain ⟨x, d, ops, os⟩ := y
        exact mapK_sound hce hm ir
    | _ => simpa only [comp] using plain
  | .exit id => by
    intro F H n m ou F' H' n' m' hk
    cases hk
    exact ⟨Nat.le_refl _, fun φ D a w st hf Q hQ => wpIn_exit (hQ φ D a w (Ext.refl ..) st)⟩
  | .ret => by
    intro F H n m ou F' H' n' m' hk
    cases hk
    exact ⟨Nat.le_refl _, fun φ D a w st hf Q hQ => wpIn_ret (hQ φ D a w (Ext.refl ..) st)⟩
  | .rangeFunc g ps ca cb => by
    intro F H n m ou F' H' n' m' hk
    simp only [comp] at hk
    cases hc : opd g with
    | none => rw [hc] at hk; cases hk
    | some x =>
      rw [hc] at hk
      cases r with
      | some l => cases hk
      | none => exact rangeK_sound hce hc _ _ _ _ _ _ _ _ _ hk
  | .goto _ => by intro F H n m ou F' H' n' m' hk; cases hk
  | .refuse _ => by intro F H n m ou F' H' n' m' hk; cases hk
end
end Go.Abs
