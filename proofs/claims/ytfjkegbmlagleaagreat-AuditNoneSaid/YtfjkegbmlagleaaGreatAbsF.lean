/- The abstract machine: functions, the program. -/
import Derived.Test.YtfjkegbmlagleaaGreatAbsN
namespace Go.Abs
section
variable {P : Program}

def resOf (tmps : Array Value) : ResultVar → Sem Value
  | .tmp t => pure (tmps.getD t undef)
  | .cell a t => do loadVar t (← asAddr (tmps.getD a undef))

theorem loadVar_of {φ : Ph} {D : Da} {t : TypeId} {v : AV} {x cv : Value} {w : World} (hv : VR φ D v x) (hp : (∃ b o, v = .ptr b o) ∨ ∃ cs, v = .dp cs) (h : (Instr.loadAt t x).run P w = .ok cv w) :
    (do loadVar t (← asAddr x) : Sem Value).run P w = .ok cv w := by
  rcases hp with ⟨b, o, rfl⟩ | ⟨cs, rfl⟩
  · cases hv; simpa [Instr.loadAt, Instr.sureAddr, asAddr] using h
  · cases hv; simpa [Instr.loadAt, Instr.sureAddr, asAddr] using h
theorem cLoad1_ptr {v u : AV} {H : Hp} (h : cLoad1 v H = .val u) : (∃ b o, v = .ptr b o) ∨ ∃ cs, v = .dp cs := by
  unfold cLoad1 at h
  split at h
  · exact .inl ⟨_, _, rfl⟩
  · exact .inr ⟨_, rfl⟩
  · cases h
theorem cLoadN_ptr {k : Nat} {v u : AV} {H : Hp} (h : cLoadN k v H = .val u) : (∃ b o, v = .ptr b o) ∨ ∃ cs, v = .dp cs := by
  unfold cLoadN at h
  split at h
  · exact .inl ⟨_, _, rfl⟩
  · exact .inr ⟨_, rfl⟩
  · cases h

theorem getRes_sound {F : Fr} {H : Hp} {φ : Ph} {D : Da} {tmps : Array Value} {w : World} (hr : Rel φ D H.get w) (hF : FR φ D F.get tmps) : ∀ (l : List ResultVar) (gs : List (Fr → Hp → Option AV)) (vs : List AV), getRes P l = some gs → evR F H gs = some vs →
    ∃ xs, (l.mapM (resOf tmps)).run P w = .ok xs w ∧ VRs φ D vs xs
  | [], gs, vs, h, he => by
    simp only [getRes] at h; injection h with h; subst h
    simp only [evR] at he; injection he with he; subst he
    exact ⟨[], by simp, .nil⟩
  | .tmp t :: l, gs, vs, h, he => by
    simp only [getRes, Option.map_eq_some_iff] at h
    obtain ⟨gs', hg, rfl⟩ := h
    simp only [evR] at he
    split at he
    · rename_i v hv
      split at he
      · rename_i vs' hvs
        injection he with he; subst he
        obtain ⟨xs, hx, hxs⟩ := getRes_sound hr hF l gs' vs' hg hvs
        rw [slotG_eq] at hv
        obtain ⟨x, hx0, hvx⟩ := hF t v hv
        exact ⟨x :: xs, by simp [List.mapM_cons, resOf, Array.getD_eq_getD_getElem?, hx0, hx], .cons _ _ _ _ hvx hxs⟩
      · cases he
    · cases he
  | .cell a t :: l, gs, vs, h, he => by
    simp only [getRes] at h
    split at h
    · rename_i gs' k hg ha hk
      injection h with h; subst h
      simp only [evR] at he
      split at he
      · rename_i v hv
        split at he
        · rename_i vs' hvs
          injection he with he; subst he
          obtain ⟨xs, hx, hxs⟩ := getRes_sound hr hF l gs' vs' hg hvs
          split at hv
          · rename_i p hp
            split at hv
            · rename_i u hu
              injection hv with hv; subst hv
              rw [slotG_eq] at hp
              obtain ⟨y, hy, hpy⟩ := hF a p hp
              obtain ⟨cv, h1, h2⟩ := ok_loadN' (P := P) hr hpy ha hk H (fun _ => rfl) hu
              have h3 := loadVar_of hpy (cLoadN_ptr hu) h1
              refine ⟨cv :: xs, ?_, .cons _ _ _ _ h2 hxs⟩
              rw [List.mapM_cons]
              simp only [resOf, Array.getD_eq_getD_getElem?, hy, Option.getD_some, Sem.run_bind] at h3 ⊢
              simp only [h3, Result.andThen_ok, hx, Sem.run_pure]
            · cases hv
          · cases hv
        · cases he
      · cases he
    · rename_i gs' k hg ha hk
      injection h with h; subst h
      simp only [evR] at he
      split at he
      · rename_i v hv
        split at he
        · rename_i vs' hvs
          injection he with he; subst he
          obtain ⟨xs, hx, hxs⟩ := getRes_sound hr hF l gs' vs' hg hvs
          split at hv
          · rename_i p hp
            split at hv
            · rename_i u hu
              injection hv with hv; subst hv
              rw [slotG_eq] at hp
              obtain ⟨y, hy, hpy⟩ := hF a p hp
              obtain ⟨cv, h1, h2⟩ := ok_load1' (P := P) hr hpy ha H (fun _ => rfl) hu
              have h3 := loadVar_of hpy (cLoad1_ptr hu) h1
              refine ⟨cv :: xs, ?_, .cons _ _ _ _ h2 hxs⟩
              rw [List.mapM_cons]
              simp only [resOf, Array.getD_eq_getD_getElem?, hy, Option.getD_some, Sem.run_bind] at h3 ⊢
              simp only [h3, Result.andThen_ok, hx, Sem.run_pure]
            · cases hv
          · cases hv
        · cases he
      · cases he
    · cases h

theorem retV_ok {φ : Ph} {D : Da} {vs : List AV} {xs : List Value} (h : VRs φ D vs xs) : VR φ D (retV vs) (if h : (⟨xs⟩ : Array Value).size = 1 then (⟨xs⟩ : Array Value)[0] else .tuple ⟨xs⟩) := by
  cases h with
  | nil => exact .tup _ _ .nil
  | cons v x vs xs h1 h2 => cases h2 with
    | nil => exact h1
    | cons u y us ys h3 h4 =>
      rw [dif_neg (by simp)]
      exact .tup _ _ (.cons _ _ _ _ h1 (.cons _ _ _ _ h3 h4))

theorem results_ok {F : Fr} {H : Hp} {φ : Ph} {D : Da} {tmps : Array Value} {w : World} {fn : Func} (hr : Rel φ D H.get w) (hF : FR φ D F.get tmps) {gs : List (Fr → Hp → Option AV)} {vs : List AV} (h : getRes P fn.results.toList = some gs) (he : evR F H gs = some vs) :
    ∃ x, (results fn tmps).run P w = .ok x w ∧ VR φ D (retV vs) x := by
  obtain ⟨xs, h1, h2⟩ := getRes_sound (P := P) hr hF fn.results.toList gs vs h he
  refine ⟨_, ?_, retV_ok h2⟩
  have hm : (fn.results.mapM (resOf tmps)).run P w = .ok ⟨xs⟩ w := by
    rw [Array.mapM_eq_mapM_toList]
    simp [h1]
  have : results fn tmps = (do let vs ← fn.results.mapM (resOf tmps); pure (if h : vs.size = 1 then vs[0] else .tuple vs)) := by
    unfold results
    congr 2
  rw [this]
  simp only [Sem.run_bind, hm, Result.andThen_ok, Sem.run_pure]

theorem leaves_ok {fn : Func} {F : Fr} {H' : Hp} {gs : List (Fr → Hp → Option AV)} {vs : List AV} (hg : getRes P fn.results.toList = some gs) (he : evR F H' gs = some vs) : ∀ (m : List Nat) (H : Hp) (ds : List Deferred) (tmps : Array Value) (φ : Ph) (D : Da) (w : World) (n : Nat) (R : Ending → World → Prop),
    unmark m H = some H' → Rel φ D H.get w → FR φ D F.get tmps → MarksR φ m ds →
    (∀ φ' D' w' x, Ext φ D H.get w n φ' D' H'.get w' n → Rel φ' D' H'.get w' → VR φ' D' (retV vs) x → R (.returned x) w') → LeavesInM Fence.wide 0 P fn tmps R ds .returning w
  | [], H, ds, tmps, φ, D, w, n, R, hu, hr, hF, hm, hR => by
    simp only [unmark] at hu; injection hu with hu; subst hu
    simp only [MarksR] at hm; subst hm
    obtain ⟨x, h1, h2⟩ := results_ok (P := P) (fn := fn) hr hF hg he
    exact ⟨x, h1, hR φ D w x (Ext.refl ..) hr h2⟩
  | k :: m, H, ds, tmps, φ, D, w, n, R, hu, hr, hF, hm, hR => by
    obtain ⟨cb, co, cz, ds', hp, rfl, hm'⟩ := hm
    simp only [unmark] at hu
    split at hu
    · rename_i hk
      obtain ⟨hlt, hb⟩ := hr.block hk hp
      have hb : w.heap[cb]? = some (.deferred (some [])) := hb
      have htake := run_takeDeferred (P := P) hb
      obtain ⟨hr', hext⟩ := rel_drop (n := n) hr (b := k) (p := (cb, co, cz)) (by rw [hk]; simp) hp (Go.World.putObj w cb (.deferred none)) (fun c hc => Go.World.putObj_heap_other hc) (Go.World.putObj_size) rfl rfl
      have hH : Hf.set H.get k none = (H.put k none).get := by funext c; simp only [Hf.set, Tr.get_put]
      rw [hH] at hr' hext
      refine ⟨by simp, .inl ⟨cb, _, rfl, htake, ?_⟩⟩
      exact leaves_ok hg he m (H.put k none) ds' tmps φ D _ n R hu hr' hF hm' fun φ' D' w' x h1 h2 h3 => hR φ' D' w' x (hext.trans h1) h2 h3
    · cases hu

theorem frame_ok {φ : Ph} {D : Da} {args : List AV} {xs : List Value} (h : VRs φ D args xs) (k : Nat) : FR φ D (Tr.putAll args 0 .nil : Fr).get ((⟨xs⟩ : Array Value) ++ Array.replicate k undef) := by
  intro t v hv
  rw [Tr.get_putAll] at hv
  split at hv
  · obtain ⟨x, hx, hvx⟩ := h.get hv
    refine ⟨x, ?_, hvx⟩
    have hlt := (List.getElem?_eq_some_iff.1 hx).1
    rw [Array.getElem?_append_left (by simpa using hlt)]
    simpa using hx
  · simp at hv

theorem run_ok : ∀ k, CeOk P (run P k)
  | 0 => ⟨fun _ _ _ _ _ _ _ h => by (simp only [run] at h; cases h), fun _ _ _ _ _ _ _ _ _ _ h => by (simp only [run] at h; cases h)⟩
  | k + 1 => by
    have ih := run_ok k
    refine ⟨fun g args H n v H' n' h => ?_, fun nt c F H n o F' H' n' m' h => ?_⟩
    · simp only [run] at h
      split at h
      · rename_i af haf
        split at h
        · rename_i hle
          have hle := Nat.le_of_ble_eq_true hle
          unfold compF at haf
          split at haf
          · rename_i fn hfn
            split at haf
            · rename_i b hb
              split at haf
              · cases haf
              · rename_i hname
                split at haf
                · rename_i gs hgs
                  injection haf with haf; subst haf
                  dsimp only at h hle
                  have hc := comp_sound (P := P) (nt := fn.ntmps) (r := none) ih b
                  have go : ∀ (ou : AOut) (F1 : Fr) (H1 : Hp) (n1 : Nat) (m1 : List Nat), (ou = .normal ∨ ou = .ret) → (comp P fn.ntmps false b).f (run P k) (Tr.putAll args 0 .nil) H n [] = .mk ou F1 H1 n1 m1 →
                      leaveK.leave2 gs F1 H1 n1 m1 = .mk v H' n' → n ≤ n' ∧ ∀ φ D w xs, Rel φ D H.get w → VRs φ D args xs → Fresh φ n n' → ∀ R : Ending → World → Prop,
                        (∀ φ' D' w' x, Ext φ D H.get w n φ' D' H'.get w' n' → Rel φ' D' H'.get w' → VR φ' D' v x → R (.returned x) w') → CallsIn Fence.wide 0 P g ⟨xs⟩ w R := by
                    intro ou F1 H1 n1 m1 hou hrun hl
                    unfold leaveK.leave2 at hl
                    split at hl
                    · rename_i H2 hum
                      split at hl
                      · rename_i vs hev
                        cases hl
                        obtain ⟨hn, hs⟩ := hc _ _ _ _ _ _ _ _ _ hrun
                        refine ⟨hn, fun φ D w xs hrel hvs hf R hR => ?_⟩
                        refine callsIn_of_wp_marks hfn hb trivial ?_
                        have hsz : ((⟨xs⟩ : Array Value) ++ Array.replicate (fn.ntmps - (⟨xs⟩ : Array Value).size) undef).size = fn.ntmps := by
                          have := hvs.length
                          rw [lenAcc_zero] at hle
                          simp
                          omega
                        refine hs φ D { tmps := (⟨xs⟩ : Array Value) ++ Array.replicate (fn.ntmps - (⟨xs⟩ : Array Value).size) undef, defers := [] } w ⟨hrel, frame_ok hvs _, hsz, rfl⟩ hf _ fun φ1 D1 a1 w1 hext st1 => ?_
                        have := leaves_ok (P := P) (fn := fn) (vs := vs) hgs hev m1 H1 a1.defers a1.tmps φ1 D1 w1 _ R hum st1.rel st1.fr st1.mar fun φ2 D2 w2 x h1 h2 h3 => hR φ2 D2 w2 x (hext.trans h1) h2 h3
                        rcases hou with rfl | rfl
                        · exact this
                        · exact this
                      · cases hl
                    · cases hl
                  refine ⟨⟨fn, b, hfn, hb, hname⟩, ?_⟩
                  cases hres : (comp P fn.ntmps false b).f (run P k) (Tr.putAll args 0 .nil) H n [] with
                  | fail => rw [hres] at h; cases h
                  | mk ou F1 H1 n1 m1 =>
                    rw [hres] at h
                    cases ou with
                    | normal => exact go _ _ _ _ _ (.inl rfl) hres h
                    | ret => exact go _ _ _ _ _ (.inr rfl) hres h
                    | exit i => cases h
                · cases haf
            · cases haf
          · cases haf
        · cases h
      · cases h
    · simp only [run] at h
      obtain ⟨hn, _⟩ := comp_sound (P := P) (nt := nt) (r := some 0) ih c _ _ _ _ _ _ _ _ _ h
      refine ⟨hn, fun l => ?_⟩
      exact (comp_sound (P := P) (nt := nt) (r := some l) ih c _ _ _ _ _ _ _ _ _ h).2

/-- WHAT A RUN SAYS, of a function without arguments, at whatever world: the value; the world's blocks, its output and its system are as they were. -/
theorem run_calls {k : Nat} {g : FuncId} {v : AV} {H' : Hp} {n' : Nat} (h : (run P k).call g [] .nil 0 = .mk v H' n') (w : World) {R : Ending → World → Prop}
    (hR : ∀ φ D w' x, VR φ D v x → w'.os = w.os → w'.output = w.output → w.heap.size ≤ w'.heap.size → (∀ c, c < w.heap.size → w'.heap[c]? = w.heap[c]?) → R (.returned x) w') : Calls P g #[] w R := by
  obtain ⟨_, _, hs⟩ := (run_ok (P := P) k).call _ _ _ _ _ _ _ h
  have hrel : Rel (fun _ => none) (fun _ => none) (Tr.nil : Hp).get w := ⟨fun b k hb => by simp at hb, fun b c p q hb => by simp at hb, fun b p hb => by simp at hb, fun c x hx => by cases hx⟩
  exact callsIn_wide.1 (hs _ _ w [] hrel .nil (fun b _ _ => rfl) R fun φ D w' x hext _ hvr => hR φ D w' x hvr hext.os hext.out hext.size fun c hc => hext.keep c hc fun b p hb => by simp at hb)
end
end Go.Abs
