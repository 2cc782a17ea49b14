/- The abstract machine: each operation's effect is what the model does. Part eight: new slices, append, copy. -/
import Derived.Test.YtfjkegbmlagleaaGreatAbsW
namespace Go.Abs
section
variable {P : Program}

theorem rel_drew {φ : Ph} {D : Da} {h : Hf} {w : World} (hr : Rel φ D h w) (k : Nat) : Rel φ D h { w with drawn := k } :=
  ⟨fun b kk hb => let ⟨p, a, c, d⟩ := hr.blk b kk hb; ⟨p, a, c, d.mono (fun _ _ h => h) (fun _ _ h => h) rfl⟩, hr.inj, hr.sep, hr.dat⟩
theorem ext_drew {φ D h w n φ' D' h' w' n'} (k : Nat) (e : Ext φ D h { w with drawn := k } n φ' D' h' w' n') : Ext φ D h w n φ' D' h' w' n' :=
  ⟨e.le, e.phi, e.new, e.dat, e.size, e.keep, e.live, e.dnew, e.hid, e.os, e.out⟩

/-- A new row of cells, behind a draw; marked behind its end, perhaps; its first cells are known. -/
theorem rel_row {φ : Ph} {D : Da} {h : Hf} {w : World} {n : Nat} (hr : Rel φ D h w) (hf : Fresh φ n (n + 1)) (c : Array Value) (e : TypeId) (fr : Nat × Nat) (hfr : Nfr c.size fr) (k : ABlk)
    (u : Nat) (z bs : List AV) (t : Ov AV) (hk : k = .cells u z bs t) (hc : ∀ i v, getc u z bs t i = some v → ∃ x, c[i]? = some x ∧ VR φ D v x) (hi : t = .nil → z = [] → bs.length = u) (hu : u ≤ c.size) (d : Nat) :
    Rel (φ.set n (w.heap.size, 0, c.size)) D (h.set n (some k)) (World.newObj { w with drawn := d } (.cells c e fr)) ∧
      Ext φ D h w n (φ.set n (w.heap.size, 0, c.size)) D (h.set n (some k)) (World.newObj { w with drawn := d } (.cells c e fr)) (n + 1) := by
  have hn : φ n = none := hf n (Nat.le_refl _) (by omega)
  obtain ⟨h1, h2⟩ := rel_new (rel_drew hr d) hf (.cells c e fr) c.size k (by
    subst hk
    refine ⟨c, e, fr, new_get _ _, rfl, hfr, fun i v hv => ?_, hi, by simpa using hu⟩
    obtain ⟨x, hx, hv'⟩ := hc i v hv
    exact ⟨x, by simpa using hx, hv'.mono (Ph.set_mono hn) fun _ _ h => h⟩)
  exact ⟨h1, ext_drew _ h2⟩

theorem ok_s2b {o : Oper} {s d e : TypeId} {x : Operand} {g : G} (ho : o.op = .convert s d x) (hg : opd x = some g) (hs : P.underlying s = some .string) (hd : P.underlying d = some (.slice e)) (he : P.underlying e = some (.int .u8)) : EffOk P o (eS2b g) := by
  intro F H n φ D a w hr hF hf hne
  unfold eS2b at hf hne ⊢
  cases hv : g.f F with
  | none => rw [hv] at hne; exact absurd rfl hne
  | some v =>
    rw [hv] at hf hne
    have hvr := opd_sound hg F φ D a hF v hv
    cases v with
    | str l =>
      dsimp only at hf hne ⊢
      generalize hxv : a.eval x = xv at hvr
      cases hvr with
      | str st _ hst =>
      rw [lenAcc_zero] at hf ⊢
      have hrun := run_bytes_of_string (P := P) w s d e st hs hd he
      have hcap : st.size ≤ grownCap w st.size 0 e := by
        unfold grownCap; simp [Question.cut]
      generalize hgc : grownCap w st.size 0 e = gc at hrun hcap
      have hlen := bytes_list hst
      have hbsz : (bytesRow st gc).size = gc := by
        unfold bytesRow; simp [show st.data.size = st.size from rfl]; omega
      have hbget : ∀ i, i < l.length → ∃ b : UInt8, st.data.toList[i]? = some b ∧ (bytesRow st gc)[i]? = some (.int .u8 b.toNat) := by
        intro i hi
        have hi' : i < st.data.toList.length := by rw [Array.length_toList]; show i < st.size; omega
        refine ⟨st.data.toList[i], List.getElem?_eq_getElem hi', ?_⟩
        unfold bytesRow
        rw [Array.getElem?_append_left (by simpa using hi')]
        simp at hi'
        simp [hi']
      obtain ⟨h1, h2⟩ := rel_row hr hf (bytesRow st gc) e ((bytesRow st gc).size, (bytesRow st gc).size + 1) (.inr (Nat.le_refl _)) (.cells l.length [] (u8s l) .nil) l.length [] (u8s l) .nil rfl
        (fun i v hv => by
          rw [getc_eq] at hv
          split at hv
          · rename_i hi
            simp at hv
            obtain ⟨b, hb1, hb2⟩ := hbget i hi
            refine ⟨_, hb2, ?_⟩
            have : (u8s l)[i]? = some (.int .u8 (Int.ofNat b.toNat)) := by
              unfold u8s; rw [← hst]; simp only [List.getElem?_map, hb1, Option.map_some]
            rw [this] at hv; simp at hv; subst hv; exact .int _ _
          · cases hv) (fun _ _ => by simp [u8s]) (by rw [hbsz]; omega) (w.drawn + 1)
      refine ⟨.value (.slice (some ⟨w.heap.size, 0, none⟩) st.size gc), _, _, _, ?_, .value _, h2, h1, ?_⟩
      · have : w.drew.alloc (.cells (bytesRow st gc) e ((bytesRow st gc).size, (bytesRow st gc).size + 1)) = World.newObj { w with drawn := w.drawn + 1 } (.cells (bytesRow st gc) e ((bytesRow st gc).size, (bytesRow st gc).size + 1)) := rfl
        rw [← this]
        simp only [execOp, ho, hxv, Sem.run_bind, hrun, Result.andThen_ok, Sem.run_pure]
      · simp only [outV]
        rw [hlen]
        exact sl_new (by omega) (by rw [hbsz]; omega)
    | _ => exact absurd rfl hne

theorem ok_mksl {o : Oper} {t e : TypeId} {z : List AV} {sz by_ : Nat} {x y : Operand} {g k : G} (ho : o.op = .makeSlice t x y) (hg : opd x = some g) (hk : opd y = some k) (he : elemT P t = some e) (hz : zeroT P e = some z) (hs : sizeT P e = some sz)
    (hb : bytesT P e = some by_) (hzl : z.length = sz) : EffOk P o (eMksl z sz by_ g k) := by
  obtain ⟨ti, zv, hi, h0, hc⟩ := zeroT_spec hz
  have hu := elemT_spec he
  have hby : ti.bytes = by_ := by simpa [bytesT, hi] using hb
  intro F H n φ D a w hr hF hf hne
  unfold eMksl at hf hne ⊢
  cases hv : g.f F with
  | none => rw [hv] at hne; exact absurd rfl hne
  | some v =>
    rw [hv] at hf hne; dsimp only at hf hne ⊢
    cases hv2 : k.f F with
    | none => rw [hv2] at hne; exact absurd rfl hne
    | some u =>
      rw [hv2] at hf hne; dsimp only at hf hne ⊢
      have hvr := opd_sound hg F φ D a hF v hv
      have hur := opd_sound hk F φ D a hF u hv2
      unfold cMksl at hf hne ⊢
      split at hne
      · rename_i k1 l k2 c
        split at hne
        · rename_i hcond
          dsimp only at hf
          rw [hcond] at hf
          dsimp only at hf
          simp only [Bool.and_eq_true] at hcond
          obtain ⟨⟨c1, c2⟩, c3⟩ := hcond
          have c1 := Nat.le_of_ble_eq_true c1
          have c2 := Nat.le_of_ble_eq_true c2
          have c3 := Nat.le_of_ble_eq_true c3
          unfold big at c2
          generalize hxv : a.eval x = xv at hvr
          generalize hyv : a.eval y = yv at hur
          cases hvr
          cases hur
          have hz' : ∀ i, i < c * sz → ∃ xx v, ((Array.range (c * sz)).map ((if c * sz = 0 then #[] else zv.cells)[· % (if c * sz = 0 then #[] else zv.cells).size]!))[i]? = some xx ∧ z[i % z.length]? = some v ∧ VR φ D v xx := by
            intro i hi'
            rw [if_neg (by omega)]
            have hp : 0 < z.length := by
              rcases Nat.eq_zero_or_pos z.length with h | h
              · rw [← hzl, h] at hi'; simp at hi'
              · exact h
            exact zeros_rel (.atoms hc) hp (c * sz) i hi'
          generalize hcc : (Array.range (c * sz)).map ((if c * sz = 0 then #[] else zv.cells)[· % (if c * sz = 0 then #[] else zv.cells).size]!) = cc at hz'
          have hccs : cc.size = c * sz := by rw [← hcc]; simp
          have hdf : ∀ i v, dflt z i = some v → z[i % z.length]? = some v := by
            intro i v hv
            cases z with
            | nil => cases hv
            | cons z0 r => cases r with
              | nil => have hv' : some z0 = some v := hv; simpa [Nat.mod_one] using hv'
              | cons z1 r => exact hv
          obtain ⟨h1, h2⟩ := rel_row hr hf cc e (0, 0) (.inl rfl) (.cells (c * sz) z [] .nil) (c * sz) z [] .nil rfl
            (fun i v hv => by
              rw [getc_eq] at hv
              split at hv
              · rename_i hi'
                simp at hv
                obtain ⟨xx, v', q1, q2, q3⟩ := hz' i hi'
                rw [hdf i v hv] at q2
                injection q2 with q2; subst q2
                exact ⟨xx, q1, q3⟩
              · cases hv) (fun _ hz0 => by subst hz0; simp at hzl; subst hzl; simp) (by omega) w.drawn
          refine ⟨.value (.slice (some ⟨w.heap.size, 0, none⟩) l c), _, _, _, ?_, .value _, h2, h1, sl_new c1 (by omega)⟩
          have hw1 : IntKind.i64.wrap (Int.ofNat l) = Int.ofNat l := by
            have hp : (2 : Int) ^ IntKind.i64.bits = 18446744073709551616 := by decide
            have hp2 : (2 : Int) ^ (IntKind.i64.bits - 1) = 9223372036854775808 := by decide
            unfold IntKind.wrap
            rw [hp, hp2]
            have hm : (Int.ofNat l) % 18446744073709551616 = Int.ofNat l := Int.emod_eq_of_lt (Int.natCast_nonneg _) (by simp; omega)
            rw [hm]
            simp
            omega
          have hw2 : IntKind.i64.wrap (Int.ofNat c) = Int.ofNat c := by
            have hp : (2 : Int) ^ IntKind.i64.bits = 18446744073709551616 := by decide
            have hp2 : (2 : Int) ^ (IntKind.i64.bits - 1) = 9223372036854775808 := by decide
            unfold IntKind.wrap
            rw [hp, hp2]
            have hm : (Int.ofNat c) % 18446744073709551616 = Int.ofNat c := Int.emod_eq_of_lt (Int.natCast_nonneg _) (by simp; omega)
            rw [hm]
            simp
            omega
          have hbig : ¬ (((by_ : Nat) : Int) * (Int.ofNat c) > 2 ^ 48) := by
            have : ((by_ : Nat) : Int) * (Int.ofNat c) = ((by_ * c : Nat) : Int) := by simp
            rw [this]; omega
          have hrun : (Instr.makeSlice t (.int k1 (Int.ofNat l)) (.int k2 (Int.ofNat c))).run P w = .ok (.slice (some ⟨w.heap.size, 0, none⟩) l c) (World.newObj { w with drawn := w.drawn } (.cells cc e (0, 0))) := by
            unfold Instr.makeSlice
            simp only [Sem.run_bind, run_underlying hu, Result.andThen_ok, asInt, asIntOf, Sem.run_pure, run_typeInfo w hi, hw1, hw2, hby]
            rw [if_neg (by simp; omega)]
            simp only [Sem.run_bind, run_askRoom, Result.andThen_ok, sizeT_run hs, show (Int.ofNat c).toNat = c from rfl, show (Int.ofNat l).toNat = l from rfl]
            by_cases hz0 : c * sz = 0
            · rw [if_pos hz0]
              rw [if_pos hz0] at hcc
              simp only [Sem.run_bind, Sem.run_pure, Result.andThen_ok]
              rw [hcc]; simp [newRow, World.newObj]
            · rw [if_neg hz0]
              rw [if_neg hz0] at hcc
              simp only [Sem.run_bind, run_zero hi h0, Sem.run_pure, Result.andThen_ok]
              rw [hcc]; simp [newRow, World.newObj]
          simp only [execOp, ho, hxv, hyv, Sem.run_bind, hrun, Result.andThen_ok, Sem.run_pure]
        · exact absurd rfl hne
      · exact absurd rfl hne
end
end Go.Abs
