/- The abstract machine: each operation's effect is what the model does. Part four: aggregates, slices. -/
import Derived.Test.YtfjkegbmlagleaaGreatAbsQ
namespace Go.Abs
section
variable {P : Program}

theorem fill_parts {parts : Array (Nat × Operand)} {a : Act} : (parts.map fun (i, x) => (i, a.eval x)).toList = parts.toList.map fun x => (x.1, a.eval x.2) := by simp

theorem ok_build {o : Oper} {t : TypeId} {z : List AV} {parts : Array (Nat × Operand)} {l : List (Nat × Nat × G)} (ho : o.op = .build t parts) (hz : zeroT P t = some z) (place : Nat → Option (Nat × Nat)) (hl : compParts place parts.toList = some l)
    (hb : ∀ (zv : Value) (ti : TypeInfo), P.info? t = some ti → ti.zero = some zv → ∀ ps, P.built t ps = Instr.fill place zv.cells ps) : EffOk P o (eBuild z (lenAcc z 0) l) := by
  obtain ⟨ti, zv, hi, h0, hc⟩ := zeroT_spec hz
  intro F H n φ D a w hr hF hf hne
  unfold eBuild at hf hne ⊢
  cases hfp : fillP F l z with
  | none => rw [hfp] at hne; exact absurd rfl hne
  | some cs =>
    rw [hfp] at hf hne
    dsimp only at hf hne ⊢
    obtain ⟨cc, h1, h2, h3⟩ := fill_sound hF place parts.toList l z cs zv.cells hl hfp (.atoms hc)
    rw [lenAcc_zero]
    refine Does.val hr (cv := .agg cc) ?_ (.agg _ _ _ h2 h3)
    have := run_build (P := P) w t (parts.map fun (i, x) => (i, a.eval x)) cc (by rw [hb zv ti hi h0, fill_parts]; exact h1)
    simp only [execOp, ho, Sem.run_bind, this, Result.andThen_ok, Sem.run_pure]

theorem rep_length (z : List AV) : ∀ k, (rep z k).length = k * z.length
  | 0 => by simp [rep]
  | k + 1 => by simp [rep, rep_length z k, Nat.succ_mul, Nat.add_comm]
theorem rep_get (z : List AV) (hz : 0 < z.length) : ∀ k i, i < k * z.length → (rep z k)[i]? = z[i % z.length]?
  | 0, i, h => by omega
  | k + 1, i, h => by
    rw [Nat.succ_mul] at h
    simp only [rep]
    by_cases hi : i < z.length
    · rw [List.getElem?_append_left hi, Nat.mod_eq_of_lt hi]
    · rw [List.getElem?_append_right (by omega), rep_get z hz k _ (by omega)]
      rw [Nat.mod_eq_sub_mod (by omega : i ≥ z.length)]
theorem zeros_rel {φ : Ph} {D : Da} {z : List AV} {zc : Array Value} (hz : VRs φ D z zc.toList) (hpos : 0 < z.length) (m : Nat) :
    ∀ i, i < m → ∃ x v, ((Array.range m).map (zc[· % zc.size]!))[i]? = some x ∧ z[i % z.length]? = some v ∧ VR φ D v x := by
  intro i hi
  have hl := hz.length
  simp at hl
  have hlt : i % z.length < z.length := Nat.mod_lt _ hpos
  obtain ⟨y, hy, hv⟩ := hz.get (List.getElem?_eq_getElem hlt)
  refine ⟨y, _, ?_, List.getElem?_eq_getElem hlt, hv⟩
  simp only [Array.getElem?_map, Array.getElem?_range, hi, if_true, Option.map_some]
  rw [← hl]
  have : zc[i % z.length]? = some y := by simpa using hy
  rw [getElem!_def, this]
theorem rep_rel {φ : Ph} {D : Da} {z : List AV} {zc : Array Value} (hz : VRs φ D z zc.toList) (hpos : 0 < z.length) (k : Nat) :
    VRs φ D (rep z k) ((Array.range (k * z.length)).map (zc[· % zc.size]!)).toList := by
  refine VRs.of_get (by simp [rep_length]) fun i v hv => ?_
  have hi : i < k * z.length := by have := (List.getElem?_eq_some_iff.1 hv).1; rwa [rep_length] at this
  rw [rep_get z hpos k i hi] at hv
  obtain ⟨x, u, h1, h2, h3⟩ := zeros_rel (φ := φ) (D := D) hz hpos (k * z.length) i hi
  rw [h2] at hv; injection hv with hv; subst hv
  exact ⟨x, by rw [Array.getElem?_toList]; exact h1, h3⟩

theorem elemT_spec {t e : TypeId} (h : elemT P t = some e) : P.underlying t = some (.slice e) := by
  unfold elemT at h
  split at h
  · rename_i e' he; injection h with h; subst h; exact he
  · cases h

theorem sl_new {φ : Ph} {D : Da} {n cb cz len cap sz : Nat} (h1 : len ≤ cap) (h2 : cap * sz ≤ cz) : VR (Ph.set φ n (cb, 0, cz)) D (.sl n 0 len sz) (.slice (some ⟨cb, 0, none⟩) len cap) :=
  .sl _ _ _ _ cb 0 cz _ _ (by simp [Ph.set]) h1 fun _ => ⟨rfl, by omega⟩

theorem ok_bslice {o : Oper} {t e : TypeId} {z : List AV} {k sz : Nat} {parts : Array (Nat × Operand)} {l : List (Nat × Nat × G)} (ho : o.op = .buildSlice t k parts) (he : elemT P t = some e) (hs : sizeT P e = some sz) (hz : zeroT P e = some z)
    (hl : compParts (fun i => some (i * sz, sz)) parts.toList = some l) (hzl : z.length = sz) (hk : k * sz ≤ 16777216) : EffOk P o (eBslice z k sz l) := by
  obtain ⟨ti, zv, hi, h0, hc⟩ := zeroT_spec hz
  intro F H n φ D a w hr hF hf hne
  unfold eBslice at hf hne ⊢
  cases hfp : fillP F l (rep z k) with
  | none => rw [hfp] at hne; exact absurd rfl hne
  | some cs =>
    rw [hfp] at hf hne
    dsimp only at hf hne ⊢
    have hti : ti.size = sz := by simpa [sizeT, hi] using hs
    have hu := elemT_spec he
    have hz' : VRs φ D (rep z k) ((Array.range (k * sz)).map ((if k * sz = 0 then #[] else zv.cells)[· % (if k * sz = 0 then #[] else zv.cells).size]!)).toList := by
      rcases Nat.eq_zero_or_pos (k * sz) with h00 | hpos
      · rw [if_pos h00]
        have : rep z k = [] := List.eq_nil_of_length_eq_zero (by rw [rep_length, hzl]; exact h00)
        rw [this, h00]
        simpa using VRs.nil
      · rw [if_neg (by omega)]
        have hp : 0 < z.length := by rcases Nat.eq_zero_or_pos z.length with h | h; rw [← hzl, h] at hpos; simp at hpos; exact h
        have := rep_rel (φ := φ) (D := D) (.atoms hc) hp k
        rw [hzl] at this; exact this
    obtain ⟨cc, h1, h2, h3⟩ := fill_sound hF (fun i => some (i * sz, sz)) parts.toList l (rep z k) cs _ hl hfp hz'
    have hlen : cs.length = k * sz := by rw [h3, rep_length, hzl]
    have hcl := h2.length
    have := Does.newRow (P := P) (s := execOp a.eval o) (v := .sl n 0 k sz) (bs := cs) (c := cc) (e := e) (cv := .slice (some ⟨w.heap.size, 0, none⟩) k k) hr hf ?_ h2 (sl_new (Nat.le_refl _) (by simp at hcl; omega))
    · rw [hlen] at this; exact this
    · have hsmall : ¬ k * sz > 2 ^ 24 := by omega
      by_cases h00 : k * sz = 0
      · rw [if_pos h00] at h1
        have hrun : (Instr.buildSlice t k (parts.map fun (i, x) => (i, a.eval x))).run P w = .ok (.slice (some ⟨w.heap.size, 0, none⟩) k k) (World.newObj w (.cells cc e)) := by
          have h1' := h1
          rw [← fill_parts] at h1'
          simp only [Instr.buildSlice, Sem.run_bind, run_underlying hu, Result.andThen_ok, sizeT_run hs]
          rw [if_neg hsmall, if_pos h00]
          simp only [Sem.run_bind, Sem.run_pure, Result.andThen_ok]
          rw [h1']
          simp [newRow, World.newObj]
        simp only [execOp, ho, Sem.run_bind, hrun, Result.andThen_ok, Sem.run_pure]
      · rw [if_neg h00] at h1
        have hrun : (Instr.buildSlice t k (parts.map fun (i, x) => (i, a.eval x))).run P w = .ok (.slice (some ⟨w.heap.size, 0, none⟩) k k) (World.newObj w (.cells cc e)) := by
          have h1' := h1
          rw [← fill_parts] at h1'
          simp only [Instr.buildSlice, Sem.run_bind, run_underlying hu, Result.andThen_ok, sizeT_run hs]
          rw [if_neg hsmall, if_neg h00]
          simp only [Sem.run_bind, Sem.run_pure, Result.andThen_ok, run_zero hi h0]
          rw [h1']
          simp [newRow, World.newObj]
        simp only [execOp, ho, Sem.run_bind, hrun, Result.andThen_ok, Sem.run_pure]

/-! ### indexes -/
theorem ok_ixa {o : Oper} {t e : TypeId} {sz : Nat} {x y : Operand} {g k : G} (ho : o.op = .indexAddr t x y) (hg : opd x = some g) (hk : opd y = some k) (hu : P.underlying t = some (.slice e)) (hs : sizeT P e = some sz) : EffOk P o (e2 (cIxa sz) g k) := by
  refine eff2 hg hk _ fun φ D h w n ρ v u xv yv hr hx hy hv huv hf hne => ?_
  unfold cIxa at hne ⊢
  split at hne
  · rename_i b off len s kk i
    split at hne
    · rename_i hc
      simp only [Bool.and_eq_true] at hc
      have hc1 : i < len := Nat.le_of_ble_eq_true hc.1
      have hc2 := Nat.eq_of_beq_eq_true hc.2
      subst hc2
      cases huv
      cases hv with
      | sl _ _ _ _ cb co cz cap ad hp hle hex =>
      obtain ⟨rfl, hfit⟩ := hex (by omega)
      rw [forceN_eq]
      refine Does.val hr (cv := .pointer (some ⟨cb, co + (off + i * s), none⟩)) ?_ (.ptr _ _ _ _ _ hp)
      simp only [execOp, ho, hx, hy, Instr.indexAt, Sem.run_bind, asIntOf, Sem.run_pure, Result.andThen_ok, run_underlying hu]
      simp [sizeT_run hs, add_at, Nat.add_assoc, hc1]
    · exact absurd rfl hne
  · rename_i cs len s kk i
    split at hne
    · rename_i hc
      simp only [Bool.and_eq_true] at hc
      have hc1 : i < len := Nat.le_of_ble_eq_true hc.1
      have hc2 := Nat.eq_of_beq_eq_true hc.2
      subst hc2
      cases huv
      cases hv with
      | ds _ _ _ cap cb co cells l hD hl hcs hvs hle =>
        refine Does.val hr (cv := .pointer (some ⟨cb, co + i * s, none⟩)) ?_ ?_
        · simp only [execOp, ho, hx, hy, Instr.indexAt, Sem.run_bind, asIntOf, Sem.run_pure, Result.andThen_ok, run_underlying hu]
          simp [sizeT_run hs, add_at, hc1]
        · refine .dp _ _ _ _ _ hD rfl ?_
          have := hvs.drop (i * s)
          rw [hl, List.drop_take, List.drop_drop] at this
          have he : (cs.drop (i * s)).length = len * s - i * s := by simp [hcs]
          rw [he, Nat.add_comm co]
          rwa [Nat.add_comm co] at this
      | ds0 => omega
      | dsn => omega
    · exact absurd rfl hne
  · exact absurd rfl hne
theorem ok_ixarr {o : Oper} {t e : TypeId} {kk sz : Nat} {x y : Operand} {g k : G} (ho : o.op = .indexAddr t x y) (hg : opd x = some g) (hk : opd y = some k) (hu : P.underlying t = some (.array kk e)) (hs : sizeT P e = some sz) : EffOk P o (e2 (cIxarr kk sz) g k) := by
  refine eff2 hg hk _ fun φ D h w n ρ v u xv yv hr hx hy hv huv hf hne => ?_
  unfold cIxarr at hne ⊢
  split at hne
  · rename_i b off j i
    split at hne
    · rename_i hc
      have hc1 : i < kk := Nat.le_of_ble_eq_true hc
      cases huv
      cases hv with
      | ptr _ _ cb co cz hp =>
      rw [forceN_eq]
      refine Does.val hr (cv := .pointer (some ⟨cb, co + (off + i * sz), none⟩)) ?_ (.ptr _ _ _ _ _ hp)
      simp only [execOp, ho, hx, hy, Instr.indexAt, Sem.run_bind, asIntOf, Sem.run_pure, Result.andThen_ok, run_underlying hu, Instr.sureAddr]
      simp [sizeT_run hs, add_at, Nat.add_assoc, hc1]
    · exact absurd rfl hne
  · exact absurd rfl hne
theorem ok_ixv {o : Oper} {t e : TypeId} {kk sz : Nat} {ag : Bool} {x y : Operand} {g k : G} (ho : o.op = .index t x y) (hg : opd x = some g) (hk : opd y = some k) (hu : P.underlying t = some (.array kk e)) (hs : sizeT P e = some sz) (ha : aggT P e = some ag) :
    EffOk P o (e2 (cIxv kk sz ag) g k) := by
  refine eff2 hg hk _ fun φ D h w n ρ v u xv yv hr hx hy hv huv hf hne => ?_
  unfold cIxv at hne ⊢
  split at hne
  · rename_i j i
    split at hne
    · rename_i hc
      have hc1 : i < kk := Nat.le_of_ble_eq_true hc
      cases huv
      obtain ⟨ti, hi, hsz⟩ : ∃ ti, P.info? e = some ti ∧ ti.size = sz := by
        unfold sizeT at hs
        cases hi : P.info? e with
        | none => rw [hi] at hs; cases hs
        | some ti => rw [hi] at hs; injection hs with hs; exact ⟨ti, rfl, hs⟩
      split at hne
      · rename_i ha'
        rw [forceN_eq] at hne ⊢
        unfold cFldN at hne ⊢
        split at hne
        · cases hv with
          | agg cs l n hvs hl =>
          split at hne
          · rename_i hle
            have hle := Nat.le_of_ble_eq_true hle
            refine Does.val hr (cv := .agg ⟨(l.drop (i * sz)).take sz⟩) ?_ (.agg _ _ _ ((hvs.drop _).take _) (by simp; omega))
            have hex : (⟨l⟩ : Array Value).extract (i * sz) (i * sz + sz) = ⟨(l.drop (i * sz)).take sz⟩ := by
              apply Array.ext'
              simp [List.extract]
            simp only [execOp, ho, hx, hy, Instr.index, Sem.run_bind, asIntOf, Sem.run_pure, Result.andThen_ok, run_underlying hu]
            simp [sizeT_run hs, hc1, part_agg (P := P) ⟨l⟩ (i * sz) hi ha, hsz, hex]
          · exact absurd rfl hne
        · exact absurd rfl hne
      · rename_i ha'
        rw [forceN_eq] at hne ⊢
        unfold cFld1 at hne ⊢
        split at hne
        · rename_i cs _
          cases hv with
          | agg _ l _ hvs hl =>
          rw [nth_eq] at hne ⊢
          cases hcc : cs[i * sz]? with
          | none => rw [hcc] at hne; exact absurd rfl hne
          | some u =>
            obtain ⟨z, hz, hzu⟩ := hvs.get hcc
            refine Does.val hr (cv := z) ?_ hzu
            simp only [execOp, ho, hx, hy, Instr.index, Sem.run_bind, asIntOf, Sem.run_pure, Result.andThen_ok, run_underlying hu]
            simp [sizeT_run hs, hc1, part_one (P := P) ⟨l⟩ (i * sz) ha (v := z) (by simpa using hz)]
        · exact absurd rfl hne
    · exact absurd rfl hne
  · exact absurd rfl hne
end
end Go.Abs
