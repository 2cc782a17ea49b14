/- The abstract machine: each operation's effect is what the model does: the join. -/
import Derived.Test.YtfjkegbmlagleaaGreatAbsCv
import Derived.Test.YtfjkegbmlagleaaGreatAbsEx
namespace Go.Abs
section
variable {P : Program}

theorem oopd_some {x : Option Operand} {g : Option G} (h : oopd x = some g) : x.isSome = g.isSome := by
  cases x with
  | none => simp [oopd] at h; subst h; rfl
  | some x => simp [oopd] at h; obtain ⟨a, _, rfl⟩ := h; rfl
theorem mx_ok {hi mx : Option Operand} {gh gm : Option G} (h : oopd hi = some gh) (k : oopd mx = some gm) (hc : (mx.isNone || hi.isSome) = true) : gm = none ∨ gh ≠ none := by
  have h1 := oopd_some h
  have h2 := oopd_some k
  cases hi <;> cases mx <;> cases gh <;> cases gm <;> simp_all
theorem compField_spec {s ft : TypeId} {f off : Nat} (h : compField P s f = some (off, ft)) : ∃ fs fd ti k, P.underlying s = some (.struct fs) ∧ fs[f]? = some fd ∧ P.info? fd.type = some ti ∧ ti.size = k + 1 ∧ off = fd.offset ∧ ft = fd.type := by
  unfold compField at h
  split at h
  · rename_i fs hu
    split at h
    · rename_i fd hf
      split at h
      · rename_i k hk
        simp only [Option.some.injEq, Prod.mk.injEq] at h
        cases hi : P.info? fd.type with
        | none => simp [sizeT, hi] at hk
        | some ti => exact ⟨fs, fd, ti, k, hu, hf, hi, by simpa [sizeT, hi] using hk, h.1.symm, h.2.symm⟩
      · cases h
    · cases h
  · cases h

theorem bin_sound {o : Oper} {op : BinOp} {t u : TypeId} {x y : Operand} {e : Eff} (ho : o.op = .binOp op t x y u) (h : compBin P op t x y = some e) : EffOk P o e := by
  unfold compBin at h
  split at h
  · rename_i a ha
    split at h
    · rename_i b hb
      split at h
      · rename_i hop
        split at h
        · rename_i fs hu
          split at h
          · rename_i k hk
            split at h
            · cases h
            · rename_i hg
              injection h with h; subst h
              exact ok_eqA ho ha hb hop hu hk (by simpa using hg)
          · cases h
        · split at h
          · rename_i q hq
            injection h with h; subst h
            exact ok_eq ho ha hb hop hq
          · cases h
      · rename_i hop
        injection h with h; subst h
        exact ok_bin ho ha hb (by cases op <;> simp [isEq] at hop ⊢)
    · cases h
  · cases h

theorem conv_sound {o : Oper} {s d : TypeId} {x : Operand} {e : Eff} (ho : o.op = .convert s d x) (h : compConv P s d x = some e) : EffOk P o e := by
  unfold compConv at h
  cases ha : opd x with
  | none => rw [ha] at h; cases h
  | some a =>
    rw [ha] at h
    simp only [Option.bind_eq_bind, Option.bind_some] at h
    split at h
    · rename_i hs hd; injection h with h; subst h; exact ok_toInt ho ha hs hd
    · rename_i hs hd; injection h with h; subst h; exact ok_sameStr ho ha hs hd
    · rename_i hs hd
      split at h
      · rename_i he; injection h with h; subst h; exact ok_s2b ho ha hs hd he
      · cases h
    · rename_i hs hd
      split at h
      · rename_i he; injection h with h; subst h; exact ok_b2s ho ha hs hd he
      · cases h
    · rename_i hs hd
      split at h
      · rename_i he
        split at h
        · rename_i hsd; injection h with h; subst h; exact ok_s2s ho ha hsd hs hd he
        · cases h
      · cases h
    · cases h

theorem builtin_sound {o : Oper} {c : Call} {b : Builtin} {e : Eff} (ho : o.op = .call c) (hc : c.callee = .builtin b) (h : compBuiltin P c b = some e) : EffOk P o e := by
  unfold compBuiltin at h
  split at h
  · simp only [Option.bind_eq_bind, Option.bind_eq_some_iff] at h
    obtain ⟨t, ht, x, hx, h⟩ := h
    split at h
    · rename_i n el hu; injection h with h; subst h; exact ok_lenConst ho hc ht hx hu (.inl ⟨_, rfl⟩)
    · rename_i arr hu
      split at h
      · rename_i n el hu'; injection h with h; subst h; exact ok_lenConst ho hc ht hx hu (.inr ⟨_, _, rfl, hu'⟩)
      · cases h
    · rename_i hu
      simp only [Option.bind_eq_some_iff] at h
      obtain ⟨g, hg, h⟩ := h
      injection h with h; subst h; exact ok_lenS ho hc ht hx hg hu
    · rename_i el hu
      simp only [Option.bind_eq_some_iff] at h
      obtain ⟨g, hg, h⟩ := h
      injection h with h; subst h; exact ok_lenL ho hc ht hx hg hu
    · rename_i hu
      simp only [Option.bind_eq_some_iff] at h
      obtain ⟨g, hg, h⟩ := h
      injection h with h; subst h; exact ok_lenm ho hc ht hx hg hu
    · cases h
  · simp only [Option.bind_eq_bind, Option.bind_eq_some_iff] at h
    obtain ⟨t, ht, u, hu, s, hs, x, hx, el, he, h⟩ := h
    split at h
    · cases h
    · cases h
    · rename_i hn1 hn2
      cases hd : P.underlying u with
      | none => exact absurd hd hn2
      | some d =>
        split at h
        · rename_i z hz
          split at h
          · rename_i sz hsz
            split at h
            · rename_i hl
              simp only [Option.bind_eq_some_iff] at h
              obtain ⟨by_, hb, g, hg, k, hk, h⟩ := h
              injection h with h; subst h
              exact ok_app ho hc ht hu hs hx hg hk he hd (fun k e => hn1 k (by rw [hd, e])) hz hsz hb hl
            · cases h
          · cases h
        · cases h
  · simp only [Option.bind_eq_bind, Option.bind_eq_some_iff] at h
    obtain ⟨t, ht, d, hd, s, hs, el, he, sz, hsz, g, hg, k, hk, h⟩ := h
    injection h with h; subst h
    exact ok_cpy ho hc ht hd hs hg hk he hsz
  · simp only [Option.bind_eq_bind, Option.bind_eq_some_iff] at h
    obtain ⟨t, ht, x, hx, h⟩ := h
    split at h
    · rename_i hu
      simp only [Option.bind_eq_some_iff] at h
      obtain ⟨g, hg, h⟩ := h
      injection h with h; subst h; exact ok_clrm ho hc ht hx hg hu
    · rename_i hu
      simp only [Option.bind_eq_some_iff] at h
      obtain ⟨z, hz, h⟩ := h
      split at h
      · rename_i hz1
        simp only [Option.bind_eq_some_iff] at h
        obtain ⟨g, hg, h⟩ := h
        injection h with h; subst h; exact ok_clrs ho hc ht hx hg hu hz rfl hz1
      · cases h
    · cases h
  · simp only [Option.bind_eq_bind, Option.bind_eq_some_iff] at h
    obtain ⟨t, ht, x, hx, y, hy, h⟩ := h
    split at h
    · rename_i hu
      simp only [Option.bind_eq_some_iff] at h
      obtain ⟨q, hq, g, hg, k, hk, h⟩ := h
      injection h with h; subst h; exact ok_del ho hc ht hx hy hg hk hu hq
    · cases h
  · simp only [Option.bind_eq_bind, Option.bind_eq_some_iff] at h
    obtain ⟨g, hg, h⟩ := h
    injection h with h; subst h; exact ok_min ho hc hg
  · simp only [Option.bind_eq_bind, Option.bind_eq_some_iff] at h
    obtain ⟨g, hg, h⟩ := h
    injection h with h; subst h; exact ok_max ho hc hg
  · cases h

theorem ext_sound {o : Oper} {c : Call} {f : FuncId} {e : Eff} (ho : o.op = .call c) (hc : c.callee = .value (.func f)) (h : compExt P f c.args.toList = some e) : EffOk P o e := by
  unfold compExt at h
  split at h
  · rename_i fn hf
    split at h
    · rename_i hb
      split at h
      · rename_i hn
        split at h
        · rename_i x y ha
          simp only [Option.bind_eq_bind, Option.bind_eq_some_iff] at h
          obtain ⟨g, hg, k, hk, h⟩ := h
          injection h with h; subst h; exact ok_cmps ho hc ha hf hb hn.1 hn.2 hg hk
        · cases h
      · cases h
    · cases h
  · cases h

theorem build_sound {o : Oper} {t : TypeId} {parts : Array (Nat × Operand)} {e : Eff} (ho : o.op = .build t parts) (h : compOp P o = some e) : EffOk P o e := by
  unfold compOp at h
  rw [ho] at h
  simp only [Option.bind_eq_bind, Option.bind_eq_some_iff] at h
  obtain ⟨z, hz, h⟩ := h
  split at h
  · rename_i fs hu
    split at h
    · rename_i places hp
      simp only [Option.map_eq_some_iff] at h
      obtain ⟨l, hl, rfl⟩ := h
      refine ok_build ho hz _ hl fun zv ti hi h0 ps => ?_
      unfold Program.built
      simp only [hi, hu, h0, hp]
      congr 1
      funext i
      simp
    · cases h
  · rename_i n el hu
    split at h
    · rename_i ie hie
      simp only [Option.map_eq_some_iff] at h
      obtain ⟨l, hl, rfl⟩ := h
      refine ok_build ho hz _ hl fun zv ti hi h0 ps => ?_
      unfold Program.built
      simp only [hi, hu, h0, hie]
    · cases h
  · cases h

theorem op_sound {o : Oper} {e : Eff} (h : compOp P o = some e) : EffOk P o e := by
  have h0 := h
  unfold compOp at h
  split at h
  · rename_i ho
    simp only [Option.map_eq_some_iff] at h; obtain ⟨g, hg, rfl⟩ := h; exact ok_mov (.inl ho) hg
  · rename_i ho
    simp only [Option.map_eq_some_iff] at h; obtain ⟨g, hg, rfl⟩ := h; exact ok_mov (.inr ho) hg
  · rename_i ho
    simp only [Option.bind_eq_bind, Option.bind_eq_some_iff] at h
    obtain ⟨g, hg, k, hk, l, hl, h⟩ := h; injection h with h; subst h; exact ok_pick ho hg hk hl
  · rename_i ho
    simp only [Option.map_eq_some_iff] at h; obtain ⟨z, hz, rfl⟩ := h; exact ok_alloc ho hz
  · rename_i ho
    simp only [Option.map_eq_some_iff] at h; obtain ⟨g, hg, rfl⟩ := h; exact ok_box ho hg
  · rename_i ho; exact build_sound ho h0
  · rename_i ho
    simp only [Option.bind_eq_bind, Option.bind_eq_some_iff] at h
    obtain ⟨el, he, k, hk, z, hz, l, hl, h⟩ := h
    split at h
    · rename_i hc; simp only [Bool.and_eq_true, decide_eq_true_eq] at hc; injection h with h; subst h; exact ok_bslice ho he hk hz hl hc.1 hc.2
    · cases h
  · rename_i ho
    simp only [Option.bind_eq_bind, Option.bind_eq_some_iff] at h
    obtain ⟨g, hg, b, hb, h⟩ := h
    split at h
    · rename_i hbt
      subst hbt
      simp only [Option.bind_eq_some_iff] at h
      obtain ⟨k, hk, h⟩ := h
      injection h with h; subst h; exact ok_loadN ho hg hb hk
    · rename_i hbt
      injection h with h; subst h; exact ok_load1 ho hg (by rw [hb]; simpa using hbt)
  · rename_i ho
    simp only [Option.bind_eq_bind, Option.bind_eq_some_iff] at h
    obtain ⟨k, hk, g, hg, l, hl, h⟩ := h
    injection h with h; subst h; exact ok_store ho hg hl hk
  · rename_i ho
    simp only [Option.map_eq_some_iff] at h; obtain ⟨g, hg, rfl⟩ := h; exact ok_nilc ho hg
  · rename_i ho; exact bin_sound ho h
  · rename_i ho
    simp only [Option.map_eq_some_iff] at h; obtain ⟨g, hg, rfl⟩ := h; exact ok_un ho hg
  · rename_i ho; exact conv_sound ho h
  · rename_i ho
    split at h
    · rename_i hu
      simp only [Option.map_eq_some_iff] at h; obtain ⟨g, hg, rfl⟩ := h; exact ok_arrat ho hg hu
    · cases h
  · rename_i t x ho
    split at h
    · cases h
    · cases h
    · rename_i hn1 hn2
      simp only [Option.map_eq_some_iff] at h; obtain ⟨g, hg, rfl⟩ := h
      cases hd : P.underlying t with
      | none => exact absurd hd hn2
      | some d => exact ok_mkif ho hg hd fun m e => hn1 m (by rw [hd, e])
  · rename_i ho
    simp only [Option.bind_eq_bind, Option.bind_eq_some_iff] at h
    obtain ⟨g, hg, l, hl, h⟩ := h
    injection h with h; subst h; exact ok_mkfn ho hg hl
  · rename_i ho
    injection h with h; subst h; exact ok_mkmap ho (.inl rfl)
  · rename_i ho
    split at h
    · rename_i hu
      injection h with h; subst h; exact ok_mkmap ho (.inr ⟨⟨_, _, rfl⟩, _, _, hu⟩)
    · cases h
  · rename_i ho
    split at h
    · rename_i hu
      simp only [Option.bind_eq_bind, Option.bind_eq_some_iff] at h
      obtain ⟨z, ⟨ti, hi, hz⟩, q, hq, az, haz, g, hg, k, hk, h⟩ := h
      injection h with h; subst h; exact ok_lookup ho hg hk hu hq hi hz haz
    · cases h
  · rename_i ho
    split at h
    · rename_i hu
      simp only [Option.bind_eq_bind, Option.bind_eq_some_iff] at h
      obtain ⟨q, hq, g, hg, k, hk, l, hl, h⟩ := h
      injection h with h; subst h; exact ok_mput (.inl ho) hg hk hl hu hq
    · cases h
  · rename_i ho
    split at h
    · rename_i hu
      simp only [Option.bind_eq_bind, Option.bind_eq_some_iff] at h
      obtain ⟨q, hq, g, hg, k, hk, l, hl, h⟩ := h
      injection h with h; subst h; exact ok_mput (.inr ho) hg hk hl hu hq
    · cases h
  · rename_i ho
    simp only [Option.bind_eq_bind, Option.bind_eq_some_iff] at h
    obtain ⟨el, he, z, hz, k, hk, h⟩ := h
    split at h
    · rename_i hc
      simp only [Option.bind_eq_some_iff] at h
      obtain ⟨by_, hb, g, hg, l, hl, h⟩ := h
      injection h with h; subst h; exact ok_mksl ho hg hl he hz hk hb hc
    · cases h
  · rename_i ho
    split at h
    · rename_i hu
      split at h
      · simp only [Option.bind_eq_bind, Option.bind_eq_some_iff] at h
        obtain ⟨g, hg, l, hl, k, hk, h⟩ := h
        injection h with h; subst h; exact ok_slcs ho hg hl hk hu
      · cases h
    · rename_i el hu
      split at h
      · rename_i hc
        simp only [Option.bind_eq_bind, Option.bind_eq_some_iff] at h
        obtain ⟨sz, hs, g, hg, l, hl, k, hk, m, hm, h⟩ := h
        injection h with h; subst h; exact ok_slc ho hg hl hk hm hu hs (mx_ok hk hm hc)
      · cases h
    · rename_i n el hu
      split at h
      · rename_i hc
        simp only [Option.bind_eq_bind, Option.bind_eq_some_iff] at h
        obtain ⟨sz, hs, g, hg, l, hl, k, hk, m, hm, h⟩ := h
        injection h with h; subst h; exact ok_slca ho hg hl hk hm hu hs (mx_ok hk hm hc)
      · cases h
    · cases h
  · rename_i ho
    simp only [Option.bind_eq_bind, Option.bind_eq_some_iff] at h
    obtain ⟨⟨off, ft⟩, hf, g, hg, h⟩ := h
    injection h with h; subst h
    obtain ⟨fs, fd, ti, k, h1, h2, h3, h4, rfl, rfl⟩ := compField_spec hf
    exact ok_addo ho hg h1 h2 h3 h4
  · rename_i ho
    simp only [Option.bind_eq_bind, Option.bind_eq_some_iff] at h
    obtain ⟨⟨off, ft⟩, hf, g, hg, b, hb, h⟩ := h
    obtain ⟨fs, fd, ti, k, h1, h2, h3, h4, rfl, rfl⟩ := compField_spec hf
    split at h
    · rename_i hbt
      subst hbt
      simp only [Option.bind_eq_some_iff] at h
      obtain ⟨k', hk, h⟩ := h
      injection h with h; subst h
      have : k' = ti.size := by simpa [sizeT, h3] using hk.symm
      subst this
      exact ok_fldN ho hg h1 h2 hb h3
    · rename_i hbt
      injection h with h; subst h; exact ok_fld1 ho hg h1 h2 (by rw [hb]; simpa using hbt)
  · rename_i ho
    split at h
    · rename_i hu
      simp only [Option.bind_eq_bind, Option.bind_eq_some_iff] at h
      obtain ⟨sz, hs, g, hg, k, hk, h⟩ := h
      injection h with h; subst h; exact ok_ixa ho hg hk hu hs
    · rename_i hu
      simp only [Option.bind_eq_bind, Option.bind_eq_some_iff] at h
      obtain ⟨sz, hs, g, hg, k, hk, h⟩ := h
      injection h with h; subst h; exact ok_ixarr ho hg hk hu hs
    · cases h
  · rename_i ho
    split at h
    · rename_i hu
      simp only [Option.bind_eq_bind, Option.bind_eq_some_iff] at h
      obtain ⟨g, hg, k, hk, h⟩ := h
      injection h with h; subst h; exact ok_ixs ho hg hk hu
    · rename_i hu
      simp only [Option.bind_eq_bind, Option.bind_eq_some_iff] at h
      obtain ⟨sz, hs, ag, ha, g, hg, k, hk, h⟩ := h
      injection h with h; subst h; exact ok_ixv ho hg hk hu hs ha
    · cases h
  · rename_i ho
    simp only [Option.bind_eq_bind, Option.bind_eq_some_iff] at h
    obtain ⟨g, hg, h⟩ := h
    injection h with h; subst h; exact ok_ext ho hg
  · rename_i ho
    split at h
    · rename_i hc; exact builtin_sound ho hc h
    · rename_i hc; exact ext_sound ho hc h
    · cases h
  · rename_i ho
    split at h
    · rename_i hu
      simp only [Option.map_eq_some_iff] at h; obtain ⟨g, hg, rfl⟩ := h; exact ok_rng ho hg hu
    · cases h
  · rename_i ho
    simp only [Option.map_eq_some_iff] at h; obtain ⟨g, hg, rfl⟩ := h; exact ok_nxt ho hg
  · rename_i ho
    simp only [Option.map_eq_some_iff] at h; obtain ⟨g, hg, rfl⟩ := h; exact ok_ent ho hg
  · cases h
end
end Go.Abs
