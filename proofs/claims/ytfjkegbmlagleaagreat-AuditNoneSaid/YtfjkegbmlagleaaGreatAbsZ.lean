/- The abstract machine: each operation's effect is what the model does. Part ten: copy, len, '==', min, max, maps. -/
import Derived.Test.YtfjkegbmlagleaaGreatAbsY
namespace Go.Abs
section
variable {P : Program}

theorem cpy_store {φ : Ph} {D : Da} {h : Hf} {w : World} {b cb co cz u off : Nat} {z bs : List AV} {t : Ov AV} {vs : List AV} {xs : List Value} (hr : Rel φ D h w) (hb : h b = some (.cells u z bs t)) (hp : φ b = some (cb, co, cz))
    (hv : VRs φ D vs xs) (h1 : ∀ v ∈ vs, v.one = true) (hfit : off + vs.length ≤ u) :
    ∃ c' e fr, (storeCells ⟨cb, co + off, none⟩ xs).run P w = .ok () (World.putObj w cb (.cells c' e fr)) ∧
      BlkR φ D (World.putObj w cb (.cells c' e fr)) (cb, co, cz) (.cells u z bs (Ov.putAll vs off t)) := by
  obtain ⟨_, c, e, fr, q1, q2, q3, q4, q5, q6⟩ := hr.block hb hp
  dsimp only at q6
  exact blk_store (P := P) hr hb hp hv h1 (.inr (by omega)) u q6 (fun i hi => .inl hi) (fun _ => rfl) t rfl

theorem run_copy {ats : Array TypeId} {args : Array Value} {t e ty : TypeId} {sz dl cap m : Nat} {ad : Addr} {x : Value} {xs : List Value} {w w' : World} (h0 : ats[0]? = some t) (a0 : args[0]? = some (.slice (some ad) dl cap)) (a1 : args[1]? = some x)
    (hu : P.underlying t = some (.slice e)) (hs : sizeT P e = some sz) (hm : (Builtin.lenOf x).run P w = .ok m w) (hx : (Builtin.firstCells sz (Nat.min m dl) x).run P w = .ok ⟨xs⟩ w) (hst : (storeCells ad xs).run P w = .ok () w') :
    (Builtin.copy_ ats ty args).run P w = .ok (.int .i64 (Nat.min m dl : Nat)) w' := by
  unfold Builtin.copy_
  simp only [h0, a0, a1, Sem.run_bind, run_underlying hu, Result.andThen_ok, sizeT_run hs, hm, hx, hst, Sem.run_pure, goInt]

theorem run_copy_nil {ats : Array TypeId} {args : Array Value} {t e ty : TypeId} {sz cap m : Nat} {x : Value} {r : Array Value} {w : World} (h0 : ats[0]? = some t) (a0 : args[0]? = some (.slice none 0 cap)) (a1 : args[1]? = some x)
    (hu : P.underlying t = some (.slice e)) (hs : sizeT P e = some sz) (hm : (Builtin.lenOf x).run P w = .ok m w) (hx : (Builtin.firstCells sz 0 x).run P w = .ok r w) :
    (Builtin.copy_ ats ty args).run P w = .ok (.int .i64 0) w := by
  have hm0 : Nat.min m 0 = 0 := Nat.min_zero m
  unfold Builtin.copy_
  simp only [h0, a0, a1, Sem.run_bind, run_underlying hu, Result.andThen_ok, sizeT_run hs, hm, hm0, hx, Sem.run_pure, goInt]
  rfl
theorem first_none {φ : Ph} {D : Da} {w : World} {sz m : Nat} {v : AV} {x : Value} (hv : VR φ D v x) (hm : sliceLen v = some m) : ∃ r, (Builtin.firstCells sz 0 x).run P w = .ok r w := by
  unfold sliceLen at hm
  split at hm
  · cases hv; exact ⟨#[], by simp [Builtin.firstCells, loadCells, loadCellsFrom]⟩
  · cases hv <;> exact ⟨#[], by simp [Builtin.firstCells, loadCells, loadCellsFrom]⟩
  · cases hv with
    | cst _ hat => simp [atom] at hat; split at hat <;> simp_all [Builtin.firstCells]
  · cases hv; exact ⟨_, by simp [Builtin.firstCells]; rfl⟩
  · cases hm

theorem ok_cpy {o : Oper} {c : Call} {t e : TypeId} {sz : Nat} {x y : Operand} {g k : G} (ho : o.op = .call c) (hcb : c.callee = .builtin .copy) (h0 : c.argTypes[0]? = some t)
    (a0 : c.args[0]? = some x) (a1 : c.args[1]? = some y) (hg : opd x = some g) (hk : opd y = some k) (he : elemT P t = some e) (hs : sizeT P e = some sz) : EffOk P o (eCpy sz g k) := by
  have hu := elemT_spec he
  intro F H n φ D a w hr hF hf hne
  unfold eCpy at hf hne ⊢
  cases hv : g.f F with
  | none => rw [hv] at hne; exact absurd rfl hne
  | some d =>
  rw [hv] at hf hne; dsimp only at hf hne ⊢
  cases hv2 : k.f F with
  | none => rw [hv2] at hne; exact absurd rfl hne
  | some s =>
  rw [hv2] at hf hne; dsimp only at hf hne ⊢
  have hdr := opd_sound hg F φ D a hF d hv
  have hsr := opd_sound hk F φ D a hF s hv2
  clear hf
  generalize hdv : a.eval x = dv at hdr
  have A0 : (c.args.map a.eval)[0]? = some dv := by simp [a0, hdv]
  have A1 : (c.args.map a.eval)[1]? = some (a.eval y) := by simp [a1]
  have hexec : ∀ (r : Value) (w' : World), (Builtin.copy_ c.argTypes o.type (c.args.map a.eval)).run P w = .ok r w' → (execOp a.eval o).run P w = .ok (.value r) w' := by
    intro r w' h
    obtain ⟨cs, e⟩ := call_builtin (P := P) (ρ := a.eval) ho hcb w
    rw [e]
    simp only [builtin, Sem.run_bind, h, Result.andThen_ok, Sem.run_pure]
  unfold cCpy at hne ⊢
  split at hne
  · rename_i b off len q
    split at hne
    · rename_i m us zz bs tt hm hbk
      cases hdr with
      | sl _ _ _ _ cb co cz cap ad hp hle hex =>
      have hlr := sliceLen_spec (P := P) hm hsr w
      split at hne
      · rename_i c' p len' r
        split at hne
        · rename_i u' z' bs' t' hck
          split at hne
          · rename_i l hl
            split at hne
            · rename_i hcond
              simp only [Bool.and_eq_true] at hcond
              obtain ⟨⟨⟨d1, d2⟩, d3⟩, d4⟩ := hcond
              have d1 := Nat.eq_of_beq_eq_true d1
              have d2 := Nat.eq_of_beq_eq_true d2
              have d3 := Nat.le_of_ble_eq_true d3
              subst d1 d2
              simp only [sliceLen] at hm; injection hm with hm; subst hm
              -- the source, cut to as many as are copied
              have hsrc : sliceCells H r (.sl c' p (min len' len) r) = some l := by
                simp only [sliceCells]
                rw [show Nat.beq r r = true by simp]
                simp [hck, hl]
              generalize hsv : a.eval y = yv at hsr hlr A1
              cases hsr with
              | sl _ _ _ _ cb' co' cz' cap' ad' hp' hle' hex' =>
              have hsr' : VR φ D (.sl c' p (min len' len) r) (.slice (some ad') (min len' len) cap') := .sl _ _ _ _ cb' co' cz' _ _ hp' (by omega) hex'
              obtain ⟨s1, xs, s2, s3, s4⟩ := sliceCells_spec (P := P) hr hsr' hsrc rfl
              have s3' : (Builtin.firstCells r (Nat.min len' len) (.slice (some ad') len' cap')).run P w = .ok ⟨xs⟩ w := s3 w.drawn
              by_cases hc0 : cap = 0
              · have hl0 : min len' len = 0 := by omega
                have hlen0 : l = [] := List.eq_nil_of_length_eq_zero (by rw [s1, hl0]; simp)
                subst hlen0
                cases s2
                have hrun := run_copy (P := P) (ty := o.type) (w' := w) h0 A0 A1 hu hs hlr s3' (by simp [storeCells])
                obtain ⟨hbl, cc, ee, fr, p1, p2, p3, p4, p5, p6⟩ := hr.block hbk hp
                have hself := putObj_self p1
                refine Does.upd (P := P) (nx := .value (.int .i64 (Nat.min len' len : Nat))) (cv := .int .i64 (Nat.min len' len : Nat)) (o := .cells cc ee fr) hr (by rw [hbk]; simp) hp (by rw [hself]; exact hexec _ _ hrun) (.value _) ?_ (.int _ _)
                rw [hself]
                rw [Ov.putAll_nil]
                exact ⟨cc, ee, fr, p1, p2, p3, p4, p5, p6⟩
              · obtain ⟨rfl, hfit⟩ := hex (by omega)
                obtain ⟨cc, ee, fr, hst, hbr⟩ := cpy_store (P := P) (off := off) hr hbk hp s2 (allOne_spec d4) (by omega)
                have hrun := run_copy (P := P) (ty := o.type) h0 A0 A1 hu hs hlr s3' hst
                exact Does.upd (P := P) (nx := .value (.int .i64 (Nat.min len' len : Nat))) (cv := .int .i64 (Nat.min len' len : Nat)) hr (by rw [hbk]; simp) hp (hexec _ _ hrun) (.value _) hbr (.int _ _)
            · exact absurd rfl hne
          · exact absurd rfl hne
        · exact absurd rfl hne
      · rename_i l
        split at hne
        · rename_i hcond
          simp only [Bool.and_eq_true] at hcond
          obtain ⟨⟨d1, d2⟩, d3⟩ := hcond
          have d1 := Nat.eq_of_beq_eq_true d1
          have d2 := Nat.eq_of_beq_eq_true d2
          have d3 := Nat.le_of_ble_eq_true d3
          subst d1 d2
          simp only [sliceLen, lenAcc_zero] at hm; injection hm with hm; subst hm
          have hsrc : sliceCells H 1 (.str (l.take (min l.length len))) = some (u8s (l.take (min l.length len))) := rfl
          generalize hsv : a.eval y = yv at hsr hlr A1
          cases hsr with
          | str st _ hst0 =>
          have hxs : VRs φ D (u8s (l.take (min l.length len))) ((st.data.toList.take (min l.length len)).map fun b => .int .u8 b.toNat) := by
            rw [← hst0]
            unfold u8s
            refine VRs.of_get (by simp) fun i v hv => ?_
            rw [List.getElem?_map, List.getElem?_take] at hv
            rw [List.getElem?_map, List.getElem?_take]
            by_cases hi : i < min (List.map UInt8.toNat st.data.toList).length len
            · rw [if_pos hi] at hv ⊢
              rw [List.getElem?_map] at hv
              cases hd : st.data.toList[i]? with
              | none => rw [hd] at hv; cases hv
              | some b => rw [hd] at hv; simp at hv; subst hv; exact ⟨_, rfl, .int _ _⟩
            · rw [if_neg hi] at hv; cases hv
          have s3' : (Builtin.firstCells 1 (Nat.min l.length len) (.string st)).run P w = .ok ⟨(st.data.toList.take (min l.length len)).map fun b => .int .u8 b.toNat⟩ w := by
            simp only [Builtin.firstCells, Sem.run_pure]
            congr 1
            apply Array.ext'
            rw [Array.toList_map, ByteArray.data_extract]
            simp only [Array.toList_extract, List.extract_eq_take_drop]
            simp
          by_cases hc0 : cap = 0
          · have hl0 : min l.length len = 0 := by omega
            have hrun := run_copy (P := P) (ty := o.type) (w' := w) h0 A0 A1 hu hs hlr s3' (by rw [hl0]; simp [storeCells])
            obtain ⟨hbl, cc, ee, fr, p1, p2, p3, p4, p5, p6⟩ := hr.block hbk hp
            have hself := putObj_self p1
            refine Does.upd (P := P) (nx := .value (.int .i64 (Nat.min l.length len : Nat))) (cv := .int .i64 (Nat.min l.length len : Nat)) (o := .cells cc ee fr) hr (by rw [hbk]; simp) hp (by rw [hself]; exact hexec _ _ hrun) (.value _) ?_ (.int _ _)
            rw [hself, hl0]
            rw [show u8s (List.take 0 l) = [] from rfl, Ov.putAll_nil]
            exact ⟨cc, ee, fr, p1, p2, p3, p4, p5, p6⟩
          · obtain ⟨rfl, hfit⟩ := hex (by omega)
            obtain ⟨cc, ee, fr, hst, hbr⟩ := cpy_store (P := P) (off := off) hr hbk hp hxs (fun v hv => by
              unfold u8s at hv; rw [List.mem_map] at hv; obtain ⟨_, _, rfl⟩ := hv; rfl) (by simp [u8s]; omega)
            have hrun := run_copy (P := P) (ty := o.type) h0 A0 A1 hu hs hlr s3' hst
            exact Does.upd (P := P) (nx := .value (.int .i64 (Nat.min l.length len : Nat))) (cv := .int .i64 (Nat.min l.length len : Nat)) hr (by rw [hbk]; simp) hp (hexec _ _ hrun) (.value _) hbr (.int _ _)
        · exact absurd rfl hne
      · simp only [sliceLen] at hm; injection hm with hm; subst hm
        generalize hsv : a.eval y = yv at hsr hlr A1
        cases hsr with
        | cst _ hat =>
        have hrun := run_copy (P := P) (ty := o.type) (w' := w) (xs := []) h0 A0 A1 hu hs hlr (by simp [Builtin.firstCells]) (by simp [storeCells])
        refine Does.val hr (hexec _ _ hrun) ?_
        rw [show Nat.min 0 len = 0 from Nat.zero_min len]; exact .int _ _
      · exact absurd rfl hne
    · exact absurd rfl hne
  · split at hne
    · rename_i m hm
      cases hdr with
      | cst _ hat =>
      obtain ⟨r, hr0⟩ := first_none (P := P) (w := w) (sz := sz) hsr hm
      exact Does.val hr (hexec _ _ (run_copy_nil h0 A0 A1 hu hs (sliceLen_spec hm hsr w) hr0)) (.int _ _)
    · exact absurd rfl hne
  · exact absurd rfl hne
end
end Go.Abs
