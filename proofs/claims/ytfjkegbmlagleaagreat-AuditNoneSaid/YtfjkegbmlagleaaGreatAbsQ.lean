/- The abstract machine: each operation's effect is what the model does. Part three: stores, aggregates, slices, numbers. -/
import Derived.Test.YtfjkegbmlagleaaGreatAbsP
import Derived.Laws.Tables
import Derived.Great.BuildSlice
namespace Go.Abs
section
variable {P : Program}

theorem fin_of {s : Sem Next} {φ : Ph} {D : Da} {h : Hf} {w : World} {n : Nat} {r : ERes} (h1 : Does P s φ D h w n r) : Does P s φ D h w n r := h1

theorem Does.upd {s : Sem Next} {φ : Ph} {D : Da} {h : Hf} {w : World} {n b : Nat} {p : Nat × Nat × Nat} {k : ABlk} {v : AV} {nx : Next} {cv : Value} {o : Obj} (hr : Rel φ D h w) (hb : h b ≠ none) (hp : φ b = some p)
    (hrun : s.run P w = .ok nx (World.putObj w p.1 o)) (hnx : NextIs nx cv) (hk : BlkR φ D (World.putObj w p.1 o) p k) (hv : VR φ D v cv) : Does P s φ D h w n (.upd v b k) := by
  obtain ⟨h1, h2⟩ := rel_upd (n := n) hr hb hp (World.putObj w p.1 o) (fun c hc => putObj_ne _ hc) (putObj_size ..) rfl rfl hk
  exact ⟨nx, cv, φ, _, hrun, hnx, h2, h1, hv⟩

/-! ### parts -/
theorem patch_spec : ∀ {cs : List AV} {o : Nat} {vs r : List AV}, patch cs o vs = some r → r.length = cs.length ∧ (vs = [] ∨ o + vs.length ≤ cs.length) ∧
    ∀ j, r[j]? = if o ≤ j ∧ j < o + vs.length then vs[j - o]? else cs[j]?
  | cs, o, [], r, h => by
    have : r = cs := by cases cs <;> cases o <;> simp [patch] at h <;> simp [h]
    subst this
    exact ⟨rfl, .inl rfl, fun j => by rw [if_neg (by simp)]⟩
  | [], o, _ :: _, r, h => by cases o <;> simp [patch] at h
  | c :: cs, 0, v :: vs, r, h => by
    simp only [patch] at h
    cases hp : patch cs 0 vs with
    | none => rw [hp] at h; cases h
    | some r' =>
      rw [hp] at h; injection h with h; subst h
      obtain ⟨h1, h2, h3⟩ := patch_spec hp
      refine ⟨by simp [h1], .inr ?_, fun j => ?_⟩
      · rcases h2 with h2 | h2
        · subst h2; simp
        · simp; omega
      · cases j with
        | zero => simp
        | succ j =>
          have := h3 j
          simp at this ⊢
          exact this
  | c :: cs, o + 1, v :: vs, r, h => by
    simp only [patch] at h
    cases hp : patch cs o (v :: vs) with
    | none => rw [hp] at h; cases h
    | some r' =>
      rw [hp] at h; injection h with h; subst h
      obtain ⟨h1, h2, h3⟩ := patch_spec hp
      refine ⟨by simp [h1], .inr ?_, fun j => ?_⟩
      · rcases h2 with h2 | h2
        · cases h2
        · simp at h2 ⊢; omega
      · cases j with
        | zero => rw [if_neg (by omega)]; simp
        | succ j =>
          have := h3 j
          by_cases hc : o ≤ j ∧ j < o + (v :: vs).length
          · rw [if_pos hc] at this
            rw [if_pos (by omega), show j + 1 - (o + 1) = j - o from by omega]; simpa using this
          · rw [if_neg hc] at this
            rw [if_neg (by omega)]; simpa using this

theorem stBlk_ok {φ : Ph} {D : Da} {w : World} {p : Nat × Nat × Nat} {u o : Nat} {z bs : List AV} {t : Ov AV} {vs : List AV} (hi : t = .nil → z = [] → bs.length = u) (hl : o + vs.length ≤ u)
    (h : BlkR φ D w p (.cells u z bs (Ov.putAll vs o t))) : BlkR φ D w p (stBlk u z bs t vs o) := by
  unfold stBlk
  split
  · split
    · split
      · split
        · rename_i bs' hp
          obtain ⟨h1, h2, h3⟩ := patch_spec hp
          have hb := hi rfl rfl
          obtain ⟨c, e, fr, q1, q2, q3, q4, q5, q6⟩ := h
          refine ⟨c, e, fr, q1, q2, q3, fun i v hv => q4 i v ?_, fun _ _ => by rw [h1, hb], q6⟩
          rw [getc_eq] at hv ⊢
          split at hv
          · rename_i hiu
            rw [if_pos hiu]
            have hlt : i < bs'.length := by rw [h1, hb]; exact hiu
            rw [List.getElem?_eq_getElem hlt] at hv
            simp only [Ov.get_nil] at hv
            rw [Ov.get_putAll]
            have h3i := h3 i
            rw [List.getElem?_eq_getElem hlt] at h3i
            by_cases hc : o ≤ i ∧ i < o + vs.length
            · rw [if_pos hc] at h3i ⊢
              rw [← h3i]; exact hv
            · rw [if_neg hc] at h3i ⊢
              simp only [Ov.get_nil]
              rw [← h3i]; exact hv
          · cases hv
        · exact h
      · exact h
    · exact h
  · exact h
  · exact h

theorem ok_store {o : Oper} {t : TypeId} {k : Nat} {x y : Operand} {g l : G} (ho : o.op = .store t x y) (hg : opd x = some g) (hl : opd y = some l) (hk : sizeT P t = some k) : EffOk P o (eStore k g l) := by
  intro F H n φ D a w hr hF hf hne
  unfold eStore at hf hne ⊢
  cases hv : g.f F with
  | none => rw [hv] at hne; exact absurd rfl hne
  | some v =>
    rw [hv] at hf hne
    dsimp only at hf hne ⊢
    cases hu : l.f F with
    | none => rw [hu] at hne; exact absurd rfl hne
    | some u =>
      rw [hu] at hf hne
      dsimp only at hf hne ⊢
      have hvr := opd_sound hg F φ D a hF v hv
      have hur := opd_sound hl F φ D a hF u hu
      unfold cStore at hne ⊢
      split at hne
      · rename_i b off
        split at hne
        · rename_i us z bs tt hb
          split at hne
          · rename_i hc
            simp only [Bool.and_eq_true] at hc
            obtain ⟨⟨hc1, hc2⟩, hc3⟩ := hc
            have hc1 := Nat.eq_of_beq_eq_true hc1
            have hc2 := Nat.le_of_ble_eq_true hc2
            generalize hxv : a.eval x = xv at hvr
            cases hvr with
            | ptr _ _ cb co cz hp =>
            have hcells := hur.cells
            have hlen : u.cells.length = k := by rw [← hur.len]; exact hc1
            obtain ⟨_, c, e, fr, q1, q2, q3, q4, q5, q6⟩ := hr.block hb hp
            dsimp only at q6
            obtain ⟨c', e', fr', hrun, hk'⟩ := blk_store (P := P) (off := off) hr hb hp hcells (allOne_spec hc3) (.inr (by omega)) us q6 (fun i hi => .inl hi) (fun _ => rfl) tt rfl
            have hk' := stBlk_ok (fun a b => q5 a b) (by omega) hk'
            have hsz : (a.eval y).cells.size = k := by
              have := hcells.length
              simp at this; omega
            refine Does.upd (P := P) (nx := .skip) (cv := undef) hr (by rw [hb]; simp) hp ?_ .skip hk' (.tup _ _ .nil)
            simp [execOp, ho, hxv, Instr.storeAt, Instr.sureAddr, storeVar, sizeT_run hk, hsz, hrun]
          · exact absurd rfl hne
        · exact absurd rfl hne
      · exact absurd rfl hne

theorem fold_set (off : Nat) : ∀ (l : List Value) (k : Nat) (cells : Array Value), off + k + l.length ≤ cells.size →
    let r := (l.zipIdx k).foldl (fun cs (x : Value × Nat) => cs.setIfInBounds (off + x.2) x.1) cells
    r.size = cells.size ∧ ∀ j, r[j]? = if off + k ≤ j ∧ j < off + k + l.length then l[j - (off + k)]? else cells[j]?
  | [], k, cells, _ => ⟨rfl, fun j => by rw [if_neg (by simp)]; rfl⟩
  | x :: l, k, cells, h => by
    simp at h
    obtain ⟨h1, h2⟩ := fold_set off l (k + 1) (cells.setIfInBounds (off + k) x) (by simp; omega)
    refine ⟨by simpa [List.zipIdx_cons] using h1, fun j => ?_⟩
    have := h2 j
    simp only [List.zipIdx_cons, List.foldl_cons]
    rw [this]
    by_cases hc : off + (k + 1) ≤ j ∧ j < off + (k + 1) + l.length
    · rw [if_pos hc, if_pos (by simp; omega)]
      obtain ⟨i, rfl⟩ : ∃ i, j = off + k + 1 + i := ⟨j - (off + k + 1), by omega⟩
      rw [show off + k + 1 + i - (off + k) = i + 1 from by omega, show off + k + 1 + i - (off + (k + 1)) = i from by omega]; simp
    · rw [if_neg hc, Array.getElem?_setIfInBounds]
      by_cases h3 : j = off + k
      · subst h3; simp; omega
      · rw [if_neg (by omega), if_neg (by simp; omega)]

theorem fill_sound {φ : Ph} {D : Da} {F : Fr} {a : Act} (hF : FR φ D F.get a.tmps) (place : Nat → Option (Nat × Nat)) : ∀ (parts : List (Nat × Operand)) (ps : List (Nat × Nat × G)) (z cs : List AV) (zc : Array Value),
    compParts place parts = some ps → fillP F ps z = some cs → VRs φ D z zc.toList → ∃ cc, Instr.fill place zc (parts.map fun x => (x.1, a.eval x.2)) = some cc ∧ VRs φ D cs cc.toList ∧ cs.length = z.length
  | [], ps, z, cs, zc, hp, hf, hz => by
    simp [compParts] at hp; subst hp
    simp [fillP] at hf; subst hf
    exact ⟨zc, rfl, hz, rfl⟩
  | (i, x) :: r, ps, z, cs, zc, hp, hf, hz => by
    simp only [compParts] at hp
    split at hp
    · rename_i o s hpl
      split at hp
      · rename_i g hg
        split at hp
        · rename_i l hl
          injection hp with hp; subst hp
          simp only [fillP] at hf
          split at hf
          · rename_i v hv
            split at hf
            · rename_i hlen
              simp only [Bool.and_eq_true] at hlen
              obtain ⟨hlen, hpos⟩ := hlen
              have hlen := Nat.eq_of_beq_eq_true hlen
              have hpos : 0 < s := Nat.le_of_ble_eq_true hpos
              split at hf
              · rename_i cs' hpa
                have hvr := opd_sound hg F φ D a hF v hv
                have hc := hvr.cells
                have hcl := hc.length
                rw [hvr.len] at hlen
                obtain ⟨q1, q2, q3⟩ := patch_spec hpa
                have hzl := hz.length
                have hs : (a.eval x).cells.size = s := by simp at hcl; omega
                have hfit : o + (a.eval x).cells.size ≤ zc.size := by
                  rcases q2 with q2 | q2
                  · rw [q2] at hlen; simp at hlen; omega
                  · simp at hcl hzl; omega
                obtain ⟨f1, f2⟩ := fold_set o (a.eval x).cells.toList 0 zc (by simpa using hfit)
                generalize hzc : ((a.eval x).cells.toList.zipIdx 0).foldl (fun cs (x : Value × Nat) => cs.setIfInBounds (o + x.2) x.1) zc = zc' at f1 f2
                have hzv : VRs φ D cs' zc'.toList := by
                  refine VRs.of_get (by simp at hzl; simp [q1, f1, hzl]) fun j u hu => ?_
                  rw [q3 j] at hu
                  have hfj := f2 j
                  by_cases hc' : o ≤ j ∧ j < o + v.cells.length
                  · rw [if_pos hc'] at hu
                    obtain ⟨y, hy, hu'⟩ := hc.get hu
                    rw [if_pos (by simp at hcl ⊢; omega)] at hfj
                    exact ⟨y, by simp [hfj]; simpa using hy, hu'⟩
                  · rw [if_neg hc'] at hu
                    obtain ⟨y, hy, hu'⟩ := hz.get hu
                    rw [if_neg (by simp at hcl ⊢; omega)] at hfj
                    exact ⟨y, by simp [hfj]; simpa using hy, hu'⟩
                obtain ⟨cc, g1, g2, g3⟩ := fill_sound hF place r l cs' cs zc' hl hf hzv
                refine ⟨cc, ?_, g2, by omega⟩
                have hz' : (a.eval x).cells.zipIdx.foldl (fun cs (x : Value × Nat) => cs.setIfInBounds (o + x.2) x.1) zc = zc' := by
                  rw [← hzc, ← Array.foldl_toList]; simp
                simp only [List.map_cons, Instr.fill, hpl]
                rw [if_neg (by simp [hs]; omega)]
                rw [← g1, ← hz']
              · cases hf
            · cases hf
          · cases hf
        · cases hp
      · cases hp
    · cases hp

end
end Go.Abs
