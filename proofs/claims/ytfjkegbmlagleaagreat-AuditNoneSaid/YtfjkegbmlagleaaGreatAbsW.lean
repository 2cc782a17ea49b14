/- The abstract machine: each operation's effect is what the model does. Part seven: bytes, new slices, append, copy. -/
import Derived.Test.YtfjkegbmlagleaaGreatAbsV
import Derived.Laws.BytesString
namespace Go.Abs
section
variable {P : Program}

/-- the cells of a slice, and where they lie -/
theorem sliceCells_spec {φ : Ph} {D : Da} {w : World} {H : Hp} {sz k : Nat} {v : AV} {x : Value} {l : List AV} (hr : Rel φ D H.get w) (hv : VR φ D v x) (h : sliceCells H sz v = some l) (hk : sliceLen v = some k) :
    l.length = k * sz ∧ ∃ xs, VRs φ D l xs ∧ (∀ dr : Nat, (Builtin.firstCells sz k x).run P { w with drawn := dr } = .ok ⟨xs⟩ { w with drawn := dr }) ∧ (Builtin.lenOf x).run P w = .ok k w := by
  have hlen := sliceLen_spec (P := P) hk hv w
  unfold sliceCells at h
  split at h
  · rename_i b o len s
    simp only [sliceLen] at hk; injection hk with hk; subst hk
    cases hs : Nat.beq s sz with
    | false => rw [hs] at h; cases h
    | true =>
      rw [hs] at h
      have hs := Nat.eq_of_beq_eq_true hs
      subst hs
      dsimp only [cond] at h
      split at h
      · rename_i u z bs t hb
        cases hv with
        | sl _ _ _ _ cb co cz cap ad hp hle hex =>
        obtain ⟨_, c, e, fr, q1, q2, q3, q4, q5, q6⟩ := hr.block hb hp
        dsimp only at q1 q2 q4
        obtain ⟨g1, g2⟩ := grab_spec q5 h
        refine ⟨g1, ?_⟩
        have hx : ∀ i v, l[i]? = some v → ∃ x, c[co + o + i]? = some x ∧ VR φ D v x := by
          intro i v hv
          have hi : i < l.length := (List.getElem?_eq_some_iff.1 hv).1
          have := q4 (o + i) v (by rw [g2 i (by omega)]; exact hv)
          simpa [Nat.add_assoc] using this
        let xs := (c.toList.drop (co + o)).take (len * s)
        have hsz : co + o + len * s ≤ c.size ∨ len * s = 0 := by
          rcases Nat.eq_zero_or_pos (len * s) with h0 | h0
          · exact .inr h0
          · left
            obtain ⟨x, hx', _⟩ := hx (len * s - 1) l[len * s - 1] (List.getElem?_eq_getElem (by omega))
            have := (Array.getElem?_eq_some_iff.1 hx').1
            omega
        have hxl : xs.length = len * s := by simp [xs]; omega
        have hvs : VRs φ D l xs := by
          refine VRs.of_get (by omega) fun i v hv => ?_
          obtain ⟨x, hx1, hx2⟩ := hx i v hv
          have hi : i < l.length := (List.getElem?_eq_some_iff.1 hv).1
          exact ⟨x, by simp only [xs]; rw [List.getElem?_take, if_pos (by omega), List.getElem?_drop]; simpa using hx1, hx2⟩
        refine ⟨xs, hvs, fun dr => ?_, hlen⟩
        rcases Nat.eq_zero_or_pos cap with h0 | h0
        · have : len = 0 := by omega
          subst this
          have : xs = [] := List.eq_nil_of_length_eq_zero (by simpa using hxl)
          rw [this]
          simp [Builtin.firstCells, loadCells, loadCellsFrom]
        · obtain ⟨rfl, _⟩ := hex h0
          have hrun := run_loadCells_at (P := P) (w := { w with drawn := dr }) (cb := cb) (o := co + o) q1 xs (fun i x hx => by
            simp only [xs] at hx; rw [List.getElem?_take] at hx
            split at hx
            · rw [List.getElem?_drop] at hx; simpa using hx
            · cases hx)
          rw [hxl] at hrun
          simp only [Builtin.firstCells]
          exact hrun
      · cases h
  · rename_i cs len s
    simp only [sliceLen] at hk; injection hk with hk; subst hk
    cases hs : Nat.beq s sz with
    | false => rw [hs] at h; cases h
    | true =>
      rw [hs] at h
      have hs := Nat.eq_of_beq_eq_true hs
      subst hs
      dsimp only [cond] at h
      injection h with h; subst h
      cases hv with
      | ds _ _ _ cap cb co cells ll hD hll hcs hvs hle =>
        refine ⟨hcs, ll, hvs, fun dr => ?_, hlen⟩
        obtain ⟨e, fr, hh⟩ := hr.dat _ _ hD
        have hrun := run_loadCells_at (P := P) (w := { w with drawn := dr }) (cb := cb) (o := co) hh ll (fun i x hx => by
            rw [hll, List.getElem?_take] at hx
            split at hx
            · rw [List.getElem?_drop] at hx; simpa using hx
            · cases hx)
        rw [← hvs.length, hcs] at hrun
        simp only [Builtin.firstCells]
        exact hrun
      | ds0 => exact ⟨by simp, [], .nil, fun dr => by simp [Builtin.firstCells, loadCells, loadCellsFrom], hlen⟩
      | dsn => exact ⟨by simp, [], .nil, fun dr => by simp [Builtin.firstCells], hlen⟩
  · injection h with h; subst h
    simp only [sliceLen] at hk; injection hk with hk; subst hk
    cases hv with
    | cst _ hat => exact ⟨by simp, [], .nil, fun dr => by simp [Builtin.firstCells], hlen⟩
  · rename_i bs
    cases hs : Nat.beq sz 1 with
    | false => rw [hs] at h; cases h
    | true =>
      rw [hs] at h
      have hs := Nat.eq_of_beq_eq_true hs
      subst hs
      dsimp only [cond] at h
      injection h with h; subst h
      simp only [sliceLen, lenAcc_zero] at hk; injection hk with hk; subst hk
      cases hv with
      | str s _ hs =>
      have hl := bytes_list hs
      refine ⟨by simp [u8s], s.data.toList.map fun b => .int .u8 b.toNat, ?_, fun dr => ?_, hlen⟩
      · rw [← hs]
        unfold u8s
        refine VRs.of_get (by simp) fun i v hv => ?_
        simp only [List.getElem?_map, List.map_map] at hv ⊢
        cases hd : s.data.toList[i]? with
        | none => rw [hd] at hv; cases hv
        | some b => rw [hd] at hv; simp at hv; subst hv; exact ⟨_, rfl, .int _ _⟩
      · simp only [Builtin.firstCells]
        rw [← hl]
        have : (s.extract 0 s.size).data = s.data := by
          rw [ByteArray.data_extract]
          show s.data.extract 0 s.data.size = s.data
          simp
        rw [this]
        simp only [Sem.run_pure]
        congr 1
        apply Array.ext'
        simp
  · cases h

theorem bytesOf_ints {φ : Ph} {D : Da} : ∀ {l : List AV} {xs : List Value} {bs : List Nat}, VRs φ D l xs → bytesOf l = some bs → ∃ ns : List Int, xs = ns.map (.int .u8) ∧ bs = ns.map fun n => n.toNat % 256
  | [], xs, bs, h, hb => by
    cases h
    simp [bytesOf] at hb; subst hb
    exact ⟨[], rfl, rfl⟩
  | v :: l, xs, bs, h, hb => by
    cases h with
    | cons _ x _ xs h1 h2 =>
    unfold bytesOf at hb
    split at hb
    · rename_i heq; cases heq
    · rename_i n r heq
      injection heq with e1 e2
      subst e1 e2
      cases hr : bytesOf l with
      | none => rw [hr] at hb; cases hb
      | some bs' =>
        rw [hr] at hb
        injection hb with hb; subst hb
        obtain ⟨ns, rfl, rfl⟩ := bytesOf_ints h2 hr
        cases h1
        exact ⟨n :: ns, rfl, rfl⟩
    · cases hb
theorem fold_bytes : ∀ (ns : List Int) (s : ByteArray), (ns.foldl (fun r n => r.push (UInt8.ofNat n.toNat)) s).data.toList.map UInt8.toNat = s.data.toList.map UInt8.toNat ++ ns.map fun n => n.toNat % 256
  | [], s => by simp
  | n :: ns, s => by
    simp only [List.foldl_cons, List.map_cons]
    rw [fold_bytes ns, ByteArray.data_push]
    simp

theorem ok_b2s {o : Oper} {s d e : TypeId} {x : Operand} {g : G} (ho : o.op = .convert s d x) (hg : opd x = some g) (hs : P.underlying s = some (.slice e)) (hd : P.underlying d = some .string) (he : P.underlying e = some (.int .u8)) : EffOk P o (eB2s g) := by
  intro F H n φ D a w hr hF hf hne
  unfold eB2s at hf hne ⊢
  cases hv : g.f F with
  | none => rw [hv] at hne; exact absurd rfl hne
  | some v =>
    rw [hv] at hf hne
    dsimp only at hf hne ⊢
    have hvr := opd_sound hg F φ D a hF v hv
    have hns : ∀ l, v ≠ .str l := by rintro l rfl; exact hne rfl
    have hcb : cB2s v H = (match sliceCells H 1 v with
      | some l => match bytesOf l with
        | some bs => .val (.str bs)
        | none => .fail
      | none => .fail) := by
      unfold cB2s; split
      · exact absurd rfl (hns _)
      · rfl
    rw [hcb] at hf hne ⊢
    cases hc : sliceCells H 1 v with
    | none => rw [hc] at hne; exact absurd rfl hne
    | some l =>
      rw [hc] at hf hne; dsimp only at hf hne ⊢
      cases hb : bytesOf l with
      | none => rw [hb] at hne; exact absurd rfl hne
      | some bs =>
        dsimp only
        have hk : ∃ k, sliceLen v = some k := by
          unfold sliceCells at hc; unfold sliceLen
          split at hc <;> first | exact ⟨_, rfl⟩ | cases hc
        obtain ⟨k, hk⟩ := hk
        obtain ⟨h1, xs, h2, h3', h4⟩ := sliceCells_spec (P := P) hr hvr hc hk
        have h3 : (Builtin.firstCells 1 k (a.eval x)).run P w = .ok ⟨xs⟩ w := h3' w.drawn
        clear h3'
        obtain ⟨ns, rfl, rfl⟩ := bytesOf_ints h2 hb
        simp only [Nat.mul_one] at h1
        generalize hxv : a.eval x = xv at *
        have hshape : (∃ ad len cap, xv = .slice (some ad) len cap ∧ len = k) ∨ xv = .slice none 0 0 := by
          cases hvr with
          | sl => left; simp only [sliceLen] at hk; injection hk with hk; exact ⟨_, _, _, rfl, hk⟩
          | ds => left; simp only [sliceLen] at hk; injection hk with hk; exact ⟨_, _, _, rfl, hk⟩
          | ds0 => left; simp only [sliceLen] at hk; injection hk with hk; exact ⟨_, _, _, rfl, hk⟩
          | dsn => right; rfl
          | str => exact absurd rfl (hns _)
          | cst _ hat => right; unfold sliceLen at hk; split at hk <;> simp_all [atom]; split at hat <;> simp_all
          | _ => simp [sliceLen] at hk
        have hrun : ∃ st, (Conv.bytesToString xv).run P w = .ok (.string st) w ∧ st.data.toList.map UInt8.toNat = ns.map fun n => n.toNat % 256 := by
          rcases hshape with ⟨ad, len, cap, rfl, rfl⟩ | rfl
          · simp only [Builtin.firstCells, Nat.mul_one] at h3
            refine ⟨_, run_bytesToString w ad len cap ns h3, ?_⟩
            rw [fold_bytes]; rfl
          · refine ⟨ByteArray.empty, by simp [Conv.bytesToString], ?_⟩
            simp only [Builtin.firstCells, Sem.run_pure] at h3
            injection h3 with h3
            have : ns.map (Value.int .u8) = [] := by have := congrArg Array.toList h3; simpa using this.symm
            have : ns = [] := by simpa using this
            subst this; rfl
        obtain ⟨st, hst, hbytes⟩ := hrun
        refine Does.val hr (cv := .string st) ?_ (.str _ _ hbytes)
        have hconv : (convert s d xv).run P w = .ok (.string st) w := by
          obtain ⟨aa, ll, cc, rfl⟩ : ∃ aa ll cc, xv = .slice aa ll cc := by
            rcases hshape with ⟨ad, len, cap, rfl, _⟩ | rfl
            · exact ⟨_, _, _, rfl⟩
            · exact ⟨_, _, _, rfl⟩
          rw [run_convert_bytes_string w s d e aa ll cc hs he hd]; exact hst
        simp only [execOp, ho, hxv, Sem.run_bind, hconv, Result.andThen_ok, Sem.run_pure]
end
end Go.Abs
