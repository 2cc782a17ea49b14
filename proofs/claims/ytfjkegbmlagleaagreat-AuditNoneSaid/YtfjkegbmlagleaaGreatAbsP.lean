/- The abstract machine: each operation's effect is what the model does. Part two: memory. -/
import Derived.Test.YtfjkegbmlagleaaGreatAbsO
namespace Go.Abs

theorem oneCell_of {x : Value} (h : isOne x = true) : x.oneCell' = true := by cases x <;> simp_all [isOne, Value.oneCell']

theorem setCell_putObj {w : World} {cb off : Nat} {c : Array Value} {e : TypeId} {fr : Nat × Nat} (v : Value) (h : w.heap[cb]? = some (.cells c e fr)) :
    w.setCell ⟨cb, off, none⟩ v = World.putObj w cb (.cells (c.setIfInBounds off v) e fr) := by
  unfold World.setCell World.putObj
  congr 1
  apply Array.ext_getElem?
  intro i
  simp only [Array.getElem?_modify, Array.getElem?_setIfInBounds]
  by_cases hi : cb = i
  · subst hi
    obtain ⟨hlt, he⟩ := Array.getElem?_eq_some_iff.1 h
    simp [hlt, he]
  · simp [hi]

theorem putObj_get (w : World) (cb : Nat) (o : Obj) (c : Nat) : (World.putObj w cb o).heap[c]? = if c = cb ∧ cb < w.heap.size then some o else w.heap[c]? := by
  unfold World.putObj
  simp only [Array.getElem?_setIfInBounds]
  by_cases h : cb = c
  · subst h
    by_cases hl : cb < w.heap.size <;> simp [hl]
  · simp [h, Ne.symm h]
theorem putObj_at {w : World} {cb : Nat} (o : Obj) (h : cb < w.heap.size) : (World.putObj w cb o).heap[cb]? = some o := by rw [putObj_get, if_pos ⟨rfl, h⟩]
theorem putObj_ne {w : World} {cb c : Nat} (o : Obj) (h : c ≠ cb) : (World.putObj w cb o).heap[c]? = w.heap[c]? := by rw [putObj_get, if_neg (fun e => h e.1)]
theorem putObj_size (w : World) (cb : Nat) (o : Obj) : (World.putObj w cb o).heap.size = w.heap.size := by simp [World.putObj]
theorem putObj_putObj (w : World) (cb : Nat) (o o' : Obj) : World.putObj (World.putObj w cb o) cb o' = World.putObj w cb o' := by
  unfold World.putObj
  congr 1
  apply Array.ext_getElem?
  intro i
  simp only [Array.getElem?_setIfInBounds, Array.size_setIfInBounds]
  by_cases h : cb = i <;> simp [h]
theorem putObj_self {w : World} {cb : Nat} {o : Obj} (h : w.heap[cb]? = some o) : World.putObj w cb o = w := by
  unfold World.putObj
  have : w.heap.setIfInBounds cb o = w.heap := by
    apply Array.ext_getElem?
    intro i
    simp only [Array.getElem?_setIfInBounds]
    by_cases hi : cb = i
    · subst hi; simp [h]
      obtain ⟨hl, he⟩ := Array.getElem?_eq_some_iff.1 h
      simp [hl]
    · simp [hi]
  rw [this]

section
variable {P : Program}

theorem cell_at {w : World} {cb : Nat} {c : Array Value} {e : TypeId} {fr : Nat × Nat} (h : w.heap[cb]? = some (.cells c e fr)) (i : Nat) : w.cell? ⟨cb, i, none⟩ = c[i]? := by
  simp [World.cell?, h]
theorem add_at (cb o i : Nat) : (⟨cb, o, none⟩ : Addr).add i = ⟨cb, o + i, none⟩ := by
  unfold Addr.add; split <;> simp_all

theorem run_loadCells_at {w : World} {cb o : Nat} {c : Array Value} {e : TypeId} {fr : Nat × Nat} (h : w.heap[cb]? = some (.cells c e fr)) (l : List Value) (hl : ∀ i x, l[i]? = some x → c[o + i]? = some x) :
    (loadCells ⟨cb, o, none⟩ l.length).run P w = .ok ⟨l⟩ w := by
  refine run_loadCells_list w _ l fun j v hv => ?_
  rw [add_at, cell_at h]
  exact hl j v hv

theorem run_storeCells_put (cb o : Nat) (e : TypeId) (fr : Nat × Nat) : ∀ (vs : List Value) (i : Nat) (c : Array Value) (w : World), w.heap[cb]? = some (.cells c e fr) →
    (∀ j, j < c.size → ¬ (fr.1 ≤ j ∧ j < fr.2)) → o + i + vs.length ≤ c.size → (∀ v ∈ vs, isOne v = true) →
    ∃ c', (storeCells ⟨cb, o, none⟩ vs i).run P w = .ok () (World.putObj w cb (.cells c' e fr)) ∧ c'.size = c.size ∧
      ∀ j, c'[j]? = if o + i ≤ j ∧ j < o + i + vs.length then vs[j - (o + i)]? else c[j]?
  | [], i, c, w, h, _, _, _ => ⟨c, by simp [storeCells, putObj_self h], rfl, fun j => by rw [if_neg (by simp)]⟩
  | v :: vs, i, c, w, h, hfr, hl, h1 => by
    have hi : o + i < c.size := by simp at hl; omega
    have hlt := (Array.getElem?_eq_some_iff.1 h).1
    have hf : w.frozen? ⟨cb, o + i, none⟩ = false := by
      have := hfr (o + i) hi
      simp only [World.frozen?, h]
      simp
      omega
    have hst : (store ((⟨cb, o, none⟩ : Addr).add i) v).run P w = .ok () (World.putObj w cb (.cells (c.setIfInBounds (o + i) v) e fr)) := by
      rw [add_at, run_store P w _ v _ (oneCell_of (h1 v (by simp))), cell_at h, Array.getElem?_eq_getElem hi]
      simp [hf, setCell_putObj v h]
    obtain ⟨c', hr, hs, hg⟩ := run_storeCells_put cb o e fr vs (i + 1) (c.setIfInBounds (o + i) v) (World.putObj w cb (.cells (c.setIfInBounds (o + i) v) e fr)) (putObj_at _ hlt)
      (by simpa using hfr) (by simp at hl ⊢; omega) (fun x hx => h1 x (by simp [hx]))
    refine ⟨c', ?_, by simpa using hs, fun j => ?_⟩
    · simp only [storeCells, Sem.run_bind, hst, Result.andThen_ok, hr, putObj_putObj]
    · rw [hg j]
      by_cases h2 : o + (i + 1) ≤ j ∧ j < o + (i + 1) + vs.length
      · rw [if_pos h2, if_pos (by simp; omega)]
        obtain ⟨k, rfl⟩ : ∃ k, j = o + i + 1 + k := ⟨j - (o + i + 1), by omega⟩
        rw [show o + i + 1 + k - (o + i) = k + 1 from by omega, show o + i + 1 + k - (o + (i + 1)) = k from by omega]; simp
      · rw [if_neg h2, Array.getElem?_setIfInBounds]
        by_cases h3 : j = o + i
        · subst h3; simp [hi]
        · rw [if_neg (by omega), if_neg (by simp; omega)]

theorem allOne_spec : ∀ {vs : List AV}, allOne vs = true → ∀ v ∈ vs, v.one = true
  | [], _, v, hv => by cases hv
  | u :: vs, h, v, hv => by
    simp only [allOne, Bool.and_eq_true] at h
    cases hv with
    | head => exact h.1
    | tail _ hm => exact allOne_spec h.2 v hm
theorem VRs.ones {φ D} : ∀ {vs xs}, VRs φ D vs xs → (∀ v ∈ vs, v.one = true) → ∀ x ∈ xs, isOne x = true
  | _, _, .nil, _, x, hx => by cases hx
  | _, _, .cons v y vs ys h k, h1, x, hx => by
    cases hx with
    | head => exact h.one (h1 v (by simp))
    | tail _ hm => exact VRs.ones k (fun u hu => h1 u (by simp [hu])) x hm

/-- A fresh row of cells. -/
theorem blk_row {φ : Ph} {D : Da} {w : World} {cb : Nat} {c : Array Value} {e : TypeId} {bs : List AV} (h : w.heap[cb]? = some (.cells c e)) (hb : VRs φ D bs c.toList) :
    BlkR φ D w (cb, 0, c.size) (.cells bs.length [] bs .nil) := by
  refine ⟨c, e, (0, 0), h, rfl, .inl rfl, fun i v hv => ?_, fun _ _ => rfl, by have := hb.length; simp at this ⊢; omega⟩
  rw [getc_eq] at hv
  split at hv
  · simp at hv
    cases hb' : bs[i]? with
    | none => rw [hb'] at hv; simp [dflt] at hv
    | some u =>
      rw [hb'] at hv; simp at hv; subst hv
      obtain ⟨x, hx, hv⟩ := hb.get hb'
      exact ⟨x, by simpa using hx, hv⟩
  · cases hv

theorem new_get (w : World) (o : Obj) : (World.newObj w o).heap[w.heap.size]? = some o := by unfold World.newObj; exact Array.getElem?_push_size

/-- A new row of cells: what an operation that lays one comes to. -/
theorem Does.newRow {s : Sem Next} {φ : Ph} {D : Da} {h : Hf} {w : World} {n : Nat} {v : AV} {bs : List AV} {c : Array Value} {e : TypeId} {cv : Value} (hr : Rel φ D h w) (hf : Fresh φ n (n + 1))
    (hrun : s.run P w = .ok (.value cv) (World.newObj w (.cells c e))) (hb : VRs φ D bs c.toList) (hv : VR (Ph.set φ n (w.heap.size, 0, c.size)) D v cv) :
    Does P s φ D h w n (.new v (.cells bs.length [] bs .nil)) := by
  have hn : φ n = none := hf n (Nat.le_refl _) (by omega)
  obtain ⟨h1, h2⟩ := rel_new hr hf (.cells c e) c.size (.cells bs.length [] bs .nil)
    (blk_row (new_get w _) (hb.mono (Ph.set_mono hn) fun _ _ h => h))
  exact ⟨_, cv, _, _, hrun, .value _, h2, h1, hv⟩

theorem zeroT_spec {t : TypeId} {z : List AV} (h : zeroT P t = some z) : ∃ ti zv, P.info? t = some ti ∧ ti.zero = some zv ∧ avAtoms zv.cells.toList = some z := by
  unfold zeroT at h
  split at h
  · rename_i i hi
    split at h
    · rename_i zv hz
      exact ⟨i, zv, hi, hz, h⟩
    · cases h
  · cases h
theorem run_zero {t : TypeId} {ti : TypeInfo} {zv : Value} (hi : P.info? t = some ti) (hz : ti.zero = some zv) (w : World) : (zeroValue t).run P w = .ok zv w := by
  simp [zeroValue, run_typeInfo w hi, hz]

theorem ptr_new {φ : Ph} {D : Da} {n cb cz : Nat} : VR (Ph.set φ n (cb, 0, cz)) D (.ptr n 0) (.pointer (some ⟨cb, 0, none⟩)) := by
  have := VR.ptr (φ := Ph.set φ n (cb, 0, cz)) (D := D) n 0 cb 0 cz (by simp [Ph.set])
  simpa using this

theorem ok_alloc {o : Oper} {t : TypeId} {z : List AV} (ho : o.op = .alloc t) (hz : zeroT P t = some z) : EffOk P o (eAlloc z (lenAcc z 0)) := by
  obtain ⟨ti, zv, hi, h0, hc⟩ := zeroT_spec hz
  intro F H n φ D a w hr hF hf hne
  unfold eAlloc at hf hne ⊢
  rw [lenAcc_zero] at hf ⊢
  refine Does.newRow (P := P) (c := zv.cells) (e := t) (cv := .pointer (some ⟨w.heap.size, 0, none⟩)) hr hf ?_ (.atoms hc) ptr_new
  simp [execOp, ho, Instr.alloc, run_zero hi h0, newVar, newRow, World.newObj]

theorem ok_box {o : Oper} {t : TypeId} {x : Operand} {g : G} (ho : o.op = .box t x) (hg : opd x = some g) : EffOk P o (eBox g) := by
  intro F H n φ D a w hr hF hf hne
  unfold eBox at hf hne ⊢
  cases hv : g.f F with
  | none => rw [hv] at hne; exact absurd rfl hne
  | some v =>
    rw [hv] at hf hne
    have hvr := opd_sound hg F φ D a hF v hv
    dsimp only at hf hne ⊢
    rw [hvr.len] at hf ⊢
    refine Does.newRow (P := P) (c := (a.eval x).cells) (e := t) (cv := .pointer (some ⟨w.heap.size, 0, none⟩)) hr hf ?_ hvr.cells ptr_new
    simp [execOp, ho, Instr.box, newVar, newRow, World.newObj]

/-! ### loads, stores -/
theorem aggT_true {t : TypeId} (ha : aggT P t = some true) (w : World) : (isAgg t).run P w = .ok true w := by
  unfold isAgg; unfold aggT at ha
  cases hu : P.underlying t with
  | none => rw [hu] at ha; cases ha
  | some d => rw [hu] at ha; cases d <;> simp at ha <;> simp [run_underlying hu]
theorem aggT_false {t : TypeId} (ha : aggT P t = some false) (w : World) : (isAgg t).run P w = .ok false w := by
  unfold isAgg; unfold aggT at ha
  cases hu : P.underlying t with
  | none => rw [hu] at ha; cases ha
  | some d => rw [hu] at ha; cases d <;> simp at ha <;> simp [run_underlying hu]
theorem sizeT_run {t : TypeId} {k : Nat} (h : sizeT P t = some k) (w : World) : (sizeOf t).run P w = .ok k w := by
  unfold sizeT at h
  cases hi : P.info? t with
  | none => rw [hi] at h; cases h
  | some i => rw [hi] at h; injection h with h; subst h; simp [run_sizeOf w hi, Program.cellsOf, hi]

theorem ok_load1' {φ : Ph} {D : Da} {h : Hf} {w : World} {t : TypeId} {v u : AV} {xv : Value} (hr : Rel φ D h w) (hv : VR φ D v xv) (ha : aggT P t = some false) (H : Hp) (hH : ∀ b, H.get b = h b) (hc : cLoad1 v H = .val u) :
    ∃ cv, (Instr.loadAt t xv).run P w = .ok cv w ∧ VR φ D u cv := by
  unfold cLoad1 at hc
  split at hc
  · rename_i b o
    cases hv with
    | ptr _ _ cb co cz hp =>
    split at hc
    · rename_i uu z bs tt hb
      split at hc
      · rename_i y hy
        injection hc with hc; subst hc
        rw [hH] at hb
        obtain ⟨_, c, e, fr, hc1, hc2, hc3, hc4, _⟩ := hr.block hb hp
        obtain ⟨x, hx, hvx⟩ := hc4 o y hy
        dsimp only at hx
        refine ⟨x, ?_, hvx⟩
        simp [Instr.loadAt, Instr.sureAddr, loadVar, aggT_false ha, cell_at hc1, hx]
      · cases hc
    · cases hc
  · rename_i y ys
    injection hc with hc; subst hc
    cases hv with
    | dp _ cb co cells l hD hl hvs =>
    obtain ⟨e, fr, hh⟩ := hr.dat _ _ hD
    obtain ⟨x, hx, hvx⟩ := hvs.get (i := 0) rfl
    refine ⟨x, ?_, hvx⟩
    have : cells[co]? = some x := by
      rw [hl, List.getElem?_take] at hx
      split at hx
      · rw [List.getElem?_drop] at hx; simpa using hx
      · cases hx
    simp [Instr.loadAt, Instr.sureAddr, loadVar, aggT_false ha, cell_at hh, this]
  · cases hc
theorem ok_loadN' {φ : Ph} {D : Da} {h : Hf} {w : World} {t : TypeId} {k : Nat} {v u : AV} {xv : Value} (hr : Rel φ D h w) (hv : VR φ D v xv) (ha : aggT P t = some true) (hk : sizeT P t = some k) (H : Hp) (hH : ∀ b, H.get b = h b)
    (hc : cLoadN k v H = .val u) : ∃ cv, (Instr.loadAt t xv).run P w = .ok cv w ∧ VR φ D u cv := by
  unfold cLoadN at hc
  split at hc
  · rename_i b o
    cases hv with
    | ptr _ _ cb co cz hp =>
    split at hc
    · rename_i uu z bs tt hb
      split at hc
      · rename_i l hl
        injection hc with hc; subst hc
        rw [hH] at hb
        obtain ⟨_, c, e, fr, hc1, hc2, hc3, hc4, hc5, _⟩ := hr.block hb hp
        obtain ⟨hlen, hg⟩ := grab_spec hc5 hl
        dsimp only at hc4
        have hx : ∀ i v, l[i]? = some v → ∃ x, c[co + o + i]? = some x ∧ VR φ D v x := by
          intro i v hv
          have hi : i < l.length := (List.getElem?_eq_some_iff.1 hv).1
          have := hc4 (o + i) v (by rw [hg i (by omega)]; exact hv)
          simpa [Nat.add_assoc] using this
        have hsz : co + o + k ≤ c.size ∨ k = 0 := by
          rcases Nat.eq_zero_or_pos k with h0 | h0
          · exact .inr h0
          · left
            obtain ⟨x, hx', _⟩ := hx (k - 1) l[k - 1] (List.getElem?_eq_getElem (by omega))
            have := (Array.getElem?_eq_some_iff.1 hx').1
            omega
        let xs := (c.toList.drop (co + o)).take k
        have hxl : xs.length = k := by simp [xs]; omega
        have hvs : VRs φ D l xs := by
          refine VRs.of_get (by omega) fun i v hv => ?_
          obtain ⟨x, hx1, hx2⟩ := hx i v hv
          have hi : i < l.length := (List.getElem?_eq_some_iff.1 hv).1
          exact ⟨x, by simp only [xs]; rw [List.getElem?_take, if_pos (by omega), List.getElem?_drop]; simpa using hx1, hx2⟩
        refine ⟨.agg ⟨xs⟩, ?_, .agg _ _ _ hvs hlen⟩
        have hrun := run_loadCells_at (P := P) (w := w) (cb := cb) (o := co + o) hc1 xs (fun i x hx => by
          simp only [xs] at hx; rw [List.getElem?_take] at hx
          split at hx
          · rw [List.getElem?_drop] at hx; simpa using hx
          · cases hx)
        rw [hxl] at hrun
        simp [Instr.loadAt, Instr.sureAddr, loadVar, aggT_true ha, sizeT_run hk, hrun]
      · cases hc
    · cases hc
  · rename_i cs
    split at hc
    · rename_i hle
      have hle := Nat.le_of_ble_eq_true hle
      injection hc with hc; subst hc
      cases hv with
      | dp _ cb co cells l hD hl hvs =>
      obtain ⟨e, fr, hh⟩ := hr.dat _ _ hD
      have hll := hvs.length
      have hvs' := hvs.take k
      refine ⟨.agg ⟨l.take k⟩, ?_, .agg _ _ _ hvs' (by simp; omega)⟩
      have hrun := run_loadCells_at (P := P) (w := w) (cb := cb) (o := co) hh (l.take k) (fun i x hx => by
          rw [List.getElem?_take] at hx
          split at hx
          · rw [hl, List.getElem?_take] at hx
            split at hx
            · rw [List.getElem?_drop] at hx; simpa using hx
            · cases hx
          · cases hx)
      rw [show (l.take k).length = k by simp; omega] at hrun
      simp [Instr.loadAt, Instr.sureAddr, loadVar, aggT_true ha, sizeT_run hk, hrun]
    · cases hc
  · cases hc

theorem ok_load1 {o : Oper} {t : TypeId} {x : Operand} {g : G} (ho : o.op = .load t x) (hg : opd x = some g) (ha : aggT P t = some false) : EffOk P o (eLoad1 g) := by
  intro F H n φ D a w hr hF hf hne
  unfold eLoad1 at hf hne ⊢
  cases hv : g.f F with
  | none => rw [hv] at hne; exact absurd rfl hne
  | some v =>
    rw [hv] at hf hne
    dsimp only at hf hne ⊢
    have hu : ∃ u, cLoad1 v H = .val u := by
      unfold cLoad1 at hne ⊢
      (repeat' split) <;> first | exact ⟨_, rfl⟩ | (simp_all; done)
    obtain ⟨u, hu⟩ := hu
    obtain ⟨cv, h1, h2⟩ := ok_load1' (P := P) hr (opd_sound hg F φ D a hF v hv) ha H (fun _ => rfl) hu
    rw [hu]
    exact Does.val hr (by simp [execOp, ho, h1]) h2
theorem ok_loadN {o : Oper} {t : TypeId} {k : Nat} {x : Operand} {g : G} (ho : o.op = .load t x) (hg : opd x = some g) (ha : aggT P t = some true) (hk : sizeT P t = some k) : EffOk P o (eLoadN k g) := by
  intro F H n φ D a w hr hF hf hne
  unfold eLoadN at hf hne ⊢
  cases hv : g.f F with
  | none => rw [hv] at hne; exact absurd rfl hne
  | some v =>
    rw [hv] at hf hne
    dsimp only at hf hne ⊢
    have hu : ∃ u, cLoadN k v H = .val u := by
      unfold cLoadN at hne ⊢
      (repeat' split) <;> first | exact ⟨_, rfl⟩ | (simp_all; done)
    obtain ⟨u, hu⟩ := hu
    obtain ⟨cv, h1, h2⟩ := ok_loadN' (P := P) hr (opd_sound hg F φ D a hF v hv) ha hk H (fun _ => rfl) hu
    rw [hu]
    exact Does.val hr (by simp [execOp, ho, h1]) h2

/-- cells are stored into a block -/
theorem blk_store {φ : Ph} {D : Da} {h : Hf} {w : World} {b cb co cz u off : Nat} {z bs : List AV} {t : Ov AV} {vs : List AV} {xs : List Value} (hr : Rel φ D h w) (hb : h b = some (.cells u z bs t)) (hp : φ b = some (cb, co, cz))
    (hv : VRs φ D vs xs) (h1 : ∀ v ∈ vs, v.one = true) (hfit : vs = [] ∨ co + off + vs.length ≤ cz) (u' : Nat) (hu' : co + u' ≤ cz) (hu : ∀ i, i < u' → i < u ∨ (off ≤ i ∧ i < off + vs.length)) (hne : vs = [] → u' = u) (t0 : Ov AV) (ht0 : t0 = t) :
    ∃ c' e fr, (storeCells ⟨cb, co + off, none⟩ xs).run P w = .ok () (World.putObj w cb (.cells c' e fr)) ∧
      BlkR φ D (World.putObj w cb (.cells c' e fr)) (cb, co, cz) (.cells u' z bs (Ov.putAll vs off t0)) := by
  subst ht0
  obtain ⟨hlt, c, e, fr, hc1, hc2, hc3, hc4, hc5, hc6⟩ := hr.block hb hp
  dsimp only at hlt hc1 hc2 hc4 hc6
  have hlen := hv.length
  by_cases h0 : vs = []
  · subst h0
    cases hv
    refine ⟨c, e, fr, by simp [storeCells, putObj_self hc1], ?_⟩
    rw [putObj_self hc1, hne rfl, Ov.putAll_nil]
    exact ⟨c, e, fr, hc1, hc2, hc3, hc4, hc5, hc6⟩
  · obtain ⟨c', hrun, hs, hg⟩ := run_storeCells_put (P := P) cb (co + off) e fr xs 0 c w hc1 hc3.at (by rcases hfit with h | h; exact absurd h h0; omega) (hv.ones h1)
    refine ⟨c', e, fr, hrun, c', e, fr, putObj_at _ hlt, by simpa [hs] using hc2, by rw [hs]; exact hc3, fun i v hi => ?_, fun ht hz => ?_, hu'⟩
    · have hiu := getc_lt hi
      rw [getc_eq, if_pos hiu, Ov.get_putAll] at hi
      dsimp only
      rw [hg (co + i)]
      by_cases hin : off ≤ i ∧ i < off + vs.length
      · rw [if_pos hin] at hi
        rw [if_pos (by omega)]
        have hvi : vs[i - off]? = some v := by
          cases hx : vs[i - off]? with
          | none => rw [List.getElem?_eq_none_iff] at hx; omega
          | some y => rw [hx] at hi; simpa using hi
        obtain ⟨x, hx, hvx⟩ := hv.get hvi
        exact ⟨x, by rw [show co + i - (co + off + 0) = i - off from by omega]; exact hx, hvx⟩
      · rw [if_neg hin] at hi
        rw [if_neg (by omega)]
        have hu' : i < u := by rcases hu i hiu with h | h; exact h; exact absurd h hin
        exact hc4 i v (by rw [getc_eq, if_pos hu']; exact hi)
    · exfalso
      cases vs with
      | nil => exact h0 rfl
      | cons v r =>
        have := Ov.get_putAll (v :: r) off t0 off
        rw [ht, if_pos (by simp)] at this
        simp at this

end
end Go.Abs
