/- The abstract machine: each operation's effect is what the model does. Part nine: append, copy. -/
import Derived.Test.YtfjkegbmlagleaaGreatAbsX
namespace Go.Abs
section
variable {P : Program}

theorem next_bound (need cap : Nat) (h : cap < need) : Builtin.nextslicecap need cap ≤ 4 * need + 4096 := by
  unfold Builtin.nextslicecap
  have grow : ∀ r c, Builtin.growBy need r c ≤ c + r * 0 ∨ True := fun _ _ => .inr trivial
  have g1 : ∀ c, c ≤ need → c + (c + 768) / 4 ≤ 2 * need + 192 := by intro c hc; omega
  have g2 : ∀ r c, c ≤ 2 * need + 192 → Builtin.growBy need r c ≤ 2 * need + 192 := by
    intro r
    induction r with
    | zero => intro c hc; exact hc
    | succ r ih =>
      intro c hc
      simp only [Builtin.growBy]
      split
      · exact hc
      · exact ih _ (g1 c (by omega))
  clear grow
  split
  · omega
  · split
    · omega
    · have := g2 4 cap (by omega)
      omega

/-- the cells of an old row and of what is appended, in a new row -/
theorem append_row {φ : Ph} {D : Da} {l : List AV} {xs : List Value} (h : VRs φ D l xs) (rest : Array Value) : ∀ i v, getc l.length [] l .nil i = some v → ∃ x, ((⟨xs⟩ : Array Value) ++ rest)[i]? = some x ∧ VR φ D v x := by
  intro i v hv
  rw [getc_eq] at hv
  split at hv
  · rename_i hi
    simp at hv
    have hv' : l[i]? = some v := by
      cases hx : l[i]? with
      | none => rw [hx] at hv; simp [dflt] at hv
      | some u => rw [hx] at hv; simpa using hv
    obtain ⟨x, hx, hvx⟩ := h.get hv'
    refine ⟨x, ?_, hvx⟩
    rw [Array.getElem?_append_left (by have := h.length; simp; omega)]
    simpa using hx
  · cases hv

theorem not_big {by_ need cap : Nat} (hb : by_ ≤ 4096) (hn : need ≤ 1073741824) (hc : cap < need) : ¬ Builtin.nextslicecap need cap * by_ > 2 ^ 48 := by
  have h1 := next_bound need cap hc
  have h2 : Builtin.nextslicecap need cap * by_ ≤ (4 * need + 4096) * 4096 := Nat.mul_le_mul h1 hb
  omega


/-- append, in place -/
theorem run_app_place {ats : Array TypeId} {args : Array Value} {t u ty e : TypeId} {d : TypeDesc} {sz len cap m : Nat} {ad : Addr} {x : Value} {xs : List Value} {w w' : World} (h0 : ats[0]? = some t) (h1 : ats[1]? = some u) (a0 : args[0]? = some (.slice (some ad) len cap)) (a1 : args[1]? = some x)
    (hu : P.underlying t = some (.slice e)) (hd : P.underlying u = some d) (hnd : ∀ k, d ≠ .int k) (hs : sizeT P e = some sz) (hm : (Builtin.lenOf x).run P w = .ok m w) (hx : (Builtin.firstCells sz m x).run P w = .ok ⟨xs⟩ w) (hle : len + m ≤ cap)
    (hst : (storeCells (ad.add (len * sz)) xs).run P w = .ok () w') : (Builtin.append_ ats ty args).run P w = .ok (.slice (some ad) (len + m) cap) w' := by
  have hz : (match d with | .int _ => true | _ => false) = false := by cases d <;> first | rfl | exact absurd rfl (hnd _)
  unfold Builtin.append_
  simp only [h0, h1, a0, a1, Sem.run_bind, run_underlying hu, Result.andThen_ok, sizeT_run hs, run_underlying hd, Sem.run_pure, Bool.false_eq_true, if_false, hm]
  simp only [Bool.not_false, if_true, if_pos hle, Sem.run_bind, hx, Result.andThen_ok, hst, Sem.run_pure]
theorem run_app_nilplace {ats : Array TypeId} {args : Array Value} {t u ty e : TypeId} {d : TypeDesc} {sz : Nat} {x : Value} {xs : List Value} {w : World} (h0 : ats[0]? = some t) (h1 : ats[1]? = some u) (a0 : args[0]? = some (.slice none 0 0)) (a1 : args[1]? = some x)
    (hu : P.underlying t = some (.slice e)) (hd : P.underlying u = some d) (hnd : ∀ k, d ≠ .int k) (hs : sizeT P e = some sz) (hm : (Builtin.lenOf x).run P w = .ok 0 w) (hx : (Builtin.firstCells sz 0 x).run P w = .ok ⟨xs⟩ w) :
    (Builtin.append_ ats ty args).run P w = .ok (.slice none 0 0) w := by
  have hz : (match d with | .int _ => true | _ => false) = false := by cases d <;> first | rfl | exact absurd rfl (hnd _)
  unfold Builtin.append_
  simp only [h0, h1, a0, a1, Sem.run_bind, run_underlying hu, Result.andThen_ok, sizeT_run hs, run_underlying hd, Sem.run_pure, Bool.false_eq_true, if_false, hm]
  simp only [Nat.add_zero, Nat.le_refl, Bool.not_false, if_true, Sem.run_bind, hx, Result.andThen_ok, Sem.run_pure]
/-- append, in a new row -/
theorem run_app_new {ats : Array TypeId} {args : Array Value} {t u ty e : TypeId} {d : TypeDesc} {ti : TypeInfo} {zv : Value} {sz len cap m : Nat} {base : Option Addr} {x : Value} {xs ys : List Value} {w : World} (h0 : ats[0]? = some t) (h1 : ats[1]? = some u) (a0 : args[0]? = some (.slice base len cap)) (a1 : args[1]? = some x)
    (hu : P.underlying t = some (.slice e)) (hd : P.underlying u = some d) (hnd : ∀ k, d ≠ .int k) (hi : P.info? e = some ti) (hs : ti.size = sz) (hz0 : ti.zero = some zv) (hzs : zv.cells.size = sz) (hby : ti.bytes ≤ 4096) (hn : len + m ≤ 1073741824)
    (hm : (Builtin.lenOf x).run P w = .ok m w) (hx : ∀ dr : Nat, (Builtin.firstCells sz m x).run P { w with drawn := dr } = .ok ⟨xs⟩ { w with drawn := dr }) (hy : ∀ dr : Nat, (Builtin.firstCells sz len (.slice base len cap)).run P { w with drawn := dr } = .ok ⟨ys⟩ { w with drawn := dr }) (hxl : xs.length = m * sz) (hyl : ys.length = len * sz) (hlt : cap < len + m) :
    ∃ nc rest dr, len + m ≤ nc ∧ ((⟨ys ++ xs⟩ : Array Value) ++ rest).size = nc * sz ∧
      (Builtin.append_ ats ty args).run P w = .ok (.slice (some ⟨w.heap.size, 0, none⟩) (len + m) nc) (World.newObj { w with drawn := dr } (.cells ((⟨ys ++ xs⟩ : Array Value) ++ rest) e (0, 0))) := by
  have hz : (match d with | .int _ => true | _ => false) = false := by cases d <;> first | rfl | exact absurd rfl (hnd _)
  have hsz : sizeT P e = some sz := by simp [sizeT, hi, hs]
  let q := Question.appendCap (len + m) cap e
  let nc := q.cut (w.tape w.drawn q)
  have hnc : len + m ≤ nc := by simp only [nc, q, Question.cut]; omega
  refine ⟨nc, Builtin.zeroCells zv.cells (nc - (len + m)), w.drawn + 1, hnc, ?_, ?_⟩
  · have : (Builtin.zeroCells zv.cells (nc - (len + m))).size = (nc - (len + m)) * sz := by simp [Builtin.zeroCells, hzs]
    rw [Array.size_append, this]
    simp only [List.size_toArray, List.length_append, hxl, hyl]
    rw [← Nat.add_mul, ← Nat.add_mul]
    congr 1
    omega
  · unfold Builtin.append_
    simp only [h0, h1, a0, a1, Sem.run_bind, run_underlying hu, Result.andThen_ok, sizeT_run hsz, run_underlying hd, Sem.run_pure, Bool.false_eq_true, if_false, hm]
    rw [if_neg (by omega)]
    have hno : ¬ (((len + m : Nat) : Int) > IntKind.i64.max ∧ (False ∨ ti.bytes = 0)) := by
      have : IntKind.i64.max = 9223372036854775807 := by decide
      rw [this]; omega
    rw [Sem.run_bind, run_typeInfo w hi, Result.andThen_ok, if_neg hno, Sem.run_bind, run_typeInfo w hi, Result.andThen_ok, if_neg (not_big hby hn hlt)]
    have hch : (choose (Question.appendCap (len + m) cap e)).run P w = .ok nc { w with drawn := w.drawn + 1 } := by
      rw [run_choose]; rfl
    rw [Sem.run_bind, hch, Result.andThen_ok]
    simp only [Sem.run_bind, run_typeInfo _ hi, Result.andThen_ok, run_askRoom, hy, Bool.not_false, if_true, hx, run_zero hi hz0, newRow, run_newObj, Sem.run_pure, World.newObj]
    simp

theorem call_builtin {ρ : Operand → Value} {o : Oper} {b : Builtin} {c : Call} (ho : o.op = .call c) (hc : c.callee = .builtin b) (w : World) :
    ∃ cs, (execOp ρ o).run P w = (builtin b c.argTypes o.type cs (c.args.map ρ)).run P w :=
  ⟨_, by simp only [execOp, ho, resolve, hc, Sem.run_bind, Sem.run_pure, Result.andThen_ok, invoke]; rfl⟩

theorem Does.row {s : Sem Next} {φ : Ph} {D : Da} {h : Hf} {w : World} {n dr : Nat} {c : Array Value} {e : TypeId} {v : AV} {u : Nat} {z bs : List AV} {t : Ov AV} {cv : Value} (hr : Rel φ D h w) (hf : Fresh φ n (n + 1))
    (hrun : s.run P w = .ok (.value cv) (World.newObj { w with drawn := dr } (.cells c e (0, 0)))) (hc : ∀ i v, getc u z bs t i = some v → ∃ x, c[i]? = some x ∧ VR φ D v x) (hi : t = .nil → z = [] → bs.length = u) (hu : u ≤ c.size)
    (hv : VR (Ph.set φ n (w.heap.size, 0, c.size)) D v cv) : Does P s φ D h w n (.new v (.cells u z bs t)) := by
  obtain ⟨h1, h2⟩ := rel_row hr hf c e (0, 0) (.inl rfl) (.cells u z bs t) u z bs t rfl hc hi hu dr
  exact ⟨_, cv, _, _, hrun, .value _, h2, h1, hv⟩

/-- the concrete cells of an old slice -/
theorem old_cells {φ : Ph} {D : Da} {h : Hf} {w : World} {b cb co cz o len cap sz u : Nat} {z bs : List AV} {t : Ov AV} {ad : Addr} (hr : Rel φ D h w) (hb : h b = some (.cells u z bs t)) (hp : φ b = some (cb, co, cz)) (hle : len ≤ cap) (hex : 0 < cap → ad = ⟨cb, co + o, none⟩ ∧ co + o + cap * sz ≤ cz) :
    ∃ ys : List Value, ys.length = len * sz ∧ (∀ dr : Nat, (Builtin.firstCells sz len (.slice (some ad) len cap)).run P { w with drawn := dr } = .ok ⟨ys⟩ { w with drawn := dr }) ∧ ∀ i v, i < len * sz → getc u z bs t (o + i) = some v → ∃ x, ys[i]? = some x ∧ VR φ D v x := by
  obtain ⟨_, c, e, fr, q1, q2, q3, q4, q5, q6⟩ := hr.block hb hp
  dsimp only at q1 q2 q4 q6
  rcases Nat.eq_zero_or_pos cap with h0 | h0
  · have : len = 0 := by omega
    subst this
    exact ⟨[], by simp, fun dr => by simp [Builtin.firstCells, loadCells, loadCellsFrom], fun i v hi => by omega⟩
  · obtain ⟨rfl, hfit⟩ := hex h0
    have hm : len * sz ≤ cap * sz := Nat.mul_le_mul_right _ hle
    let xs := (c.toList.drop (co + o)).take (len * sz)
    have hxl : xs.length = len * sz := by simp [xs]; omega
    refine ⟨xs, hxl, fun dr => ?_, fun i v hi hg => ?_⟩
    · have hrun := run_loadCells_at (P := P) (w := { w with drawn := dr }) (cb := cb) (o := co + o) q1 xs (fun i x hx => by
        simp only [xs] at hx; rw [List.getElem?_take] at hx
        split at hx
        · rw [List.getElem?_drop] at hx; simpa using hx
        · cases hx)
      rw [hxl] at hrun
      simp only [Builtin.firstCells]
      exact hrun
    · obtain ⟨x, hx, hv⟩ := q4 (o + i) v hg
      refine ⟨x, ?_, hv⟩
      simp only [xs]
      rw [List.getElem?_take, if_pos hi, List.getElem?_drop]
      simpa [Nat.add_assoc] using hx

theorem Rel.kill_row {s : Sem Next} {φ : Ph} {D : Da} {h : Hf} {w : World} {n dr b : Nat} {c : Array Value} {e : TypeId} {v : AV} {u : Nat} {z bs : List AV} {t : Ov AV} {cv : Value} (hr : Rel φ D h w) (hf : Fresh φ n (n + 1))
    (hrun : s.run P w = .ok (.value cv) (World.newObj { w with drawn := dr } (.cells c e (0, 0)))) (hc : ∀ i v, getc u z bs t i = some v → ∃ x, c[i]? = some x ∧ VR φ D v x) (hi : t = .nil → z = [] → bs.length = u) (hu : u ≤ c.size)
    (hv : VR (Ph.set φ n (w.heap.size, 0, c.size)) D v cv) : Does P s φ D h w n (.mv v b (.cells u z bs t)) := by
  obtain ⟨k1, k2⟩ := rel_kill (n := n) (b := b) hr
  obtain ⟨h1, h2⟩ := rel_row k1 hf c e (0, 0) (.inl rfl) (.cells u z bs t) u z bs t rfl hc hi hu dr
  exact ⟨_, cv, _, _, hrun, .value _, k2.trans h2, h1, hv⟩

/-- append onto a block that the machine holds: what the new block must be -/
theorem app_core {s : Sem Next} {ats : Array TypeId} {args : Array Value} {t u ty e : TypeId} {d : TypeDesc} {ti : TypeInfo} {zv x : Value} {xs : List Value} {new : List AV} {sz len cap m b cb co cz off us u' n : Nat} {zz bs z' bs' : List AV} {tt t' : Ov AV} {ad : Addr}
    {φ : Ph} {D : Da} {h : Hf} {w : World} (hr : Rel φ D h w) (hf : Fresh φ n (n + 1)) (hbk : h b = some (.cells us zz bs tt)) (hp : φ b = some (cb, co, cz)) (hle : len ≤ cap) (hex : 0 < cap → ad = ⟨cb, co + off, none⟩ ∧ co + off + cap * sz ≤ cz)
    (hexec : ∀ (r : Value) (w' : World), (Builtin.append_ ats ty args).run P w = .ok r w' → s.run P w = .ok (.value r) w')
    (h0 : ats[0]? = some t) (h1 : ats[1]? = some u) (a0 : args[0]? = some (.slice (some ad) len cap)) (a1 : args[1]? = some x)
    (hu : P.underlying t = some (.slice e)) (hd : P.underlying u = some d) (hnd : ∀ k, d ≠ .int k) (hi : P.info? e = some ti) (hs : ti.size = sz) (hz0 : ti.zero = some zv) (hzs : zv.cells.size = sz) (hby : ti.bytes ≤ 4096) (hn : len + m ≤ 1073741824) (hm0 : 0 < m)
    (hm : (Builtin.lenOf x).run P w = .ok m w) (hx : ∀ dr : Nat, (Builtin.firstCells sz m x).run P { w with drawn := dr } = .ok ⟨xs⟩ { w with drawn := dr }) (hxs : VRs φ D new xs) (hnl : new.length = m * sz) (hone : ∀ v ∈ new, v.one = true)
    (hu' : u' = (len + m) * sz) (hcont : ∀ i v, getc u' z' bs' t' i = some v → (i < len * sz ∧ getc us zz bs tt (off + i) = some v) ∨ (len * sz ≤ i ∧ new[i - len * sz]? = some v)) (hinv : t' = .nil → z' = [] → bs'.length = u') :
    Does P s φ D h w n (.mv (.sl n 0 (len + m) sz) b (.cells u' z' bs' t')) := by
  have hxl : xs.length = m * sz := by rw [← hxs.length, hnl]
  have hsz : sizeT P e = some sz := by simp [sizeT, hi, hs]
  have hmul : (len + m) * sz = len * sz + m * sz := Nat.add_mul _ _ _
  have hn0 : φ n = none := hf n (Nat.le_refl _) (by omega)
  by_cases hcap : len + m ≤ cap
  · obtain ⟨rfl, hfit⟩ := hex (by omega)
    obtain ⟨hlt, c, ee, fr, q1, q2, q3, q4, q5, q6⟩ := hr.block hbk hp
    dsimp only at q1 q2 q4 q6 hlt
    have hcm : (len + m) * sz ≤ cap * sz := Nat.mul_le_mul_right _ hcap
    obtain ⟨c', hst, hcs, hcg⟩ := run_storeCells_put (P := P) cb (co + off + len * sz) ee fr xs 0 c w q1 q3.at (by omega) (hxs.ones hone)
    have hrun := run_app_place (P := P) (ty := ty) (w' := World.putObj w cb (.cells c' ee fr)) h0 h1 a0 a1 hu hd hnd hsz hm (hx w.drawn) hcap (by rw [add_at]; exact hst)
    have hbr : BlkR (Ph.set φ n (cb, co + off, cz)) D (World.putObj w cb (.cells c' ee fr)) (cb, co + off, cz) (.cells u' z' bs' t') := by
      refine ⟨c', ee, fr, putObj_at _ hlt, by dsimp only; omega, by rw [hcs]; exact q3, fun i v hv => ?_, hinv, by dsimp only; omega⟩
      have hiu := getc_lt hv
      rcases hcont i v hv with ⟨k1, k2⟩ | ⟨k1, k2⟩
      · obtain ⟨x, hx1, hx2⟩ := q4 (off + i) v k2
        refine ⟨x, ?_, hx2.mono (Ph.set_mono hn0) fun _ _ h => h⟩
        dsimp only
        rw [hcg, if_neg (by omega)]
        rw [show co + off + i = co + (off + i) from by omega]; exact hx1
      · obtain ⟨x, hx1, hx2⟩ := hxs.get k2
        refine ⟨x, ?_, hx2.mono (Ph.set_mono hn0) fun _ _ h => h⟩
        dsimp only
        have : i - len * sz < new.length := (List.getElem?_eq_some_iff.1 k2).1
        rw [hcg, if_pos (by omega)]
        rw [show co + off + i - (co + off + len * sz + 0) = i - len * sz from by omega]; exact hx1
    obtain ⟨r1, r2⟩ := rel_take (n := n) (q := (cb, co + off, cz)) hr hf (by rw [hbk]; simp) hp rfl (World.putObj w cb (.cells c' ee fr)) (fun _ hc => putObj_ne _ hc) (putObj_size ..) rfl rfl hbr
    refine ⟨_, _, _, _, hexec _ _ hrun, .value _, r2, r1, ?_⟩
    exact .sl _ _ _ _ cb (co + off) cz _ _ (by simp [Ph.set]) hcap fun _ => ⟨rfl, by omega⟩
  · obtain ⟨ys, y1, y2, y3⟩ := old_cells (P := P) (o := off) (sz := sz) hr hbk hp hle hex
    obtain ⟨nc, rest, dr, g1, g2, g3⟩ := run_app_new (P := P) (ty := ty) h0 h1 a0 a1 hu hd hnd hi hs hz0 hzs hby hn hm hx y2 hxl y1 (by omega)
    have hncm : (len + m) * sz ≤ nc * sz := Nat.mul_le_mul_right _ g1
    refine Rel.kill_row (P := P) hr hf (hexec _ _ g3) (fun i v hv => ?_) hinv (by rw [g2]; omega) (sl_new g1 (by rw [g2]; exact Nat.le_refl _))
    have hiu := getc_lt hv
    rcases hcont i v hv with ⟨k1, k2⟩ | ⟨k1, k2⟩
    · obtain ⟨x, hx1, hx2⟩ := y3 i v k1 k2
      refine ⟨x, ?_, hx2⟩
      rw [Array.getElem?_append_left (by simp; omega)]
      simp only [List.getElem?_toArray]
      rw [List.getElem?_append_left (by omega)]; exact hx1
    · obtain ⟨x, hx1, hx2⟩ := hxs.get k2
      refine ⟨x, ?_, hx2⟩
      have : i - len * sz < new.length := (List.getElem?_eq_some_iff.1 k2).1
      rw [Array.getElem?_append_left (by simp; omega)]
      simp only [List.getElem?_toArray]
      rw [List.getElem?_append_right (by omega), y1]; exact hx1

theorem ok_app {o : Oper} {c : Call} {t u e : TypeId} {d : TypeDesc} {z : List AV} {sz by_ : Nat} {x y : Operand} {g k : G} (ho : o.op = .call c) (hcb : c.callee = .builtin .append) (h0 : c.argTypes[0]? = some t) (h1 : c.argTypes[1]? = some u)
    (a0 : c.args[0]? = some x) (a1 : c.args[1]? = some y) (hg : opd x = some g) (hk : opd y = some k) (he : elemT P t = some e) (hd : P.underlying u = some d) (hnd : ∀ k, d ≠ .int k) (hz : zeroT P e = some z) (hs : sizeT P e = some sz)
    (hb : bytesT P e = some by_) (hzl : z.length = sz) : EffOk P o (eApp sz by_ g k) := by
  obtain ⟨ti, zv, hi, hz0, hc⟩ := zeroT_spec hz
  have hu := elemT_spec he
  have hby : ti.bytes = by_ := by simpa [bytesT, hi] using hb
  have hsz : ti.size = sz := by simpa [sizeT, hi] using hs
  have hzs : zv.cells.size = sz := by
    have := (VRs.atoms (φ := fun _ => none) (D := fun _ => none) hc).length
    simp at this; omega
  intro F H n φ D a w hr hF hf hne
  unfold eApp at hf hne ⊢
  cases hv : g.f F with
  | none => rw [hv] at hne; exact absurd rfl hne
  | some s =>
  rw [hv] at hf hne; dsimp only at hf hne ⊢
  cases hv2 : k.f F with
  | none => rw [hv2] at hne; exact absurd rfl hne
  | some v =>
  rw [hv2] at hf hne; dsimp only at hf hne ⊢
  have hsr := opd_sound hg F φ D a hF s hv
  have hvr := opd_sound hk F φ D a hF v hv2
  unfold cApp at hf hne ⊢
  cases hsc : sliceCells H sz v with
  | none => rw [hsc] at hne; exact absurd rfl hne
  | some new =>
  rw [hsc] at hf hne; dsimp only at hf hne ⊢
  cases hsl : sliceLen v with
  | none => rw [hsl] at hne; exact absurd rfl hne
  | some m =>
  rw [hsl] at hf hne; dsimp only at hf hne ⊢
  obtain ⟨hnl, xs, hxs, hxd, hlr⟩ := sliceCells_spec (P := P) hr hvr hsc hsl
  have hxr : (Builtin.firstCells sz m (a.eval y)).run P w = .ok ⟨xs⟩ w := hxd w.drawn
  have hxl : xs.length = m * sz := by rw [← hxs.length, hnl]
  generalize hsv : a.eval x = sv at hsr
  have A0 : (c.args.map a.eval)[0]? = some sv := by simp [a0, hsv]
  have A1 : (c.args.map a.eval)[1]? = some (a.eval y) := by simp [a1]
  have hexec : ∀ (r : Value) (w' : World), (Builtin.append_ c.argTypes o.type (c.args.map a.eval)).run P w = .ok r w' → (execOp a.eval o).run P w = .ok (.value r) w' := by
    intro r w' h
    obtain ⟨cs, e⟩ := call_builtin (P := P) (ρ := a.eval) ho hcb w
    rw [e]
    simp only [builtin, Sem.run_bind, h, Result.andThen_ok, Sem.run_pure]
  unfold cApp1 at hf hne ⊢
  split at hne
  · rename_i b off len q
    cases hsr with
    | sl _ _ _ _ cb co cz cap ad hp hle hex =>
    split at hne
    · -- nothing is appended
      rename_i hm0
      have hm0 := Nat.eq_of_beq_eq_true hm0
      subst hm0
      have : xs = [] := List.eq_nil_of_length_eq_zero (by simpa using hxl)
      subst this
      refine Does.val hr (cv := .slice (some ad) (len + 0) cap) (hexec _ _ (run_app_place h0 h1 A0 A1 hu hd hnd hs hlr hxr (by omega) (by simp [storeCells]))) ?_
      exact .sl _ _ _ _ cb co cz _ _ hp hle hex
    · rename_i hm0
      split at hne
      · rename_i hcond
        dsimp only at hf
        rw [hm0] at hf; dsimp only at hf
        rw [hcond] at hf; dsimp only at hf
        simp only [Bool.and_eq_true] at hcond
        obtain ⟨⟨⟨⟨c1, c2⟩, c3⟩, c4⟩, c5⟩ := hcond
        have c1 := Nat.eq_of_beq_eq_true c1
        have c2 : 0 < sz := Nat.le_of_ble_eq_true c2
        have c3 := Nat.le_of_ble_eq_true c3
        have c4 := Nat.le_of_ble_eq_true c4
        unfold big at c3
        subst c1
        have hmpos : 0 < m := by
          rcases Nat.eq_zero_or_pos m with h | h
          · subst h; simp at hm0
          · exact h
        unfold cApp2 at hf hne ⊢
        split at hne
        · rename_i us zz bs tt hbk
          obtain ⟨hbl, cc, ee, fr, p1, p2, p3, p4, p5, p6⟩ := hr.block hbk hp
          have key := fun u' z' bs' t' (hfn : Fresh φ n (n + 1)) => app_core (P := P) (s := execOp a.eval o) (ty := o.type) (u' := u') (z' := z') (bs' := bs') (t' := t') hr hfn hbk hp hle hex hexec h0 h1 A0 A1 hu hd hnd hi hsz hz0 hzs (by omega) c3 hmpos hlr hxd hxs hnl (allOne_spec c5)
          have hmul : (len + m) * q = len * q + m * q := Nat.add_mul _ _ _
          have hmq : 0 < m * q := Nat.mul_pos hmpos c2
          rw [hbk] at hf
          dsimp only at hf
          split at hne
          · rename_i hc2
            rw [hc2] at hf
            simp only [forceN_eq] at hf
            have hfn : Fresh φ n (n + 1) := hf
            simp only [Bool.and_eq_true] at hc2
            obtain ⟨d1, d2⟩ := hc2
            have d1 := Nat.eq_of_beq_eq_true d1
            have d2 := Nat.le_of_ble_eq_true d2
            subst d1
            simp only [forceN_eq]
            refine key _ _ _ _ hfn rfl (fun i v hv => ?_) (fun ht => ?_)
            · have hiu := getc_lt hv
              rw [getc_eq, if_pos hiu, Ov.get_putAll] at hv
              by_cases hin : len * q ≤ i ∧ i < len * q + new.length
              · rw [if_pos hin] at hv
                right
                refine ⟨hin.1, ?_⟩
                cases hx : new[i - len * q]? with
                | none => rw [List.getElem?_eq_none_iff] at hx; omega
                | some y => rw [hx] at hv; simpa using hv
              · rw [if_neg hin] at hv
                left
                refine ⟨by omega, ?_⟩
                rw [Nat.zero_add, getc_eq, if_pos (by omega)]; exact hv
            · exfalso
              cases new with
              | nil => simp at hnl; omega
              | cons v0 r =>
                have := Ov.get_putAll (v0 :: r) (len * q) tt (len * q)
                rw [ht, if_pos (by simp)] at this
                simp at this
          · rename_i hcf
            rw [hcf] at hf
            dsimp only at hf
            split at hne
            · rename_i old hold
              rw [hold] at hf
              have hfn : Fresh φ n (n + 1) := hf
              obtain ⟨g1, g2⟩ := grab_spec p5 hold
              refine key _ _ _ _ hfn rfl (fun i v hv => ?_) (fun _ _ => by simp; omega)
              have hiu := getc_lt hv
              rw [getc_eq, if_pos hiu] at hv
              simp only [Ov.get_nil] at hv
              have hv' : (old ++ new)[i]? = some v := by
                cases hx : (old ++ new)[i]? with
                | none => rw [hx] at hv; simp [dflt] at hv
                | some y => rw [hx] at hv; simpa using hv
              by_cases hin : i < len * q
              · left
                rw [List.getElem?_append_left (by omega)] at hv'
                exact ⟨hin, by rw [g2 i hin]; exact hv'⟩
              · right
                rw [List.getElem?_append_right (by omega), g1] at hv'
                exact ⟨by omega, hv'⟩
            · exact absurd rfl hne
        · exact absurd rfl hne
      · exact absurd rfl hne
  · cases hsr with
    | cst _ hat =>
    split at hne
    · rename_i hm0
      have hm0 := Nat.eq_of_beq_eq_true hm0
      subst hm0
      exact Does.val hr (hexec _ _ (run_app_nilplace h0 h1 A0 A1 hu hd hnd hs hlr hxr)) (.cst _ hat)
    · rename_i hm0
      split at hne
      · rename_i hcond
        rw [hm0] at hf; dsimp only at hf
        rw [hcond] at hf
        simp only [Bool.and_eq_true] at hcond
        obtain ⟨⟨⟨c2, c3⟩, c4⟩, c5⟩ := hcond
        have c2 : 0 < sz := Nat.le_of_ble_eq_true c2
        have c3 := Nat.le_of_ble_eq_true c3
        have c4 := Nat.le_of_ble_eq_true c4
        unfold big at c3
        have hmpos : 0 < m := by
          rcases Nat.eq_zero_or_pos m with h | h
          · subst h; simp at hm0
          · exact h
        obtain ⟨nc, rest, dr, g1, g2, g3⟩ := run_app_new (P := P) (ty := o.type) (ys := []) h0 h1 A0 A1 hu hd hnd hi hsz hz0 hzs (by omega) (by omega) hlr hxd (fun dr => by simp [Builtin.firstCells]) hxl (by simp) (by omega)
        have hncm : m * sz ≤ nc * sz := Nat.mul_le_mul_right _ (by omega)
        simp only [Nat.zero_add] at g1 g3
        refine Does.row (P := P) hr hf (hexec _ _ g3) (fun i v hv => ?_) (fun _ _ => hnl) (by rw [g2]; omega) (sl_new g1 (by rw [g2]; exact Nat.le_refl _))
        have hiu := getc_lt hv
        rw [getc_eq, if_pos hiu] at hv
        simp only [Ov.get_nil] at hv
        have hv' : new[i]? = some v := by
          cases hx : new[i]? with
          | none => rw [hx] at hv; simp [dflt] at hv
          | some y => rw [hx] at hv; simpa using hv
        obtain ⟨x, hx1, hx2⟩ := hxs.get hv'
        refine ⟨x, ?_, hx2⟩
        rw [Array.getElem?_append_left (by simp; omega)]
        simpa using hx1
      · exact absurd rfl hne
  · exact absurd rfl hne
end
end Go.Abs
