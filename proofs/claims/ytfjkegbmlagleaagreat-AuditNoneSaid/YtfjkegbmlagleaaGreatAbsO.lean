/- The abstract machine: each operation's effect is what the model does. Part one: values. -/
import Derived.Test.YtfjkegbmlagleaaGreatAbsT
import Derived.Laws.Cells
import Derived.ChangeKeysEq
namespace Go.Abs

inductive NextIs : Next → Value → Prop
  | value (v) : NextIs (.value v) v
  | skip : NextIs .skip undef

def outH (r : ERes) (h : Hf) (n : Nat) : Hf := match r with
  | .val _ | .fail => h
  | .new _ k => h.set n (some k)
  | .upd _ b k => h.set b (some k)
  | .mv _ b k => (h.set b none).set n (some k)
def outN (r : ERes) (n : Nat) : Nat := match r with
  | .val _ | .fail | .upd _ _ _ => n
  | .new _ _ | .mv _ _ _ => n + 1
def outV : ERes → AV
  | .val v | .new v _ | .upd v _ _ | .mv v _ _ => v
  | .fail => .tup []

/-- what an effect comes to, in a world -/
def Does (P : Program) (s : Sem Next) (φ : Ph) (D : Da) (h : Hf) (w : World) (n : Nat) (r : ERes) : Prop :=
  ∃ nx cv φ' w', s.run P w = .ok nx w' ∧ NextIs nx cv ∧ Ext φ D h w n φ' D (outH r h n) w' (outN r n) ∧ Rel φ' D (outH r h n) w' ∧ VR φ' D (outV r) cv

def EffOk (P : Program) (o : Oper) (e : Eff) : Prop := ∀ F H n φ D (a : Act) w, Rel φ D H.get w → FR φ D F.get a.tmps → Fresh φ n (outN (e F H n) n) → e F H n ≠ .fail →
  Does P (execOp a.eval o) φ D H.get w n (e F H n)

/-- a getter tells an operand -/
def GR (g : G) (x : Operand) : Prop := ∀ F φ D (a : Act), FR φ D F.get a.tmps → ∀ v, g.f F = some v → VR φ D v (a.eval x)

theorem Does.val {P s φ D h w n v cv} (hr : Rel φ D h w) (e : s.run P w = .ok (.value cv) w) (hv : VR φ D v cv) : Does P s φ D h w n (.val v) :=
  ⟨_, cv, φ, w, e, .value _, Ext.refl .., hr, hv⟩

theorem VR.atomOf {φ D} : ∀ {x : Value} {v}, avAtom x = some v → VR φ D v x := by
  intro x v h
  unfold avAtom at h
  split at h
  · injection h with h; subst h; exact .int _ _
  · injection h with h; subst h; exact .bool _
  · injection h with h; subst h; exact .str _ _ rfl
  · split at h
    · injection h with h; subst h; exact .cst _ (by assumption)
    · cases h
theorem VRs.atoms {φ D} : ∀ {xs : List Value} {vs}, avAtoms xs = some vs → VRs φ D vs xs
  | [], vs, h => by simp [avAtoms] at h; subst h; exact .nil
  | x :: xs, vs, h => by
    simp only [avAtoms] at h
    split at h
    · rename_i a ha
      split at h
      · rename_i l hl
        injection h with h; subst h
        exact .cons _ _ _ _ (.atomOf ha) (VRs.atoms hl)
      · cases h
    · cases h
theorem VR.constOf {φ D} {x : Value} {v} (h : avOf x = some v) : VR φ D v x := by
  unfold avOf at h
  split at h
  · rename_i cs
    cases hl : avAtoms cs.toList with
    | none => rw [hl] at h; cases h
    | some l =>
      rw [hl] at h; injection h with h; subst h
      have := VRs.atoms (φ := φ) (D := D) hl
      exact .agg l cs.toList _ this (lenAcc_zero l).symm
  · injection h with h; subst h; exact .tup _ _ .nil
  · rename_i t y
    cases hl : avAtom y with
    | none => rw [hl] at h; cases h
    | some l => rw [hl] at h; injection h with h; subst h; exact .ifc _ _ _ (.atomOf hl)
  · exact .atomOf h

theorem slotG_eq (t : Nat) (F : Fr) : (slotG t).f F = F.get t := Tr.getK_eq _ _ _ (Nat.lt_succ_self t)
theorem opd_sound {x : Operand} {g : G} (h : opd x = some g) : GR g x := by
  intro F φ D a hF v hv
  cases x with
  | tmp t =>
    simp only [opd] at h; injection h with h; subst h
    rw [slotG_eq] at hv
    obtain ⟨y, hy, hvy⟩ := hF t v hv
    simpa [Act.eval, Array.getD_eq_getD_getElem?, hy] using hvy
  | const c =>
    simp only [opd] at h
    cases hc : avOf c with
    | none => rw [hc] at h; cases h
    | some u =>
      rw [hc] at h; injection h with h; subst h
      injection hv with hv; subst hv
      exact .constOf hc
  | func f =>
    simp only [opd] at h; injection h with h; subst h
    injection hv with hv; subst hv
    exact .fn _ _ _ _ _ .nil .nil
  | global g => cases h

section
variable {P : Program} {φ : Ph} {D : Da} {h : Hf} {w : World} {n : Nat}

theorem eff1 {o : Oper} {x : Operand} {g : G} (hg : opd x = some g) (c : AV → ERes)
    (hc : ∀ (φ : Ph) (D : Da) (h : Hf) (w : World) (n : Nat) (ρ : Operand → Value) (v : AV) (xv : Value), Rel φ D h w → ρ x = xv → VR φ D v xv → Fresh φ n (outN (c v) n) → c v ≠ .fail → Does P (execOp ρ o) φ D h w n (c v)) :
    EffOk P o (e1 c g) := by
  intro F H n φ D a w hr hF hf hne
  unfold e1 at hf hne ⊢
  cases hv : g.f F with
  | none => rw [hv] at hne; exact absurd rfl hne
  | some v => rw [hv] at hf hne; exact hc φ D H.get w n a.eval v _ hr rfl (opd_sound hg F φ D a hF v hv) hf hne
theorem eff2 {o : Oper} {x y : Operand} {g k : G} (hg : opd x = some g) (hk : opd y = some k) (c : AV → AV → ERes)
    (hc : ∀ (φ : Ph) (D : Da) (h : Hf) (w : World) (n : Nat) (ρ : Operand → Value) (v u : AV) (xv yv : Value), Rel φ D h w → ρ x = xv → ρ y = yv → VR φ D v xv → VR φ D u yv → Fresh φ n (outN (c v u) n) → c v u ≠ .fail → Does P (execOp ρ o) φ D h w n (c v u)) :
    EffOk P o (e2 c g k) := by
  intro F H n φ D a w hr hF hf hne
  unfold e2 at hf hne ⊢
  cases hv : g.f F with
  | none => rw [hv] at hne; exact absurd rfl hne
  | some v =>
    rw [hv] at hf hne
    dsimp only at hf hne ⊢
    cases hu : k.f F with
    | none => rw [hu] at hne; exact absurd rfl hne
    | some u => rw [hu] at hf hne; exact hc φ D H.get w n a.eval v u _ _ hr rfl rfl (opd_sound hg F φ D a hF v hv) (opd_sound hk F φ D a hF u hu) hf hne

theorem ok_mov {o : Oper} {x : Operand} {g : G} (ho : o.op = .move x ∨ o.op = .assign x) (hg : opd x = some g) : EffOk P o (eMov g) := by
  intro F H n φ D a w hr hF hf hne
  unfold eMov at hf hne ⊢
  cases hv : g.f F with
  | none => rw [hv] at hne; exact absurd rfl hne
  | some v =>
    refine Does.val hr ?_ (opd_sound hg F φ D a hF v hv)
    rcases ho with ho | ho <;> simp [execOp, ho]

theorem ok_pick {o : Oper} {x y z : Operand} {g k l : G} (ho : o.op = .pick x y z) (hg : opd x = some g) (hk : opd y = some k) (hl : opd z = some l) : EffOk P o (ePick g k l) := by
  intro F H n φ D a w hr hF hf hne
  unfold ePick at hf hne ⊢
  cases hv : g.f F with
  | none => rw [hv] at hne; exact absurd rfl hne
  | some v =>
    have hvr := opd_sound hg F φ D a hF v hv
    rw [hv] at hf hne
    cases v with
    | bool b =>
      cases hx : a.eval x <;> rw [hx] at hvr <;> cases hvr
      cases b with
      | true =>
        dsimp only [eMov] at hf hne ⊢
        cases hu : k.f F with
        | none => rw [hu] at hne; exact absurd rfl hne
        | some u => exact Does.val hr (by simp [execOp, ho, hx, asBool]) (opd_sound hk F φ D a hF u hu)
      | false =>
        dsimp only [eMov] at hf hne ⊢
        cases hu : l.f F with
        | none => rw [hu] at hne; exact absurd rfl hne
        | some u => exact Does.val hr (by simp [execOp, ho, hx, asBool]) (opd_sound hl F φ D a hF u hu)
    | _ => exact absurd rfl hne

theorem opds_sound : ∀ {xs : List Operand} {gs : List G}, opds xs = some gs → ∀ F φ D (a : Act), FR φ D F.get a.tmps → ∀ vs, evs F gs = some vs → VRs φ D vs (xs.map a.eval)
  | [], gs, h => by
    simp [opds] at h; subst h
    intro F φ D a hF vs hv
    simp [evs] at hv; subst hv; exact .nil
  | x :: xs, gs, h => by
    simp only [opds] at h
    split at h
    · rename_i g hg
      split at h
      · rename_i l hl
        injection h with h; subst h
        intro F φ D a hF vs hv
        simp only [evs] at hv
        split at hv
        · rename_i v hgv
          split at hv
          · rename_i us hus
            injection hv with hv; subst hv
            exact .cons _ _ _ _ (opd_sound hg F φ D a hF v hgv) (opds_sound hl F φ D a hF us hus)
          · cases hv
        · cases hv
      · cases h
    · cases h

theorem ok_nilc {o : Oper} {x : Operand} {g : G} (ho : o.op = .nilCheck x) (hg : opd x = some g) : EffOk P o (eNilc g) := by
  have : eNilc g = e1 cNilc g := rfl
  rw [this]
  refine eff1 hg _ fun φ D h w n ρ v xv hr hx hv hf hne => ?_
  have hv' := hv
  unfold cNilc at hne ⊢
  split at hne
  · cases hv; exact Does.val hr (by simp [execOp, ho, hx]) hv'
  · cases hv; exact Does.val hr (by simp [execOp, ho, hx]) hv'
  · cases hv; exact Does.val hr (by simp [execOp, ho, hx]) hv'
  · cases hv; exact Does.val hr (by simp [execOp, ho, hx]) hv'
  · cases hv; exact Does.val hr (by simp [execOp, ho, hx]) hv'
  · exact absurd rfl hne

theorem ok_un {o : Oper} {op : UnOp} {t : TypeId} {x : Operand} {g : G} (ho : o.op = .unOp op t x) (hg : opd x = some g) : EffOk P o (e1 (cUn op) g) := by
  refine eff1 hg _ fun φ D h w n ρ v xv hr hx hv hf hne => ?_
  unfold cUn at hne ⊢
  split at hne
  · cases hv; cases op <;> first | (exact absurd rfl hne) | skip
    exact Does.val hr (by simp [execOp, ho, hx, Op.unary]) (.bool _)
  · cases hv
    cases op with
    | neg => simp only [vint, forceI_eq]; exact Does.val hr (by simp [execOp, ho, hx, Op.unary, Op.intArith]) (.int _ _)
    | xor => simp only [vint, forceI_eq]; exact Does.val hr (by simp [execOp, ho, hx, Op.unary, Op.intBits]) (.int _ _)
    | _ => exact absurd rfl hne
  · exact absurd rfl hne

theorem ok_toInt {o : Oper} {s d : TypeId} {x : Operand} {g : G} {k j : IntKind} (ho : o.op = .convert s d x) (hg : opd x = some g) (hs : P.underlying s = some (.int j)) (hd : P.underlying d = some (.int k)) :
    EffOk P o (e1 (cToInt k) g) := by
  refine eff1 hg _ fun φ D h w n ρ v xv hr hx hv hf hne => ?_
  unfold cToInt at hne ⊢
  split at hne
  · cases hv
    simp only [vint, forceI_eq]
    exact Does.val hr (by simp [execOp, ho, hx, convert, run_underlying hs, run_underlying hd, Conv.intToInt]) (.int _ _)
  · exact absurd rfl hne

theorem ok_sameStr {o : Oper} {s d : TypeId} {x : Operand} {g : G} (ho : o.op = .convert s d x) (hg : opd x = some g) (hs : P.underlying s = some .string) (hd : P.underlying d = some .string) :
    EffOk P o (e1 cSameS g) := by
  refine eff1 hg _ fun φ D h w n ρ v xv hr hx hv hf hne => ?_
  unfold cSameS at hne ⊢
  split at hne
  · have hv' := hv
    cases hv
    exact Does.val hr (by simp [execOp, ho, hx, convert, run_underlying hs, run_underlying hd]) hv'
  · exact absurd rfl hne

theorem ok_mkif {o : Oper} {t : TypeId} {d : TypeDesc} {x : Operand} {g : G} (ho : o.op = .makeInterface t x) (hg : opd x = some g) (hs : P.underlying t = some d) (hd : ∀ m, d ≠ .interface m) :
    EffOk P o (e1 (cMkif t) g) := by
  refine eff1 hg _ fun φ D h w n ρ v xv hr hx hv hf hne => ?_
  refine Does.val hr ?_ (.ifc _ _ _ hv)
  simp only [execOp, ho, hx, Instr.makeInterface, Sem.run_bind, run_underlying hs, Result.andThen_ok]
  cases d <;> first | rfl | exact absurd rfl (hd _)

theorem ok_addo {o : Oper} {s : TypeId} {i k : Nat} {x : Operand} {g : G} {fs : Array Field} {fd : Field} {ti : TypeInfo} (ho : o.op = .fieldAddr s x i) (hg : opd x = some g) (hs : P.underlying s = some (.struct fs))
    (hf : fs[i]? = some fd) (hi : P.info? fd.type = some ti) (hz : ti.size = k + 1) : EffOk P o (e1 (cAddo fd.offset) g) := by
  have hsz : (sizeOf fd.type).run P = fun w => .ok (k + 1) w := by
    funext w; rw [run_sizeOf _ hi]; simp [Program.cellsOf, hi, hz]
  refine eff1 hg _ fun φ D h w n ρ v xv hr hx hv hfr hne => ?_
  unfold cAddo at hne ⊢
  have hadd : ∀ (cb co : Nat), (⟨cb, co, none⟩ : Addr).add fd.offset = ⟨cb, co + fd.offset, none⟩ := by
    intro cb co; unfold Addr.add; split <;> simp_all
  split at hne
  · rename_i b off
    cases hv with
    | ptr _ _ cb co cz hp =>
    simp only [forceN_eq]
    refine Does.val hr (cv := .pointer (some ⟨cb, co + off + fd.offset, none⟩)) ?_ ?_
    · simp [execOp, ho, hx, Instr.fieldAt, run_underlying hs, hf, Instr.sureAddr, fieldPlace, hsz, hadd]
    · rw [Nat.add_assoc]; exact .ptr _ _ _ _ _ hp
  · rename_i cs
    cases hv with
    | dp _ cb co cells l hD hl hvs =>
    refine Does.val hr (cv := .pointer (some ⟨cb, co + fd.offset, none⟩)) ?_ ?_
    · simp [execOp, ho, hx, Instr.fieldAt, run_underlying hs, hf, Instr.sureAddr, fieldPlace, hsz, hadd]
    · refine .dp _ _ _ _ _ hD rfl ?_
      have := hvs.drop fd.offset
      rw [hl, List.drop_take, List.drop_drop] at this
      simpa [Nat.add_comm] using this
  · exact absurd rfl hne

theorem part_agg {t : TypeId} {ti : TypeInfo} (cs : Array Value) (off : Nat) (hi : P.info? t = some ti) (ha : aggT P t = some true) (w : World) :
    (part t cs off).run P w = .ok (.agg (cs.extract off (off + ti.size))) w := by
  unfold part isAgg
  unfold aggT at ha
  cases hu : P.underlying t with
  | none => rw [hu] at ha; cases ha
  | some d => rw [hu] at ha; cases d <;> simp at ha <;> simp [run_underlying hu, run_sizeOf _ hi, Program.cellsOf, hi]
theorem part_one {t : TypeId} {v : Value} (cs : Array Value) (off : Nat) (ha : aggT P t = some false) (hc : cs[off]? = some v) (w : World) :
    (part t cs off).run P w = .ok v w := by
  unfold part isAgg
  unfold aggT at ha
  cases hu : P.underlying t with
  | none => rw [hu] at ha; cases ha
  | some d => rw [hu] at ha; cases d <;> simp at ha <;> simp [run_underlying hu, hc]

theorem ok_fld1 {o : Oper} {s : TypeId} {i : Nat} {x : Operand} {g : G} {fs : Array Field} {fd : Field} (ho : o.op = .field s x i) (hg : opd x = some g) (hs : P.underlying s = some (.struct fs))
    (hf : fs[i]? = some fd) (ha : aggT P fd.type = some false) : EffOk P o (e1 (cFld1 fd.offset) g) := by
  refine eff1 hg _ fun φ D h w n ρ v xv hr hx hv hfr hne => ?_
  unfold cFld1 at hne ⊢
  split at hne
  · rename_i cs _
    cases hv with
    | agg _ l _ hvs hl =>
    rw [nth_eq] at hne ⊢
    cases hc : cs[fd.offset]? with
    | none => rw [hc] at hne; exact absurd rfl hne
    | some u =>
      obtain ⟨y, hy, hu⟩ := hvs.get hc
      exact Does.val hr (by simp [execOp, ho, hx, Instr.field, run_underlying hs, hf, asAgg, part_one (P := P) ⟨l⟩ fd.offset ha (v := y) (by simpa using hy)]) hu
  · exact absurd rfl hne
theorem ok_fldN {o : Oper} {s : TypeId} {i : Nat} {x : Operand} {g : G} {fs : Array Field} {fd : Field} {ti : TypeInfo} (ho : o.op = .field s x i) (hg : opd x = some g) (hs : P.underlying s = some (.struct fs))
    (hf : fs[i]? = some fd) (ha : aggT P fd.type = some true) (hi : P.info? fd.type = some ti) : EffOk P o (e1 (cFldN fd.offset ti.size) g) := by
  refine eff1 hg _ fun φ D h w n ρ v xv hr hx hv hfr hne => ?_
  unfold cFldN at hne ⊢
  split at hne
  · cases hv with
    | agg cs l n hvs hl =>
    split at hne
    · rename_i hle
      have hle := Nat.le_of_ble_eq_true hle
      refine Does.val hr (cv := .agg ⟨(l.drop fd.offset).take ti.size⟩) ?_ (.agg _ _ _ ((hvs.drop _).take _) (by simp; omega))
      have hex : (⟨l⟩ : Array Value).extract fd.offset (fd.offset + ti.size) = ⟨(l.drop fd.offset).take ti.size⟩ := by
        apply Array.ext'
        simp [List.extract]
      simp [execOp, ho, hx, Instr.field, run_underlying hs, hf, asAgg, part_agg (P := P) ⟨l⟩ fd.offset hi ha, hex]
    · exact absurd rfl hne
  · exact absurd rfl hne

theorem ok_ext {o : Oper} {i : Nat} {x : Operand} {g : G} (ho : o.op = .extract x i) (hg : opd x = some g) : EffOk P o (e1 (cExt i) g) := by
  refine eff1 hg _ fun φ D h w n ρ v xv hr hx hv hfr hne => ?_
  unfold cExt at hne ⊢
  split at hne
  · rename_i cs
    cases hv with
    | tup _ l hvs =>
    rw [nth_eq] at hne ⊢
    cases hc : cs[i]? with
    | none => rw [hc] at hne; exact absurd rfl hne
    | some u =>
      obtain ⟨y, hy, hu⟩ := hvs.get hc
      exact Does.val hr (by simp [execOp, ho, hx, Instr.extract, hy]) hu
  · exact absurd rfl hne

theorem ok_mkfn {o : Oper} {f : Fn} {xs ys : Array Operand} {gs ks : List G} (ho : o.op = .makeFunc f xs ys) (hx : opds xs.toList = some gs) (hy : opds ys.toList = some ks) : EffOk P o (eMkfn f gs ks) := by
  intro F H n φ D a w hr hF hf hne
  unfold eMkfn at hf hne ⊢
  cases hv : evs F gs with
  | none => rw [hv] at hne; exact absurd rfl hne
  | some vs =>
    rw [hv] at hf hne
    dsimp only at hf hne ⊢
    cases hu : evs F ks with
    | none => rw [hu] at hne; exact absurd rfl hne
    | some us =>
      have h1 := opds_sound hx F φ D a hF vs hv
      have h2 := opds_sound hy F φ D a hF us hu
      refine Does.val hr (cv := .func f (xs.map a.eval) (ys.map a.eval)) (by simp [execOp, ho, Instr.makeFunc]) ?_
      have e1 : xs.map a.eval = ⟨xs.toList.map a.eval⟩ := by apply Array.ext'; simp
      have e2 : ys.map a.eval = ⟨ys.toList.map a.eval⟩ := by apply Array.ext'; simp
      rw [e1, e2]
      exact .fn _ _ _ _ _ h1 h2

end
end Go.Abs
