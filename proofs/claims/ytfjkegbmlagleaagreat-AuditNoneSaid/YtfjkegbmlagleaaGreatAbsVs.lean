/- What is to be shown of code, step by step. -/
import Derived.Test.YtfjkegbmlagleaaGreatAbsVc
namespace Go.Abs

def SeqV (P : Program) (b : CT) (Q : QA) : QA := fun o F' H' n' m' => match o with
  | .normal => VC P b F' H' n' m' Q
  | .exit i => Q (.exit i) F' H' n' m'
  | .ret => Q .ret F' H' n' m'
def CondV (v : Option AV) (a b : CT) (P : Program) (F : Fr) (H : Hp) (n : Nat) (m : List Nat) (Q : QA) : Prop := CondE v (VC P a F H n m Q) (VC P b F H n m Q)
def OpV (x : ERes) (pd : Pd) (r : List (Option GO)) (P : Program) (F : Fr) (H : Hp) (n : Nat) (m : List Nat) (Q : QA) : Prop := EvE x H n fun v H' n' => VCO P r (pd.f v F) H' n' m Q
def CalV (f : FuncId) (vs : List AV) (pd : Pd) (r : List (Option GO)) (P : Program) (F : Fr) (H : Hp) (n : Nat) (m : List Nat) (Q : QA) : Prop := CallR P f vs H n fun v H' n' => VCO P r (pd.f v F) H' n' m Q
def ArgV (vs : Option (List AV)) (f : FuncId) (pd : Pd) (r : List (Option GO)) (P : Program) (F : Fr) (H : Hp) (n : Nat) (m : List Nat) (Q : QA) : Prop := OpB vs fun vs => CalV f vs pd r P F H n m Q
def FunV (v : Option AV) (vs : Option (List AV)) (pd : Pd) (r : List (Option GO)) (P : Program) (F : Fr) (H : Hp) (n : Nat) (m : List Nat) (Q : QA) : Prop := match v with
  | some (.fn (.func f) first cap) => OpB vs fun vs => CalV f (first ++ (vs ++ cap)) pd r P F H n m Q
  | _ => False
def GrdV (v : Option AV) (b : Bool) (pd : Pd) (e : Eff) (r : List (Option GO)) (P : Program) (F : Fr) (H : Hp) (n : Nat) (m : List Nat) (Q : QA) : Prop := GrdE v b (OpV (e F H n) pd r P F H n m Q) (VCO P r (pd.f (.tup []) F) H n m Q)
def GrcV (v : Option AV) (b : Bool) (pd : Pd) (f : FuncId) (as : List G) (r : List (Option GO)) (P : Program) (F : Fr) (H : Hp) (n : Nat) (m : List Nat) (Q : QA) : Prop := GrdE v b (ArgV (evs F as) f pd r P F H n m Q) (VCO P r (pd.f (.tup []) F) H n m Q)
def GrfV (v : Option AV) (b : Bool) (pd : Pd) (g : G) (as : List G) (r : List (Option GO)) (P : Program) (F : Fr) (H : Hp) (n : Nat) (m : List Nat) (Q : QA) : Prop := GrdE v b (FunV (g.f F) (evs F as) pd r P F H n m Q) (VCO P r (pd.f (.tup []) F) H n m Q)
def LoopV (b : CT) (P : Program) (F : Fr) (H : Hp) (n : Nat) (m : List Nat) (Q : QA) : Prop := ∃ (I : Nat → Fr → Hp → Nat → List Nat → Prop) (k : Nat), I k F H n m ∧ ∀ k F H n m, I k F H n m → VC P b F H n m (RndQ I k Q)
def DrwV (ds : List Nat) (l : List (Option RO)) (P : Program) (F : Fr) (H : Hp) (n : Nat) (m : List Nat) (Q : QA) : Prop := ∃ ce, CeOk P ce ∧ Ev ((drwK ds (mkR l)).f ce F H n m) Q

section
variable {P : Program} {F : Fr} {H : Hp} {n : Nat} {m : List Nat} {Q : QA}
@[simp] theorem seqV_normal (b : CT) : SeqV P b Q .normal F H n m = VC P b F H n m Q := propext Iff.rfl
@[simp] theorem seqV_exit (b : CT) (i : Nat) : SeqV P b Q (.exit i) F H n m = Q (.exit i) F H n m := propext Iff.rfl
@[simp] theorem seqV_ret (b : CT) : SeqV P b Q .ret F H n m = Q .ret F H n m := propext Iff.rfl
@[simp] theorem condV_true (a b : CT) : CondV (some (.bool true)) a b P F H n m Q = VC P a F H n m Q := propext Iff.rfl
@[simp] theorem condV_false (a b : CT) : CondV (some (.bool false)) a b P F H n m Q = VC P b F H n m Q := propext Iff.rfl
@[simp] theorem vc_reg (l : List (Option GO)) : VC P (.reg l) F H n m Q = VCO P l F H n m Q := propext Iff.rfl
@[simp] theorem vc_drw (ds : List Nat) (l : List (Option RO)) : VC P (.drw ds l) F H n m Q = DrwV ds l P F H n m Q := propext Iff.rfl
@[simp] theorem vc_seq (a b : CT) : VC P (.seq a b) F H n m Q = VC P a F H n m (SeqV P b Q) := propext Iff.rfl
@[simp] theorem vc_cond (g : G) (a b : CT) : VC P (.cond g a b) F H n m Q = CondV (g.f F) a b P F H n m Q := propext Iff.rfl
@[simp] theorem vc_block (i : Nat) (b : CT) : VC P (.block i b) F H n m Q = VC P b F H n m (BlkQ i Q) := propext Iff.rfl
@[simp] theorem vc_loop (b : CT) : VC P (.loop b) F H n m Q = LoopV b P F H n m Q := propext Iff.rfl
@[simp] theorem vc_exit (i : Nat) : VC P (.exit i) F H n m Q = Q (.exit i) F H n m := propext Iff.rfl
@[simp] theorem vc_ret : VC P .ret F H n m Q = Q .ret F H n m := propext Iff.rfl
@[simp] theorem vc_skip : VC P .skip F H n m Q = Q .normal F H n m := propext Iff.rfl
@[simp] theorem opV_fail (pd : Pd) (r : List (Option GO)) : OpV .fail pd r P F H n m Q = False := propext Iff.rfl
@[simp] theorem opV_val (v : AV) (pd : Pd) (r : List (Option GO)) : OpV (.val v) pd r P F H n m Q = VCO P r (pd.f v F) H n m Q := propext Iff.rfl
@[simp] theorem opV_new (v : AV) (k : ABlk) (pd : Pd) (r : List (Option GO)) : OpV (.new v k) pd r P F H n m Q = VCO P r (pd.f v F) (H.put n (some k)) (n + 1) m Q := propext Iff.rfl
@[simp] theorem opV_upd (v : AV) (b : Nat) (k : ABlk) (pd : Pd) (r : List (Option GO)) : OpV (.upd v b k) pd r P F H n m Q = VCO P r (pd.f v F) (H.put b (some k)) n m Q := propext Iff.rfl
@[simp] theorem opV_mv (v : AV) (b : Nat) (k : ABlk) (pd : Pd) (r : List (Option GO)) : OpV (.mv v b k) pd r P F H n m Q = VCO P r (pd.f v F) ((H.put b none).put n (some k)) (n + 1) m Q := propext Iff.rfl
@[simp] theorem argV_some (vs : List AV) (f : FuncId) (pd : Pd) (r : List (Option GO)) : ArgV (some vs) f pd r P F H n m Q = CalV f vs pd r P F H n m Q := propext Iff.rfl
@[simp] theorem funV_some (f : FuncId) (first cap vs : List AV) (pd : Pd) (r : List (Option GO)) : FunV (some (.fn (.func f) first cap)) (some vs) pd r P F H n m Q = CalV f (first ++ (vs ++ cap)) pd r P F H n m Q := propext Iff.rfl
@[simp] theorem grdV_t (pd : Pd) (e : Eff) (r : List (Option GO)) : GrdV (some (.bool true)) true pd e r P F H n m Q = OpV (e F H n) pd r P F H n m Q := propext Iff.rfl
@[simp] theorem grdV_f (pd : Pd) (e : Eff) (r : List (Option GO)) : GrdV (some (.bool false)) true pd e r P F H n m Q = VCO P r (pd.f (.tup []) F) H n m Q := propext Iff.rfl
@[simp] theorem grdV_t' (pd : Pd) (e : Eff) (r : List (Option GO)) : GrdV (some (.bool true)) false pd e r P F H n m Q = VCO P r (pd.f (.tup []) F) H n m Q := propext Iff.rfl
@[simp] theorem grdV_f' (pd : Pd) (e : Eff) (r : List (Option GO)) : GrdV (some (.bool false)) false pd e r P F H n m Q = OpV (e F H n) pd r P F H n m Q := propext Iff.rfl
@[simp] theorem grdV_tup (l : List AV) (b : Bool) (pd : Pd) (e : Eff) (r : List (Option GO)) : GrdV (some (.tup l)) b pd e r P F H n m Q = VCO P r (pd.f (.tup []) F) H n m Q := propext Iff.rfl
@[simp] theorem grcV_t (pd : Pd) (f : FuncId) (as : List G) (r : List (Option GO)) : GrcV (some (.bool true)) true pd f as r P F H n m Q = ArgV (evs F as) f pd r P F H n m Q := propext Iff.rfl
@[simp] theorem grcV_f (pd : Pd) (f : FuncId) (as : List G) (r : List (Option GO)) : GrcV (some (.bool false)) true pd f as r P F H n m Q = VCO P r (pd.f (.tup []) F) H n m Q := propext Iff.rfl
@[simp] theorem grcV_t' (pd : Pd) (f : FuncId) (as : List G) (r : List (Option GO)) : GrcV (some (.bool true)) false pd f as r P F H n m Q = VCO P r (pd.f (.tup []) F) H n m Q := propext Iff.rfl
@[simp] theorem grcV_f' (pd : Pd) (f : FuncId) (as : List G) (r : List (Option GO)) : GrcV (some (.bool false)) false pd f as r P F H n m Q = ArgV (evs F as) f pd r P F H n m Q := propext Iff.rfl
@[simp] theorem grcV_tup (l : List AV) (b : Bool) (pd : Pd) (f : FuncId) (as : List G) (r : List (Option GO)) : GrcV (some (.tup l)) b pd f as r P F H n m Q = VCO P r (pd.f (.tup []) F) H n m Q := propext Iff.rfl
@[simp] theorem grfV_t (pd : Pd) (g : G) (as : List G) (r : List (Option GO)) : GrfV (some (.bool true)) true pd g as r P F H n m Q = FunV (g.f F) (evs F as) pd r P F H n m Q := propext Iff.rfl
@[simp] theorem grfV_f (pd : Pd) (g : G) (as : List G) (r : List (Option GO)) : GrfV (some (.bool false)) true pd g as r P F H n m Q = VCO P r (pd.f (.tup []) F) H n m Q := propext Iff.rfl
@[simp] theorem grfV_t' (pd : Pd) (g : G) (as : List G) (r : List (Option GO)) : GrfV (some (.bool true)) false pd g as r P F H n m Q = VCO P r (pd.f (.tup []) F) H n m Q := propext Iff.rfl
@[simp] theorem grfV_f' (pd : Pd) (g : G) (as : List G) (r : List (Option GO)) : GrfV (some (.bool false)) false pd g as r P F H n m Q = FunV (g.f F) (evs F as) pd r P F H n m Q := propext Iff.rfl
@[simp] theorem grfV_tup (l : List AV) (b : Bool) (pd : Pd) (g : G) (as : List G) (r : List (Option GO)) : GrfV (some (.tup l)) b pd g as r P F H n m Q = VCO P r (pd.f (.tup []) F) H n m Q := propext Iff.rfl
@[simp] theorem vcO_nil : VCO P [] F H n m Q = Q .normal F H n m := propext Iff.rfl
@[simp] theorem vcO_oP (pd : Pd) (e : Eff) (r : List (Option GO)) : VCO P (oP pd e :: r) F H n m Q = OpV (e F H n) pd r P F H n m Q := propext Iff.rfl
@[simp] theorem vcO_gP (g : G) (b : Bool) (pd : Pd) (e : Eff) (r : List (Option GO)) : VCO P (gP g b pd e :: r) F H n m Q = GrdV (g.f F) b pd e r P F H n m Q := propext Iff.rfl
theorem call_const (g : G) (as : List G) (K : FuncId → List AV → Prop) : (∃ f first cap vs, g.f F = some (.fn (.func f) first cap) ∧ evs F as = some vs ∧ K f (first ++ (vs ++ cap))) ↔ (match g.f F with
    | some (.fn (.func f) first cap) => OpB (evs F as) fun vs => K f (first ++ (vs ++ cap))
    | _ => False) := by
  constructor
  · rintro ⟨f, first, cap, vs, h1, h2, h3⟩
    rw [h1, h2]; exact h3
  · intro h
    split at h
    · rename_i f first cap hg
      cases hv : evs F as with
      | none => rw [hv] at h; exact absurd h id
      | some vs => rw [hv] at h; exact ⟨f, first, cap, vs, hg, rfl, h⟩
    · exact absurd h id
@[simp] theorem vcO_vP (pd : Pd) (g : G) (as : List G) (r : List (Option GO)) : VCO P (vP pd g as :: r) F H n m Q = FunV (g.f F) (evs F as) pd r P F H n m Q := by
  refine Eq.trans (propext (call_const (F := F) g as fun f l => CalV f l pd r P F H n m Q)) ?_
  unfold FunV
  rfl
@[simp] theorem vcO_cP (pd : Pd) (f : FuncId) (as : List G) (r : List (Option GO)) : VCO P (cP pd f as :: r) F H n m Q = ArgV (evs F as) f pd r P F H n m Q := by
  refine Eq.trans (vcO_vP pd (constG (.fn (.func f) [] [])) as r) ?_
  simp only [constG_f, FunV, ArgV, List.nil_append, List.append_nil]
@[simp] theorem vcO_gcP (g : G) (b : Bool) (pd : Pd) (f : FuncId) (as : List G) (r : List (Option GO)) : VCO P (gcP g b pd f as :: r) F H n m Q = GrcV (g.f F) b pd f as r P F H n m Q := by
  show GrdE (g.f F) b (VCO P (cP pd f as :: r) F H n m Q) _ = _
  rw [vcO_cP]; rfl
noncomputable def gvP (g : G) (b : Bool) (pd : Pd) (h : G) (as : List G) : Option GO := some ⟨some (g, b), pd, .call h as⟩
@[simp] theorem vcO_gvP (g : G) (b : Bool) (pd : Pd) (h : G) (as : List G) (r : List (Option GO)) : VCO P (gvP g b pd h as :: r) F H n m Q = GrfV (g.f F) b pd h as r P F H n m Q := by
  show GrdE (g.f F) b (VCO P (vP pd h as :: r) F H n m Q) _ = _
  rw [vcO_vP]; rfl

/-- a call, by its contract -/
theorem CalV.of {f : FuncId} {vs : List AV} {pd : Pd} {r : List (Option GO)} {R : AV → Hp → Nat → Prop} (h : CallR P f vs H n R) (k : ∀ v H' n', R v H' n' → VCO P r (pd.f v F) H' n' m Q) : CalV f vs pd r P F H n m Q := h.mono k
theorem CalV.pure {f : FuncId} {vs : List AV} {pd : Pd} {r : List (Option GO)} {v : AV} (h : FnPure P f vs v) (k : VCO P r (pd.f v F) H n m Q) : CalV f vs pd r P F H n m Q := (h.callR H n).mono fun u K k' ⟨a, b, c⟩ => by subst a b c; exact k
theorem CalV.frz {f : FuncId} {vs vs' : List AV} {pd : Pd} {r : List (Option GO)} {v : AV} (h : FnPure P f vs' v) (hf : Flat v) (hz : FrzL H.get vs vs') (k : VCO P r (pd.f v F) H n m Q) : CalV f vs pd r P F H n m Q := (h.callF hf n hz).mono fun u K k' ⟨a, b, c⟩ => by subst a b c; exact k
theorem LoopV.of {b : CT} (I : Nat → Fr → Hp → Nat → List Nat → Prop) (k : Nat) (h0 : I k F H n m) (hs : ∀ k F H n m, I k F H n m → VC P b F H n m (RndQ I k Q)) : LoopV b P F H n m Q := ⟨I, k, h0, hs⟩
theorem DrwV.of {ds : List Nat} {l : List (Option RO)} {ce : Ce} (hce : CeOk P ce) (h : Ev ((drwK ds (mkR l)).f ce F H n m) Q) : DrwV ds l P F H n m Q := ⟨ce, hce, h⟩
/-- a test -/
theorem CondV.of {c : Prop} [Decidable c] {a b : CT} (h1 : c → VC P a F H n m Q) (h2 : ¬ c → VC P b F H n m Q) : CondV (some (.bool (decide c))) a b P F H n m Q := by
  by_cases h : c
  · simp [h]; exact h1 h
  · simp [h]; exact h2 h
theorem CondV.ofB {c : Bool} {a b : CT} (h1 : c = true → VC P a F H n m Q) (h2 : c = false → VC P b F H n m Q) : CondV (some (.bool c)) a b P F H n m Q := by
  cases c
  · exact h2 rfl
  · exact h1 rfl

theorem ce0_ok : CeOk P (ceOf fun _ _ _ _ => .fail) := ceOf_ok fun _ _ _ _ _ _ _ h => by cases h
/-- a function that only reads, by its code -/
theorem pureV {g : FuncId} {c : CF} {args : List AV} {v : AV} (hc : ctF P g = some c) (hp : PureL args) (hv : Pure v) (hl : args.length ≤ c.nt)
    (h : ∀ F : Fr, (∀ i, F.get i = args[i]?) → VC P c.code F .nil 0 [] (RetQ c.res fun v1 H' _ => Frz H'.get v1 v)) : FnPure P g args v := FnPure.ofR hp hv (CallR.of hc hl h)
def getV (r : CRes) : Option AV := match r with
  | .mk v _ _ => some v
  | .fail => none
/-- a function of closed values, run -/
theorem FnPure.lit {g : FuncId} {args : List AV} {v : AV} (hp : PureL args) (hv : Pure v) (h : getV (fnCall P (ceOf fun _ _ _ _ => .fail) g args .nil 0) = some v) : FnPure P g args v := by
  refine FnPure.of ce0_ok hp ?_
  cases hr : fnCall P (ceOf fun _ _ _ _ => .fail) g args .nil 0 with
  | fail => rw [hr] at h; cases h
  | mk v1 H' n' => rw [hr] at h; injection h with h; subst h; exact ⟨_, _, _, rfl, .pure _ hv⟩
theorem FnPure.byRun {g : FuncId} {args : List AV} {v : AV} (k : Nat) (hp : PureL args) (hv : Pure v) (h : getV ((Go.Abs.run P (k + 1)).call g args .nil 0) = some v) : FnPure P g args v := by
  refine FnPure.of (run_ok (P := P) k) hp ?_
  have e : fnCall P (Go.Abs.run P k) g args .nil 0 = (Go.Abs.run P (k + 1)).call g args .nil 0 := rfl
  cases hr : fnCall P (Go.Abs.run P k) g args .nil 0 with
  | fail => rw [← e, hr] at h; cases h
  | mk v1 H' n' => rw [← e, hr] at h; injection h with h; subst h; exact ⟨_, _, _, rfl, .pure _ hv⟩

/-! ### what a call made, forgotten -/
mutual
theorem VR.back {φ φ' : Ph} {D D' : Da} (hφ : ∀ b x, φ b = some x → φ' b = some x) : ∀ {v x x'}, VR φ D v x → VR φ' D' v x' → VR φ D' v x'
  | _, _, _, .int _ _, .int _ _ => .int _ _
  | _, _, _, .bool _, .bool _ => .bool _
  | _, _, _, .str _ _ _, .str _ _ e => .str _ _ e
  | _, _, _, .ptr _ _ _ _ _ h, .ptr _ _ _ _ _ k => by rw [hφ _ _ h] at k; injection k with k; injection k with a b; injection b with b c; subst a b c; exact .ptr _ _ _ _ _ h
  | _, _, _, .sl _ _ _ _ _ _ _ _ _ h _ _, .sl _ _ _ _ _ _ _ _ _ k p q => by rw [hφ _ _ h] at k; injection k with k; injection k with a b; injection b with b c; subst a b c; exact .sl _ _ _ _ _ _ _ _ _ h p q
  | _, _, _, .agg _ _ _ h _, .agg _ _ _ k e => .agg _ _ _ (VRs.back hφ h k) e
  | _, _, _, .tup _ _ h, .tup _ _ k => .tup _ _ (VRs.back hφ h k)
  | _, _, _, .ifc _ _ _ h, .ifc _ _ _ k => .ifc _ _ _ (VR.back hφ h k)
  | _, _, _, .fn _ _ _ _ _ h1 h2, .fn _ _ _ _ _ k1 k2 => .fn _ _ _ _ _ (VRs.back hφ h1 k1) (VRs.back hφ h2 k2)
  | _, _, _, .map _ _ _ _ h, .map _ _ _ _ k => by rw [hφ _ _ h] at k; injection k with k; injection k with a b; injection b with b c; subst a b c; exact .map _ _ _ _ h
  | _, _, _, .ds _ _ _ _ _ _ _ _ _ _ _ h _, .ds _ _ _ _ _ _ _ _ a b c k e => .ds _ _ _ _ _ _ _ _ a b c (VRs.back hφ h k) e
  | _, _, _, .ds _ _ _ _ _ _ _ _ _ _ _ _ _, .ds0 _ _ _ => .ds0 _ _ _
  | _, _, _, .ds _ _ _ _ _ _ _ _ _ _ _ _ _, .dsn _ => .dsn _
  | _, _, _, .ds0 _ _ _, .ds _ _ _ _ _ _ _ _ a b c k e => .ds _ _ _ _ _ _ _ _ a b c (by cases k; exact .nil) e
  | _, _, _, .ds0 _ _ _, .ds0 _ _ _ => .ds0 _ _ _
  | _, _, _, .ds0 _ _ _, .dsn _ => .dsn _
  | _, _, _, .dsn _, .ds _ _ _ _ _ _ _ _ a b c k e => .ds _ _ _ _ _ _ _ _ a b c (by cases k; exact .nil) e
  | _, _, _, .dsn _, .ds0 _ _ _ => .ds0 _ _ _
  | _, _, _, .dsn _, .dsn _ => .dsn _
  | _, _, _, .dp _ _ _ _ _ _ _ h, .dp _ _ _ _ _ a b k => .dp _ _ _ _ _ a b (VRs.back hφ h k)
  | _, _, _, .yld _ _ _ _ h, .yld _ _ _ _ k => by rw [hφ _ _ h] at k; injection k with k; injection k with a b; injection b with b c; subst a b c; exact .yld _ _ _ _ h
  | _, _, _, .cst _ _, .cst _ e => .cst _ e
theorem VRs.back {φ φ' : Ph} {D D' : Da} (hφ : ∀ b x, φ b = some x → φ' b = some x) : ∀ {v x x'}, VRs φ D v x → VRs φ' D' v x' → VRs φ D' v x'
  | _, _, _, .nil, .nil => .nil
  | _, _, _, .cons _ _ _ _ h1 h2, .cons _ _ _ _ k1 k2 => .cons _ _ _ _ (VR.back hφ h1 k1) (VRs.back hφ h2 k2)
end
theorem EsR.back {φ φ' : Ph} {D D' : Da} (hφ : ∀ b x, φ b = some x → φ' b = some x) : ∀ {v x x'}, EsR φ D v x → EsR φ' D' v x' → EsR φ D' v x'
  | _, _, _, .nil, .nil => .nil
  | _, _, _, .cons _ _ _ _ _ _ _ a b c, .cons _ _ _ _ _ _ _ a' b' c' => .cons _ _ _ _ _ _ _ (a.back hφ a') (b.back hφ b') (EsR.back hφ c c')
theorem FR.back {φ φ' : Ph} {D D' : Da} (hφ : ∀ b x, φ b = some x → φ' b = some x) {F : Ff} {t t' : Array Value} (h : FR φ D F t) (k : FR φ' D' F t') : FR φ D' F t' := by
  intro s v hv
  obtain ⟨x, _, h2⟩ := h s v hv
  obtain ⟨y, k1, k2⟩ := k s v hv
  exact ⟨y, k1, h2.back hφ k2⟩
theorem BlkR.back {φ φ' : Ph} {D D' : Da} {w w' : World} {p} (hφ : ∀ b x, φ b = some x → φ' b = some x) {k : ABlk} (h : BlkR φ D w p k) (k' : BlkR φ' D' w' p k) : BlkR φ D' w' p k := by
  cases k with
  | cells u z bs t =>
    obtain ⟨c, e, fr, h1, h2, h3, h4, h5⟩ := h
    obtain ⟨c', e', fr', k1, k2, k3, k4, k5⟩ := k'
    exact ⟨c', e', fr', k1, k2, k3, fun i v hv => let ⟨x, _, a⟩ := h4 i v hv; let ⟨y, b, b'⟩ := k4 i v hv; ⟨y, b, a.back hφ b'⟩, k5⟩
  | map es clk => obtain ⟨c, h1, h2⟩ := h; obtain ⟨c', k1, k2⟩ := k'; exact ⟨c', k1, h2.back hφ k2⟩
  | loop st j nt F ps a b =>
    obtain ⟨r, h1, h2, h3, h4, h5, h6⟩ := h
    obtain ⟨r', k1, k2, k3, k4, k5, k6⟩ := k'
    exact ⟨r', k1, k2, k3, k4, h5.back hφ k5, k6⟩
  | defd => exact k'
  | iter m s l c =>
    obtain ⟨h0, cm, h1, h2⟩ := h
    obtain ⟨_, cm', k1, k2⟩ := k'
    refine ⟨h0, cm', k1, ?_⟩
    cases m with
    | none => exact k2
    | some b =>
      obtain ⟨cb, co, cz, h3, _⟩ := h2
      obtain ⟨cb', co', cz', k3, k4⟩ := k2
      have := hφ _ _ h3
      rw [this] at k3
      injection k3 with k3
      injection k3 with e1 e2
      exact ⟨cb, co, cz, h3, by rw [k4, e1]⟩
/-- what a call made beside what there was is forgotten: its value names nothing -/
theorem CallR.forget {g : FuncId} {args : List AV} {v0 : AV} (hv : Flat v0) (h : CallR P g args H n (fun v H' _ => v = v0 ∧ ∀ b, H.get b ≠ none → H'.get b = H.get b)) : CallR P g args H n (fun u K k => u = v0 ∧ K = H ∧ k = n) := by
  refine ⟨h.1, fun φ D w xs hr hvs hf RR hR => h.2 φ D w xs hr hvs hf RR fun v H' n' φ' D' w' x ⟨hz, hk⟩ e r hx => ?_⟩
  subst hz
  refine hR v H n φ D' w' x ⟨rfl, rfl, rfl⟩ ⟨Nat.le_refl _, fun _ _ h => h, fun _ a b => absurd a b, e.dat, e.size, e.keep, fun b p hb hp => .inr ⟨b, p, hb, hp, rfl⟩, e.dnew, fun _ h => .inl h, e.os, e.out⟩ ?_ (hv.out hx)
  refine ⟨fun b k hb => ?_, hr.inj, fun b p hb hp => ?_, r.dat⟩
  · obtain ⟨p, hp, hl, hb1⟩ := hr.blk b k hb
    have hb' : H'.get b = some k := by rw [hk b (by rw [hb]; simp), hb]
    have := (r.block hb' (e.phi _ _ hp)).2
    exact ⟨p, hp, Nat.lt_of_lt_of_le hl e.size, hb1.back e.phi this⟩
  · exact r.sep b p (by rw [hk b hb]; exact hb) (e.phi _ _ hp)
theorem CalV.same {f : FuncId} {vs : List AV} {pd : Pd} {r : List (Option GO)} {v : AV} (h : CallR P f vs H n (fun u K k => u = v ∧ K = H ∧ k = n)) (k : VCO P r (pd.f v F) H n m Q) : CalV f vs pd r P F H n m Q := h.mono fun u K k' ⟨a, b, c⟩ => by subst a b c; exact k
end
end Go.Abs
