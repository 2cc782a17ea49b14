/- Runs of code, asked step by step. -/
import Derived.Test.YtfjkegbmlagleaaGreatAbsPu
namespace Go.Abs

abbrev QA := AOut → Fr → Hp → Nat → List Nat → Prop
def Ev (r : Res) (Q : QA) : Prop := match r with
  | .mk o F H n m => Q o F H n m
  | .fail => False
def EvC (r : CRes) (R : AV → Hp → Nat → Prop) : Prop := match r with
  | .mk v H n => R v H n
  | .fail => False
def EvE (r : ERes) (H : Hp) (n : Nat) (k : AV → Hp → Nat → Prop) : Prop := match r with
  | .fail => False
  | .val v => k v H n
  | .new v b => k v (H.put n (some b)) (n + 1)
  | .upd v b x => k v (H.put b (some x)) n
  | .mv v b x => k v ((H.put b none).put n (some x)) (n + 1)
def SeqQ (b : K) (ce : Ce) (Q : QA) : QA := fun o F H n m => match o with
  | .normal => Ev (b.f ce F H n m) Q
  | .exit i => Q (.exit i) F H n m
  | .ret => Q .ret F H n m
def BlkQ (i : Nat) (Q : QA) : QA := fun o F H n m => match o with
  | .normal => Q .normal F H n m
  | .exit j => if i = j then Q .normal F H n m else Q (.exit j) F H n m
  | .ret => Q .ret F H n m
def RetQ (res : List (Fr → Hp → Option AV)) (R : AV → Hp → Nat → Prop) : QA := fun o F H n m => match o with
  | .exit _ => False
  | _ => match unmark m H with
    | some H' => match evR F H' res with
      | some vs => R (retV vs) H' n
      | none => False
    | none => False
def CondE (v : Option AV) (p q : Prop) : Prop := match v with
  | some (.bool true) => p
  | some (.bool false) => q
  | _ => False
def CondO (v : Option AV) (a b : K) (ce : Ce) (F : Fr) (H : Hp) (n : Nat) (m : List Nat) (Q : QA) : Prop := CondE v (Ev (a.f ce F H n m) Q) (Ev (b.f ce F H n m) Q)
def GrdE (v : Option AV) (want : Bool) (p q : Prop) : Prop := match v with
  | some (.bool b) => bif b == want then p else q
  | some _ => q
  | none => False
def OpB {α : Type} (o : Option α) (k : α → Prop) : Prop := match o with
  | some x => k x
  | none => False

section
variable {ce : Ce} {F : Fr} {H : Hp} {n : Nat} {m : List Nat} {Q : QA}
@[simp] theorem ev_mk (o : AOut) : Ev (.mk o F H n m) Q = Q o F H n m := propext Iff.rfl
@[simp] theorem evC_mk (v : AV) (R : AV → Hp → Nat → Prop) : EvC (.mk v H n) R = R v H n := propext Iff.rfl
@[simp] theorem evE_fail (k : AV → Hp → Nat → Prop) : EvE .fail H n k = False := propext Iff.rfl
@[simp] theorem evE_val (v : AV) (k : AV → Hp → Nat → Prop) : EvE (.val v) H n k = k v H n := propext Iff.rfl
@[simp] theorem evE_new (v : AV) (b : ABlk) (k : AV → Hp → Nat → Prop) : EvE (.new v b) H n k = k v (H.put n (some b)) (n + 1) := propext Iff.rfl
@[simp] theorem evE_upd (v : AV) (b : Nat) (x : ABlk) (k : AV → Hp → Nat → Prop) : EvE (.upd v b x) H n k = k v (H.put b (some x)) n := propext Iff.rfl
@[simp] theorem evE_mv (v : AV) (b : Nat) (x : ABlk) (k : AV → Hp → Nat → Prop) : EvE (.mv v b x) H n k = k v ((H.put b none).put n (some x)) (n + 1) := propext Iff.rfl
@[simp] theorem seqQ_normal (b : K) : SeqQ b ce Q .normal F H n m = Ev (b.f ce F H n m) Q := propext Iff.rfl
@[simp] theorem seqQ_exit (b : K) (i : Nat) : SeqQ b ce Q (.exit i) F H n m = Q (.exit i) F H n m := propext Iff.rfl
@[simp] theorem seqQ_ret (b : K) : SeqQ b ce Q .ret F H n m = Q .ret F H n m := propext Iff.rfl
@[simp] theorem blkQ_normal (i : Nat) : BlkQ i Q .normal F H n m = Q .normal F H n m := propext Iff.rfl
@[simp] theorem blkQ_exit (i j : Nat) : BlkQ i Q (.exit j) F H n m = if i = j then Q .normal F H n m else Q (.exit j) F H n m := propext Iff.rfl
@[simp] theorem blkQ_ret (i : Nat) : BlkQ i Q .ret F H n m = Q .ret F H n m := propext Iff.rfl
@[simp] theorem condE_true (p q : Prop) : CondE (some (.bool true)) p q = p := propext Iff.rfl
@[simp] theorem condE_false (p q : Prop) : CondE (some (.bool false)) p q = q := propext Iff.rfl
@[simp] theorem grdE_t (p q : Prop) : GrdE (some (.bool true)) true p q = p := propext Iff.rfl
@[simp] theorem grdE_f (p q : Prop) : GrdE (some (.bool false)) true p q = q := propext Iff.rfl
@[simp] theorem grdE_t' (p q : Prop) : GrdE (some (.bool true)) false p q = q := propext Iff.rfl
@[simp] theorem grdE_f' (p q : Prop) : GrdE (some (.bool false)) false p q = p := propext Iff.rfl
@[simp] theorem grdE_tup (l : List AV) (b : Bool) (p q : Prop) : GrdE (some (.tup l)) b p q = q := propext Iff.rfl
@[simp] theorem opB_some {α : Type} (x : α) (k : α → Prop) : OpB (some x) k = k x := propext Iff.rfl
@[simp] theorem opB_none {α : Type} (k : α → Prop) : OpB none k = False := propext Iff.rfl
@[simp] theorem retQ_ret (res : List (Fr → Hp → Option AV)) (R : AV → Hp → Nat → Prop) : RetQ res R .ret F H n m = OpB (unmark m H) fun H' => OpB (evR F H' res) fun vs => R (retV vs) H' n := by
  unfold RetQ OpB; dsimp only; split <;> first | (split <;> simp_all) | simp_all
@[simp] theorem retQ_normal (res : List (Fr → Hp → Option AV)) (R : AV → Hp → Nat → Prop) : RetQ res R .normal F H n m = OpB (unmark m H) fun H' => OpB (evR F H' res) fun vs => R (retV vs) H' n := by
  unfold RetQ OpB; dsimp only; split <;> first | (split <;> simp_all) | simp_all

theorem ev_out {r : Res} : Ev r Q ↔ ∃ o F H n m, r = .mk o F H n m ∧ Q o F H n m := by
  cases r with
  | fail => simp [Ev]
  | mk o F H n m => exact ⟨fun h => ⟨_, _, _, _, _, rfl, h⟩, fun ⟨_, _, _, _, _, e, h⟩ => by cases e; exact h⟩
theorem evC_out {r : CRes} {R : AV → Hp → Nat → Prop} : EvC r R ↔ ∃ v H n, r = .mk v H n ∧ R v H n := by
  cases r with
  | fail => simp [EvC]
  | mk v H n => exact ⟨fun h => ⟨_, _, _, rfl, h⟩, fun ⟨_, _, _, e, h⟩ => by cases e; exact h⟩

/-! ### code -/
@[simp] theorem ev_end : Ev (endK.f ce F H n m) Q = Q .normal F H n m := propext Iff.rfl
@[simp] theorem ev_seq (a b : K) : Ev ((seqK a b).f ce F H n m) Q = Ev (a.f ce F H n m) (SeqQ b ce Q) := by
  simp only [seqK]
  cases h : a.f ce F H n m with
  | fail => simp [Ev]
  | mk o F' H' n' m' => cases o <;> rfl
@[simp] theorem condO_true (a b : K) : CondO (some (.bool true)) a b ce F H n m Q = Ev (a.f ce F H n m) Q := propext Iff.rfl
@[simp] theorem condO_false (a b : K) : CondO (some (.bool false)) a b ce F H n m Q = Ev (b.f ce F H n m) Q := propext Iff.rfl
@[simp] theorem ev_cond (g : G) (a b : K) : Ev ((condK g a b).f ce F H n m) Q = CondO (g.f F) a b ce F H n m Q := by
  simp only [condK, CondO]
  cases g.f F with
  | none => rfl
  | some v => cases v with
    | bool b => cases b <;> rfl
    | _ => rfl
@[simp] theorem ev_block (i : Nat) (b : K) : Ev ((blockK i b).f ce F H n m) Q = Ev (b.f ce F H n m) (BlkQ i Q) := by
  simp only [blockK]
  cases h : b.f ce F H n m with
  | fail => simp [Ev]
  | mk o F' H' n' m' =>
    cases o with
    | normal => rfl
    | ret => rfl
    | exit j =>
      dsimp only
      cases hij : Nat.beq i j with
      | true => have := Nat.eq_of_beq_eq_true hij; subst this; simp
      | false =>
        have : ¬ i = j := fun e => by rw [e] at hij; simp at hij
        simp [this]
@[simp] theorem ev_exit (i : Nat) : Ev ((exitK i).f ce F H n m) Q = Q (.exit i) F H n m := propext Iff.rfl
@[simp] theorem ev_ret : Ev (retK.f ce F H n m) Q = Q .ret F H n m := propext Iff.rfl
theorem ev_loopN {b : K} (I : Nat → Fr → Hp → Nat → List Nat → Prop)
    (hstep : ∀ k F H n m, I k F H n m → Ev (b.f ce F H n m) (fun o F' H' n' m' => match o with
      | .normal => ∃ k', k' < k ∧ I k' F' H' n' m'
      | .exit i => Q (.exit i) F' H' n' m'
      | .ret => Q .ret F' H' n' m')) : ∀ (j k : Nat) (F : Fr) (H : Hp) (n : Nat) (m : List Nat), k < j → I k F H n m → Ev (loopN b ce j F H n m) Q
  | 0, k, _, _, _, _, h, _ => by omega
  | j + 1, k, F, H, n, m, h, hI => by
    have := hstep k F H n m hI
    show Ev (match b.f ce F H n m with
      | .mk .normal F' H' n' m' => loopN b ce j F' H' n' m'
      | r => r) Q
    cases hb : b.f ce F H n m with
    | fail => rw [hb] at this; exact this
    | mk o F' H' n' m' =>
      rw [hb] at this
      cases o with
      | normal => obtain ⟨k', hk, hI'⟩ := this; exact ev_loopN I hstep j k' F' H' n' m' (by omega) hI'
      | exit i => exact this
      | ret => exact this
/-- what a round must come to -/
def RndQ (I : Nat → Fr → Hp → Nat → List Nat → Prop) (k : Nat) (Q : QA) : QA := fun o F' H' n' m' => match o with
  | .normal => ∃ k', k' < k ∧ I k' F' H' n' m'
  | .exit i => Q (.exit i) F' H' n' m'
  | .ret => Q .ret F' H' n' m'
@[simp] theorem rndQ_normal (I : Nat → Fr → Hp → Nat → List Nat → Prop) (k : Nat) : RndQ I k Q .normal F H n m = ∃ k', k' < k ∧ I k' F H n m := propext Iff.rfl
@[simp] theorem rndQ_exit (I : Nat → Fr → Hp → Nat → List Nat → Prop) (k i : Nat) : RndQ I k Q (.exit i) F H n m = Q (.exit i) F H n m := propext Iff.rfl
@[simp] theorem rndQ_ret (I : Nat → Fr → Hp → Nat → List Nat → Prop) (k : Nat) : RndQ I k Q .ret F H n m = Q .ret F H n m := propext Iff.rfl
theorem ev_loop {b : K} (I : Nat → Fr → Hp → Nat → List Nat → Prop) (k : Nat) (hk : k < big) (h0 : I k F H n m) (hstep : ∀ k F H n m, I k F H n m → Ev (b.f ce F H n m) (RndQ I k Q)) : Ev ((loopK b).f ce F H n m) Q :=
  ev_loopN I hstep big k F H n m hk h0

/-! ### operations -/
noncomputable def pdT (d : Nat) : Pd := ⟨fun v F => (Tr.putK (Nat.succ d) d).f (some v) F⟩
def pdN : Pd := ⟨fun _ F => F⟩
/-- a frame with a slot written -/
noncomputable def Fp (d : Nat) (v : AV) (F : Fr) : Fr := (Tr.putK (Nat.succ d) d).f (some v) F
@[simp] theorem pdT_f (d : Nat) (v : AV) : (pdT d).f v F = Fp d v F := Eq.trans rfl rfl
@[simp] theorem Fp_get (d t : Nat) (v : AV) : (Fp d v F).get t = if t = d then some v else F.get t := Tr.get_putK _ _ _ _ _ (Nat.lt_succ_self d)
@[simp] theorem pdN_f (v : AV) : pdN.f v F = F := Eq.trans rfl rfl
@[simp] theorem slotG_f (t : Nat) : (slotG t).f F = F.get t := slotG_eq t F
@[simp] theorem constG_f (v : AV) : (constG v).f F = some v := Eq.trans rfl rfl
theorem get_put_lit {α : Type} (t : Tr α) (a b : Nat) (v : Option α) : (t.put a v).get b = if b = a then v else t.get b := Tr.get_put t a b v

theorem ev_op (pd : Pd) (e : Eff) (next : K) : Ev ((opK pd e next).f ce F H n m) Q = EvE (e F H n) H n (fun v H' n' => Ev (next.f ce (pd.f v F) H' n' m) Q) := by
  simp only [opK]
  cases e F H n <;> rfl
/-- a guarded operation -/
noncomputable def gopK (g : G) (want : Bool) (pd : Pd) (e : Eff) (next : K) : K := guardK g want (opK pd e next) (nopK pd next)
theorem ev_gop (g : G) (want : Bool) (pd : Pd) (e : Eff) (next : K) : Ev ((gopK g want pd e next).f ce F H n m) Q = GrdE (g.f F) want (EvE (e F H n) H n (fun v H' n' => Ev (next.f ce (pd.f v F) H' n' m) Q)) (Ev (next.f ce (pd.f (.tup []) F) H n m) Q) := by
  simp only [gopK, guardK]
  unfold GrdE
  cases g.f F with
  | none => rfl
  | some v =>
    cases v with
    | bool b =>
      dsimp only
      cases hb : b == want
      · rfl
      · exact ev_op pd e next
    | _ => rfl
/-- a call of a function by its name -/
noncomputable def calK (pd : Pd) (f : FuncId) (as : List G) (next : K) : K := callK pd (constG (.fn (.func f) [] [])) as next
theorem ev_cal (pd : Pd) (f : FuncId) (as : List G) (next : K) : Ev ((calK pd f as next).f ce F H n m) Q = OpB (evs F as) fun vs => EvC (ce.call f vs H n) (fun v H' n' => Ev (next.f ce (pd.f v F) H' n' m) Q) := by
  simp only [calK, callK, constG_f]
  cases evs F as with
  | none => rfl
  | some vs =>
    simp only [List.nil_append, List.append_nil, opB_some]
    cases ce.call f vs H n <;> rfl
noncomputable def gcalK (g : G) (want : Bool) (pd : Pd) (f : FuncId) (as : List G) (next : K) : K := guardK g want (calK pd f as next) (nopK pd next)
theorem ev_gcal (g : G) (want : Bool) (pd : Pd) (f : FuncId) (as : List G) (next : K) : Ev ((gcalK g want pd f as next).f ce F H n m) Q = GrdE (g.f F) want (OpB (evs F as) fun vs => EvC (ce.call f vs H n) (fun v H' n' => Ev (next.f ce (pd.f v F) H' n' m) Q)) (Ev (next.f ce (pd.f (.tup []) F) H n m) Q) := by
  simp only [gcalK, guardK]
  unfold GrdE
  cases g.f F with
  | none => rfl
  | some v =>
    cases v with
    | bool b =>
      dsimp only
      cases hb : b == want
      · rfl
      · exact ev_cal pd f as next
    | _ => rfl
/-- a call of a function value -/
theorem ev_calV {pd : Pd} {g : G} {as : List G} {next : K} {f : FuncId} {first cap vs : List AV} (hg : g.f F = some (.fn (.func f) first cap)) (ha : evs F as = some vs) :
    Ev ((callK pd g as next).f ce F H n m) Q = EvC (ce.call f (first ++ (vs ++ cap)) H n) (fun v H' n' => Ev (next.f ce (pd.f v F) H' n' m) Q) := by
  simp only [callK, hg, ha]
  cases ce.call f (first ++ (vs ++ cap)) H n <;> rfl

/-! ### regions that draw -/
noncomputable def drwK (ds : List Nat) (k : KR) : K := .mk <| fun ce F H n m => k.f ce (clearF ds F) H [H] n m
@[simp] theorem ev_drw (ds : List Nat) (k : KR) : Ev ((drwK ds k).f ce F H n m) Q = Ev (k.f ce (clearF ds F) H [H] n m) Q := propext Iff.rfl
variable {Hs : List Hp}
@[simp] theorem ev_endR : Ev (endR.f ce F H Hs n m) Q = Q .normal F H n m := propext Iff.rfl
def EvM (r : ERes) (H : Hp) (n : Nat) (k : AV → Hp → Nat → Prop) : Prop := EvE r H n k
/-- an operation that may come earlier: its value, at each of these heaps the same -/
def EvR (e : Eff) (F : Fr) (H : Hp) (Hs : List Hp) (n cnt : Nat) (k : AV → Hp → Nat → Prop) : Prop := match e F .nil n with
  | .val v => k v H n
  | .new v b => if noneAt n Hs = true then k v (H.put n (some b)) (n + 1) else False
  | .fail => OpB (allVal e F n cnt Hs) fun v => k v H n
  | _ => False
theorem ev_opR (rs : RS) (pd : Pd) (e : Eff) (cnt : Nat) (next : KR) : Ev ((opR rs pd e cnt next).f ce F H Hs n m) Q = EvR e (rs.f F) H Hs n cnt (fun v H' n' => Ev (next.f ce (pd.f v F) H' Hs n' m) Q) := by
  simp only [opR]
  unfold EvR
  cases e (rs.f F) .nil n with
  | val v => rfl
  | new v k => dsimp only; split <;> simp_all [Ev]
  | fail => dsimp only; unfold OpB; split <;> simp_all [Ev]
  | upd => rfl
  | mv => rfl
theorem ev_modR (rs : RS) (pd : Pd) (e : Eff) (next : KR) : Ev ((modR rs pd e next).f ce F H Hs n m) Q = EvE (e (rs.f F) H n) H n (fun v H' n' => Ev (next.f ce (pd.f v F) H' (H' :: Hs) n' m) Q) := by
  simp only [modR]
  cases e (rs.f F) H n <;> rfl
noncomputable def calR (rs : RS) (pd : Pd) (f : FuncId) (as : List G) (next : KR) : KR := callR rs pd (constG (.fn (.func f) [] [])) as next
theorem ev_calR (rs : RS) (pd : Pd) (f : FuncId) (as : List G) (next : KR) : Ev ((calR rs pd f as next).f ce F H Hs n m) Q = OpB (evs (rs.f F) as) fun vs => EvC (ce.call f vs H n) (fun v H' n' => Ev (next.f ce (pd.f v F) H' (H' :: Hs) n' m) Q) := by
  simp only [calR, callR, constG_f]
  cases evs (rs.f F) as with
  | none => rfl
  | some vs =>
    simp only [List.nil_append, List.append_nil, opB_some]
    cases ce.call f vs H n <;> rfl
@[simp] theorem rs_get (l : List Nat) (F : Fr) (t : Nat) : ((rsOf l).f F).get t = if t ∈ l then F.get t else none := by
  induction l with
  | nil => rfl
  | cons a r ih =>
    simp only [rsOf, rsCons, slotG_f]
    rw [Tr.get_putK _ _ _ _ _ (Nat.lt_succ_self a), ih]
    by_cases h : t = a
    · subst h; simp
    · simp [h]
end
end Go.Abs
