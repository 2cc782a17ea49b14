/- Values that name no block; functions that only read, by contract; what a function makes, shut behind it. -/
import Derived.Test.YtfjkegbmlagleaaGreatAbsF
namespace Go.Abs

/-! ### pure values -/
mutual
/-- a value that names no block -/
def Pure : AV → Prop
  | .int _ _ => True
  | .bool _ => True
  | .str _ => True
  | .cst _ => True
  | .agg cs _ => PureL cs
  | .tup cs => PureL cs
  | .ds cs _ _ => PureL cs
  | .dp cs => PureL cs
  | .fn _ a b => PureL a ∧ PureL b
  | .ifc _ v => Pure v
  | .ptr _ _ => False
  | .sl _ _ _ _ => False
  | .map _ => False
  | .yld _ => False
def PureL : List AV → Prop
  | [] => True
  | v :: r => Pure v ∧ PureL r
end
mutual
theorem Pure.out {φ φ' : Ph} {D : Da} : ∀ {v : AV} {x : Value}, Pure v → VR φ D v x → VR φ' D v x
  | .int _ _, _, _, .int _ _ => .int _ _
  | .bool _, _, _, .bool _ => .bool _
  | .str _, _, _, .str _ _ e => .str _ _ e
  | .cst _, _, _, .cst _ e => .cst _ e
  | .agg _ _, _, h, .agg _ _ _ a b => .agg _ _ _ (PureL.vrs (by simpa only [Pure] using h) a) b
  | .tup _, _, h, .tup _ _ a => .tup _ _ (PureL.vrs (by simpa only [Pure] using h) a)
  | .ds _ _ _, _, h, .ds _ _ _ _ _ _ _ _ a b c d e => .ds _ _ _ _ _ _ _ _ a b c (PureL.vrs (by simpa only [Pure] using h) d) e
  | .ds _ _ _, _, _, .ds0 _ _ _ => .ds0 _ _ _
  | .ds _ _ _, _, _, .dsn _ => .dsn _
  | .dp _, _, h, .dp _ _ _ _ _ a b c => .dp _ _ _ _ _ a b (PureL.vrs (by simpa only [Pure] using h) c)
  | .fn _ _ _, _, h, .fn _ _ _ _ _ a b => .fn _ _ _ _ _ (PureL.vrs (by simp only [Pure] at h; exact h.1) a) (PureL.vrs (by simp only [Pure] at h; exact h.2) b)
  | .ifc _ _, _, h, .ifc _ _ _ a => .ifc _ _ _ (Pure.out (by simpa only [Pure] using h) a)
theorem PureL.vrs {φ φ' : Ph} {D : Da} : ∀ {vs : List AV} {xs : List Value}, PureL vs → VRs φ D vs xs → VRs φ' D vs xs
  | [], _, _, .nil => .nil
  | _ :: _, _, h, .cons _ _ _ _ h1 h2 => .cons _ _ _ _ (Pure.out (by simp only [PureL] at h; exact h.1) h1) (PureL.vrs (by simp only [PureL] at h; exact h.2) h2)
end
@[simp] theorem pure_int (k : IntKind) (i : Int) : Pure (.int k i) := by simp only [Pure]
@[simp] theorem pure_bool (b : Bool) : Pure (.bool b) := by simp only [Pure]
@[simp] theorem pure_str (l : List Nat) : Pure (.str l) := by simp only [Pure]
@[simp] theorem pure_cst (v : Value) : Pure (.cst v) := by simp only [Pure]
@[simp] theorem pure_ds (cs : List AV) (len sz : Nat) : Pure (.ds cs len sz) = PureL cs := by simp only [Pure]
@[simp] theorem pure_dp (cs : List AV) : Pure (.dp cs) = PureL cs := by simp only [Pure]
@[simp] theorem pure_agg (cs : List AV) (n : Nat) : Pure (.agg cs n) = PureL cs := by simp only [Pure]
@[simp] theorem pure_tup (cs : List AV) : Pure (.tup cs) = PureL cs := by simp only [Pure]
@[simp] theorem pure_fn (f : Fn) (a b : List AV) : Pure (.fn f a b) = (PureL a ∧ PureL b) := by simp only [Pure]
@[simp] theorem pureL_nil : PureL [] := by simp only [PureL]
@[simp] theorem pureL_cons (v : AV) (r : List AV) : PureL (v :: r) = (Pure v ∧ PureL r) := by simp only [PureL]
@[simp] theorem pureL_append (a b : List AV) : PureL (a ++ b) = (PureL a ∧ PureL b) := by
  induction a with
  | nil => simp
  | cons v r ih => simp [ih, and_assoc]
theorem PureL.mem {a : List AV} (h : PureL a) : ∀ v ∈ a, Pure v := by
  induction a with
  | nil => intro v hv; simp at hv
  | cons u r ih =>
    simp only [pureL_cons] at h
    intro v hv
    cases hv with
    | head => exact h.1
    | tail _ hm => exact ih h.2 v hm
theorem PureL.of_mem {a : List AV} (h : ∀ v ∈ a, Pure v) : PureL a := by
  induction a with
  | nil => simp
  | cons v r ih => simp only [pureL_cons]; exact ⟨h v (by simp), ih fun u hu => h u (by simp [hu])⟩
/-! ### what a call says -/
section
variable {P : Program}
def CallOk (P : Program) (g : FuncId) (args : List AV) (H : Hp) (n : Nat) (v : AV) (H' : Hp) (n' : Nat) : Prop :=
  (∃ fn b, P.funcs[g]? = some fn ∧ fn.body = some b ∧ (fn.name == "runtime.NumGoroutine") = false) ∧ n ≤ n' ∧
    ∀ φ D w xs, Rel φ D H.get w → VRs φ D args xs → Fresh φ n n' → ∀ R : Ending → World → Prop,
      (∀ φ' D' w' x, Ext φ D H.get w n φ' D' H'.get w' n' → Rel φ' D' H'.get w' → VR φ' D' v x → R (.returned x) w') → CallsIn Fence.wide 0 P g ⟨xs⟩ w R
/-- a call by a function's own code, over an environment of calls -/
noncomputable def fnCall (P : Program) (ce : Ce) (g : FuncId) (args : List AV) (H : Hp) (n : Nat) : CRes := match compF P g with
  | some af => match Nat.ble (lenAcc args 0) af.nt with
    | true => leaveK af.res (af.code.f ce (Tr.putAll args 0 .nil) H n [])
    | false => .fail
  | none => .fail

theorem fnCall_ok {ce : Ce} (hce : CeOk P ce) {g : FuncId} {args : List AV} {H : Hp} {n : Nat} {v : AV} {H' : Hp} {n' : Nat} (h : fnCall P ce g args H n = .mk v H' n') : CallOk P g args H n v H' n' := by
  unfold fnCall at h
  split at h
  · rename_i af haf
    split at h
    · rename_i hle
      have hle := Nat.le_of_ble_eq_true hle
      unfold compF at haf
      split at haf
      · rename_i fn hfn
        split at haf
        · rename_i b hb
          split at haf
          · cases haf
          · rename_i hname
            split at haf
            · rename_i gs hgs
              injection haf with haf; subst haf
              dsimp only at h hle
              have hc := comp_sound (P := P) (nt := fn.ntmps) (r := none) hce b
              have go : ∀ (ou : AOut) (F1 : Fr) (H1 : Hp) (n1 : Nat) (m1 : List Nat), (ou = .normal ∨ ou = .ret) → (comp P fn.ntmps false b).f ce (Tr.putAll args 0 .nil) H n [] = .mk ou F1 H1 n1 m1 →
                  leaveK.leave2 gs F1 H1 n1 m1 = .mk v H' n' → n ≤ n' ∧ ∀ φ D w xs, Rel φ D H.get w → VRs φ D args xs → Fresh φ n n' → ∀ R : Ending → World → Prop,
                    (∀ φ' D' w' x, Ext φ D H.get w n φ' D' H'.get w' n' → Rel φ' D' H'.get w' → VR φ' D' v x → R (.returned x) w') → CallsIn Fence.wide 0 P g ⟨xs⟩ w R := by
                intro ou F1 H1 n1 m1 hou hrun hl
                unfold leaveK.leave2 at hl
                split at hl
                · rename_i H2 hum
                  split at hl
                  · rename_i vs hev
                    cases hl
                    obtain ⟨hn, hs⟩ := hc _ _ _ _ _ _ _ _ _ hrun
                    refine ⟨hn, fun φ D w xs hrel hvs hf R hR => ?_⟩
                    refine callsIn_of_wp_marks hfn hb trivial ?_
                    have hsz : ((⟨xs⟩ : Array Value) ++ Array.replicate (fn.ntmps - (⟨xs⟩ : Array Value).size) undef).size = fn.ntmps := by
                      have := hvs.length
                      rw [lenAcc_zero] at hle
                      simp
                      omega
                    refine hs φ D { tmps := (⟨xs⟩ : Array Value) ++ Array.replicate (fn.ntmps - (⟨xs⟩ : Array Value).size) undef, defers := [] } w ⟨hrel, frame_ok hvs _, hsz, rfl⟩ hf _ fun φ1 D1 a1 w1 hext st1 => ?_
                    have := leaves_ok (P := P) (fn := fn) (vs := vs) hgs hev m1 H1 a1.defers a1.tmps φ1 D1 w1 _ R hum st1.rel st1.fr st1.mar fun φ2 D2 w2 x h1 h2 h3 => hR φ2 D2 w2 x (hext.trans h1) h2 h3
                    rcases hou with rfl | rfl
                    · exact this
                    · exact this
                  · cases hl
                · cases hl
              refine ⟨⟨fn, b, hfn, hb, by simpa using hname⟩, ?_⟩
              cases hres : (comp P fn.ntmps false b).f ce (Tr.putAll args 0 .nil) H n [] with
              | fail => rw [hres] at h; cases h
              | mk ou F1 H1 n1 m1 =>
                rw [hres] at h
                cases ou with
                | normal => exact go _ _ _ _ _ (.inl rfl) hres h
                | ret => exact go _ _ _ _ _ (.inr rfl) hres h
                | exit i => cases h
            · cases haf
        · cases haf
      · cases haf
    · cases h
  · cases h

/-! ### functions that only read -/
def PhN : Ph := fun _ => none
def HfN : Hf := fun _ => none
def Dat (D : Da) (w : World) : Prop := ∀ c x, D c = some x → ∃ e fr, w.heap[c]? = some (.cells x e fr)
structure Kept (D D' : Da) (w w' : World) : Prop where
  dat : ∀ c x, D c = some x → D' c = some x
  size : w.heap.size ≤ w'.heap.size
  keep : ∀ c, c < w.heap.size → w'.heap[c]? = w.heap[c]?
  dnew : ∀ c, D' c ≠ none → D c ≠ none ∨ w.heap.size ≤ c
  os : w'.os = w.os
  out : w'.output = w.output
/-- A FUNCTION THAT ONLY READS: of these values it makes that one. -/
structure FnPure (P : Program) (g : FuncId) (args : List AV) (v : AV) : Prop where
  body : ∃ fn b, P.funcs[g]? = some fn ∧ fn.body = some b ∧ (fn.name == "runtime.NumGoroutine") = false
  pargs : PureL args
  pval : Pure v
  run : ∀ D w xs, Dat D w → VRs PhN D args xs → ∀ R : Ending → World → Prop, (∀ D' w' x, Kept D D' w w' → Dat D' w' → VR PhN D' v x → R (.returned x) w') → CallsIn Fence.wide 0 P g ⟨xs⟩ w R

theorem FnPure.callOk {g : FuncId} {args : List AV} {v : AV} (h : FnPure P g args v) (H : Hp) (n : Nat) : CallOk P g args H n v H n := by
  refine ⟨h.body, Nat.le_refl _, fun φ D w xs hr hv _ R hR => ?_⟩
  refine h.run D w xs hr.dat (h.pargs.vrs hv) R fun D' w' x hk hd hx => ?_
  refine hR φ D' w' x ⟨Nat.le_refl _, fun _ _ h => h, fun _ a b => absurd a b, hk.dat, hk.size, fun c hc _ => hk.keep c hc, fun b p hb hp => .inr ⟨b, p, hb, hp, rfl⟩, fun c hc => (hk.dnew c hc).elim .inl fun h => .inr (.inl h), fun _ h => .inl h, hk.os, hk.out⟩ ?_ (h.pval.out hx)
  refine ⟨fun b k hb => ?_, hr.inj, fun b p hb hp => ?_, hd⟩
  · obtain ⟨p, hp, hl, hk'⟩ := hr.blk b k hb
    exact ⟨p, hp, Nat.lt_of_lt_of_le hl hk.size, hk'.mono (fun _ _ h => h) hk.dat (hk.keep _ hl)⟩
  · cases hD : D' p.1 with
    | none => rfl
    | some x =>
      rcases hk.dnew p.1 (by rw [hD]; simp) with h1 | h1
      · exact absurd (hr.sep b p hb hp) h1
      · cases hx : H.get b with
        | none => exact absurd hx hb
        | some k => have := (hr.block hx hp).1; omega

/-! ### what was made is shut -/
mutual
inductive Frz (h : Hf) : AV → AV → Prop
  | pure (v) : Pure v → Frz h v v
  | nil (sz) : Frz h (.cst (.slice none 0 0)) (.ds [] 0 sz)
  | sl (b o len sz u z bs t cs cs') : h b = some (.cells u z bs t) → grab u z bs t o (len * sz) = some cs → FrzL h cs cs' → Frz h (.sl b o len sz) (.ds cs' len sz)
  | agg (cs cs' n) : FrzL h cs cs' → Frz h (.agg cs n) (.agg cs' n)
  | tup (cs cs') : FrzL h cs cs' → Frz h (.tup cs) (.tup cs')
inductive FrzL (h : Hf) : List AV → List AV → Prop
  | nil : FrzL h [] []
  | cons (v v' vs vs') : Frz h v v' → FrzL h vs vs' → FrzL h (v :: vs) (v' :: vs')
end
theorem FrzL.length {h : Hf} : ∀ {vs vs'}, FrzL h vs vs' → vs'.length = vs.length
  | _, _, .nil => rfl
  | _, _, .cons _ _ _ _ _ k => by simp [FrzL.length k]
mutual
theorem Frz.isPure {h : Hf} : ∀ {v v'}, Frz h v v' → Pure v'
  | _, _, .pure _ k => k
  | _, _, .nil _ => by simp
  | _, _, .sl _ _ _ _ _ _ _ _ _ _ _ _ k => by simpa using FrzL.isPure k
  | _, _, .agg _ _ _ k => by simpa using FrzL.isPure k
  | _, _, .tup _ _ k => by simpa using FrzL.isPure k
theorem FrzL.isPure {h : Hf} : ∀ {v v'}, FrzL h v v' → PureL v'
  | _, _, .nil => pureL_nil
  | _, _, .cons _ _ _ _ a b => by simpa using ⟨Frz.isPure a, FrzL.isPure b⟩
end
open Classical in
/-- the blocks that live, shut -/
noncomputable def shut (φ : Ph) (D : Da) (h : Hf) (w : World) : Da := fun c => match D c with
  | some x => some x
  | none => if ∃ b p, h b ≠ none ∧ φ b = some p ∧ p.1 = c then (match w.heap[c]? with
    | some (.cells x _ _) => some x
    | _ => none) else none
theorem shut_le {φ : Ph} {D : Da} {h : Hf} {w : World} : ∀ c x, D c = some x → shut φ D h w c = some x := by
  intro c x hx; unfold shut; rw [hx]
theorem shut_dat {φ : Ph} {D : Da} {h : Hf} {w : World} (hd : Dat D w) : Dat (shut φ D h w) w := by
  intro c x hx
  unfold shut at hx
  split at hx
  · rename_i y hy; injection hx with hx; subst hx; exact hd c _ hy
  · split at hx
    · split at hx
      · rename_i y e fr hy; injection hx with hx; subst hx; exact ⟨e, fr, hy⟩
      · cases hx
    · cases hx
theorem shut_live {φ : Ph} {D : Da} {h : Hf} {w : World} (hr : Rel φ D h w) {b : Nat} {p} {x : Array Value} {e fr} (hb : h b ≠ none) (hp : φ b = some p) (hx : w.heap[p.1]? = some (.cells x e fr)) : shut φ D h w p.1 = some x := by
  unfold shut
  rw [hr.sep b p hb hp]
  dsimp only
  rw [if_pos ⟨b, p, hb, hp, rfl⟩, hx]
mutual
theorem Frz.vr {φ : Ph} {D : Da} {h : Hf} {w : World} (hr : Rel φ D h w) : ∀ {v v' x}, Frz h v v' → VR φ D v x → VR PhN (shut φ D h w) v' x
  | _, _, _, .pure v k, hx => k.out (hx.mono (fun _ _ h => h) shut_le)
  | _, _, _, .nil sz, hx => by cases hx; exact .dsn _
  | _, _, _, .sl b o len sz u z bs t cs cs' hb hg k, hx => by
    cases hx with
    | sl _ _ _ _ cb co cz cap ad hp hle had =>
    obtain ⟨hlt, c, e, fr, q1, q2, q3, q4, q5, q6⟩ := hr.block hb hp
    obtain ⟨g1, g2⟩ := grab_spec q5 hg
    by_cases hc : 0 < cap
    · obtain ⟨rfl, hfit⟩ := had hc
      refine .ds _ _ _ _ _ _ _ _ (shut_live hr (by rw [hb]; simp) hp q1) rfl (by rw [FrzL.length k, g1]) ?_ hle
      refine FrzL.vrs hr k (VRs.of_get ?_ fun i v hv => ?_)
      · dsimp only at q1 q2 q3 q4 q5 q6
        have hm : len * sz ≤ cap * sz := Nat.mul_le_mul_right _ hle
        rw [List.length_take, List.length_drop, g1, Array.length_toList]; omega
      · have hi : i < len * sz := by rw [← g1]; exact (List.getElem?_eq_some_iff.1 hv).1
        have := g2 i hi
        rw [hv] at this
        obtain ⟨x, hx, hvx⟩ := q4 _ _ this
        dsimp only at hx
        refine ⟨x, ?_, hvx⟩
        rw [List.getElem?_take, if_pos hi, List.getElem?_drop]
        rw [show co + o + i = co + (o + i) from by omega]
        simpa using hx
    · have hc0 : cap = 0 := by omega
      have hl0 : len = 0 := by omega
      subst hc0 hl0
      have : cs' = [] := by
        have := FrzL.length k
        simp at g1
        subst g1
        simpa using this
      subst this
      exact .ds0 _ _ _
  | _, _, _, .agg cs cs' n k, hx => by
    cases hx with
    | agg _ l _ a b => exact .agg _ _ _ (FrzL.vrs hr k a) (by rw [FrzL.length k, b])
  | _, _, _, .tup cs cs' k, hx => by
    cases hx with
    | tup _ l a => exact .tup _ _ (FrzL.vrs hr k a)
theorem FrzL.vrs {φ : Ph} {D : Da} {h : Hf} {w : World} (hr : Rel φ D h w) : ∀ {vs vs' xs}, FrzL h vs vs' → VRs φ D vs xs → VRs PhN (shut φ D h w) vs' xs
  | _, _, _, .nil, .nil => .nil
  | _, _, _, .cons _ _ _ _ a b, .cons _ _ _ _ c d => .cons _ _ _ _ (Frz.vr hr a c) (FrzL.vrs hr b d)
end

theorem rel_none {D : Da} {w : World} (hd : Dat D w) : Rel PhN D (Tr.nil : Hp).get w :=
  ⟨fun b k hb => by simp at hb, fun b c p q hb => by simp at hb, fun b p hb => by simp at hb, hd⟩

/-- A FUNCTION THAT ONLY READS, by its run in an empty heap. -/
theorem FnPure.of {ce : Ce} (hce : CeOk P ce) {g : FuncId} {args : List AV} {v : AV} (hp : PureL args) (h : ∃ v1 H' n', fnCall P ce g args .nil 0 = .mk v1 H' n' ∧ Frz H'.get v1 v) : FnPure P g args v := by
  obtain ⟨v1, H', n', h1, h2⟩ := h
  obtain ⟨hb, hn, hs⟩ := fnCall_ok hce h1
  refine ⟨hb, hp, h2.isPure, fun D w xs hd hv R hR => ?_⟩
  refine hs PhN D w xs (rel_none hd) hv (fun _ _ _ => rfl) R fun φ' D' w' x hext hrel hx => ?_
  refine hR (shut φ' D' H'.get w') w' x ⟨fun c x hx => shut_le c x (hext.dat c x hx), hext.size, fun c hc => hext.keep c hc fun b p hb => by simp at hb, fun c hc => ?_, hext.os, hext.out⟩ (shut_dat hrel.dat) (h2.vr hrel hx)
  unfold shut at hc
  split at hc
  · rename_i y hy
    rcases hext.dnew c (by rw [hy]; simp) with h | h | ⟨b0, p0, hh, _⟩
    · exact .inl h
    · exact .inr h
    · simp at hh
  · split at hc
    · rename_i hex
      obtain ⟨b, p, hb, hp, rfl⟩ := hex
      rcases hext.live b p hb hp with h | ⟨b0, p0, hh, _⟩
      · exact .inr h
      · simp at hh
    · exact absurd rfl hc

/-! ### environments of calls -/
def ceOf (f : FuncId → List AV → Hp → Nat → CRes) : Ce := { call := f, code := fun _ _ _ _ _ => .fail }
theorem ceOf_ok {f : FuncId → List AV → Hp → Nat → CRes} (h : ∀ g args H n v H' n', f g args H n = .mk v H' n' → CallOk P g args H n v H' n') : CeOk P (ceOf f) :=
  ⟨fun g args H n v H' n' e => h g args H n v H' n' e, fun _ _ _ _ _ _ _ _ _ _ e => by cases e⟩
/-- a family of calls that only read -/
structure Fam where
  {α : Type}
  dom : α → Prop
  enc : α → List AV
  val : α → AV
open Classical in
noncomputable def Fam.spec (f : Fam) (args : List AV) (H : Hp) (n : Nat) : CRes := if h : ∃ a, f.dom a ∧ f.enc a = args then .mk (f.val (Classical.choose h)) H n else .fail
theorem Fam.spec_eq {f : Fam} (inj : ∀ a b, f.enc a = f.enc b → f.val a = f.val b) (a : f.α) (ha : f.dom a) (H : Hp) (n : Nat) : f.spec (f.enc a) H n = .mk (f.val a) H n := by
  unfold Fam.spec
  have h : ∃ b, f.dom b ∧ f.enc b = f.enc a := ⟨a, ha, rfl⟩
  rw [dif_pos h, inj _ _ (Classical.choose_spec h).2]
theorem Fam.ok {f : Fam} {g : FuncId} (hf : ∀ a, f.dom a → FnPure P g (f.enc a) (f.val a)) {args H n v H' n'} (h : f.spec args H n = .mk v H' n') : CallOk P g args H n v H' n' := by
  unfold Fam.spec at h
  split at h
  · rename_i hx
    injection h with h1 h2 h3
    subst h1 h2 h3
    have := Classical.choose_spec hx
    have hh := (hf _ this.1).callOk H n
    rw [this.2] at hh
    exact hh
  · cases h
end
end Go.Abs
