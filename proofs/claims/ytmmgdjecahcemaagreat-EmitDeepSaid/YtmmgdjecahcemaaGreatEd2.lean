/- The walk over an expression: what it makes. -/
import Derived.Test.YtmmgdjecahcemaaGreatAbs5
import Derived.Test.YtmmgdjecahcemaaGreatAbs6
import Derived.Test.YtmmgdjecahcemaaGreatEd1
namespace Go.Abs
open Go.Proofs
set_option maxRecDepth 100000

/-! ### what was shut stays so -/
mutual
theorem Frz.mono {h h' : Hf} (hh : ∀ b k, h b = some k → h' b = some k) : ∀ {v v'}, Frz h v v' → Frz h' v v'
  | _, _, .pure _ k => .pure _ k
  | _, _, .nil _ => .nil _
  | _, _, .sl _ _ _ _ _ _ _ _ _ _ a b k => .sl _ _ _ _ _ _ _ _ _ _ (hh _ _ a) b (FrzL.mono hh k)
  | _, _, .ptr _ _ _ _ _ _ _ _ _ a b k => .ptr _ _ _ _ _ _ _ _ _ (hh _ _ a) b (FrzL.mono hh k)
  | _, _, .agg _ _ _ k => .agg _ _ _ (FrzL.mono hh k)
  | _, _, .tup _ _ k => .tup _ _ (FrzL.mono hh k)
theorem FrzL.mono {h h' : Hf} (hh : ∀ b k, h b = some k → h' b = some k) : ∀ {v v'}, FrzL h v v' → FrzL h' v v'
  | _, _, .nil => .nil
  | _, _, .cons _ _ _ _ a b => .cons _ _ _ _ (Frz.mono hh a) (FrzL.mono hh b)
end
theorem FrzL.append {h : Hf} : ∀ {a a' b b'}, FrzL h a a' → FrzL h b b' → FrzL h (a ++ b) (a' ++ b')
  | _, _, _, _, .nil, k => k
  | _, _, _, _, .cons _ _ _ _ x y, k => .cons _ _ _ _ x (FrzL.append y k)
theorem FrzL.one {h : Hf} : ∀ {a a'}, FrzL h a a' → allOne a' = true → allOne a = true
  | _, _, .nil, _ => by simp
  | _, _, .cons v v' vs vs' x y, k => by
    simp only [allOne_cons, Bool.and_eq_true] at k ⊢
    refine ⟨?_, FrzL.one y k.2⟩
    cases x with
    | pure _ _ => exact k.1
    | nil _ => rfl
    | sl => rfl
    | ptr => rfl
    | agg => exact k.1
    | tup => exact k.1
/-- nothing lies from here on -/
def Top (H : Hp) (n : Nat) : Prop := ∀ b, n ≤ b → H.get b = none
/-- what lay here lies here still -/
def Grow (H : Hp) (n : Nat) (H' : Hp) (n' : Nat) : Prop := n ≤ n' ∧ (∀ b, b < n → H'.get b = H.get b) ∧ Top H' n'
theorem Grow.mono {H H' : Hp} {n n' : Nat} (h : Grow H n H' n') (ht : Top H n) : ∀ b k, H.get b = some k → H'.get b = some k := by
  intro b k hb
  by_cases hlt : b < n
  · rw [h.2.1 b hlt, hb]
  · rw [ht b (by omega)] at hb; cases hb
theorem Grow.trans {H H1 H2 : Hp} {n n1 n2 : Nat} (h : Grow H n H1 n1) (k : Grow H1 n1 H2 n2) : Grow H n H2 n2 :=
  ⟨Nat.le_trans h.1 k.1, fun b hb => (k.2.1 b (Nat.lt_of_lt_of_le hb h.1)).trans (h.2.1 b hb), k.2.2⟩

/-- what lies from here on -/
noncomputable def above (n : Nat) (H : Hp) : Hf := fun b => if n ≤ b then H.get b else none
theorem above_le {n n' : Nat} {H H' : Hp} (h : ∀ b k, n ≤ b → H.get b = some k → n' ≤ b ∧ H'.get b = some k) : ∀ b k, above n H b = some k → above n' H' b = some k := by
  intro b k hb
  unfold above at hb ⊢
  split at hb
  · rename_i hle
    obtain ⟨h1, h2⟩ := h b k hle hb
    rw [if_pos h1, h2]
  · cases hb
theorem above_get {n : Nat} {H : Hp} : ∀ b k, above n H b = some k → H.get b = some k := by
  intro b k hb
  unfold above at hb
  split at hb
  · exact hb
  · cases hb
theorem Grow.refl {H : Hp} {n : Nat} (ht : Top H n) : Grow H n H n := ⟨Nat.le_refl _, fun _ _ => rfl, ht⟩
theorem Grow.new {H H' : Hp} {n n' : Nat} (h : Grow H n H' n') (k : ABlk) : Grow H n (H'.put n' (some k)) (n' + 1) :=
  ⟨by have := h.1; omega, fun b hb => by
    have : ¬ b = n' := by have := h.1; omega
    simp [this, h.2.1 b hb], fun b hb => by
    have : ¬ b = n' := by omega
    simp [this, h.2.2 b (by omega)]⟩
theorem Grow.upd {H H' : Hp} {n n' : Nat} (h : Grow H n H' n') {c : Nat} (k : Option ABlk) (hc : n ≤ c) (hc' : c < n') : Grow H n (H'.put c k) n' :=
  ⟨h.1, fun b hb => by
    have : ¬ b = c := by omega
    simp [this, h.2.1 b hb], fun b hb => by
    have : ¬ b = c := by omega
    simp [this, h.2.2 b hb]⟩
theorem Grow.le {H H' : Hp} {n n1 n' : Nat} (h : Grow H n H' n1) (hle : n1 ≤ n') : Grow H n H' n' := ⟨Nat.le_trans h.1 hle, h.2.1, fun b hb => h.2.2 b (Nat.le_trans hle hb)⟩

@[simp] theorem wr1 : IntKind.i64.wrap 1 = 1 := by simp [IntKind.wrap, IntKind.signed, IntKind.bits]
@[simp] theorem wr2 : IntKind.i64.wrap 2 = 2 := by simp [IntKind.wrap, IntKind.signed, IntKind.bits]
@[simp] theorem wr3 : IntKind.i64.wrap 3 = 3 := by simp [IntKind.wrap, IntKind.signed, IntKind.bits]

/-! ### numbers of blocks -/
@[simp] theorem nn2 (n : Nat) : (n = n + 1 + 1) = False := by simp only [eq_iff_iff, iff_false]; omega
@[simp] theorem nr2 (n : Nat) : (n + 1 + 1 = n) = False := by simp only [eq_iff_iff, iff_false]; omega
@[simp] theorem nn3 (n : Nat) : (n = n + 1 + 1 + 1) = False := by simp only [eq_iff_iff, iff_false]; omega
@[simp] theorem nr3 (n : Nat) : (n + 1 + 1 + 1 = n) = False := by simp only [eq_iff_iff, iff_false]; omega
@[simp] theorem nn4 (n : Nat) : (n = n + 1 + 1 + 1 + 1) = False := by simp only [eq_iff_iff, iff_false]; omega
@[simp] theorem nr4 (n : Nat) : (n + 1 + 1 + 1 + 1 = n) = False := by simp only [eq_iff_iff, iff_false]; omega
@[simp] theorem nn5 (n : Nat) : (n = n + 1 + 1 + 1 + 1 + 1) = False := by simp only [eq_iff_iff, iff_false]; omega
@[simp] theorem nr5 (n : Nat) : (n + 1 + 1 + 1 + 1 + 1 = n) = False := by simp only [eq_iff_iff, iff_false]; omega
@[simp] theorem nn6 (n : Nat) : (n = n + 1 + 1 + 1 + 1 + 1 + 1) = False := by simp only [eq_iff_iff, iff_false]; omega
@[simp] theorem nr6 (n : Nat) : (n + 1 + 1 + 1 + 1 + 1 + 1 = n) = False := by simp only [eq_iff_iff, iff_false]; omega
@[simp] theorem nn7 (n : Nat) : (n = n + 1 + 1 + 1 + 1 + 1 + 1 + 1) = False := by simp only [eq_iff_iff, iff_false]; omega
@[simp] theorem nr7 (n : Nat) : (n + 1 + 1 + 1 + 1 + 1 + 1 + 1 = n) = False := by simp only [eq_iff_iff, iff_false]; omega
@[simp] theorem nn8 (n : Nat) : (n = n + 1 + 1 + 1 + 1 + 1 + 1 + 1 + 1) = False := by simp only [eq_iff_iff, iff_false]; omega
@[simp] theorem nr8 (n : Nat) : (n + 1 + 1 + 1 + 1 + 1 + 1 + 1 + 1 = n) = False := by simp only [eq_iff_iff, iff_false]; omega
@[simp] theorem nn9 (n : Nat) : (n = n + 1 + 1 + 1 + 1 + 1 + 1 + 1 + 1 + 1) = False := by simp only [eq_iff_iff, iff_false]; omega
@[simp] theorem nr9 (n : Nat) : (n + 1 + 1 + 1 + 1 + 1 + 1 + 1 + 1 + 1 = n) = False := by simp only [eq_iff_iff, iff_false]; omega
@[simp] theorem nn10 (n : Nat) : (n = n + 1 + 1 + 1 + 1 + 1 + 1 + 1 + 1 + 1 + 1) = False := by simp only [eq_iff_iff, iff_false]; omega
@[simp] theorem nr10 (n : Nat) : (n + 1 + 1 + 1 + 1 + 1 + 1 + 1 + 1 + 1 + 1 = n) = False := by simp only [eq_iff_iff, iff_false]; omega
@[simp] theorem nn11 (n : Nat) : (n = n + 1 + 1 + 1 + 1 + 1 + 1 + 1 + 1 + 1 + 1 + 1) = False := by simp only [eq_iff_iff, iff_false]; omega
@[simp] theorem nr11 (n : Nat) : (n + 1 + 1 + 1 + 1 + 1 + 1 + 1 + 1 + 1 + 1 + 1 = n) = False := by simp only [eq_iff_iff, iff_false]; omega
@[simp] theorem nn12 (n : Nat) : (n = n + 1 + 1 + 1 + 1 + 1 + 1 + 1 + 1 + 1 + 1 + 1 + 1) = False := by simp only [eq_iff_iff, iff_false]; omega
@[simp] theorem nr12 (n : Nat) : (n + 1 + 1 + 1 + 1 + 1 + 1 + 1 + 1 + 1 + 1 + 1 + 1 = n) = False := by simp only [eq_iff_iff, iff_false]; omega
theorem neC {b n : Nat} (h : b < n) : (b = n) = False ∧ (b = n + 1) = False ∧ (b = n + 1 + 1) = False ∧ (b = n + 1 + 1 + 1) = False ∧ (b = n + 1 + 1 + 1 + 1) = False ∧ (b = n + 1 + 1 + 1 + 1 + 1) = False ∧ (b = n + 1 + 1 + 1 + 1 + 1 + 1) = False ∧ (b = n + 1 + 1 + 1 + 1 + 1 + 1 + 1) = False ∧ (b = n + 1 + 1 + 1 + 1 + 1 + 1 + 1 + 1) = False ∧ (b = n + 1 + 1 + 1 + 1 + 1 + 1 + 1 + 1 + 1) = False ∧ (b = n + 1 + 1 + 1 + 1 + 1 + 1 + 1 + 1 + 1 + 1) = False ∧ (b = n + 1 + 1 + 1 + 1 + 1 + 1 + 1 + 1 + 1 + 1 + 1) = False ∧ (b = n + 1 + 1 + 1 + 1 + 1 + 1 + 1 + 1 + 1 + 1 + 1 + 1) = False := by
  refine ⟨?_, ?_, ?_, ?_, ?_, ?_, ?_, ?_, ?_, ?_, ?_, ?_, ?_⟩ <;> (simp only [eq_iff_iff, iff_false]; omega)
theorem neD {b n : Nat} (h : b < n) : (n = b) = False ∧ (n + 1 = b) = False ∧ (n + 1 + 1 = b) = False ∧ (n + 1 + 1 + 1 = b) = False ∧ (n + 1 + 1 + 1 + 1 = b) = False ∧ (n + 1 + 1 + 1 + 1 + 1 = b) = False ∧ (n + 1 + 1 + 1 + 1 + 1 + 1 = b) = False ∧ (n + 1 + 1 + 1 + 1 + 1 + 1 + 1 = b) = False ∧ (n + 1 + 1 + 1 + 1 + 1 + 1 + 1 + 1 = b) = False ∧ (n + 1 + 1 + 1 + 1 + 1 + 1 + 1 + 1 + 1 = b) = False ∧ (n + 1 + 1 + 1 + 1 + 1 + 1 + 1 + 1 + 1 + 1 = b) = False ∧ (n + 1 + 1 + 1 + 1 + 1 + 1 + 1 + 1 + 1 + 1 + 1 = b) = False ∧ (n + 1 + 1 + 1 + 1 + 1 + 1 + 1 + 1 + 1 + 1 + 1 + 1 = b) = False := by
  refine ⟨?_, ?_, ?_, ?_, ?_, ?_, ?_, ?_, ?_, ?_, ?_, ?_, ?_⟩ <;> (simp only [eq_iff_iff, iff_false]; omega)
theorem Top.lt {H : Hp} {n b : Nat} {k : ABlk} (ht : Top H n) (h : H.get b = some k) : b < n := by
  rcases Nat.lt_or_ge b n with h' | h'
  · exact h'
  · rw [ht b h'] at h; cases h
theorem Top.none {H : Hp} {n : Nat} (h : Top H n) : H.get (n) = Option.none ∧ H.get (n + 1) = Option.none ∧ H.get (n + 1 + 1) = Option.none ∧ H.get (n + 1 + 1 + 1) = Option.none ∧ H.get (n + 1 + 1 + 1 + 1) = Option.none ∧ H.get (n + 1 + 1 + 1 + 1 + 1) = Option.none ∧ H.get (n + 1 + 1 + 1 + 1 + 1 + 1) = Option.none ∧ H.get (n + 1 + 1 + 1 + 1 + 1 + 1 + 1) = Option.none ∧ H.get (n + 1 + 1 + 1 + 1 + 1 + 1 + 1 + 1) = Option.none ∧ H.get (n + 1 + 1 + 1 + 1 + 1 + 1 + 1 + 1 + 1) = Option.none ∧ H.get (n + 1 + 1 + 1 + 1 + 1 + 1 + 1 + 1 + 1 + 1) = Option.none ∧ H.get (n + 1 + 1 + 1 + 1 + 1 + 1 + 1 + 1 + 1 + 1 + 1) = Option.none ∧ H.get (n + 1 + 1 + 1 + 1 + 1 + 1 + 1 + 1 + 1 + 1 + 1 + 1) = Option.none := by
  refine ⟨?_, ?_, ?_, ?_, ?_, ?_, ?_, ?_, ?_, ?_, ?_, ?_, ?_⟩ <;> exact h _ (by omega)

/-! ### a few calls, told at one heap -/
structure Cl where
  g : FuncId
  args : List AV
  H : Hp
  n : Nat
  v : AV
  H' : Hp
  n' : Nat
open Classical in
noncomputable def ceL (l : List Cl) : Ce := ceOf fun g args H n => match l.find? (fun x => decide (x.g = g ∧ x.args = args ∧ x.H = H ∧ x.n = n)) with
  | some x => .mk x.v x.H' x.n'
  | none => .fail
theorem ceL_ok {l : List Cl} (h : ∀ x ∈ l, CallOk Tryz.prog x.g x.args x.H x.n x.v x.H' x.n') : CeOk Tryz.prog (ceL l) := by
  refine ceOf_ok fun g args H n v H' n' e => ?_
  split at e
  · rename_i x hx
    have h1 := List.find?_some hx
    simp at h1
    obtain ⟨rfl, rfl, rfl, rfl⟩ := h1
    injection e with e1 e2 e3
    subst e1 e2 e3
    exact h x (List.mem_of_find?_eq_some hx)
  · cases e
theorem ceL_hd {g : FuncId} {args : List AV} {H : Hp} {n : Nat} {v : AV} {H' : Hp} {n' : Nat} {l : List Cl} : (ceL (⟨g, args, H, n, v, H', n'⟩ :: l)).call g args H n = noPan (.mk v H' n') := by
  simp [ceL, ceOf]
theorem ceL_tl {g g' : FuncId} {args args' : List AV} {H H0 : Hp} {n n0 : Nat} {v : AV} {H' : Hp} {n' : Nat} {l : List Cl} (hg : g' ≠ g) : (ceL (⟨g', args', H0, n0, v, H', n'⟩ :: l)).call g args H n = (ceL l).call g args H n := by
  simp [ceL, ceOf, List.find?_cons, hg]

/-! ### append, told -/
section
variable {H : Hp} {n : Nat}
theorem cApp_n {x : AV} {new : List AV} {sz by_ k : Nat} (hx : sliceCells H sz x = some new) (hk : sliceLen x = some k) (hs : 0 < sz) (hk0 : 0 < k) (hbig : k ≤ big) (hby : by_ ≤ 4096) (h1 : allOne new = true) :
    cApp sz by_ n (.cst (.slice none 0 0)) x H = .new (.sl n 0 k sz) (.cells (k * sz) [] new .nil) := by
  unfold Go.Abs.cApp
  rw [hx, hk]
  dsimp only
  unfold cApp1
  simp only [nat_beq, nat_blt, nat_ble, show ¬ k = 0 by omega, hs, hbig, hby, h1, decide_true, decide_false, Bool.and_self]
theorem cApp_o {x : AV} {new : List AV} {sz by_ k b len u : Nat} {z bs : List AV} {t : Ov AV} (hb : H.get b = some (.cells u z bs t)) (hu : len * sz ≤ u) (hx : sliceCells H sz x = some new) (hk : sliceLen x = some k) (hs : 0 < sz) (hk0 : 0 < k) (hbig : len + k ≤ big) (hby : by_ ≤ 4096) (h1 : allOne new = true) :
    cApp sz by_ n (.sl b 0 len sz) x H = .mv (.sl n 0 (len + k) sz) b (.cells ((len + k) * sz) z bs (Ov.putAll new (len * sz) t)) := by
  unfold Go.Abs.cApp
  rw [hx, hk]
  dsimp only
  unfold cApp1 cApp2
  simp only [nat_beq, nat_blt, nat_ble, show ¬ k = 0 by omega, hs, hbig, hby, h1, decide_true, decide_false, Bool.and_self, hb, hu, forceN_eq]
theorem sliceCells_one {b sz : Nat} {l : List AV} (hb : H.get b = some (.cells sz [] l .nil)) : sliceCells H sz (.sl b 0 1 sz) = some l := by
  simp only [sliceCells, nat_beq, decide_true, cond_true, hb, Nat.one_mul, grab_all]
end
theorem OwnB.app {u : Nat} {z bs l new : List AV} {t : Ov AV} (h : OwnB (.cells u z bs t) l) (hn : new ≠ []) : OwnB (.cells (u + new.length) z bs (Ov.putAll new u t)) (l ++ new) := by
  obtain ⟨u', z', bs', t', e, hu, hg, hi⟩ := h
  injection e with e1 e2 e3 e4
  subst e1 e2 e3 e4
  refine ⟨_, z, bs, _, rfl, by simp [hu], fun i => ?_, fun ht => ?_⟩
  · rw [getc_eq, Ov.get_putAll]
    by_cases hlt : i < u + new.length
    · rw [if_pos hlt]
      by_cases hin : u ≤ i ∧ i < u + new.length
      · rw [if_pos hin, List.getElem?_append_right (by omega), ← hu, List.getElem?_eq_getElem (by omega)]
      · rw [if_neg hin, List.getElem?_append_left (by omega)]
        have := hg i
        rw [getc_eq, if_pos (by omega)] at this
        exact this
    · rw [if_neg hlt, List.getElem?_eq_none (by simp; omega)]
  · exfalso
    cases new with
    | nil => exact hn rfl
    | cons v r =>
      have := Ov.get_putAll (v :: r) u t u
      rw [ht, if_pos (by simp)] at this
      simp at this

/-! ### no error -/
theorem fail29c (p : AV) (e : Int) (H : Hp) (n : Nat) : CallR Tryz.prog 29 [p, .int .i64 e, .bool false] H n (fun u K k => u = .tup [] ∧ K = H ∧ k = n) := by
  refine CallR.of c29 (by simp [A29]) fun F hF => ?_
  simp [A29, B29, R29_0, hF]
theorem fail29 (p : AV) (e : Int) (H : Hp) (n : Nat) (hp : RLt n p) : CallOk Tryz.prog 29 [p, .int .i64 e, .bool false] H n (.tup []) H n :=
  CallR.okS (S := .nil) (S' := .nil) ((fail29c p e .nil n).mono fun u K k ⟨a, b, c⟩ => ⟨a, fun b' y hy => by simp at hy, by omega⟩) (Nat.le_refl _) (by simp [RLtL, hp]) (fun b k hb => by simp at hb) (fun b k hb => by simp at hb)
    (fun b hb => by simp at hb; omega) (fun b _ _ => rfl)
end Go.Abs
