/- A part of the proof. -/
import Derived.Test.YtmmgdjecahcemaaGreatEk1
namespace Go.Abs
open Go.Proofs
set_option maxRecDepth 100000

/-! ### the program under way -/
/-- the instructions so far -/
def VS (H : Hp) (v : AV) (l : List Ins) : Prop := (v = nilS ∧ l = []) ∨ ∃ b, v = .sl b 0 l.length 15 ∧ H.get b = some (.cells (l.length * 15) [] (insC l) .nil) ∧ 0 < l.length
def ebC (R : Int) (v : AV) : List AV := [.int .i64 R, .int .i64 0, v, nilS]
theorem insC_one (l : List Ins) : allOne (insC l) = true := by
  induction l with
  | nil => rfl
  | cons x r ih => simp [insC, Ins.cells, ih]
theorem insC_flat' (l : List Ins) : FlatL (insC l) := by
  induction l with
  | nil => simp [insC]
  | cons x r ih => simp [insC, Ins.cells, ih]
theorem insC_append (a b : List Ins) : insC (a ++ b) = insC a ++ insC b := by
  induction a with
  | nil => simp [insC]
  | cons e r ih => simp [insC, ih]
theorem ins_one (i : Ins) : insC [i] = i.cells := by simp [insC]
theorem put15r (i : Ins) (l : List Ins) (R : Int) (v : AV) (H : Hp) (n eb : Nat) (he : H.get eb = some (.cells 4 [] (ebC R v) .nil)) (hv : VS H v l) (ht : Top H n) (hl : l.length ≤ 8192) :
    CallR Tryz.prog 15 [.ptr eb 0, i.av] H n (fun u K k => u = .int .i64 (l.length : Int) ∧ K.get eb = some (.cells 4 [] (ebC R (.sl (n + 2) 0 (l.length + 1) 15)) .nil) ∧ (∃ y, K.get (n + 2) = some y ∧ OwnB y (insC (l ++ [i]))) ∧ k = n + 3) := by
  have hen := ht.lt he
  have z := ht.none
  have e1 := neC hen
  have e2 := neD hen
  refine CallR.of c15 (by simp [A15]) fun F hF => ?_
  simp [A15, B15, R15_0, R15_1, hF, Ins.av, Ins.cells]
  refine DrwV.of (ce0_ok (P := Tryz.prog)) ?_
  simp [ebC] at he
  simp [clearF_get, hF, noneAt_cons, noneAt_nil, he, e1, z]
  rcases hv with ⟨rfl, rfl⟩ | ⟨b, rfl, hb, hl0⟩
  · rw [cApp_n (new := i.cells) (k := 1) (sliceCells_one (by simp [Ins.cells])) (by simp) (by omega) (by omega) (by unfold big; omega) (by omega) (by simp [Ins.cells])]
    simp [clearF_get, hF, he, e1, e2, R15_2, ebC]
    refine ⟨by simp [IntKind.wrap, IntKind.signed, IntKind.bits], ?_⟩
    rw [ins_one]
    exact OwnB.list (by simp)
  · have hbn := ht.lt hb
    have hbe : ¬ eb = b := by
      rintro rfl
      rw [he] at hb
      injection hb with hb
      injection hb with h1
      omega
    have hbe' : ¬ b = eb := fun e => hbe e.symm
    have b1 := neC hbn
    have b2 := neD hbn
    rw [cApp_o (new := i.cells) (k := 1) (b := b) (u := l.length * 15) (z := []) (bs := insC l) (t := .nil) (by simp [b1, hb]) (by omega) (sliceCells_one (by simp [Ins.cells])) (by simp) (by omega) (by omega) (by unfold big; omega) (by omega) (by simp [Ins.cells])]
    simp [clearF_get, hF, he, e1, e2, R15_2, ebC, hbe]
    refine ⟨wrap_sm _ (by omega) (by omega), ?_⟩
    have := OwnB.app (u := l.length * 15) (z := []) (bs := insC l) (l := insC l) (new := i.cells) (t := .nil) (OwnB.list (by simp)) (by simp [Ins.cells])
    rw [insC_append, ins_one, Nat.add_mul]
    simpa using this
/-- the heap behind an instruction more -/
noncomputable def delV (H : Hp) (v : AV) : Hp := match v with
  | .sl b _ _ _ => H.put b none
  | _ => H
noncomputable def putH (H : Hp) (n eb : Nat) (R : Int) (l : List Ins) (i : Ins) (v : AV) : Hp :=
  ((delV H v).put eb (some (.cells 4 [] (ebC R (.sl (n + 2) 0 (l.length + 1) 15)) .nil))).put (n + 2) (some (.cells ((l.length + 1) * 15) [] (insC (l ++ [i])) .nil))
theorem delV_nil (H : Hp) : delV H nilS = H := rfl
theorem delV_sl (H : Hp) (b o l s : Nat) : delV H (.sl b o l s) = H.put b none := rfl
theorem put15 (i : Ins) (l : List Ins) (R : Int) (v : AV) (H : Hp) (n eb : Nat) (he : H.get eb = some (.cells 4 [] (ebC R v) .nil)) (hv : VS H v l) (ht : Top H n) (hl : l.length ≤ 8192) :
    CallOk Tryz.prog 15 [.ptr eb 0, i.av] H n (.int .i64 (l.length : Int)) (putH H n eb R l i v) (n + 3) := by
  have hen := ht.lt he
  have hi : RLtL n [AV.ptr eb 0, i.av] := by simp [hen, Ins.av, Ins.cells]
  have hc : ∀ m l, RLtL m (insC l) := fun m l => (insC_flat' _).rlt
  -- the block of the instructions, or the emitter's own
  obtain ⟨b, hbn, hvb, hdel, hblk, hrv⟩ : ∃ b, b < n ∧ (∀ S : Hp, S.get b = H.get b → VS S v l) ∧ (∀ c, (delV H v).get c = if c = b ∧ b ≠ eb then none else H.get c) ∧ (∀ k, H.get b = some k → b ≠ eb → RLtB n k) ∧ RLt n v := by
    rcases hv with ⟨rfl, rfl⟩ | ⟨b, rfl, hb, hl0⟩
    · exact ⟨eb, hen, fun S _ => .inl ⟨rfl, rfl⟩, fun c => by rw [delV_nil]; simp, fun k _ h => absurd rfl h, by simp⟩
    · have hbe : b ≠ eb := by
        rintro rfl
        rw [he] at hb
        injection hb with hb
        injection hb with h1
        omega
      refine ⟨b, ht.lt hb, fun S hS => .inr ⟨b, rfl, hS.trans hb, hl0⟩, fun c => by rw [delV_sl]; simp [hbe], fun k hk _ => ?_, by simp [ht.lt hb]⟩
      rw [hb] at hk
      injection hk with hk
      subst hk
      exact rLtB_list (hc _ _)
  have hS : ∀ c, ((Tr.nil.put b (H.get b)).put eb (H.get eb)).get c = if c = eb then H.get eb else if c = b then H.get b else none := fun c => by simp
  have hr := put15r i l R v ((Tr.nil.put b (H.get b)).put eb (H.get eb)) n eb (by rw [hS, if_pos rfl, he]) (hvb _ (by
    rw [hS]
    by_cases h : b = eb
    · rw [if_pos h, h]
    · rw [if_neg h, if_pos rfl])) (fun c hc => by
    rw [hS, if_neg (by omega), if_neg (by omega)]) hl
  have hH : ∀ c, (putH H n eb R l i v).get c = if c = n + 2 then some (.cells ((l.length + 1) * 15) [] (insC (l ++ [i])) .nil) else if c = eb then some (.cells 4 [] (ebC R (.sl (n + 2) 0 (l.length + 1) 15)) .nil) else (delV H v).get c := fun c => by simp [putH]
  have hS' : ∀ c, ((Tr.nil.put eb (some (ABlk.cells 4 [] (ebC R (.sl (n + 2) 0 (l.length + 1) 15)) .nil))).put (n + 2) (some (ABlk.cells ((l.length + 1) * 15) [] (insC (l ++ [i])) .nil))).get c = if c = n + 2 then some (ABlk.cells ((l.length + 1) * 15) [] (insC (l ++ [i])) .nil) else if c = eb then some (ABlk.cells 4 [] (ebC R (.sl (n + 2) 0 (l.length + 1) 15)) .nil) else none := fun c => by simp
  refine CallR.okS (S' := (Tr.nil.put eb (some (ABlk.cells 4 [] (ebC R (.sl (n + 2) 0 (l.length + 1) 15)) .nil))).put (n + 2) (some (ABlk.cells ((l.length + 1) * 15) [] (insC (l ++ [i])) .nil)))
    (hr.mono (S := fun u K k => u = .int .i64 (l.length : Int) ∧ (∀ b y, ((Tr.nil.put eb (some (ABlk.cells 4 [] (ebC R (.sl (n + 2) 0 (l.length + 1) 15)) .nil))).put (n + 2) (some (ABlk.cells ((l.length + 1) * 15) [] (insC (l ++ [i])) .nil))).get b = some y → ∃ y', K.get b = some y' ∧ BLe y' y) ∧ k ≤ n + 3) ?_) (by omega) hi ?_ ?_ ?_ ?_
  · rintro u K k ⟨hu, h1, ⟨y, h2, h3⟩, h4⟩
    refine ⟨hu, fun c yy hy => ?_, by omega⟩
    rw [hS'] at hy
    split at hy
    · rename_i e
      injection hy with hy
      subst hy e
      exact ⟨y, h2, h3.ble (by simp)⟩
    · split at hy
      · rename_i e
        injection hy with hy
        subst hy e
        exact ⟨_, h1, .refl _⟩
      · cases hy
  · intro c k hk
    rw [hS] at hk
    split at hk
    · rename_i e
      rw [he] at hk
      injection hk with hk
      subst hk e
      exact ⟨hen, rLtB_list (by simp [ebC, hrv])⟩
    · split at hk
      · rename_i h0 e
        subst e
        exact ⟨hbn, hblk k hk h0⟩
      · cases hk
  · intro c k hk
    rw [hS] at hk
    split at hk
    · rename_i e; rw [e]; exact hk
    · split at hk
      · rename_i e; rw [e]; exact hk
      · cases hk
  · intro c hcc
    rw [hH, hS', hdel]
    by_cases h1 : c = n + 2
    · rw [if_pos h1, if_pos h1]
    · rw [if_neg h1, if_neg h1]
      by_cases h2 : c = eb
      · rw [if_pos h2, if_pos h2]
      · rw [if_neg h2, if_neg h2]
        by_cases h3 : c = b
        · rw [if_pos ⟨h3, fun e => h2 (h3.trans e)⟩]
        · rw [if_neg (fun e => h3 e.1)]
          rcases hcc with h | h
          · rw [hS, if_neg h2, if_neg h3] at h; exact absurd rfl h
          · exact ht c h.1
  · intro c h1 h2
    rw [hH, hdel, if_neg (by omega)]
    by_cases h3 : c = eb
    · rw [hS, if_pos h3, he] at h1; cases h1
    · rw [if_neg h3]
      by_cases h4 : c = b ∧ b ≠ eb
      · rw [hS, if_neg h3, if_pos h4.1] at h1
        rw [if_pos h4, h4.1, h1]
      · rw [if_neg h4]
end Go.Abs
