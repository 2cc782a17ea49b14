/- The law's own functions: conditions, fit. -/
import Derived.Test.YtfdoeenlgkkaiaaBt9
namespace Go.Abs
open Go.Proofs
open Classical
set_option maxRecDepth 100000
def CondsOk (l : List Ex) (ks : List Int) : Prop := ∀ e ∈ l, (e.kindOf ks).2 = 0 ∧ (e.kindOf ks).1 ≠ 1 ∧ (e.kindOf ks).1 ≠ 2
theorem conds10 (l : List Ex) (ks : List Int) (hl : l.length ≤ lim) (hz : ∀ e ∈ l, e.sz ≤ lim) (hk : ks.length ≤ lim) (h : CondsOk l ks) : FnPure Try.prog 10 [eEx.ds l, eInt.ds ks] (.bool true) := by
 refine pureV c10 (by simp) (by simp) (by simp [A10]) fun F hF => ?_
 unfold lim at hl
 simp [A10, B10, R10_0, R10_1]
 refine LoopV.of (fun q F K n ms => ∃ i : Nat, q = l.length - i ∧ i ≤ l.length ∧ F.get 0 = some (eEx.ds l) ∧ F.get 1 = some (eInt.ds ks) ∧ F.get 5 = some (.int .i64 (i : Int)) ∧ ms = []) l.length ⟨0, by simp, by simp, by simp [hF], by simp [hF], by simp, rfl⟩ ?_
 clear hF F
 rintro q F K n ms ⟨i, rfl, hi, f0, f1, f5, rfl⟩
 by_cases hlt : i < l.length
 ·
  have hx := eEx.ix (ik := .i64) hlt
  have hld := fun H => eEx.ldN l[i] (eEx.l (l.drop (i + 1))) H
  have hm := List.getElem_mem hlt
  have hkd := kind11 ks hk l[i] (hz _ hm)
  obtain ⟨h1, h2, h3⟩ := h _ hm
  have hav : l[i].av = .agg l[i].cells 8 := Eq.trans rfl rfl
  rw [hav, ← eInt_ds] at hkd
  simp [L10_0, R10_2, R10_3, f0, f1, f5, Enc.len_ds, hlt, hx, hld, Enc.av, eEx_c]
  refine CalV.pure hkd ?_
  simp [R10_4, R10_6, h1, h2, h3, f5, wrap_nat i (by omega)]
  exact ⟨_, by omega, i + 1, rfl, hlt, f0, f1, by simp⟩
 ·
  have hie : i = l.length := by omega
  subst hie
  simp [L10_0, R10_2, R10_7, f0, f5, Enc.len_ds]
  exact .bool rfl
def FitOk (l : List Ex) (want ks : List Int) : Prop := ∀ i (h : i < l.length) (h2 : i < want.length), (l[i].kindOf ks).2 = 0 ∧ ((l[i].kindOf ks).1 = 0 ∨ (l[i].kindOf ks).1 = want[i])
theorem fit9 (l : List Ex) (want ks : List Int) (hl : l.length ≤ lim) (hw : l.length = want.length) (hz : ∀ e ∈ l, e.sz ≤ lim) (hk : ks.length ≤ lim) (h : FitOk l want ks) : FnPure Try.prog 9 [eEx.ds l, eInt.ds want, eInt.ds ks] (.bool true) := by
 refine pureV c9 (by simp) (by simp) (by simp [A9]) fun F hF => ?_
 unfold lim at hl
 simp [A9, B9, R9_0, R9_1]
 refine LoopV.of (fun q F K n ms => ∃ i : Nat, q = l.length - i ∧ i ≤ l.length ∧ F.get 0 = some (eEx.ds l) ∧ F.get 1 = some (eInt.ds want) ∧ F.get 2 = some (eInt.ds ks) ∧ F.get 7 = some (.int .i64 (i : Int)) ∧ ms = []) l.length ⟨0, by simp, by simp, by simp [hF], by simp [hF], by simp [hF], by simp, rfl⟩ ?_
 clear hF F
 rintro q F K n ms ⟨i, rfl, hi, f0, f1, f2, f7, rfl⟩
 by_cases hlt : i < l.length
 ·
  have hx := eEx.ix (ik := .i64) hlt
  have hld := fun H => eEx.ldN l[i] (eEx.l (l.drop (i + 1))) H
  have hm := List.getElem_mem hlt
  have hwl : i < want.length := by omega
  have hxw := eInt.ix (ik := .i64) hwl
  rw [eInt_c] at hxw
  have hkd := kind11 ks hk l[i] (hz _ hm)
  obtain ⟨h1, h2⟩ := h i hlt hwl
  have hav : l[i].av = .agg l[i].cells 8 := Eq.trans rfl rfl
  rw [hav, ← eInt_ds] at hkd
  simp [L9_0, R9_2, R9_3, f0, f1, f2, f7, Enc.len_ds, hlt, hx, hld, Enc.av, eEx_c]
  refine CalV.pure hkd ?_
  by_cases h0 : (l[i].kindOf ks).1 = 0
  ·
   simp [R9_4, R9_6, h1, h0, f7, wrap_nat i (by omega)]
   exact ⟨_, by omega, i + 1, rfl, hlt, f0, f1, f2, by simp⟩
  ·
   have h3 : (l[i].kindOf ks).1 = want[i] := h2.resolve_left h0
   rw [h3] at h0
   simp [R9_4, R9_6, h1, h0, f1, f7, hxw, h3, wrap_nat i (by omega)]
   exact ⟨_, by omega, i + 1, rfl, hlt, f0, f2, by simp⟩
 ·
  have hie : i = l.length := by omega
  subst hie
  simp [L9_0, R9_2, R9_7, f0, f7, Enc.len_ds]
  exact .bool rfl
end Go.Abs
namespace Go.Abs
open Go.Proofs
open Classical
set_option maxRecDepth 100000
theorem shutMid {F F2 : Fr} {K : Hp} {m : Nat} {va x : AV} {l r cs : List AV} {len sa k sz : Nat} (hF : ∀ (t : Nat) v, F2.get t = some v → F.get t = some v) (ha : OwnS K m va (l ++ x :: r) len sa) (h1 : 0 < len) (hx : OwnS K m x cs k sz) (hz : 0 < sz) (hcs : PureL cs) (hd : ∀ c, blk va = some c → blk x ≠ some c) :
  ∃ h K2, Shuts h F K F2 K2 ∧ OwnS K2 m va (l ++ .ds cs k sz :: r) len sa ∧ ∀ c, blk va ≠ some c → blk x ≠ some c → K2.get c = K.get c := by
 have hfz : ∀ h : Hf, (∀ c, blk x = some c → h c = K.get c) → Frz h x (.ds cs k sz) := by
  intro h hh
  obtain ⟨s', rfl⟩ : ∃ s', sz = s' + 1 := ⟨sz - 1, by omega⟩
  obtain ⟨h0, ⟨rfl, rfl⟩ | ⟨b, kk, rfl, hb, hk, ho⟩⟩ := hx
  ·
   have : cs = [] := by simpa using h0
   subst this
   exact .nil _
  ·
   obtain ⟨u, z, bs, t, rfl, hg⟩ := ho.grab (o := 0) (c := k * (s' + 1)) (by omega)
   refine .sl _ _ _ _ _ _ _ _ _ _ ((hh b rfl).trans hk) hg ?_
   rw [List.drop_zero, List.take_of_length_le (by omega)]
   exact FrzL.pure hcs
 obtain ⟨h0, ⟨_, h1⟩ | ⟨b, kb, rfl, hb, hk, ho⟩⟩ := ha
 · omega
 have hxb : blk x ≠ some b := hd b rfl
 obtain ⟨u, z, bs, t, rfl, hu, hg, hi⟩ := ho
 refine ⟨fun c => if blk x = some c then K.get c else none, (match blk x with
  | some c => K.put c none
  | none => K).put b (some (.cells u [] (l ++ AV.ds cs k sz :: r) .nil)), ⟨fun c y hc => ?_, fun c hc => ?_, fun t v hv => ⟨v, hF t v hv, .inl rfl⟩, fun c y hc => ?_⟩, ⟨by simpa using h0, .inr ⟨b, .cells u [] (l ++ AV.ds cs k sz :: r) .nil, rfl, hb, by simp, OwnB.list (by simpa using hu)⟩⟩, fun c h3 h4 => ?_⟩
 ·
  split at hc
  · exact hc
  · cases hc
 ·
  have hc : (if blk x = some c then K.get c else none) ≠ none := hc
  by_cases he : blk x = some c
  ·
   have hcb : c ≠ b := fun e => hxb (by rw [he, e])
   rw [he]
   simp [hcb]
  · simp [he] at hc
 ·
  by_cases hcb : c = b
  ·
   subst hcb
   simp at hc
   subst hc
   refine ⟨_, hk, .inr ⟨u, z, bs, t, _, rfl, rfl, by simpa using hu.symm, fun i v' hv => ?_⟩⟩
   by_cases hil : i < l.length
   ·
    rw [List.getElem?_append_left hil] at hv
    exact ⟨v', by rw [hg, List.getElem?_append_left hil]; exact hv, .inl rfl⟩
   ·
    rw [List.getElem?_append_right (by omega)] at hv
    rcases Nat.eq_zero_or_pos (i - l.length) with e | e
    ·
     rw [e] at hv
     simp at hv
     subst hv
     refine ⟨x, by rw [hg, List.getElem?_append_right (by omega), e]; simp, .inr (hfz _ fun c hc => if_pos hc)⟩
    ·
     obtain ⟨j, hj⟩ : ∃ j, i - l.length = j + 1 := ⟨i - l.length - 1, by omega⟩
     rw [hj] at hv
     simp at hv
     exact ⟨v', by rw [hg, List.getElem?_append_right (by omega), hj]; simpa using hv, .inl rfl⟩
  ·
   rw [Tr.get_put, if_neg hcb] at hc
   refine ⟨y, ?_, .inl rfl⟩
   cases hbx : blk x with
   | none => rw [hbx] at hc; exact hc
   | some d =>
    rw [hbx] at hc
    simp only [Tr.get_put] at hc
    split at hc
    · cases hc
    · exact hc
 ·
  have hc : c ≠ b := fun e => h3 (by rw [e]; rfl)
  rw [Tr.get_put, if_neg hc]
  cases hbx : blk x with
  | none => rfl
  | some d =>
   have : c ≠ d := fun e => h4 (by rw [hbx, e])
   simp [this]
theorem app0 {α : Type} {s' : Nat} (E : Enc α (s' + 1)) (l : List α) (hl : l.length ≤ lim) {P : Program} {K : Hp} {b by_ : Nat} {F : Fr} {Q : QA} {pd : Pd} {r : List (Option GO)} (hby : by_ ≤ 4096)
  (hgo : ∀ v H' n', b + 1 ≤ n' → OwnS H' n' v (E.l l) l.length (s' + 1) → (∀ c, blk v = some c → b ≤ c) → (∀ c, c < b → H'.get c = K.get c) → VCO P r (pd.f v F) H' n' [] Q) :
  OpV (cApp (s' + 1) by_ (b + 1) (.sl b 0 0 (s' + 1)) (E.ds l) (K.put b (some (.cells 0 [] [] .nil)))) pd r P F (K.put b (some (.cells 0 [] [] .nil))) (b + 1) [] Q := by
 unfold lim at hl
 have ho : OwnS (K.put b (some (.cells 0 [] [] .nil))) (b + 1) (.sl b 0 0 (s' + 1)) [] 0 (s' + 1) := ⟨by simp, .inr ⟨b, _, rfl, by omega, (Tr.get_put _ _ _ _).trans (if_pos rfl), OwnB.list rfl⟩⟩
 by_cases h0 : l.length = 0
 ·
  have hn : l = [] := List.length_eq_zero_iff.1 h0
  subst hn
  have e2 : cApp (s' + 1) by_ (b + 1) (.sl b 0 0 (s' + 1)) (E.ds []) (K.put b (some (.cells 0 [] [] .nil))) = .val (.sl b 0 0 (s' + 1)) := by
   unfold Go.Abs.cApp
   simp [Enc.ds, cApp1]
  rw [e2]
  simp
  refine hgo _ _ _ (Nat.le_refl _) ho (fun c hc => by simp at hc; omega) fun c hc => ?_
  simp [show ¬ c = b by omega]
 ·
  refine OwnS.appA (k := l.length) (new := E.l l) ho (by simp [Enc.ds]) (by simp [Enc.ds]) (by simp [Enc.l_len]) (by omega) (by omega) (by unfold big; omega) hby (by simp) fun H' o' g => ?_
  rw [Nat.zero_add] at o' ⊢
  refine hgo _ _ _ (by omega) (by simpa using o') (fun c hc => by simp at hc; omega) fun c hc => ?_
  rw [g c (by omega) (by simp; omega)]
  simp [show ¬ c = b by omega]
structure CpF (F : Fr) : Prop where
 f1 : F.get 1 = some (.ptr 0 0)
 f2 : F.get 2 = some (.ptr 1 0)
 f3 : F.get 3 = some (.ptr 2 0)
structure CpM (s : Sch) (i j : Nat) (vt vi : AV) (K : Hp) (m : Nat) : Prop where
 hm : 3 ≤ m
 k0 : K.get 0 = some (.cells 2 [] (eSch.cells s) .nil)
 k1 : K.get 1 = some (.cells 2 [] [.cst (.slice none 0 0), .cst (.slice none 0 0)] .nil)
 k2 : K.get 2 = some (.cells 2 [] [vt, vi] .nil)
 ot : OwnS K m vt (eTbl.l (s.tables.take i)) i 4
 oi : OwnS K m vi (eIxd.l (s.indexes.take j)) j 6
 dt : ∀ c, blk vt = some c → 3 ≤ c
 di : ∀ c, blk vi = some c → 3 ≤ c ∧ blk vt ≠ some c
theorem copy6a (s : Sch) (hs : s.fine) (F : Fr) (K : Hp) (m : Nat) (Q : QA) (hF : CpF F) (f4 : F.get 4 = some (.int .i64 0)) (M : CpM s 0 0 (.cst (.slice none 0 0)) (.cst (.slice none 0 0)) K m)
  (hQ : ∀ vt F K m, CpF F → CpM s s.tables.length 0 vt (.cst (.slice none 0 0)) K m → Q .normal F K m []) : LoopV L6_0 Try.prog F K m [] (BlkQ 0 Q) := by
 have ht := hs.t
 unfold lim at ht
 refine LoopV.ofZ (fun q F K m ms => ∃ (i : Nat) (vt : AV), q = s.tables.length - i ∧ i ≤ s.tables.length ∧ CpF F ∧ F.get 4 = some (.int .i64 (i : Int)) ∧ CpM s i 0 vt (.cst (.slice none 0 0)) K m ∧ ms = []) s.tables.length (Zs.refl ⟨0, _, by simp, by simp, hF, f4, M, rfl⟩) ?_
 clear hF f4 M F K m
 rintro q1 F K m ms ⟨i, vt, rfl, hi, ⟨f1, f2, f3⟩, f4, M, rfl⟩
 have k0 := M.k0
 rw [eSch_c] at k0
 by_cases hlt : i < s.tables.length
 ·
  have hxx := eTbl.ix (ik := .i64) hlt
  have hld := fun H => eTbl.ldN s.tables[i] (eTbl.l (s.tables.drop (i + 1))) H
  have htc := hs.tc _ (List.getElem_mem hlt)
  unfold lim at htc
  simp [L6_0, R6_3, R6_4, f1, f4, k0, Enc.len_ds, hlt, hxx, hld, Enc.av]
  generalize hK1 : Tr.put (Tr.put K m _) m _ = K1
  have g1 : ∀ c, c < m → K1.get c = K.get c := fun c hc => by rw [← hK1]; simp [neC hc]
  have x1 : K1.get m = some (.cells 4 [] (eTbl.cells s.tables[i]) .nil) := by rw [← hK1]; simp
  clear hK1
  rw [eTbl_c] at x1
  simp [R6_5, x1]
  refine app0 eCol _ (by unfold lim; omega) (by omega) fun v K2 m2 hm2 hv dv g2 => ?_
  have x2 := (g2 m (by omega)).trans x1
  have hone := hv.isOne
  obtain ⟨hl1, hl2⟩ := hv.len1
  have b2 : ∀ c, c < m → K2.get c = K.get c := fun c hc => (g2 c (by omega)).trans (g1 c hc)
  have hm := M.hm
  have k22 := (b2 2 (by omega)).trans M.k2
  have hto := M.ot.isOne
  have hta := fun c h => M.ot.blkLt (c := c) h
  simp [x2, hone, hl1, hl2, R6_6, f3, show ¬ 2 = m by omega, k22]
  generalize hK3 : Tr.put (Tr.put K2 m _) m2 _ = K3
  have g3 : ∀ c, c ≠ m → c < m2 → K3.get c = K2.get c := fun c h1 h2 => by rw [← hK3]; simp [h1, neC h2]
  have x3 : K3.get m2 = some (.cells 4 [] [.int .u32 s.tables[i].id, .str s.tables[i].name, v, .int .u32 s.tables[i].head] .nil) := by rw [← hK3]; simp
  clear hK3
  have ot3 : OwnS K3 (m2 + 1) vt (eTbl.l (s.tables.take i)) i 4 := M.ot.frame (by omega) fun c hc => (g3 c (by have := hta c hc; omega) (by have := hta c hc; omega)).trans (b2 c (hta c hc))
  refine OwnS.appA (k := 1) (new := [.int .u32 s.tables[i].id, .str s.tables[i].name, v, .int .u32 s.tables[i].head]) ot3 (sliceCells_one x3) (by simp) (by simp) (by omega) (by omega) (by unfold big; omega) (by omega) (by simp [hone]) fun K4 o4 g4 => ?_
  have k24 := (g4 2 (by omega) fun h => by have := M.dt 2 h; omega).trans ((g3 2 (by omega) (by omega)).trans k22)
  simp [f3, k24, R6_7, f4, wrap_nat i (by omega)]
  generalize hK5 : Tr.put K4 2 _ = K5
  have g5 : ∀ c, c ≠ 2 → K5.get c = K4.get c := fun c hc => by rw [← hK5]; simp [hc]
  have x5 : K5.get 2 = some (.cells 2 [] [.sl (m2 + 1) 0 (i + 1) 4, .cst (.slice none 0 0)] .nil) := by rw [← hK5]; simp
  clear hK5
  generalize hF2 : (Fp 4 _ _ : Fr) = F2
  have w1 : F2.get 1 = some (.ptr 0 0) := by rw [← hF2]; simp [f1]
  have w2 : F2.get 2 = some (.ptr 1 0) := by rw [← hF2]; simp [f2]
  have w3 : F2.get 3 = some (.ptr 2 0) := by rw [← hF2]; simp [f3]
  have w4 : F2.get 4 = some (.int .i64 ((i + 1 : Nat) : Int)) := by rw [← hF2]; simp
  clear hF2
  have bk : ∀ c, c < m → c ≠ 2 → blk vt ≠ some c → K5.get c = K.get c := fun c h1 h2 h3 => (g5 c h2).trans ((g4 c (by omega) h3).trans ((g3 c (by omega) (by omega)).trans (b2 c h1)))
  have oa5 : OwnS K5 (m2 + 1 + 1) (.sl (m2 + 1) 0 (i + 1) 4) ((eTbl.l (s.tables.take i) ++ [.int .u32 s.tables[i].id, .str s.tables[i].name]) ++ v :: [.int .u32 s.tables[i].head]) (i + 1) 4 := by
   have := o4.frame (H' := K5) (n' := m2 + 1 + 1) (by omega) fun c hc => g5 c (by simp at hc; omega)
   simpa using this
  have ov5 : OwnS K5 (m2 + 1 + 1) v (eCol.l s.tables[i].cols) s.tables[i].cols.length 3 := hv.frame (by omega) fun c hc => by
   have h1 := dv c hc
   have h2 := hv.blkLt hc
   exact (g5 c (by omega)).trans ((g4 c (by omega) fun h => by have := hta c h; omega).trans (g3 c (by omega) h2))
  have nv : ∀ c, c < m → blk v ≠ some c := fun c h1 h2 => by have := dv c h2; omega
  obtain ⟨hh, K6, hsh, oa6, g6⟩ := shutMid (F := F2) (F2 := F2) (fun t v hv => hv) oa5 (by omega) ov5 (by omega) (by simp) (fun c hc hc2 => by
   have := hv.blkLt hc2
   simp at hc
   omega)
  have na : ∀ c, c < m → blk (AV.sl (m2 + 1) 0 (i + 1) 4) ≠ some c := fun c h1 h2 => by simp at h2; omega
  have nt : ∀ c, c < 3 → blk vt ≠ some c := fun c h1 h2 => by have := M.dt c h2; omega
  refine ⟨s.tables.length - (i + 1), by omega, hh, F2, K6, hsh, i + 1, rfl, hlt, ⟨w1, w2, w3⟩, w4, ⟨.sl (m2 + 1) 0 (i + 1) 4, by omega, ?_, ?_, ?_, ?_, by simpa using OwnS.nil _ _ 6, fun c hc => by simp at hc; omega, by simp⟩, rfl⟩
  · exact (g6 0 (na 0 (by omega)) (nv 0 (by omega))).trans ((bk 0 (by omega) (by omega) (nt 0 (by omega))).trans M.k0)
  · exact (g6 1 (na 1 (by omega)) (nv 1 (by omega))).trans ((bk 1 (by omega) (by omega) (nt 1 (by omega))).trans M.k1)
  · exact (g6 2 (na 2 (by omega)) (nv 2 (by omega))).trans x5
  ·
   have e : eTbl.l (s.tables.take (i + 1)) = (eTbl.l (s.tables.take i) ++ [.int .u32 s.tables[i].id, .str s.tables[i].name]) ++ .ds (eCol.l s.tables[i].cols) s.tables[i].cols.length 3 :: [.int .u32 s.tables[i].head] := by
    rw [List.take_add_one, List.getElem?_eq_getElem hlt, Option.toList, Enc.l_append, Enc.l_one, eTbl_c]; simp [Enc.ds]
   rw [e]
   exact oa6
 ·
  obtain rfl : i = s.tables.length := by omega
  simp [L6_0, R6_3, f1, f4, k0, Enc.len_ds]
  exact hQ vt _ K m ⟨by simp [f1], by simp [f2], by simp [f3]⟩ M
end Go.Abs
namespace Go.Abs
open Go.Proofs
open Classical
set_option maxRecDepth 100000
theorem copy6b (s : Sch) (hs : s.fine) (vt : AV) (F : Fr) (K : Hp) (m : Nat) (Q : QA) (hF : CpF F) (f6 : F.get 6 = some (.int .i64 0)) (M : CpM s s.tables.length 0 vt (.cst (.slice none 0 0)) K m)
  (hQ : ∀ vi F K m, CpF F → CpM s s.tables.length s.indexes.length vt vi K m → Q .normal F K m []) : LoopV L6_1 Try.prog F K m [] (BlkQ 2 Q) := by
 have ht := hs.i
 unfold lim at ht
 refine LoopV.ofZ (fun q F K m ms => ∃ (i : Nat) (vi : AV), q = s.indexes.length - i ∧ i ≤ s.indexes.length ∧ CpF F ∧ F.get 6 = some (.int .i64 (i : Int)) ∧ CpM s s.tables.length i vt vi K m ∧ ms = []) s.indexes.length (Zs.refl ⟨0, _, by simp, by simp, hF, f6, M, rfl⟩) ?_
 clear hF f6 M F K m
 rintro q1 F K m ms ⟨i, vi, rfl, hi, ⟨f1, f2, f3⟩, f6, M, rfl⟩
 have k0 := M.k0
 rw [eSch_c] at k0
 by_cases hlt : i < s.indexes.length
 ·
  have hxx := eIxd.ix (ik := .i64) hlt
  have hld := fun H => eIxd.ldN s.indexes[i] (eIxd.l (s.indexes.drop (i + 1))) H
  have htc := hs.ic _ (List.getElem_mem hlt)
  unfold lim at htc
  simp [L6_1, R6_9, R6_10, f1, f6, k0, Enc.len_ds, hlt, hxx, hld, Enc.av]
  generalize hK1 : Tr.put (Tr.put K m _) m _ = K1
  have g1 : ∀ c, c < m → K1.get c = K.get c := fun c hc => by rw [← hK1]; simp [neC hc]
  have x1 : K1.get m = some (.cells 6 [] (eIxd.cells s.indexes[i]) .nil) := by rw [← hK1]; simp
  clear hK1
  rw [eIxd_c] at x1
  simp [R6_11, x1]
  refine app0 eInt _ (by unfold lim; omega) (by omega) fun v K2 m2 hm2 hv dv g2 => ?_
  have x2 := (g2 m (by omega)).trans x1
  have hone := hv.isOne
  obtain ⟨hl1, hl2⟩ := hv.len1
  have b2 : ∀ c, c < m → K2.get c = K.get c := fun c hc => (g2 c (by omega)).trans (g1 c hc)
  have hm := M.hm
  have k22 := (b2 2 (by omega)).trans M.k2
  have hto := M.oi.isOne
  have htv := M.ot.isOne
  have hta := fun c h => M.oi.blkLt (c := c) h
  have htb := fun c h => M.ot.blkLt (c := c) h
  simp [x2, hone, hl1, hl2, R6_12, f3, show ¬ 2 = m by omega, k22]
  generalize hK3 : Tr.put (Tr.put K2 m _) m2 _ = K3
  have g3 : ∀ c, c ≠ m → c < m2 → K3.get c = K2.get c := fun c h1 h2 => by rw [← hK3]; simp [h1, neC h2]
  have x3 : K3.get m2 = some (.cells 6 [] [.int .u32 s.indexes[i].id, .int .u32 s.indexes[i].table, .str s.indexes[i].name, v, .bool s.indexes[i].uniq, .int .u32 s.indexes[i].root] .nil) := by rw [← hK3]; simp
  clear hK3
  have ot3 : OwnS K3 (m2 + 1) vi (eIxd.l (s.indexes.take i)) i 6 := M.oi.frame (by omega) fun c hc => (g3 c (by have := hta c hc; omega) (by have := hta c hc; omega)).trans (b2 c (hta c hc))
  refine OwnS.appA (k := 1) (new := [.int .u32 s.indexes[i].id, .int .u32 s.indexes[i].table, .str s.indexes[i].name, v, .bool s.indexes[i].uniq, .int .u32 s.indexes[i].root]) ot3 (sliceCells_one x3) (by simp) (by simp) (by omega) (by omega) (by unfold big; omega) (by omega) (by simp [hone]) fun K4 o4 g4 => ?_
  have k24 := (g4 2 (by omega) fun h => by have := (M.di 2 h).1; omega).trans ((g3 2 (by omega) (by omega)).trans k22)
  simp [f3, k24, R6_13, f6, wrap_nat i (by omega)]
  generalize hK5 : Tr.put K4 2 _ = K5
  have g5 : ∀ c, c ≠ 2 → K5.get c = K4.get c := fun c hc => by rw [← hK5]; simp [hc]
  have x5 : K5.get 2 = some (.cells 2 [] [vt, .sl (m2 + 1) 0 (i + 1) 6] .nil) := by rw [← hK5]; simp
  clear hK5
  generalize hF2 : (Fp 6 _ _ : Fr) = F2
  have w1 : F2.get 1 = some (.ptr 0 0) := by rw [← hF2]; simp [f1]
  have w2 : F2.get 2 = some (.ptr 1 0) := by rw [← hF2]; simp [f2]
  have w3 : F2.get 3 = some (.ptr 2 0) := by rw [← hF2]; simp [f3]
  have w4 : F2.get 6 = some (.int .i64 ((i + 1 : Nat) : Int)) := by rw [← hF2]; simp
  clear hF2
  have bk : ∀ c, c < m → c ≠ 2 → blk vi ≠ some c → K5.get c = K.get c := fun c h1 h2 h3 => (g5 c h2).trans ((g4 c (by omega) h3).trans ((g3 c (by omega) (by omega)).trans (b2 c h1)))
  have oa5 : OwnS K5 (m2 + 1 + 1) (.sl (m2 + 1) 0 (i + 1) 6) ((eIxd.l (s.indexes.take i) ++ [.int .u32 s.indexes[i].id, .int .u32 s.indexes[i].table, .str s.indexes[i].name]) ++ v :: [.bool s.indexes[i].uniq, .int .u32 s.indexes[i].root]) (i + 1) 6 := by
   have := o4.frame (H' := K5) (n' := m2 + 1 + 1) (by omega) fun c hc => g5 c (by simp at hc; omega)
   simpa using this
  have ov5 : OwnS K5 (m2 + 1 + 1) v (eInt.l s.indexes[i].cols) s.indexes[i].cols.length 1 := hv.frame (by omega) fun c hc => by
   have h1 := dv c hc
   have h2 := hv.blkLt hc
   exact (g5 c (by omega)).trans ((g4 c (by omega) fun h => by have := hta c h; omega).trans (g3 c (by omega) h2))
  have nv : ∀ c, c < m → blk v ≠ some c := fun c h1 h2 => by have := dv c h2; omega
  obtain ⟨hh, K6, hsh, oa6, g6⟩ := shutMid (F := F2) (F2 := F2) (fun t v hv => hv) oa5 (by omega) ov5 (by omega) (by simp) (fun c hc hc2 => by
   have := hv.blkLt hc2
   simp at hc
   omega)
  have na : ∀ c, c < m → blk (AV.sl (m2 + 1) 0 (i + 1) 6) ≠ some c := fun c h1 h2 => by simp at h2; omega
  have nt : ∀ c, c < 3 → blk vi ≠ some c := fun c h1 h2 => by have := (M.di c h2).1; omega
  refine ⟨s.indexes.length - (i + 1), by omega, hh, F2, K6, hsh, i + 1, rfl, hlt, ⟨w1, w2, w3⟩, w4, ⟨.sl (m2 + 1) 0 (i + 1) 6, by omega, ?_, ?_, ?_, ?_, ?_, M.dt, fun c hc => ⟨by simp at hc; omega, fun h => by have := htb c h; simp at hc; omega⟩⟩, rfl⟩
  · exact (g6 0 (na 0 (by omega)) (nv 0 (by omega))).trans ((bk 0 (by omega) (by omega) (nt 0 (by omega))).trans M.k0)
  · exact (g6 1 (na 1 (by omega)) (nv 1 (by omega))).trans ((bk 1 (by omega) (by omega) (nt 1 (by omega))).trans M.k1)
  · exact (g6 2 (na 2 (by omega)) (nv 2 (by omega))).trans x5
  ·
   exact M.ot.frame (by omega) fun c hc => by
    have h1 := htb c hc
    have h2 := M.dt c hc
    exact (g6 c (na c h1) (nv c h1)).trans (bk c h1 (by omega) fun h => (M.di c h).2 hc)
  ·
   have e : eIxd.l (s.indexes.take (i + 1)) = (eIxd.l (s.indexes.take i) ++ [.int .u32 s.indexes[i].id, .int .u32 s.indexes[i].table, .str s.indexes[i].name]) ++ .ds (eInt.l s.indexes[i].cols) s.indexes[i].cols.length 1 :: [.bool s.indexes[i].uniq, .int .u32 s.indexes[i].root] := by
    rw [List.take_add_one, List.getElem?_eq_getElem hlt, Option.toList, Enc.l_append, Enc.l_one, eIxd_c]; simp [Enc.ds]
   rw [e]
   exact oa6
 ·
  obtain rfl : i = s.indexes.length := by omega
  simp [L6_1, R6_9, f1, f6, k0, Enc.len_ds]
  exact hQ vi _ K m ⟨by simp [f1], by simp [f2], by simp [f3]⟩ M
theorem copy6 (s : Sch) (hs : s.fine) : FnPure Try.prog 6 [eSch.av s] (eSch.av s) := by
 refine pureV c6 (by simp) (by simp) (by simp [A6]) fun F hF => ?_
 have ht := hs.t
 have hi := hs.i
 unfold lim at ht hi
 simp [A6, B6, R6_0, R6_1, R6_2, hF, Enc.av]
 refine copy6a s hs _ _ _ _ ⟨by simp, by simp, by simp⟩ (by simp) ⟨by omega, by simp, by simp, by simp, by simpa using OwnS.nil _ _ 4, by simpa using OwnS.nil _ _ 6, by simp, by simp⟩ fun vt F K m ⟨f1, f2, f3⟩ M => ?_
 simp [R6_8]
 refine copy6b s hs vt _ _ _ _ ⟨by simp [f1], by simp [f2], by simp [f3]⟩ (by simp) M fun vi F K m ⟨f1, f2, f3⟩ M => ?_
 have k1 := M.k1
 have k2 := M.k2
 have ot := M.ot
 have oi := M.oi
 have h1 := ot.isOne
 have h2 := oi.isOne
 rw [List.take_length] at ot oi
 have dt := M.dt
 have di := M.di
 simp [R6_14, f2, f3, k1, k2, h1, h2]
 refine .agg _ _ _ ?_
 rw [eSch_c]
 refine .cons _ _ _ _ ?_ (.cons _ _ _ _ ?_ .nil)
 ·
  exact (ot.frame (Nat.le_refl _) fun c hc => by
   have := dt c hc
   simp [show ¬ c = 1 by omega]).frz (FrzL.pure (by simp)) (by omega)
 ·
  exact (oi.frame (Nat.le_refl _) fun c hc => by
   have := (di c hc).1
   simp [show ¬ c = 1 by omega]).frz (FrzL.pure (by simp)) (by omega)
end Go.Abs
