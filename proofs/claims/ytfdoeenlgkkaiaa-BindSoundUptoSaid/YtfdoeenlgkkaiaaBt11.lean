/- A function that only reads, called at a block that is shut for good. -/
import Derived.Test.YtfdoeenlgkkaiaaBdA
namespace Go.Abs
theorem FnPure.callS {P : Program} {g : FuncId} {args args' : List AV} {v : AV} (h : FnPure P g args' v) {hh : Hf} {H H2 : Hp} (n : Nat) (s : Shuts hh .nil H .nil H2) (hz : FrzL hh args args') : CallR P g args H n (fun u K k => u = v ∧ K = H2 ∧ k = n) := by
 refine ⟨h.body, fun φ D w xs hr hv hf RR hR => ?_⟩
 refine ((h.callR H2 n).2 φ (shut φ D hh w) w xs (s.rel hr) ((hz.vrs (hr.sub s.sub) hv).mono (fun b p hb => by simp [PhN] at hb) (fun _ _ h => h)) hf RR fun u K k φ' D' w' x a e r k => hR u K _ φ' D' w' x a (s.ext.trans e) r k)
theorem shutOne (H : Hp) (b : Nat) : Shuts (fun c => if c = b then H.get c else none) .nil H .nil (H.put b none) := by
 refine ⟨fun c k h => ?_, fun c h => ?_, fun t v hv => by simp at hv, fun c y hy => ?_⟩
 ·
  split at h
  · exact h
  · cases h
 ·
  by_cases e : c = b
  · simp [e]
  · simp [e] at h
 ·
  rw [Tr.get_put] at hy
  split at hy
  · cases hy
  · exact ⟨y, hy, .inl rfl⟩
end Go.Abs
namespace Go.Abs
open Go.Proofs
open Classical
set_option maxRecDepth 100000
structure SelOk (b : Bnd) : Prop where
 on : b.on.length = b.frm.length
 nm : b.names.length = b.items.length
 kn : b.kinds.length = b.items.length
 fl : b.frm.length ≤ lim
 fc : ∀ t ∈ b.frm, t.cols.length ≤ lim
 fk : (kindsS b.frm).length ≤ lim
 onl : ∀ i (h : i < b.on.length), CondsOk b.on[i] (kindsS (b.frm.take (i + 1))) ∧ b.on[i].length ≤ lim ∧ ∀ e ∈ b.on[i], e.sz ≤ lim
 il : b.items.length ≤ lim
 it : ∀ i (h : i < b.items.length) (h2 : i < b.kinds.length), b.items[i].sz ≤ lim ∧ b.items[i].kindOf (kindsS b.frm) = (b.kinds[i], 0)
 ol : b.order.length ≤ lim
 od : ∀ k ∈ b.order, 0 ≤ k.1 ∧ k.1 < (b.items.length : Int)
 cond : CondsOk b.cond (kindsS b.frm)
structure BndOk (b : Bnd) : Prop where
 tl : b.table.cols.length ≤ lim
 rows : b.rows.length ≤ lim
 rowl : ∀ r ∈ b.rows, r.length = b.table.kinds.length ∧ FitOk r b.table.kinds [] ∧ ∀ e ∈ r, e.sz ≤ lim
 new : b.kind = 7 → b.new.length = b.table.kinds.length ∧ FitOk b.new b.table.kinds b.table.kinds ∧ ∀ e ∈ b.new, e.sz ≤ lim
 cl : b.cond.length ≤ lim
 cz : ∀ e ∈ b.cond, e.sz ≤ lim
 cond : b.kind ≠ 8 → CondsOk b.cond b.table.kinds
 sel : b.kind = 8 → SelOk b
noncomputable def M3 : CT := (.seq (.seq R3_2 (.cond (slotG 23) (.seq R3_3 .ret) .skip)) (.seq R3_4 (.seq (.seq R3_5 (.block 0 (.loop L3_0))) (.seq (.seq R3_10 (.cond (slotG 90) (.seq R3_11 .ret) .skip)) (.seq (.seq R3_12 (.cond (slotG 93) (.seq R3_13 .ret) .skip)) (.seq (.seq R3_14 (.cond (slotG 125) (.seq R3_15 .ret) .skip)) (.seq (.seq R3_16 (.block 2 (.loop L3_1))) (.seq R3_21 (.seq (.seq R3_22 (.block 4 (.loop L3_2))) (.seq (.seq R3_28 (.block 6 (.loop L3_3))) (.seq R3_33 .ret)))))))))))
theorem b3 : B3 = (.seq R3_0 (.seq R3_1 M3)) := rfl
structure BcF (b : Bnd) (bc : List AV) : Prop where
 q0 : bc[0]? = some (.int .i64 b.kind)
 q13 : bc[13]? = some (eRow.ds b.rows)
 q14 : bc[14]? = some (eEx.ds b.new)
 q15 : bc[15]? = some (eTbl.ds b.frm)
 q16 : bc[16]? = some (eRow.ds b.on)
 q17 : bc[17]? = some (eEx.ds b.cond)
 q18 : bc[18]? = some (eEx.ds b.items)
 q19 : bc[19]? = some (eStr.ds b.names)
 q20 : bc[20]? = some (eInt.ds b.kinds)
 q21 : bc[21]? = some (eKey.ds b.order)
 qt : grab 25 [] bc .nil 2 4 = some (eTbl.cells b.table)
theorem bcF (b : Bnd) : BcF b b.cells := ⟨rfl, rfl, rfl, rfl, rfl, rfl, rfl, rfl, rfl, rfl, by
 have h : (b.cells.drop 2).take 4 = eTbl.cells b.table := rfl
 have hl : b.cells.length = 25 := rfl
 simp [h, hl]⟩
structure SoF (bc : List AV) (own : List Int) (F : Fr) (K : Hp) : Prop where
 f5 : F.get 5 = some (.ptr 2 0)
 f7 : F.get 7 = some (eInt.ds own)
 k2 : K.get 2 = some (.cells 25 [] bc .nil)
theorem sound3l0 (b : Bnd) (bc : List AV) (B : BcF b bc) (O : BndOk b) (F : Fr) (K : Hp) (n : Nat) (Q : QA) (S : SoF bc b.table.kinds F K) (f8 : F.get 8 = some (.int .i64 0))
  (hQ : ∀ F, SoF bc b.table.kinds F K → Q .normal F K n []) : LoopV L3_0 Try.prog F K n [] (BlkQ 0 Q) := by
 have hr := O.rows
 unfold lim at hr
 refine LoopV.of (fun q F K' n' ms => ∃ i : Nat, q = b.rows.length - i ∧ i ≤ b.rows.length ∧ SoF bc b.table.kinds F K ∧ F.get 8 = some (.int .i64 (i : Int)) ∧ K' = K ∧ n' = n ∧ ms = []) b.rows.length ⟨0, by simp, by simp, S, by simp [f8], rfl, rfl, rfl⟩ ?_
 clear S f8 F
 rintro q F K' n' ms ⟨i, rfl, hi, ⟨f5, f7, k2⟩, f8, rfl, rfl, rfl⟩
 have q13 := B.q13
 by_cases hlt : i < b.rows.length
 ·
  have hx := eRow.ix (ik := .i64) hlt
  rw [eRow_c] at hx
  obtain ⟨h1, h2, h3⟩ := O.rowl _ (List.getElem_mem hlt)
  have htl := O.tl
  have hkl : b.table.kinds.length ≤ lim := by simpa [Tbl.kinds] using htl
  have hfit := fit9 b.rows[i] b.table.kinds [] (by omega) h1 h3 (by simp) h2
  have hfit' : FnPure Try.prog 9 [eEx.ds b.rows[i], eInt.ds b.table.kinds, .cst (.slice none 0 0)] (.bool true) := hfit.conv (by simp) fun D xs hv => (show NL [eEx.ds b.rows[i], eInt.ds b.table.kinds, .cst (.slice none 0 0)] [eEx.ds b.rows[i], eInt.ds b.table.kinds, eInt.ds []] by simp).vrs hv
  simp [L3_0, R3_6, R3_7, f5, f7, f8, k2, q13, Enc.len_ds, hlt, hx, h1]
  refine CalV.pure hfit' ?_
  simp [R3_9, f8, wrap_nat i (by omega)]
  exact ⟨_, by omega, i + 1, rfl, hlt, ⟨by simp [f5], by simp [f7], k2⟩, by simp⟩
 ·
  obtain rfl : i = b.rows.length := by omega
  simp [L3_0, R3_6, f5, f8, k2, q13, Enc.len_ds]
  exact hQ _ ⟨by simp [f5], by simp [f7], k2⟩
structure SqF (bc : List AV) (own ks : List Int) (F : Fr) (K : Hp) : Prop where
 f5 : F.get 5 = some (.ptr 2 0)
 f7 : F.get 7 = some (eInt.ds own)
 f10 : F.get 10 = some (eInt.ds ks)
 k2 : K.get 2 = some (.cells 25 [] bc .nil)
theorem sound3l1 (b : Bnd) (bc : List AV) (B : BcF b bc) (O : SelOk b) (own : List Int) (F : Fr) (K : Hp) (n : Nat) (Q : QA) (S : SoF bc own F K) (f9 : F.get 9 = some (.int .i64 0))
  (hQ : ∀ F, SoF bc own F K → Q .normal F K n []) : LoopV L3_1 Try.prog F K n [] (BlkQ 2 Q) := by
 have hr := O.fl
 have hon := O.on
 unfold lim at hr
 refine LoopV.of (fun q F K' n' ms => ∃ i : Nat, q = b.on.length - i ∧ i ≤ b.on.length ∧ SoF bc own F K ∧ F.get 9 = some (.int .i64 (i : Int)) ∧ K' = K ∧ n' = n ∧ ms = []) b.on.length ⟨0, by simp, by simp, S, by simp [f9], rfl, rfl, rfl⟩ ?_
 clear S f9 F
 rintro q F K' n' ms ⟨i, rfl, hi, ⟨f5, f7, k2⟩, f9, rfl, rfl, rfl⟩
 have q15 := B.q15
 have q16 := B.q16
 by_cases hlt : i < b.on.length
 ·
  have hx := eRow.ix (ik := .i64) hlt
  rw [eRow_c] at hx
  obtain ⟨h1, h2, h3⟩ := O.onl i hlt
  have hsl : cSlc 4 none (some (.int .i64 ((i : Int) + 1))) none (eTbl.ds b.frm) = .val (eTbl.ds (b.frm.take (i + 1))) := by
   have := eTbl.slHi (l := b.frm) (i := i + 1) (by omega)
   simpa using this
  have hkl := kindsS_le b.frm (i + 1)
  have hfk := O.fk
  have c8 := kinds8 (b.frm.take (i + 1)) (by omega) (by simp; unfold lim; omega) fun t ht => O.fc t (List.mem_of_mem_take ht)
  have c10 := conds10 b.on[i] (kindsS (b.frm.take (i + 1))) h2 h3 (by omega) h1
  generalize kindsS (b.frm.take (i + 1)) = ks at c8 c10
  simp only [L3_1, R3_17, R3_18]
  simp [f5, f9, k2, q16, Enc.len_ds, hlt]
  refine DrwV.of (ceL_ok (l := [⟨8, [eTbl.ds (b.frm.take (i + 1))], K', n', eInt.ds ks, K', n'⟩, ⟨10, [eEx.ds b.on[i], eInt.ds ks], K', n', .bool true, K', n'⟩]) ?_) ?_
  ·
   simp only [List.mem_cons, List.not_mem_nil, or_false]
   rintro c (rfl | rfl)
   · exact c8.callOk K' n'
   · exact c10.callOk K' n'
  have e2 : ∀ c1, (ceL [⟨8, [eTbl.ds (b.frm.take (i + 1))], K', n', eInt.ds ks, K', n'⟩, ⟨10, [eEx.ds b.on[i], eInt.ds ks], K', n', .bool true, K', n'⟩]).call 10 c1 K' n' = (ceL [⟨10, [eEx.ds b.on[i], eInt.ds ks], K', n', .bool true, K', n'⟩]).call 10 c1 K' n' := fun c1 => ceL_tl (by decide)
  simp [clearF_get, f5, f9, k2, q15, q16, hx, eSl, oev, hsl, wrap_nat i (by omega), ceL_hd, e2]
  simp [clearF_get, R3_20, f9, wrap_nat i (by omega)]
  exact ⟨_, by omega, i + 1, rfl, hlt, ⟨by simp [clearF_get, f5], by simp [clearF_get, f7], k2⟩, by simp⟩
 ·
  obtain rfl : i = b.on.length := by omega
  simp [L3_1, R3_17, f5, f9, k2, q16, Enc.len_ds]
  exact hQ _ ⟨by simp [f5], by simp [f7], k2⟩
theorem sound3l2 (b : Bnd) (bc : List AV) (B : BcF b bc) (O : SelOk b) (own : List Int) (F : Fr) (K : Hp) (n : Nat) (Q : QA) (S : SqF bc own (kindsS b.frm) F K) (f11 : F.get 11 = some (.int .i64 0))
  (hQ : ∀ F, SqF bc own (kindsS b.frm) F K → Q .normal F K n []) : LoopV L3_2 Try.prog F K n [] (BlkQ 4 Q) := by
 have hr := O.il
 have hkn := O.kn
 unfold lim at hr
 refine LoopV.of (fun q F K' n' ms => ∃ i : Nat, q = b.items.length - i ∧ i ≤ b.items.length ∧ SqF bc own (kindsS b.frm) F K ∧ F.get 11 = some (.int .i64 (i : Int)) ∧ K' = K ∧ n' = n ∧ ms = []) b.items.length ⟨0, by simp, by simp, S, by simp [f11], rfl, rfl, rfl⟩ ?_
 clear S f11 F
 rintro q F K' n' ms ⟨i, rfl, hi, ⟨f5, f7, f10, k2⟩, f11, rfl, rfl, rfl⟩
 have q18 := B.q18
 have q20 := B.q20
 by_cases hlt : i < b.items.length
 ·
  have hx := eEx.ix (ik := .i64) hlt
  have hld := fun H => eEx.ldN b.items[i] (eEx.l (b.items.drop (i + 1))) H
  have hlk : i < b.kinds.length := by omega
  have hxk := eInt.ix (ik := .i64) hlk
  rw [eInt_c] at hxk
  obtain ⟨h1, h2⟩ := O.it i hlt hlk
  have hkd := kind11 (kindsS b.frm) O.fk b.items[i] h1
  rw [h2] at hkd
  have hav : b.items[i].av = .agg b.items[i].cells 8 := Eq.trans rfl rfl
  rw [hav, ← eInt_ds] at hkd
  simp [L3_2, R3_23, R3_24, f5, f10, f11, k2, q18, Enc.len_ds, hlt, hx, hld, Enc.av, eEx_c]
  refine CalV.pure hkd ?_
  simp [R3_25, f5, f11, k2, q20, hxk, R3_27, wrap_nat i (by omega)]
  exact ⟨_, by omega, i + 1, rfl, hlt, ⟨by simp [f5], by simp [f7], by simp [f10], k2⟩, by simp⟩
 ·
  obtain rfl : i = b.items.length := by omega
  simp [L3_2, R3_23, f5, f11, k2, q18, Enc.len_ds]
  exact hQ _ ⟨by simp [f5], by simp [f7], by simp [f10], k2⟩
theorem sound3l3 (b : Bnd) (bc : List AV) (B : BcF b bc) (O : SelOk b) (own : List Int) (F : Fr) (K : Hp) (n : Nat) (Q : QA) (S : SqF bc own (kindsS b.frm) F K) (f14 : F.get 14 = some (.int .i64 0))
  (hQ : ∀ F, SqF bc own (kindsS b.frm) F K → Q .normal F K n []) : LoopV L3_3 Try.prog F K n [] (BlkQ 6 Q) := by
 have hr := O.ol
 unfold lim at hr
 refine LoopV.of (fun q F K' n' ms => ∃ i : Nat, q = b.order.length - i ∧ i ≤ b.order.length ∧ SqF bc own (kindsS b.frm) F K ∧ F.get 14 = some (.int .i64 (i : Int)) ∧ K' = K ∧ n' = n ∧ ms = []) b.order.length ⟨0, by simp, by simp, S, by simp [f14], rfl, rfl, rfl⟩ ?_
 clear S f14 F
 rintro q F K' n' ms ⟨i, rfl, hi, ⟨f5, f7, f10, k2⟩, f14, rfl, rfl, rfl⟩
 have q18 := B.q18
 have q21 := B.q21
 by_cases hlt : i < b.order.length
 ·
  have hx := eKey.ix (ik := .i64) hlt
  rw [eKey_c] at hx
  obtain ⟨h1, h2⟩ := O.od _ (List.getElem_mem hlt)
  have h1' : ¬ b.order[i].1 < 0 := by omega
  have h2' : ¬ (b.items.length : Int) ≤ b.order[i].1 := by omega
  simp only [L3_3, R3_29, R3_30]
  simp [f5, f14, k2, q21, Enc.len_ds, hlt]
  refine DrwV.of (ce0_ok (P := Try.prog)) ?_
  simp [clearF_get, f5, f14, k2, q18, q21, hx, h1', h2', Enc.len_ds]
  simp [clearF_get, R3_32, f14, wrap_nat i (by omega)]
  exact ⟨_, by omega, i + 1, rfl, hlt, ⟨by simp [clearF_get, f5], by simp [clearF_get, f7], by simp [clearF_get, f10], k2⟩, by simp⟩
 ·
  obtain rfl : i = b.order.length := by omega
  simp [L3_3, R3_29, f5, f14, k2, q21, Enc.len_ds]
  exact hQ _ ⟨by simp [f5], by simp [f7], by simp [f10], k2⟩
theorem kindsS_one (t : Tbl) : kindsS [t] = t.kinds := by simp [kindsS]
theorem sound3b (b : Bnd) (bc : List AV) (B : BcF b bc) (err : Int) (he : err ≠ 0 → b = bndZ) (h : err = 0 → BndOk b) (F : Fr) (K : Hp) (f5 : F.get 5 = some (.ptr 2 0)) (f6 : F.get 6 = some (.int .i64 err)) (k2 : K.get 2 = some (.cells 25 [] bc .nil)) :
  VC Try.prog M3 F K 3 [] (RetQ [rTmp 4] fun v1 H' _ => Frz H'.get v1 (.bool true)) := by
 have q0 := B.q0
 have q14 := B.q14
 have q15 := B.q15
 have q16 := B.q16
 have q17 := B.q17
 have q18 := B.q18
 have q19 := B.q19
 have q20 := B.q20
 have qt := B.qt
 by_cases h0 : err = 0
 ·
  subst h0
  have O := h rfl
  have htl := O.tl
  have hkl : b.table.kinds.length ≤ lim := by simpa [Tbl.kinds] using htl
  have c8 := kinds8 [b.table] (by rw [kindsS_one]; exact hkl) (by simp [lim]) (by simpa using htl)
  rw [kindsS_one] at c8
  simp [M3, R3_2, R3_4, f5, f6, k2, qt]
  generalize hK1 : Tr.put K 3 _ = K1
  have g1 : K1.get 2 = some (.cells 25 [] bc .nil) := by rw [← hK1]; simp [k2]
  have x1 : K1.get 3 = some (.cells 4 [] (eTbl.cells b.table) .nil) := by rw [← hK1]; simp
  clear hK1
  have hz : FrzL (fun c => if c = 3 then K1.get c else none) [.sl 3 0 1 4] [eTbl.ds [b.table]] := by
   refine .cons _ _ _ _ (.sl 3 0 1 4 4 [] (eTbl.cells b.table) .nil (eTbl.cells b.table) _ (by simp [x1]) (by simp) ?_) .nil
   rw [Enc.l_one]
   exact FrzL.pure (by simp)
  refine CalV.of (c8.callS 4 (shutOne K1 3) hz) ?_
  rintro v K2 n2 ⟨rfl, rfl, rfl⟩
  have g2 : (K1.put 3 none).get 2 = some (.cells 25 [] bc .nil) := by simp [g1]
  generalize K1.put 3 none = K2 at g2 ⊢
  simp [R3_5]
  refine sound3l0 b bc B O _ _ _ _ ⟨by simp [f5], by simp, g2⟩ (by simp) fun F3 ⟨f5, f7, _⟩ => ?_
  have hupd : b.kind = 7 → b.new.length = b.table.kinds.length ∧ FnPure Try.prog 9 [eEx.ds b.new, eInt.ds b.table.kinds, eInt.ds b.table.kinds] (.bool true) := fun hk => by
   obtain ⟨h1, h2, h3⟩ := O.new hk
   exact ⟨h1, fit9 b.new b.table.kinds b.table.kinds (by omega) h1 h3 hkl h2⟩
  have tail : ∀ F4 : Fr, SoF bc b.table.kinds F4 K2 → VC Try.prog (.seq (.seq R3_12 (.cond (slotG 93) (.seq R3_13 .ret) .skip)) (.seq (.seq R3_14 (.cond (slotG 125) (.seq R3_15 .ret) .skip)) (.seq (.seq R3_16 (.block 2 (.loop L3_1))) (.seq R3_21 (.seq (.seq R3_22 (.block 4 (.loop L3_2))) (.seq (.seq R3_28 (.block 6 (.loop L3_3))) (.seq R3_33 .ret))))))) F4 K2 4 [] (RetQ [rTmp 4] fun v1 H' _ => Frz H'.get v1 (.bool true)) := by
   clear f5 f7
   rintro F4 ⟨f5, f7, _⟩
   by_cases h8 : b.kind = 8
   ·
    have S := O.sel h8
    have hon := S.on
    have hnm := S.nm
    have hkn := S.kn
    have c8' := kinds8 b.frm S.fk S.fl S.fc
    have c10 := conds10 b.cond (kindsS b.frm) O.cl O.cz S.fk S.cond
    simp [R3_12, R3_14, f5, g2, q0, q15, q16, q18, q19, q20, Enc.len_ds, h8, hon, hnm, hkn, R3_16]
    refine sound3l1 b bc B S b.table.kinds _ _ _ _ ⟨by simp [f5], by simp [f7], g2⟩ (by simp) fun F5 ⟨f5, f7, _⟩ => ?_
    simp [R3_21, f5, g2, q15]
    refine CalV.pure c8' ?_
    simp [R3_22]
    refine sound3l2 b bc B S b.table.kinds _ _ _ _ ⟨by simp [f5], by simp [f7], by simp, g2⟩ (by simp) fun F6 ⟨f5, f7, f10, _⟩ => ?_
    simp [R3_28]
    refine sound3l3 b bc B S b.table.kinds _ _ _ _ ⟨by simp [f5], by simp [f7], by simp [f10], g2⟩ (by simp) fun F7 ⟨f5, f7, f10, _⟩ => ?_
    simp [R3_33, f5, f10, g2, q17]
    refine CalV.pure c10 ?_
    simp
    refine CalV.pure awake7 ?_
    simp
    exact .bool rfl
   ·
    have c10 := conds10 b.cond b.table.kinds O.cl O.cz hkl (O.cond h8)
    simp [R3_12, R3_13, f5, f7, g2, q0, q17, h8]
    refine CalV.pure c10 ?_
    simp
    refine CalV.pure awake7 ?_
    simp
    exact .bool rfl
  by_cases h7 : b.kind = 7
  ·
   obtain ⟨h1, h2⟩ := hupd h7
   simp [R3_10, f5, f7, g2, q0, q14, h7, Enc.len_ds, h1]
   refine CalV.pure h2 ?_
   simp
   generalize hF4 : (Fp 90 _ _ : Fr) = F4
   have := tail F4 ⟨by rw [← hF4]; simp [f5], by rw [← hF4]; simp [f7], g2⟩
   simpa using this
  ·
   simp [R3_10, f5, f7, g2, q0, h7]
   generalize hF4 : (Fp 90 _ _ : Fr) = F4
   have := tail F4 ⟨by rw [← hF4]; simp [f5], by rw [← hF4]; simp [f7], g2⟩
   simpa using this
 ·
  have hb := he h0
  subst hb
  simp [M3, R3_2, R3_3, f5, f6, k2, h0, q0, q15, q18, Enc.len_ds, bndZ]
  refine CalV.pure awake7 ?_
  simp
  exact .bool rfl
theorem sound3 (s : Sch) (hs : s.fine) (x : Stm) (hx : x.sm) (h : (bindB s x).2 = 0 → BndOk (bindB s x).1) : FnPure Try.prog 3 [eSch.av s, x.av] (.bool true) := by
 refine pureV c3 (by simp) (by simp) (by simp [A3]) fun F hF => ?_
 have hc := copy6 s hs
 have hb := bind5 s hs x hx
 have he : (bindB s x).2 ≠ 0 → (bindB s x).1 = bndZ := by
  unfold bindB finB
  split
  ·
   split
   · rename_i h; intro h2; exact absurd h h2
   · intro _; rfl
  · intro _; rfl
 have hav : x.av = .agg x.cells 31 := Eq.trans rfl rfl
 have hsv : eSch.av s = .agg [eTbl.ds s.tables, eIxd.ds s.indexes] 2 := rfl
 have xl := x.cells_len
 rw [hav] at hF hb
 rw [hsv] at hF hb hc
 generalize bindB s x = R at *
 obtain ⟨b, err⟩ := R
 generalize x.cells = xs at *
 simp only at h he hb
 have hone := b.one
 have hlen : b.cells.length = 25 := rfl
 have B := bcF b
 generalize hbb : b.cells = bc at *
 simp [A3, B3, R3_0, hF, xl]
 generalize hK : Tr.put _ 1 _ = K
 have k0 : K.get 0 = some (.cells 2 [] [eTbl.ds s.tables, eIxd.ds s.indexes] .nil) := by rw [← hK]; simp
 have k1 : K.get 1 = some (.cells 31 [] xs .nil) := by rw [← hK]; simp
 have kt : Top K 2 := fun c hc => by rw [← hK]; simp [show ¬ c = 0 by omega, show ¬ c = 1 by omega]
 clear hK
 simp only [R3_1]
 simp
 refine DrwV.of (ceL_ok (l := [⟨6, [.agg [eTbl.ds s.tables, eIxd.ds s.indexes] 2], K, 2, .agg [eTbl.ds s.tables, eIxd.ds s.indexes] 2, K, 2⟩, ⟨5, [.agg [eTbl.ds s.tables, eIxd.ds s.indexes] 2, .agg xs 31], K, 2, .tup [.agg bc 25, .int .i64 err], K, 2⟩]) ?_) ?_
 ·
  simp only [List.mem_cons, List.not_mem_nil, or_false]
  rintro c (rfl | rfl)
  · exact hc.callOk K 2
  · exact hb.callOk K 2
 have e2 : ∀ c1, (ceL [⟨6, [.agg [eTbl.ds s.tables, eIxd.ds s.indexes] 2], K, 2, .agg [eTbl.ds s.tables, eIxd.ds s.indexes] 2, K, 2⟩, ⟨5, [.agg [eTbl.ds s.tables, eIxd.ds s.indexes] 2, .agg xs 31], K, 2, .tup [.agg bc 25, .int .i64 err], K, 2⟩]).call 5 c1 K 2 = (ceL [⟨5, [.agg [eTbl.ds s.tables, eIxd.ds s.indexes] 2, .agg xs 31], K, 2, .tup [.agg bc 25, .int .i64 err], K, 2⟩]).call 5 c1 K 2 := fun c1 => ceL_tl (by decide)
 have tm := kt 2 (Nat.le_refl _)
 simp [clearF_get, hF, k0, k1, xl, ceL_hd, e2, noneAt_cons, noneAt_nil, tm, hone, hlen]
 generalize hF2 : (Fp 6 _ _ : Fr) = F2
 generalize hK2 : Tr.put _ 2 _ = K2
 have := sound3b b bc B err he h F2 K2 (by rw [← hF2]; simp) (by rw [← hF2]; simp) (by rw [← hK2]; simp)
 simpa [M3] using this
end Go.Abs
namespace Go.Abs
open Classical
set_option maxRecDepth 100000
theorem wantE_ok {op : Int} (h : 4 ≤ op ∧ op ≤ 21) : (wantE op).2 = true ∧ (wantE op).1.n = (if op ≤ 7 then 1 else 2) := by
 have : op = 4 ∨ op = 5 ∨ op = 6 ∨ op = 7 ∨ op = 8 ∨ op = 9 ∨ op = 10 ∨ op = 11 ∨ op = 12 ∨ op = 13 ∨ op = 14 ∨ op = 15 ∨ op = 16 ∨ op = 17 ∨ op = 18 ∨ op = 19 ∨ op = 20 ∨ op = 21 := by omega
 rcases this with h | h | h | h | h | h | h | h | h | h | h | h | h | h | h | h | h | h <;> subst h <;> simp [wantE]
mutual
theorem Ex.bd_ok {ns : List (List Nat)} {ts : List Tbl} (hn : ns.length = ts.length) : ∀ (e : Ex) (err : Int), e.may = true → (e.bd ns ts err).2.2 = 0 → err = 0 ∧ (e.bd ns ts err).1.right (kindsS ts).length = true ∧ (e.bd ns ts err).1.kind (kindsS ts) = ((e.bd ns ts err).2.1, 0)
 | .mk op v t m col args, err, hm, h => by
  unfold Ex.may at hm
  unfold Ex.bd at h ⊢
  by_cases h2 : op = 2
  ·
   subst h2
   simp only [if_true] at h ⊢
   by_cases hp : (placeS ns ts t m).2 = 0
   ·
    have hlt := placeS_lt hn hp
    simp only [hp, if_true] at h ⊢
    refine ⟨h, ?_, ?_⟩
    · simp [Ex.right, hlt]
    · simp [Ex.kind]
   ·
    simp only [hp, if_false] at h
    obtain ⟨_, h3⟩ := keep_ne hp h
    cases h3
  by_cases h1 : op = 1
  ·
   subst h1
   simp at hm h ⊢
   obtain ⟨⟨_, _, _, rfl⟩, hv, _⟩ := hm
   exact ⟨h, by simp [Ex.right, hv], by simp [Ex.kind]⟩
  ·
   rw [if_neg h1, if_neg h2] at hm
   rw [if_neg h2, if_neg h1] at h ⊢
   simp only [Bool.and_eq_true, decide_eq_true_eq] at hm
   obtain ⟨hop, hlen, _, hml⟩ := hm
   obtain ⟨hw1, hw2⟩ := wantE_ok hop
   simp only at h ⊢
   obtain ⟨h3, h4⟩ := keep_ne (by decide) h
   obtain ⟨he, hr, hk⟩ := Ex.bdL_ok hn args err hml h3
   refine ⟨he, ?_, ?_⟩
   · simp [Ex.right, h1, show ¬ op = 3 by omega, hw1, hr, Ex.bdL_len, hlen, hw2]
   ·
    have hf : (wantE op).1.fits (Ex.bdL ns ts args err).2.1 = true := by simpa using h4
    simp [Ex.kind, h1, show ¬ op = 3 by omega, hk, hf]
theorem Ex.bdL_ok {ns : List (List Nat)} {ts : List Tbl} (hn : ns.length = ts.length) : ∀ (l : List Ex) (err : Int), Ex.mayL l = true → (Ex.bdL ns ts l err).2.2 = 0 → err = 0 ∧ Ex.rightL (kindsS ts).length (Ex.bdL ns ts l err).1 = true ∧ Ex.kindL (kindsS ts) (Ex.bdL ns ts l err).1 = ((Ex.bdL ns ts l err).2.1, 0)
 | [], err, _, h => ⟨h, rfl, rfl⟩
 | e :: r, err, hm, h => by
  simp only [Ex.mayL, Bool.and_eq_true] at hm
  unfold Ex.bdL at h ⊢
  simp only at h ⊢
  obtain ⟨h1, h2, h3⟩ := Ex.bdL_ok hn r _ hm.2 h
  obtain ⟨h4, h5, h6⟩ := Ex.bd_ok hn e err hm.1 h1
  exact ⟨h4, by simp [Ex.rightL, h5, h2], by simp [Ex.kindL, h6, h3]⟩
end
theorem Ex.bd_kindOf {ns : List (List Nat)} {ts : List Tbl} (hn : ns.length = ts.length) {e : Ex} {err : Int} (hm : e.may = true) (h : (e.bd ns ts err).2.2 = 0) : err = 0 ∧ (e.bd ns ts err).1.kindOf (kindsS ts) = ((e.bd ns ts err).2.1, 0) := by
 obtain ⟨h1, h2, h3⟩ := Ex.bd_ok hn e err hm h
 exact ⟨h1, by simp [Ex.kindOf, h2, h3]⟩
theorem Ex.split_ok (ks : List Int) : ∀ (N : Nat) (e : Ex), e.sz ≤ N → e.right ks.length = true → (e.kind ks).2 = 0 → ((e.kind ks).1 = 3 ∨ (e.kind ks).1 = 0) → CondsOk e.split ks
 | 0, e, h, _, _, _ => by have := Ex.sz_pos e; omega
 | N + 1, .mk op v t m col args, hs, hr, hk, hc => by
  by_cases h : op = 20 ∧ args.length = 2
  ·
   obtain ⟨rfl, hl⟩ := h
   match args, hl with
   | [a, b], _ =>
   rw [Ex.split_and]
   simp only [Ex.sz, Ex.szL] at hs
   simp [Ex.right, Ex.rightL] at hr
   obtain ⟨_, _, ra, rb⟩ := hr
   have hka : (a.kind ks).2 = 0 := by
    by_cases e : (a.kind ks).2 = 0
    · exact e
    · simp [Ex.kind, Ex.kindL, e] at hk
   have hkb : (b.kind ks).2 = 0 := by
    by_cases e : (b.kind ks).2 = 0
    · exact e
    · simp [Ex.kind, Ex.kindL, e, hka] at hk
   have hw : (wantE 20).1 = ⟨2, 3, 3, false, false⟩ := by simp [wantE]
   have hf : (wantE 20).1.fits [(a.kind ks).1, (b.kind ks).1] = true := by
    by_cases e : (wantE 20).1.fits [(a.kind ks).1, (b.kind ks).1] = true
    · exact e
    · simp [Ex.kind, Ex.kindL, e, hka, hkb] at hk
   rw [hw] at hf
   simp [Want.fits] at hf
   intro c hc
   rcases List.mem_append.1 hc with h1 | h1
   · exact Ex.split_ok ks N a (by omega) ra hka (by omega) c h1
   · exact Ex.split_ok ks N b (by omega) rb hkb (by omega) c h1
  ·
   rw [Ex.split_one h]
   intro c hcm
   simp at hcm
   subst hcm
   simp only [Ex.kindOf, hr, if_true, hk, true_and]
   omega
theorem condB_ok {ns : List (List Nat)} {ts : List Tbl} (hn : ns.length = ts.length) {e : Ex} {err : Int} (hm : e.maybe = true) (hz : e.sz ≤ lim) (h : (condB ns ts e err).2 = 0) : err = 0 ∧ CondsOk (condB ns ts e err).1 (kindsS ts) ∧ (condB ns ts e err).1.length ≤ lim ∧ ∀ c ∈ (condB ns ts e err).1, c.sz ≤ lim := by
 unfold condB at h ⊢
 by_cases h0 : e.bare 0
 ·
  simp only [h0, if_true] at h ⊢
  exact ⟨h, by simp [CondsOk], by simp, by simp⟩
 ·
  simp only [h0, if_false] at h ⊢
  have hmay : e.may = true := by simpa [Ex.maybe, h0] using hm
  obtain ⟨h1, h2⟩ := keep_ne (by decide) h
  obtain ⟨h3, h4, h5⟩ := Ex.bd_ok hn e err hmay h1
  have hb := Ex.bd_sz ns ts e err
  have hs := (Ex.split_sz _ (e.bd ns ts err).1 (Nat.le_refl _)).1
  have hk : (e.bd ns ts err).2.1 = 3 ∨ (e.bd ns ts err).2.1 = 0 := by
   by_cases e1 : (e.bd ns ts err).2.1 = 3
   · exact .inl e1
   ·
    right; by_cases e2 : (e.bd ns ts err).2.1 = 0
    · exact e2
    · simp [e1, e2] at h2
  refine ⟨h3, Ex.split_ok _ _ _ (Nat.le_refl _) h4 (by rw [h5]) (by rw [h5]; exact hk), ?_, fun c hc => ?_⟩
  ·
   have := Ex.sz_len (e.bd ns ts err).1.split
   omega
  ·
   have := Ex.sz_mem hc
   omega
theorem fitS_ok {ns : List (List Nat)} {ts : List Tbl} (hn : ns.length = ts.length) {e : Ex} {kind err : Int} (hm : e.may = true) (h : (fitS ns ts e kind err).2 = 0) : err = 0 ∧ ((fitS ns ts e kind err).1.kindOf (kindsS ts)).2 = 0 ∧ (((fitS ns ts e kind err).1.kindOf (kindsS ts)).1 = 0 ∨ ((fitS ns ts e kind err).1.kindOf (kindsS ts)).1 = kind) := by
 unfold fitS at h ⊢
 obtain ⟨h1, h2⟩ := keep_ne (by decide) h
 obtain ⟨h3, h4⟩ := Ex.bd_kindOf hn hm h1
 simp only at h4 ⊢
 rw [h4]
 refine ⟨h3, rfl, ?_⟩
 by_cases e1 : (e.bd ns ts err).2.1 = 0
 · exact .inl e1
 ·
  right; by_cases e2 : (e.bd ns ts err).2.1 = kind
  · exact e2
  · simp [e1, e2] at h2
theorem fitS_sz {ns : List (List Nat)} {ts : List Tbl} (e : Ex) (kind err : Int) : (fitS ns ts e kind err).1.sz ≤ e.sz := Ex.bd_sz ns ts e err
end Go.Abs
namespace Go.Abs
open Classical
set_option maxRecDepth 100000
def FitAt (c : Ex) (want : Int) (ks : List Int) : Prop := (c.kindOf ks).2 = 0 ∧ ((c.kindOf ks).1 = 0 ∨ (c.kindOf ks).1 = want)
theorem rowL_ok {cols : List Col} {r : List Ex} (hr : ∀ e ∈ r, e.sz ≤ lim ∧ e.may = true) : ∀ (i : Nat) (err : Int), i ≤ r.length → i ≤ cols.length → (rowL cols r i err).2 = 0 → err = 0 ∧ (∀ j (h : j < (rowL cols r i err).1.length), FitAt (rowL cols r i err).1[j] (colAt cols j).kind []) ∧ ∀ c ∈ (rowL cols r i err).1, c.sz ≤ lim
 | 0, err, _, _, h => ⟨h, by simp [rowL], by simp [rowL]⟩
 | i + 1, err, h1, h2, h => by
  have hlt : i < r.length := by omega
  have hmem : (exAt r i).sz ≤ lim ∧ (exAt r i).may = true := by
   rw [exAt_lt hlt]; exact hr _ (List.getElem_mem hlt)
  simp only [rowL] at h ⊢
  obtain ⟨h3, h4, h5⟩ := fitS_ok rfl hmem.2 h
  obtain ⟨h6, h7, h8⟩ := rowL_ok hr i err (by omega) (by omega) h3
  have hlen := rowL_len cols r err i
  refine ⟨h6, fun j hj => ?_, fun c hc => ?_⟩
  ·
   by_cases hji : j < i
   ·
    rw [List.getElem_append_left (by omega)]
    exact h7 j (by omega)
   ·
    have : j = i := by simp at hj; omega
    subst this
    rw [List.getElem_append_right (by omega)]
    simp only [hlen, Nat.sub_self, List.getElem_cons_zero]
    exact ⟨h4, h5⟩
  ·
   rcases List.mem_append.1 hc with h9 | h9
   · exact h8 c h9
   ·
    simp at h9
    subst h9
    exact Nat.le_trans (fitS_sz _ _ _) hmem.1
theorem insR_ok {t : Tbl} : ∀ (rows : List (List Ex)) (err : Int), (∀ r ∈ rows, ∀ e ∈ r, e.sz ≤ lim ∧ e.may = true) → (insR t rows err).2 = 0 → err = 0 ∧ (insR t rows err).1.length ≤ rows.length ∧ ∀ r ∈ (insR t rows err).1, r.length = t.kinds.length ∧ FitOk r t.kinds [] ∧ ∀ e ∈ r, e.sz ≤ lim
 | [], err, _, h => ⟨h, by simp [insR], by simp [insR]⟩
 | r :: rs, err, hr, h => by
  unfold insR at h ⊢
  split at h
  · rename_i h1; exact absurd h h1
  ·
   rename_i h1
   rw [if_neg h1]
   have h1 : keep err 204 (!decide (r.length = t.cols.length)) = 0 := by simpa using h1
   rw [h1] at h ⊢
   obtain ⟨he, hb⟩ := keep_ne (by decide) h1
   have hl : r.length = t.cols.length := by simpa using hb
   simp only at h ⊢
   obtain ⟨h2, h3, h4⟩ := insR_ok rs _ (fun r' h' => hr r' (List.mem_cons_of_mem _ h')) h
   obtain ⟨_, h6, h7⟩ := rowL_ok (cols := t.cols) (r := r) (hr r (by simp)) r.length 0 (Nat.le_refl _) (by omega) h2
   refine ⟨he, by simpa using h3, fun r' h' => ?_⟩
   rcases List.mem_cons.1 h' with rfl | h'
   ·
    have hlen := rowL_len t.cols r 0 r.length
    refine ⟨by rw [hlen]; simp [Tbl.kinds, hl], fun i hi hi2 => ?_, h7⟩
    have := h6 i hi
    have hlt : i < t.cols.length := by omega
    rw [colAt_lt hlt] at this
    simpa [Tbl.kinds, FitAt] using this
   · exact h4 r' h'
theorem colX_kind {ks : List Int} {i : Nat} (h : i < ks.length) : (colX i).kindOf ks = (ks[i], 0) := by
 simp [colX, Ex.kindOf, Ex.right, Ex.kind, h]
theorem colIx_lt (t : Tbl) (name : List Nat) : colIx t name < (t.cols.length : Int) := idxI_lt _ _
def NewOk (t : Tbl) (new : List Ex) : Prop := new.length = t.kinds.length ∧ FitOk new t.kinds t.kinds ∧ ∀ e ∈ new, e.sz ≤ lim
theorem newOk_cols (t : Tbl) : NewOk t (colsX t.cols.length) := by
 refine ⟨by simp [Tbl.kinds], fun i h h2 => ?_, fun e he => ?_⟩
 ·
  have e : (colsX t.cols.length)[i] = colX i := by simp [colsX]
  rw [e, colX_kind h2]
  exact ⟨rfl, .inr rfl⟩
 ·
  simp only [colsX, List.mem_map] at he
  obtain ⟨i, _, rfl⟩ := he
  simp [colX, Ex.sz, Ex.szL, lim]
theorem updR_ok {t : Tbl} : ∀ (l done : List St1) (new : List Ex) (err : Int), (∀ y ∈ l, y.e.sz ≤ lim ∧ y.e.may = true) → NewOk t new → (updR t done l new err).2.1 = 0 → err = 0 ∧ (updR t done l new err).2.2 = true ∧ NewOk t (updR t done l new err).1
 | [], done, new, err, _, hn, h => ⟨h, rfl, hn⟩
 | x :: r, done, new, err, hr, hn, h => by
  unfold updR at h ⊢
  split at h
  · rename_i h1; exact absurd h h1
  ·
   rename_i h1
   rw [if_neg h1]
   have h1 : keep (keep err 201 (decide (colIx t x.name < 0))) 205 (done.any fun y => decide (y.name = x.name)) = 0 := by simpa using h1
   rw [h1] at h ⊢
   obtain ⟨h2, _⟩ := keep_ne (by decide) h1
   obtain ⟨he, hb⟩ := keep_ne (by decide) h2
   have hx0 : 0 ≤ colIx t x.name := by simpa using hb
   have hxl := colIx_lt t x.name
   obtain ⟨k, hk⟩ := Int.eq_ofNat_of_zero_le hx0
   have hmem := hr x (by simp)
   have hset : ∀ F : Ex × Int, F = fitS [t.name] [t] x.e (colAt t.cols (colIx t x.name).toNat).kind 0 → F.2 = 0 → NewOk t (new.set (colIx t x.name).toNat F.1) := by
    rintro F rfl hf
    obtain ⟨_, h4, h5⟩ := fitS_ok (ns := [t.name]) (ts := [t]) rfl hmem.2 hf
    rw [kindsS_one] at h4 h5
    obtain ⟨hn1, hn2, hn3⟩ := hn
    refine ⟨by simp [hn1], fun i hi hi2 => ?_, fun e he => ?_⟩
    ·
     by_cases hik : i = (colIx t x.name).toNat
     ·
      subst hik
      simp only [List.getElem_set_self]
      have hlt : (colIx t x.name).toNat < t.cols.length := by omega
      rw [colAt_lt hlt] at h4 h5 ⊢
      have e1 : t.kinds[(colIx t x.name).toNat] = t.cols[(colIx t x.name).toNat].kind := by simp [Tbl.kinds]
      rw [e1]
      exact ⟨h4, h5⟩
     ·
      rw [List.getElem_set_ne (Ne.symm hik)]
      exact hn2 i (by simpa using hi) hi2
    ·
     rcases List.mem_or_eq_of_mem_set he with h6 | h6
     · exact hn3 e h6
     · rw [h6]; exact Nat.le_trans (fitS_sz _ _ _) hmem.1
   generalize hF : fitS [t.name] [t] x.e (colAt t.cols (colIx t x.name).toNat).kind 0 = F at hset h ⊢
   have hset := hset F rfl
   have hz : F.2 = 0 := by
    by_cases hz : F.2 = 0
    · exact hz
    ·
     exfalso
     have key : ∀ (l done : List St1) (new : List Ex) (err : Int), err ≠ 0 → (updR t done l new err).2.1 ≠ 0 := by
      intro l
      induction l with
      | nil => intro done new err he; simpa [updR] using he
      | cons y l ih =>
       intro done new err he
       have hke : ∀ (c : Int) (b : Bool), keep err c b = err := fun c b => by simp [keep, he]
       unfold updR
       rw [hke, hke]
       rw [if_pos he]
       exact he
     exact key r _ _ _ hz h
   rw [hz] at h ⊢
   obtain ⟨_, h7, h8⟩ := updR_ok r _ _ 0 (fun y hy => hr y (List.mem_cons_of_mem _ hy)) (hset hz) h
   exact ⟨he, h7, h8⟩
end Go.Abs
namespace Go.Abs
open Classical
set_option maxRecDepth 100000
theorem onR_ok {ns : List (List Nat)} {ts : List Tbl} (hn : ns.length = ts.length) {l : List Src} (hl : l.length ≤ ts.length) (hc : ∀ x ∈ l, x.cond.sz ≤ lim ∧ x.cond.maybe = true) : ∀ (i : Nat) (err : Int), i ≤ l.length → (onR ns ts l i err).2 = 0 → err = 0 ∧ ∀ j (h : j < (onR ns ts l i err).1.length), CondsOk (onR ns ts l i err).1[j] (kindsS (ts.take (j + 1))) ∧ (onR ns ts l i err).1[j].length ≤ lim ∧ ∀ e ∈ (onR ns ts l i err).1[j], e.sz ≤ lim
 | 0, err, _, h => ⟨h, by simp [onR]⟩
 | i + 1, err, hi, h => by
  have hlt : i < l.length := by omega
  have hmem : (srcAt l i).cond.sz ≤ lim ∧ (srcAt l i).cond.maybe = true := by
   rw [srcAt_lt hlt]; exact hc _ (List.getElem_mem hlt)
  simp only [onR] at h ⊢
  obtain ⟨h1, h2, h3, h4⟩ := condB_ok (ns := ns.take (i + 1)) (ts := ts.take (i + 1)) (by simp; omega) hmem.2 hmem.1 h
  obtain ⟨h5, h6⟩ := onR_ok hn hl hc i err (by omega) h1
  have hlen := onR_len ns ts l err i
  refine ⟨h5, fun j hj => ?_⟩
  by_cases hji : j < i
  ·
   rw [List.getElem_append_left (by omega)]
   exact h6 j (by omega)
  ·
   have : j = i := by simp at hj; omega
   subst this
   rw [List.getElem_append_right (by omega)]
   simp only [hlen, Nat.sub_self, List.getElem_cons_zero]
   exact ⟨h2, h3, h4⟩
theorem itR_ok {ns : List (List Nat)} {ts : List Tbl} (hn : ns.length = ts.length) : ∀ (l : List Itm) (err : Int), (∀ x ∈ l, x.e.sz ≤ lim ∧ x.e.may = true) → (itR ns ts l err).2.2 = 0 → err = 0 ∧ ∀ i (h : i < (itR ns ts l err).1.length) (h2 : i < (itR ns ts l err).2.1.length), (itR ns ts l err).1[i].sz ≤ lim ∧ (itR ns ts l err).1[i].kindOf (kindsS ts) = ((itR ns ts l err).2.1[i], 0)
 | [], err, _, h => ⟨h, by simp [itR]⟩
 | x :: r, err, hm, h => by
  simp only [itR] at h ⊢
  obtain ⟨h1, h2⟩ := itR_ok hn r _ (fun y hy => hm y (List.mem_cons_of_mem _ hy)) h
  have hx := hm x (by simp)
  obtain ⟨h3, h4⟩ := Ex.bd_kindOf hn hx.2 h1
  refine ⟨h3, fun i hi hi2 => ?_⟩
  cases i with
  | zero => exact ⟨Nat.le_trans (Ex.bd_sz _ _ _ _) hx.1, h4⟩
  | succ i => exact h2 i (by simpa using hi) (by simpa using hi2)
theorem itemsB_ok {ns : List (List Nat)} {ts : List Tbl} (hn : ns.length = ts.length) {q : Qry} {err : Int} (hm : ∀ x ∈ q.items, x.e.sz ≤ lim ∧ x.e.may = true) (h : (itemsB ns ts q err).2.2.2 = 0) :
  err = 0 ∧ (itemsB ns ts q err).2.1.length = (itemsB ns ts q err).1.length ∧ (itemsB ns ts q err).2.2.1.length = (itemsB ns ts q err).1.length ∧ ∀ i (h : i < (itemsB ns ts q err).1.length) (h2 : i < (itemsB ns ts q err).2.2.1.length), (itemsB ns ts q err).1[i].sz ≤ lim ∧ (itemsB ns ts q err).1[i].kindOf (kindsS ts) = ((itemsB ns ts q err).2.2.1[i], 0) := by
 have hnl : (namesT ts).length = (kindsS ts).length := by simp [namesT, kindsS, Tbl.kinds, List.length_flatMap]
 unfold itemsB at h ⊢
 by_cases hs : q.star = true
 ·
  simp only [hs, if_true] at h ⊢
  obtain ⟨h1, h2⟩ := itR_ok hn q.items _ hm h
  obtain ⟨h3, _⟩ := keep_ne (by decide) h1
  obtain ⟨h4, _⟩ := keep_ne (by decide) h3
  obtain ⟨l1, l2⟩ := itR_len ns ts q.items (keep (keep err 200 (decide (ts = []))) 3 (decide ((16 : Int) < ((kindsS ts).length : Int))))
  refine ⟨h4, by simp [hnl, l1], by simp [l1, l2], fun i hi hi2 => ?_⟩
  by_cases hik : i < (kindsS ts).length
  ·
   rw [List.getElem_append_left (by simpa using hik), List.getElem_append_left hik]
   have e : (colsX (kindsS ts).length)[i]'(by simpa using hik) = colX i := by simp [colsX]
   rw [e, colX_kind hik]
   exact ⟨by simp [colX, Ex.sz, Ex.szL, lim], rfl⟩
  ·
   rw [List.getElem_append_right (by simpa using hik), List.getElem_append_right (by omega)]
   simp only [colsX_len]
   exact h2 _ _ _
 ·
  simp only [hs, if_false] at h ⊢
  obtain ⟨h1, h2⟩ := itR_ok hn q.items _ hm h
  obtain ⟨l1, l2⟩ := itR_len ns ts q.items err
  exact ⟨h1, by simp [l1], by simp [l1, l2], h2⟩
theorem ordR_ok {N : List (List Nat)} {l : List Ord} : ∀ (i : Nat) (err : Int), (ordR N l i err).2 = 0 → err = 0 ∧ ∀ k ∈ (ordR N l i err).1, 0 ≤ k.1 ∧ k.1 < (N.length : Int)
 | 0, err, h => ⟨h, by simp [ordR]⟩
 | i + 1, err, h => by
  simp only [ordR] at h ⊢
  obtain ⟨h1, _⟩ := keep_ne (by decide) h
  obtain ⟨h2, h3⟩ := keep_ne (by decide) h1
  obtain ⟨h4, h5⟩ := ordR_ok i err h2
  refine ⟨h4, fun k hk => ?_⟩
  rcases List.mem_append.1 hk with h6 | h6
  · exact h5 k h6
  ·
   simp at h6
   subst h6
   exact ⟨by simpa using h3, idxI_lt _ _⟩
end Go.Abs
namespace Go.Abs
open Go.Proofs
open Classical
set_option maxRecDepth 100000
theorem BndOk.plain {b : Bnd} (h1 : b.rows = []) (h2 : b.cond = []) (h3 : b.kind ≠ 7) (h4 : b.kind ≠ 8) (h5 : b.table.cols.length ≤ lim) : BndOk b :=
 ⟨h5, by simp [h1], by simp [h1], fun h => absurd h h3, by simp [h2], by simp [h2], fun _ => by simp [h2, CondsOk], fun h => absurd h h4⟩
theorem sound_insert {s : Sch} (hs : s.fine) {x : Stm} (hx : x.sm) (hk : x.kind = 5) (hr : ∀ r ∈ x.rows, ∀ e ∈ r, e.sz ≤ lim ∧ e.may = true) (h : (insertB s x 0).2 = 0) : BndOk (insertB s x 0).1 := by
 have hcl : (s.named x.table).1.cols.length ≤ lim := firstD_len (Q := fun t : Tbl => t.cols.length ≤ lim) (by simp [Tbl.zero, lim]) hs.tc
 unfold insertB at h ⊢
 simp only at h ⊢
 obtain ⟨_, h2, h3⟩ := insR_ok x.rows _ hr h
 refine ⟨hcl, Nat.le_trans h2 hx.rows, h3, fun h7 => ?_, by simp, by simp, fun _ => by simp [CondsOk], fun h8 => ?_⟩
 · simp [hk] at h7
 · simp [hk] at h8
theorem sound_delete {s : Sch} (hs : s.fine) {x : Stm} (hx : x.sm) (hk : x.kind = 6) (hm : x.cond.maybe = true) (h : (deleteB s x 0).2 = 0) : BndOk (deleteB s x 0).1 := by
 have hcl : (s.named x.table).1.cols.length ≤ lim := firstD_len (Q := fun t : Tbl => t.cols.length ≤ lim) (by simp [Tbl.zero, lim]) hs.tc
 unfold deleteB at h ⊢
 split at h
 · rename_i h1; exact absurd h h1
 ·
  rename_i h1
  rw [if_neg h1]
  obtain ⟨_, h2, h3, h4⟩ := condB_ok (ns := [(s.named x.table).1.name]) (ts := [(s.named x.table).1]) rfl hm hx.cond h
  rw [kindsS_one] at h2
  refine ⟨hcl, by simp, by simp, fun h7 => ?_, h3, h4, fun _ => h2, fun h8 => ?_⟩
  · simp [hk] at h7
  · simp [hk] at h8
theorem sound_update {s : Sch} (hs : s.fine) {x : Stm} (hx : x.sm) (hk : x.kind = 7) (hr : ∀ y ∈ x.sets, y.e.sz ≤ lim ∧ y.e.may = true) (hm : x.cond.maybe = true) (h : (updateB s x 0).2 = 0) : BndOk (updateB s x 0).1 := by
 have hcl : (s.named x.table).1.cols.length ≤ lim := firstD_len (Q := fun t : Tbl => t.cols.length ≤ lim) (by simp [Tbl.zero, lim]) hs.tc
 unfold updateB at h ⊢
 split at h
 · rename_i h1; exact absurd h h1
 ·
  rename_i h1
  rw [if_neg h1]
  have h1 : keep 0 200 (!(s.named x.table).2) = 0 := by simpa using h1
  rw [h1] at h ⊢
  generalize hR : updR (s.named x.table).1 [] x.sets (colsX (s.named x.table).1.cols.length) 0 = R at h ⊢
  have key : ∀ e, R.2.1 = e → e = 0 → R.2.2 = true ∧ NewOk (s.named x.table).1 R.1 := fun e he h0 => by
   have := updR_ok (t := (s.named x.table).1) x.sets [] _ 0 hr (newOk_cols _) (by rw [hR, he, h0])
   rw [hR] at this
   exact ⟨this.2.1, this.2.2⟩
  unfold updT at h ⊢
  by_cases hb : R.2.2 = true
  ·
   simp only [hb, if_true] at h ⊢
   obtain ⟨h2, h3, h4, h5⟩ := condB_ok (ns := [(s.named x.table).1.name]) (ts := [(s.named x.table).1]) rfl hm hx.cond h
   rw [kindsS_one] at h3
   obtain ⟨_, hn⟩ := key _ rfl h2
   refine ⟨hcl, by simp, by simp, fun _ => hn, h4, h5, fun _ => h3, fun h8 => ?_⟩
   simp [hk] at h8
  ·
   simp only [hb, if_false] at h ⊢
   exact absurd (key _ rfl h).1 hb
theorem sound_query {s : Sch} (hs : s.fine) {x : Stm} (hk : x.kind = 8) (hq : x.q.fine s) (hl4 : x.q.srcs.length ≤ 4) (h : (queryB s x.q x.kind 0).2 = 0) : BndOk (queryB s x.q x.kind 0).1 := by
 unfold queryB at h ⊢
 split at h
 · rename_i h1; exact absurd h h1
 ·
  rename_i h1
  rw [if_neg h1]
  simp only at h ⊢
  have hn : (x.q.srcs.map Src.nm).length = (x.q.srcs.map s.tb).length := by simp
  have hfc : ∀ t ∈ x.q.srcs.map s.tb, t.cols.length ≤ lim := by
   intro t ht
   obtain ⟨y, _, rfl⟩ := List.mem_map.1 ht
   exact firstD_len (Q := fun t : Tbl => t.cols.length ≤ lim) (by simp [Tbl.zero, lim]) hs.tc
  have hfk := hq.k
  have hfl : (x.q.srcs.map s.tb).length ≤ lim := by simpa using hq.s
  have hsl : (x.q.srcs.map s.tb).length = x.q.srcs.length := by simp
  generalize x.q.srcs.map Src.nm = ns at *
  generalize x.q.srcs.map s.tb = ts at *
  have e1 := itemsB_len ns ts x.q (onR ns ts x.q.srcs x.q.srcs.length 0).2
  have e2 := onR_len ns ts x.q.srcs 0 x.q.srcs.length
  have o1 := @ordR_ok (itemsB ns ts x.q (onR ns ts x.q.srcs x.q.srcs.length 0).2).2.1 x.q.order x.q.order.length _ h
  have o2 := condB_ok hn hq.cm hq.cz o1.1
  have o3 := itemsB_ok hn hq.it o2.1
  have o4 := onR_ok hn (by omega) hq.sr x.q.srcs.length 0 (Nat.le_refl _) o3.1
  have e3 := ordR_len (itemsB ns ts x.q (onR ns ts x.q.srcs x.q.srcs.length 0).2).2.1 x.q.order (condB ns ts x.q.cond (itemsB ns ts x.q (onR ns ts x.q.srcs x.q.srcs.length 0).2).2.2.2).2 x.q.order.length
  have ho := hq.o
  refine ⟨by simp [Tbl.zero, lim], by simp, by simp, fun h7 => ?_, o2.2.2.1, o2.2.2.2, fun h8 => ?_, fun _ => ⟨?_, o3.2.1, o3.2.2.1, hfl, hfc, ?_, o4.2, ?_, o3.2.2.2, ?_, ?_, o2.2.1⟩⟩
  · simp [hk] at h7
  · exact absurd hk h8
  · simp only [e2]; omega
  · simp only; omega
  · simp only; rw [← o3.2.1]; omega
  · simp only [e3]; exact ho
  ·
   intro k hk2
   have := o1.2 k hk2
   rw [o3.2.1] at this
   exact this
theorem bound_ok (s : Sch) (hs : s.fine) (x : Stm) (hx : x.sm) (h : (bindB s x).2 = 0) : BndOk (bindB s x).1 := by
 unfold bindB at h ⊢
 split at h
 ·
  rename_i hc
  rw [if_pos hc]
  obtain ⟨ho, hm⟩ := hc
  have ok := Stm.okOf hm
  unfold finB at h ⊢
  split at h
  ·
   rename_i h0
   rw [if_pos h0]
   have hcl : (s.named x.table).1.cols.length ≤ lim := firstD_len (Q := fun t : Tbl => t.cols.length ≤ lim) (by simp [Tbl.zero, lim]) hs.tc
   clear h
   unfold bodyB at h0 ⊢
   by_cases h1 : x.kind = 1
   ·
    simp only [h1, if_true]
    exact BndOk.plain rfl rfl (by simp [createB, h1]) (by simp [createB, h1]) (by simp [createB, Tbl.zero, lim])
   by_cases h2 : x.kind = 2
   ·
    simp only [h2, if_true, show ¬ (2 : Int) = 1 by decide, if_false]
    exact BndOk.plain rfl rfl (by simp) (by simp) hcl
   by_cases h3 : x.kind = 3
   ·
    simp only [h3, if_true, show ¬ (3 : Int) = 1 by decide, show ¬ (3 : Int) = 2 by decide, if_false]
    exact BndOk.plain rfl rfl (by simp [indexB, h3]) (by simp [indexB, h3]) hcl
   by_cases h4 : x.kind = 4
   ·
    simp only [h4, if_true, show ¬ (4 : Int) = 1 by decide, show ¬ (4 : Int) = 2 by decide, show ¬ (4 : Int) = 3 by decide, if_false]
    exact BndOk.plain rfl rfl (by simp [unindexB, h4]) (by simp [unindexB, h4]) (firstD_len (Q := fun t : Tbl => t.cols.length ≤ lim) (by simp [Tbl.zero, lim]) hs.tc)
   rw [if_neg h1, if_neg h2, if_neg h3, if_neg h4] at h0 ⊢
   by_cases h5 : x.kind = 5
   ·
    rw [if_pos h5] at h0 ⊢
    refine sound_insert hs hx h5 (fun r hr e he => ⟨(hx.row r hr).2 e he, ?_⟩) h0
    simp [Stm.ok, h5] at ok
    have := ok.2 r hr
    simp only [rowOk, Bool.and_eq_true, List.all_eq_true] at this
    exact this.2 e he
   rw [if_neg h5] at h0 ⊢
   by_cases h6 : x.kind = 6
   ·
    rw [if_pos h6] at h0 ⊢
    simp [Stm.ok, h6] at ok
    exact sound_delete hs hx h6 ok.2 h0
   rw [if_neg h6] at h0 ⊢
   by_cases h7 : x.kind = 7
   ·
    rw [if_pos h7] at h0 ⊢
    simp [Stm.ok, h7] at ok
    refine sound_update hs hx h7 (fun y hy => ⟨hx.set y hy, ?_⟩) ok.1.2 h0
    have := ok.2 y hy
    simp only [St1.ok, Bool.and_eq_true] at this
    exact this.2
   rw [if_neg h7] at h0 ⊢
   by_cases h8 : x.kind = 8
   ·
    rw [if_pos h8] at h0 ⊢
    simp [Stm.ok, h8] at ok
    refine sound_query hs h8 (Qry.fine_of ho hx ok) ?_ h0
    simp only [Qry.may, Bool.and_eq_true, decide_eq_true_eq] at ok
    exact ok.1.1.1.1.1.1.1.2
   rw [if_neg h8] at h0 ⊢
   exact BndOk.plain rfl rfl h7 h8 (by simp [Tbl.zero, lim])
  · rename_i h0; exact absurd h h0
 · simp at h
theorem sound (s : Sch) (hs : s.fine) (x : Stm) (hx : x.sm) : FnPure Try.prog 3 [eSch.av s, x.av] (.bool true) := sound3 s hs x hx (bound_ok s hs x hx)
end Go.Abs
