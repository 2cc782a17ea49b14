/- The abstract machine: each operation's effect is what the model does. Part fifteen: texts compared, maps cleared and gone through, slices cleared. -/
import Derived.Test.YtfjkegbmlagleaaGreatAbsMp
import Derived.Test.YtfjkegbmlagleaaGreatAbsZ
import Derived.KernelRfl
import Derived.Laws.Externs
namespace Go.Abs
open Go.MapKept (bytes_beq run_getObj_map run_setObj_map run_findKey)
section
variable {P : Program}

/-! ### texts compared -/
theorem cmpL_find : ∀ (a b : List UInt8), cmpL (a.map UInt8.toNat) (b.map UInt8.toNat) =
    match (List.range (min a.length b.length)).find? fun i => a[i]! != b[i]! with
    | some i => if a[i]! < b[i]! then -1 else 1
    | none => if a.length < b.length then -1 else if a.length > b.length then 1 else 0
  | [], [] => rfl
  | [], _ :: _ => by simp [cmpL]
  | _ :: _, [] => by simp [cmpL]
  | x :: a, y :: b => by
    simp only [List.map_cons, cmpL]
    have hr : List.range (min (x :: a).length (y :: b).length) = 0 :: (List.range (min a.length b.length)).map Nat.succ := by
      rw [show min (x :: a).length (y :: b).length = min a.length b.length + 1 by simp, List.range_succ_eq_map]
    rw [hr, List.find?_cons]
    by_cases e : x = y
    · subst e
      rw [show Nat.beq x.toNat x.toNat = true by simp]
      dsimp only
      rw [cmpL_find a b, List.find?_map]
      simp only [List.getElem!_cons_zero, bne_self_eq_false]
      have : ((fun i => (x :: a)[i]! != (x :: b)[i]!) ∘ Nat.succ) = fun i => a[i]! != b[i]! := by
        funext i; simp
      rw [this]
      cases (List.range (min a.length b.length)).find? fun i => a[i]! != b[i]! with
      | none => simp
      | some i => simp
    · have h1 : Nat.beq x.toNat y.toNat = false := by
        cases h : Nat.beq x.toNat y.toNat with
        | false => rfl
        | true => exact absurd (UInt8.toNat_inj.1 (Nat.eq_of_beq_eq_true h)) e
      rw [h1]
      simp only [List.getElem!_cons_zero]
      rw [show (x != y) = true by simpa using e]
      dsimp only
      by_cases hlt : x < y
      · rw [show Nat.blt x.toNat y.toNat = true by rw [Nat.blt_eq]; exact hlt]
        simp [hlt]
      · rw [show Nat.blt x.toNat y.toNat = false by
          cases h : Nat.blt x.toNat y.toNat with
          | false => rfl
          | true => exact absurd (by rw [Nat.blt_eq] at h; exact h) hlt]
        simp [hlt]
theorem get_list (a : ByteArray) (i : Nat) : a[i]! = a.data.toList[i]! := by
  have hs : a.data.toList.length = a.size := Array.length_toList
  by_cases h : i < a.size
  · rw [getElem!_pos a i h, getElem!_pos a.data.toList i (by omega)]
    rfl
  · rw [getElem!_neg a i h, getElem!_neg a.data.toList i (by omega)]
theorem cmp_spec (a b : ByteArray) : Extern.BytealgCompare.cmp a b = cmpL (a.data.toList.map UInt8.toNat) (b.data.toList.map UInt8.toNat) := by
  rw [cmpL_find]
  unfold Extern.BytealgCompare.cmp
  have h1 : a.size = a.data.toList.length := Array.length_toList.symm
  have h2 : b.size = b.data.toList.length := Array.length_toList.symm
  rw [h1, h2]
  simp only [get_list]
  rfl
theorem ext_cmps {fn : Func} (h : fn.name = "internal/bytealg.abigen_runtime_cmpstring") (h2 : fn.origin = "") : Extern.findNext fn = none ∧ Extern.find fn = some Extern.BytealgCompare.compare := by
  unfold Extern.findNext Extern.find
  rw [h, h2]
  exact ⟨by kernel_rfl, by kernel_rfl⟩
theorem ok_cmps {o : Oper} {c : Call} {f : FuncId} {fn : Func} {x y : Operand} {g k : G} (ho : o.op = .call c) (hc : c.callee = .value (.func f)) (ha : c.args.toList = [x, y]) (hf : P.funcs[f]? = some fn) (hb : fn.body = none)
    (hn : fn.name = "internal/bytealg.abigen_runtime_cmpstring") (h2 : fn.origin = "") (hg : opd x = some g) (hk : opd y = some k) : EffOk P o (e2 cCmpS g k) := by
  intro F H n φ D a w hr hF hfr hne
  unfold e2 at hfr hne ⊢
  cases hv : g.f F with
  | none => rw [hv] at hne; exact absurd rfl hne
  | some v =>
  rw [hv] at hne; dsimp only at hne ⊢
  cases hu : k.f F with
  | none => rw [hu] at hne; exact absurd rfl hne
  | some u =>
  rw [hu] at hne; dsimp only at hne ⊢
  have hvr := opd_sound hg F φ D a hF v hv
  have hur := opd_sound hk F φ D a hF u hu
  unfold cCmpS at hne ⊢
  split at hne
  · generalize hxv : a.eval x = xv at hvr
    generalize hyv : a.eval y = yv at hur
    cases hvr with
    | str s _ hs =>
    cases hur with
    | str s' _ hs' =>
    subst hs hs'
    obtain ⟨e1, e2⟩ := ext_cmps hn h2
    have hargs : Array.map a.eval c.args = #[.string s, .string s'] := by
      apply Array.ext'; simp [ha, hxv, hyv]
    refine Does.val hr (cv := .int .i64 (cmpL (s.data.toList.map UInt8.toNat) (s'.data.toList.map UInt8.toNat))) ?_ (.int _ _)
    have hname : (fn.name == "runtime.NumGoroutine") = false := by rw [hn]; decide
    have hcf := run_callFunc_extern (P := P) hf hname (by rw [hb]; rfl) e1 e2 #[.string s, .string s'] w
    have h0 : a.eval (.func f) = .func (.func f) #[] #[] := rfl
    simp only [execOp, ho, resolve, hc, h0, Deferred.ofValue, Sem.run_bind, Sem.run_pure, Result.andThen_ok, invoke, hargs]
    simp only [Array.append_empty, Array.empty_append]
    have hq : (Extern.BytealgCompare.compare #[.string s, .string s']).run P w = .ok (.int .i64 (Extern.BytealgCompare.cmp s s')) w := rfl
    rw [hcf, hq, cmp_spec]
    rfl
  · exact absurd rfl hne

/-! ### maps -/
theorem ok_lenm {o : Oper} {c : Call} {t kt et : TypeId} {x : Operand} {g : G} (ho : o.op = .call c) (hcb : c.callee = .builtin .len) (h0 : c.argTypes[0]? = some t) (a0 : c.args[0]? = some x) (hg : opd x = some g) (hu : P.underlying t = some (.map kt et)) :
    EffOk P o (eLenM g) := by
  intro F H n φ D a w hr hF hf hne
  unfold eLenM at hf hne ⊢
  cases hv : g.f F with
  | none => rw [hv] at hne; exact absurd rfl hne
  | some v =>
    rw [hv] at hf hne; dsimp only at hf hne ⊢
    have hvr := opd_sound hg F φ D a hF v hv
    generalize hxv : a.eval x = xv at hvr
    have A0 : (c.args.map a.eval)[0]? = some xv := by simp [a0, hxv]
    obtain ⟨cs, e⟩ := call_builtin (P := P) (ρ := a.eval) ho hcb w
    unfold cLenM at hne ⊢
    split at hne
    · rename_i b
      split at hne
      · rename_i es clk hb
        cases hvr with
        | map _ cb co cz hp =>
        obtain ⟨_, ces, hc1, hc2⟩ := hr.block hb hp
        have hc1 : w.heap[cb]? = some (.map ces clk) := hc1
        refine Does.val hr (cv := .int .i64 (ces.size : Nat)) ?_ ?_
        · rw [e]
          simp only [builtin, Sem.run_bind, Builtin.len_, h0, A0, run_underlying hu, Result.andThen_ok, run_getObj_map hc1, Sem.run_pure, goInt]
        · rw [lenAcc_eq, Nat.zero_add, hc2.len, Array.length_toList]; exact .int _ _
      · exact absurd rfl hne
    · cases hvr with
      | cst _ hat =>
      refine Does.val hr (cv := .int .i64 0) ?_ (.int _ _)
      rw [e]
      simp only [builtin, Sem.run_bind, Builtin.len_, h0, A0, run_underlying hu, Result.andThen_ok, Sem.run_pure, goInt]
    · exact absurd rfl hne

theorem ok_clrm {o : Oper} {c : Call} {t kt et : TypeId} {x : Operand} {g : G} (ho : o.op = .call c) (hcb : c.callee = .builtin .clear) (h0 : c.argTypes[0]? = some t) (a0 : c.args[0]? = some x) (hg : opd x = some g) (hu : P.underlying t = some (.map kt et)) :
    EffOk P o (eClrM g) := by
  intro F H n φ D a w hr hF hf hne
  unfold eClrM at hf hne ⊢
  cases hv : g.f F with
  | none => rw [hv] at hne; exact absurd rfl hne
  | some v =>
    rw [hv] at hf hne; dsimp only at hf hne ⊢
    have hvr := opd_sound hg F φ D a hF v hv
    generalize hxv : a.eval x = xv at hvr
    have A0 : (c.args.map a.eval)[0]? = some xv := by simp [a0, hxv]
    obtain ⟨cs, e⟩ := call_builtin (P := P) (ρ := a.eval) ho hcb w
    unfold cClrM at hne ⊢
    split at hne
    · rename_i b
      split at hne
      · rename_i es clk hb
        cases hvr with
        | map _ cb co cz hp =>
        obtain ⟨_, ces, hc1, hc2⟩ := hr.block hb hp
        have hc1 : w.heap[cb]? = some (.map ces clk) := hc1
        have hlt : cb < w.heap.size := (Array.getElem?_eq_some_iff.1 hc1).1
        refine Does.upd hr (by rw [hb]; simp) hp (o := .map #[] clk) (nx := .value (.tuple #[])) (cv := .tuple #[]) ?_ (.value _) ⟨#[], by simp [World.putObj, hlt], .nil⟩ (.tup _ _ .nil)
        rw [e]
        simp only [builtin, Sem.run_bind, Builtin.clear_, h0, A0, run_underlying hu, Result.andThen_ok, run_getObj_map hc1, Sem.run_pure, run_setObj_map _ hc1, World.putObj]
      · exact absurd rfl hne
    · cases hvr with
      | cst _ hat =>
      refine Does.val hr (cv := .tuple #[]) ?_ (.tup _ _ .nil)
      rw [e]
      simp only [builtin, Sem.run_bind, Builtin.clear_, h0, A0, run_underlying hu, Result.andThen_ok, Sem.run_pure]
    · exact absurd rfl hne

theorem delKey_spec {φ : Ph} {D : Da} {q : LK} {d : TypeDesc} {k : AV} {x : Value} (hd : kindOk q d) (hx : VR φ D k x) : ∀ (es : List (AV × AV × Nat)) (l : List MapEntry) (i : Nat) (r : Option (List (AV × AV × Nat))), EsR φ D es l → delKey q k es = some r →
    (r = none ∧ Instr.findNow d x l i = some none) ∨ ∃ es' j y, r = some es' ∧ Instr.findNow d x l i = some (some (i + j, y)) ∧ j < l.length ∧ EsR φ D es' (l.eraseIdx j)
  | [], l, i, r, he, h => by
    cases he
    simp only [delKey] at h; injection h with h
    exact .inl ⟨h.symm, rfl⟩
  | e :: es, l, i, r, he, h => by
    cases he with
    | cons kk u b y u' _ l' h1 h2 h3 =>
    simp only [delKey] at h
    split at h
    · rename_i hq
      injection h with h
      obtain ⟨hs, heq⟩ := same_spec hd hq hx h1
      exact .inr ⟨_, 0, u', h.symm, by simp [Instr.findNow, hs], by simp, h3⟩
    · rename_i hq
      obtain ⟨hs, _⟩ := same_spec hd hq hx h1
      split at h
      · rename_i r' hr'
        injection h with h
        rcases delKey_spec hd hx es l' (i + 1) _ h3 hr' with ⟨h4, _⟩ | ⟨es', j, y', h4, h5, h6, h7⟩
        · cases h4
        · injection h4 with h4; subst h4
          exact .inr ⟨_, j + 1, y', h.symm, by simp [Instr.findNow, hs, h5]; omega, by simpa using h6, .cons _ _ _ _ _ _ _ h1 h2 h7⟩
      · rename_i hr'
        injection h with h
        rcases delKey_spec hd hx es l' (i + 1) _ h3 hr' with ⟨_, h5⟩ | ⟨es', j, y', h4, _⟩
        · exact .inl ⟨h.symm, by simp [Instr.findNow, hs, h5]⟩
        · cases h4
      · cases h
    · cases h
theorem ok_del {o : Oper} {c : Call} {t kt et : TypeId} {x y : Operand} {g k : G} {q : LK} (ho : o.op = .call c) (hcb : c.callee = .builtin .delete) (h0 : c.argTypes[0]? = some t) (a0 : c.args[0]? = some x) (a1 : c.args[1]? = some y) (hg : opd x = some g) (hk : opd y = some k)
    (hu : P.underlying t = some (.map kt et)) (hq : keyK P kt = some q) : EffOk P o (eDel q g k) := by
  obtain ⟨d, hd, hkd⟩ := keyK_spec hq
  intro F H n φ D a w hr hF hf hne
  unfold eDel at hf hne ⊢
  cases hv : g.f F with
  | none => rw [hv] at hne; exact absurd rfl hne
  | some m =>
    rw [hv] at hne
    dsimp only at hne ⊢
    cases hkv : k.f F with
    | none => rw [hkv] at hne; exact absurd rfl hne
    | some kv =>
      rw [hkv] at hne
      dsimp only at hne ⊢
      have hm := opd_sound hg F φ D a hF m hv
      have hky := opd_sound hk F φ D a hF kv hkv
      generalize hxv : a.eval x = xv at hm
      have A0 : (c.args.map a.eval)[0]? = some xv := by simp [a0, hxv]
      have A1 : (c.args.map a.eval)[1]? = some (a.eval y) := by simp [a1]
      obtain ⟨cs, e⟩ := call_builtin (P := P) (ρ := a.eval) ho hcb w
      unfold cDel at hne ⊢
      split at hne
      · rename_i b
        split at hne
        · rename_i es clk hb
          split at hne
          · cases hm with
            | map _ cb co cz hp =>
            obtain ⟨_, ces, hc1, hc2⟩ := hr.block hb hp
            have hc1 : w.heap[cb]? = some (.map ces clk) := hc1
            have hck := ck_ok (P := P) (x := a.eval y) (w := w) hd hkd ces.isEmpty 9999
            have hlt : cb < w.heap.size := (Array.getElem?_eq_some_iff.1 hc1).1
            split at hne
            · rename_i es' hsk
              rcases delKey_spec hkd hky es ces.toList 0 _ hc2 hsk with ⟨h, _⟩ | ⟨es2, j, y', h1, h2, h3, h4⟩
              · cases h
              · injection h1 with h1; subst h1
                have hf2 := run_findKey (w := w) hd h2
                refine Does.upd hr (by rw [hb]; simp) hp (o := .map (ces.eraseIdxIfInBounds (0 + j)) clk) (nx := .value (.tuple #[])) (cv := .tuple #[]) ?_ (.value _) ⟨ces.eraseIdxIfInBounds (0 + j), by simp [World.putObj, hlt], ?_⟩ (.tup _ _ .nil)
                · rw [e]
                  simp only [builtin, Sem.run_bind, Builtin.delete_, h0, A0, A1, run_underlying hu, Result.andThen_ok, run_getObj_map hc1, hck, hf2, Sem.run_pure, run_setObj_map _ hc1, World.putObj]
                · rw [Nat.zero_add, Array.toList_eraseIdxIfInBounds]; exact h4
            · rename_i hsk
              rcases delKey_spec hkd hky es ces.toList 0 _ hc2 hsk with ⟨_, h2⟩ | ⟨es2, j, y', h1, _⟩
              · have hf2 := run_findKey (w := w) hd h2
                refine Does.upd hr (by rw [hb]; simp) hp (o := .map ces clk) (nx := .value (.tuple #[])) (cv := .tuple #[]) ?_ (.value _) ⟨ces, by simp [World.putObj, hlt], hc2⟩ (.tup _ _ .nil)
                rw [e]
                simp only [builtin, Sem.run_bind, Builtin.delete_, h0, A0, A1, run_underlying hu, Result.andThen_ok, run_getObj_map hc1, hck, hf2, Sem.run_pure, run_setObj_map _ hc1, World.putObj]
              · cases h1
            · exact absurd rfl hne
          · exact absurd rfl hne
        · exact absurd rfl hne
      · exact absurd rfl hne

/-! ### slices cleared -/
theorem zeroCells_list (zs : Array Value) : ∀ n, (Builtin.zeroCells zs n).toList = (List.replicate n zs.toList).flatten := by
  intro n
  unfold Builtin.zeroCells
  rw [Array.toList_map, Array.toList_range]
  have key : ∀ n, (List.range (n * zs.size)).map (fun i => zs[i % zs.size]!) = (List.replicate n zs.toList).flatten := by
    intro n
    induction n with
    | zero => simp
    | succ n ih =>
      rw [show (n + 1) * zs.size = zs.size + n * zs.size by rw [Nat.succ_mul]; omega, List.range_add, List.map_append, List.map_map, List.replicate_succ, List.flatten_cons, ← ih]
      congr 1
      · apply List.ext_getElem
        · simp
        · intro i h1 h2
          simp at h1
          simp [Nat.mod_eq_of_lt h1, h1]
      · apply List.map_congr_left
        intro i _
        simp
  exact key n
theorem repZ_rel {φ : Ph} {D : Da} {z : List AV} {xs : List Value} (h : VRs φ D z xs) : ∀ n, VRs φ D (repZ z n) (List.replicate n xs).flatten
  | 0 => .nil
  | n + 1 => by rw [List.replicate_succ, List.flatten_cons]; exact h.append (repZ_rel h n)
theorem repZ_len (z : List AV) : ∀ n, (repZ z n).length = n * z.length
  | 0 => by simp [repZ]
  | n + 1 => by simp [repZ, repZ_len z n, Nat.succ_mul]; omega
theorem repZ_mem {z : List AV} {v : AV} : ∀ {n}, v ∈ repZ z n → v ∈ z
  | 0, h => by simp [repZ] at h
  | n + 1, h => by
    simp only [repZ, List.mem_append] at h
    rcases h with h | h
    · exact h
    · exact repZ_mem h
theorem clrIt_get (z : List AV) (o : Nat) (t : Ov AV) : ∀ (n m : Nat), (clrIt z z.length o t n).get m = (Ov.putAll (repZ z n) o t).get m
  | 0, m => by show t.get m = _; rw [show repZ z 0 = [] from rfl, Ov.putAll_nil]
  | n + 1, m => by
    have e : repZ z (n + 1) = repZ z n ++ z := by
      clear m
      induction n with
      | zero => simp [repZ]
      | succ n ih => rw [show repZ z (n + 1 + 1) = z ++ repZ z (n + 1) from rfl]; conv => lhs; rw [ih]
                     rw [show repZ z (n + 1) = z ++ repZ z n from rfl, List.append_assoc]
    show (Ov.putAll z (o + n * z.length) (clrIt z z.length o t n)).get m = _
    rw [Ov.get_putAll, Ov.get_putAll, clrIt_get z o t n m, Ov.get_putAll, e, List.length_append, repZ_len]
    by_cases h1 : o ≤ m ∧ m < o + (n * z.length + z.length)
    · rw [if_pos h1]
      by_cases h2 : o + n * z.length ≤ m
      · rw [if_pos ⟨h2, by omega⟩, List.getElem?_append_right (by rw [repZ_len]; omega), repZ_len]; congr 1; omega
      · rw [if_neg (by omega), if_pos ⟨h1.1, by omega⟩, List.getElem?_append_left (by rw [repZ_len]; omega)]
    · rw [if_neg h1, if_neg (by omega), if_neg (by omega)]
theorem clrPut_get {z : List AV} {sz : Nat} (hs : z.length = sz) (len o : Nat) (t : Ov AV) (m : Nat) : (clrPut z sz len o t).get m = (Ov.putAll (repZ z len) o t).get m := by
  unfold clrPut
  split
  · subst hs; exact clrIt_get z o t len m
  · rfl
theorem clrPut_blk {φ : Ph} {D : Da} {w : World} {p : Nat × Nat × Nat} {u : Nat} {z' bs z : List AV} {sz : Nat} {t : Ov AV} {len o : Nat} (hs : z.length = sz) (hl : len ≠ 0)
    (h : BlkR φ D w p (.cells u z' bs (Ov.putAll (repZ z len) o t))) : BlkR φ D w p (.cells u z' bs (clrPut z sz len o t)) := by
  obtain ⟨c, e, fr, h1, h2, h3, h4, h5, h6⟩ := h
  refine ⟨c, e, fr, h1, h2, h3, fun i v hv => h4 i v ?_, fun ht => ?_, h6⟩
  · rw [getc_eq] at hv ⊢
    rw [clrPut_get hs] at hv
    exact hv
  · unfold clrPut at ht
    split at ht
    · rename_i hb
      have hb := Nat.le_of_ble_eq_true hb
      exfalso
      have := clrPut_get hs len o t o
      unfold clrPut at this
      rw [Nat.ble_eq_true_of_le hb] at this
      dsimp only at this
      rw [ht, Ov.get_nil, Ov.get_putAll, repZ_len] at this
      have hp : 0 < len * z.length := Nat.mul_pos (by omega) (by omega)
      rw [if_pos ⟨Nat.le_refl _, by omega⟩, Nat.sub_self] at this
      rw [eq_comm, List.getElem?_eq_none_iff, repZ_len] at this
      omega
    · exact h5 ht
theorem ok_clrs {o : Oper} {c : Call} {t et : TypeId} {x : Operand} {g : G} {z : List AV} {sz : Nat} (ho : o.op = .call c) (hcb : c.callee = .builtin .clear) (h0 : c.argTypes[0]? = some t) (a0 : c.args[0]? = some x) (hg : opd x = some g) (hu : P.underlying t = some (.slice et))
    (hz : zeroT P et = some z) (hs : z.length = sz) (ho1 : allOne z = true) : EffOk P o (eClrS z sz g) := by
  obtain ⟨ti, zv, hi, hzv, hzr⟩ := zeroT_spec hz
  intro F H n φ D a w hr hF hf hne
  unfold eClrS at hf hne ⊢
  cases hv : g.f F with
  | none => rw [hv] at hne; exact absurd rfl hne
  | some v =>
    rw [hv] at hf hne; dsimp only at hf hne ⊢
    have hvr := opd_sound hg F φ D a hF v hv
    generalize hxv : a.eval x = xv at hvr
    have A0 : (c.args.map a.eval)[0]? = some xv := by simp [a0, hxv]
    obtain ⟨cs, e⟩ := call_builtin (P := P) (ρ := a.eval) ho hcb w
    unfold cClrS at hne ⊢
    split at hne
    · rename_i b off len q
      cases hvr with
      | sl _ _ _ _ cb co cz cap ad hp hle hex =>
      split at hne
      · refine Does.val hr (cv := .tuple #[]) ?_ (.tup _ _ .nil)
        rw [e]
        simp only [builtin, Sem.run_bind, Builtin.clear_, h0, A0, run_underlying hu, Result.andThen_ok, Sem.run_pure]
      · rename_i hl0
        split at hne
        · rename_i us z' bs tt hbk
          split at hne
          · rename_i hcond
            simp only [Bool.and_eq_true] at hcond
            obtain ⟨d1, d2⟩ := hcond
            have d1 := Nat.eq_of_beq_eq_true d1
            have d2 := Nat.le_of_ble_eq_true d2
            subst d1
            have hl0 : len ≠ 0 := hl0
            obtain ⟨rfl, hfit⟩ := hex (by omega)
            obtain ⟨cc, ee, fr, hst, hbr⟩ := cpy_store (P := P) (off := off) hr hbk hp (repZ_rel (.atoms hzr) len) (fun v hv => allOne_spec ho1 v (repZ_mem hv)) (by rw [repZ_len, hs]; exact d2)
            rw [← zeroCells_list] at hst
            refine Does.upd (P := P) (nx := .value (.tuple #[])) (cv := .tuple #[]) hr (by rw [hbk]; simp) hp ?_ (.value _) (clrPut_blk hs hl0 hbr) (.tup _ _ .nil)
            rw [e]
            cases len with
            | zero => exact absurd rfl hl0
            | succ len =>
              simp only [builtin, Sem.run_bind, Builtin.clear_, h0, A0, run_underlying hu, Result.andThen_ok, run_zero hi hzv, hst, Sem.run_pure]
          · exact absurd rfl hne
        · exact absurd rfl hne
    · cases hvr with
      | cst _ hat =>
      refine Does.val hr (cv := .tuple #[]) ?_ (.tup _ _ .nil)
      rw [e]
      simp only [builtin, Sem.run_bind, Builtin.clear_, h0, A0, run_underlying hu, Result.andThen_ok, Sem.run_pure]
    · exact absurd rfl hne

/-! ### going through a map -/
theorem ok_rng {o : Oper} {t kt et : TypeId} {x : Operand} {g : G} (ho : o.op = .range t x) (hg : opd x = some g) (hu : P.underlying t = some (.map kt et)) : EffOk P o (eRng g) := by
  intro F H n φ D a w hr hF hf hne
  unfold eRng at hf hne ⊢
  cases hv : g.f F with
  | none => rw [hv] at hne; exact absurd rfl hne
  | some v =>
    rw [hv] at hf hne; dsimp only at hf hne ⊢
    have hvr := opd_sound hg F φ D a hF v hv
    generalize hxv : a.eval x = xv at hvr
    unfold cRng at hf hne ⊢
    split at hne
    · rename_i b
      dsimp only at hf
      split at hne
      · rename_i es clk hb
        rw [hb] at hf
        have hn : φ n = none := hf n (Nat.le_refl _) (by simp [outN])
        cases hvr with
        | map _ cb co cz hp =>
        obtain ⟨_, ces, hc1, hc2⟩ := hr.block hb hp
        have hc1 : w.heap[cb]? = some (.map ces clk) := hc1
        obtain ⟨h1, h2⟩ := rel_new hr (fun b x y => hf b x (by simpa [outN] using y)) (.mapIter (some cb) clk #[] clk) 0 (.iter (some b) clk [] clk) ⟨rfl, some cb, World.alloc_get w _, cb, co, cz, by
          have : b ≠ n := by rintro rfl; rw [hn] at hp; cases hp
          simp [Ph.set, this, hp], rfl⟩
        refine ⟨.value (.pointer (some ⟨w.heap.size, 0, none⟩)), _, _, _, ?_, .value _, h2, h1, ptr_new⟩
        simp only [execOp, ho, Instr.range, hxv, Sem.run_bind, run_underlying hu, Result.andThen_ok, run_getObj_map hc1, Sem.run_pure]
        rfl
      · exact absurd rfl hne
    · cases hvr with
      | cst _ hat =>
      have hn : φ n = none := hf n (Nat.le_refl _) (by simp [outN])
      obtain ⟨h1, h2⟩ := rel_new hr (fun b x y => hf b x (by simpa [outN] using y)) (.mapIter none 0 #[] 0) 0 (.iter none 0 [] 0) ⟨rfl, none, World.alloc_get w _, rfl⟩
      refine ⟨.value (.pointer (some ⟨w.heap.size, 0, none⟩)), _, _, _, ?_, .value _, h2, h1, ptr_new⟩
      simp only [execOp, ho, Instr.range, hxv, Sem.run_bind, run_underlying hu, Result.andThen_ok, Sem.run_pure]
      rfl
    · exact absurd rfl hne

theorem hasN_eq (b : Nat) : ∀ l, hasN b l = l.contains b
  | [] => rfl
  | a :: l => by
    simp only [hasN, List.contains_cons, hasN_eq b l]
    by_cases e : a = b
    · subst e; simp
    · rw [show Nat.beq a b = false by cases h : Nat.beq a b with
        | false => rfl
        | true => exact absurd (Nat.eq_of_beq_eq_true h) e]
      rw [show (b == a) = false by simpa using fun h => e h.symm]
      simp
theorem leftE_rel {φ : Ph} {D : Da} (seen : List Nat) : ∀ {es : List (AV × AV × Nat)} {l : List MapEntry}, EsR φ D es l → EsR φ D (leftE seen es) (l.filter fun e => !seen.contains e.born)
  | _, _, .nil => .nil
  | _, _, .cons k v b x y es l h1 h2 h3 => by
    simp only [leftE, hasN_eq, List.filter_cons]
    cases seen.contains b with
    | true => simpa using leftE_rel seen h3
    | false => simpa using EsR.cons _ _ _ _ _ _ _ h1 h2 (leftE_rel seen h3)
theorem allBorn_rel {φ : Ph} {D : Da} (last : Nat) : ∀ {es : List (AV × AV × Nat)} {l : List MapEntry}, EsR φ D es l → allBorn last es = l.all fun e => decide (e.born ≥ last)
  | _, _, .nil => rfl
  | _, _, .cons k v b x y es l h1 h2 h3 => by
    simp only [allBorn, List.all_cons, allBorn_rel last h3]
    by_cases e : last ≤ b
    · rw [show Nat.ble last b = true from by rw [Nat.ble_eq]; exact e]; simp [e]
    · rw [show Nat.ble last b = false by cases h : Nat.ble last b with
        | false => rfl
        | true => exact absurd (by rw [Nat.ble_eq] at h; exact h) e]
      simp [e]
theorem run_getObj_iter {w : World} {r : Nat} {m : Option Nat} {s l : Nat} {seen : Array Nat} (hb : w.heap[r]? = some (.mapIter m s seen l)) : (getObj r).run P w = .ok (.mapIter m s seen l) w := by
  simp [getObj, Sem.run, hb]
theorem run_setObj_iter {w : World} {r : Nat} {m : Option Nat} {s l : Nat} {seen : Array Nat} (o : Obj) (hb : w.heap[r]? = some (.mapIter m s seen l)) : (setObj r o).run P w = .ok () (World.putObj w r o) := by
  simp [setObj, Sem.run, hb, World.putObj]

theorem ok_nxt {o : Oper} {x : Operand} {g : G} (ho : o.op = .next x false) (hg : opd x = some g) : EffOk P o (eNxt g) := by
  intro F H n φ D a w hr hF hf hne
  unfold eNxt at hf hne ⊢
  cases hv : g.f F with
  | none => rw [hv] at hne; exact absurd rfl hne
  | some v =>
    rw [hv] at hf hne; dsimp only at hf hne ⊢
    clear hf
    have hvr := opd_sound hg F φ D a hF v hv
    generalize hxv : a.eval x = xv at hvr
    unfold cNxt at hne ⊢
    split at hne
    · rename_i r
      cases hvr with
      | ptr _ _ cb co cz hp =>
      split at hne
      · rename_i s0 s1 s2 hb
        obtain ⟨_, h0, cm, hc1, hc2⟩ := hr.block hb hp
        have h0 : co = 0 := h0
        have hc1 : w.heap[cb]? = some (.mapIter cm s0 ⟨s1⟩ s2) := hc1
        have hc2 : cm = none := hc2
        subst h0 hc2
        refine Does.val hr (cv := .tuple #[.bool false]) ?_ (.tup _ _ (.cons _ _ _ _ (.bool _) .nil))
        simp only [execOp, ho, hxv, Instr.next, Nat.add_zero, Sem.run_bind, run_getObj_iter hc1, Result.andThen_ok, Sem.run_pure]
      · rename_i m since seen last hb
        obtain ⟨_, h0, cm, hc1, cb', co', cz', hp', e'⟩ := hr.block hb hp
        have h0 : co = 0 := h0
        subst h0 e'
        have hc1 : w.heap[cb]? = some (.mapIter (some cb') since ⟨seen⟩ last) := hc1
        split at hne
        · rename_i es clock hbm
          obtain ⟨_, ces, hm1, hm2⟩ := hr.block hbm hp'
          have hm1 : w.heap[cb']? = some (.map ces clock) := hm1
          have hguard : goneE seen last es = (!(⟨seen⟩ : Array Nat).isEmpty && !ces.isEmpty && ces.all fun e => decide (e.born ≥ last)) := by
            have hl := hm2.len
            unfold goneE
            cases seen with
            | nil => simp
            | cons s ss =>
              cases es with
              | nil =>
                have : ces.size = 0 := by simpa using hl.symm
                simp [Array.isEmpty, this]
              | cons e ee =>
                have : ces.size ≠ 0 := by simp at hl; omega
                simp only [allBorn_rel last hm2]
                rw [← Array.all_toList]
                simp [Array.isEmpty, this]
          split at hne
          · exact absurd rfl hne
          · rename_i hg0
            rw [hguard] at hg0
            have hleft := leftE_rel seen hm2
            have hfil : (ces.filter fun e => !(⟨seen⟩ : Array Nat).contains e.born).toList = ces.toList.filter fun e => !seen.contains e.born := by simp
            split at hne
            · rename_i hle
              rw [hle] at hleft
              have hnil : ces.filter (fun e => !(⟨seen⟩ : Array Nat).contains e.born) = #[] := by
                apply Array.ext'; rw [hfil]; generalize List.filter _ _ = q at hleft; cases hleft; rfl
              refine Does.val hr (cv := .tuple #[.bool false]) ?_ (.tup _ _ (.cons _ _ _ _ (.bool _) .nil))
              simp only [execOp, ho, hxv, Instr.next, Nat.add_zero, Sem.run_bind, run_getObj_iter hc1, run_getObj_map hm1, Result.andThen_ok, Sem.run_pure, hg0, hnil, Bool.false_eq_true, if_false]
              rw [run_choose]
              simp [Question.forced]
            · rename_i e1 hle
              rw [hle] at hleft
              obtain ⟨ek, ev, eb⟩ := e1
              obtain ⟨me, hme, hk1, hv1, hb1⟩ : ∃ me : MapEntry, ces.filter (fun e => !(⟨seen⟩ : Array Nat).contains e.born) = #[me] ∧ VR φ D ek me.key ∧ VR φ D ev me.val ∧ me.born = eb := by
                generalize hq : (ces.toList.filter fun e => !seen.contains e.born) = q at hleft
                cases hleft with
                | cons _ _ _ x y _ l h1 h2 h3 =>
                cases h3
                refine ⟨⟨x, y, eb⟩, ?_, h1, h2, rfl⟩
                apply Array.ext'; rw [hfil, hq]
              dsimp only at hne ⊢
              split at hne
              · rename_i hlt
                have hlt : eb < since := by rw [Nat.blt_eq] at hlt; exact hlt
                refine Does.upd hr (by rw [hb]; simp) hp (o := .mapIter (some cb') since (⟨seen⟩ ++ #[eb]) clock) (nx := .value (.tuple #[.bool true, me.key, me.val])) (cv := .tuple #[.bool true, me.key, me.val]) ?_ (.value _) ⟨rfl, some cb', ?_, cb', co', cz', hp', rfl⟩ (.tup _ _ (.cons _ _ _ _ (.bool _) (.cons _ _ _ _ hk1 (.cons _ _ _ _ hv1 .nil))))
                · simp only [execOp, ho, hxv, Instr.next, Nat.add_zero, Sem.run_bind, run_getObj_iter hc1, run_getObj_map hm1, Result.andThen_ok, Sem.run_pure, hg0, hme, Bool.false_eq_true, if_false]
                  have e1 : (#[me] : Array MapEntry).filter (fun e => decide (e.born < since)) = #[me] := by simp [hb1, hlt]
                  have e2 : (#[me] : Array MapEntry).filter (fun e => decide (e.born ≥ since)) = #[] := by simp [hb1, hlt]
                  rw [e1, e2]
                  rw [run_choose]
                  simp [Question.forced]
                  rw [run_setObj_iter _ hc1]
                  simp [hb1]
                · have hlt' : cb < w.heap.size := (Array.getElem?_eq_some_iff.1 hc1).1
                  simp [World.putObj, hlt']
              · exact absurd rfl hne
            · exact absurd rfl hne
        · exact absurd rfl hne
      · exact absurd rfl hne
    · exact absurd rfl hne

theorem lastN_eq : ∀ l : List Nat, lastN l = l.getLast?
  | [] => rfl
  | [a] => rfl
  | a :: b :: l => by simp only [lastN]; rw [lastN_eq (b :: l)]; simp [List.getLast?_cons_cons]
theorem findB_rel {φ : Ph} {D : Da} (b : Nat) : ∀ {es : List (AV × AV × Nat)} {l : List MapEntry} {k v : AV}, EsR φ D es l → findB b es = some (k, v) → ∃ e, l.find? (fun e => e.born == b) = some e ∧ VR φ D k e.key ∧ VR φ D v e.val
  | _, _, _, _, .nil, h => by cases h
  | _, _, k, v, .cons k' v' b' x y es l h1 h2 h3, h => by
    simp only [findB] at h
    split at h
    · rename_i e
      have e := Nat.eq_of_beq_eq_true e
      injection h with h; injection h with h4 h5
      subst h4 h5
      exact ⟨⟨x, y, b'⟩, by simp [e], h1, h2⟩
    · rename_i e
      obtain ⟨z, hz, h4, h5⟩ := findB_rel b h3 h
      refine ⟨z, ?_, h4, h5⟩
      rw [List.find?_cons]
      have : (b' == b) = false := by
        cases hq : b' == b with
        | false => rfl
        | true => have := eq_of_beq hq; subst this; rw [Nat.beq_refl] at e; cases e
      simp [this, hz]
theorem ok_ent {o : Oper} {x : Operand} {g : G} (ho : o.op = .entry x) (hg : opd x = some g) : EffOk P o (eEnt g) := by
  intro F H n φ D a w hr hF hf hne
  unfold eEnt at hf hne ⊢
  cases hv : g.f F with
  | none => rw [hv] at hne; exact absurd rfl hne
  | some v =>
    rw [hv] at hf hne; dsimp only at hf hne ⊢
    clear hf
    have hvr := opd_sound hg F φ D a hF v hv
    generalize hxv : a.eval x = xv at hvr
    unfold cEnt at hne ⊢
    split at hne
    · rename_i r
      cases hvr with
      | ptr _ _ cb co cz hp =>
      split at hne
      · rename_i m since seen stepped hb
        obtain ⟨_, h0, cm, hc1, cb', co', cz', hp', e'⟩ := hr.block hb hp
        have h0 : co = 0 := h0
        subst h0 e'
        have hc1 : w.heap[cb]? = some (.mapIter (some cb') since ⟨seen⟩ stepped) := hc1
        split at hne
        · rename_i es clock hbm
          obtain ⟨_, ces, hm1, hm2⟩ := hr.block hbm hp'
          have hm1 : w.heap[cb']? = some (.map ces clock) := hm1
          split at hne
          · rename_i hck
            have hck := Nat.eq_of_beq_eq_true hck
            split at hne
            · rename_i b hla
              split at hne
              · rename_i k v hfb
                obtain ⟨e, he1, he2, he3⟩ := findB_rel b hm2 hfb
                refine Does.val hr (cv := .tuple #[e.key, e.val]) ?_ (.tup _ _ (.cons _ _ _ _ he2 (.cons _ _ _ _ he3 .nil)))
                have hback : (⟨seen⟩ : Array Nat).back? = some b := by
                  rw [lastN_eq] at hla
                  simpa [Array.back?] using (by simpa [List.getLast?_eq_getElem?] using hla)
                have hfind : ces.find? (fun e => e.born == b) = some e := by
                  rw [← Array.find?_toList]; exact he1
                subst hck
                simp only [execOp, ho, hxv, Instr.entry, Nat.add_zero, Sem.run_bind, run_getObj_iter hc1, run_getObj_map hm1, Result.andThen_ok, Sem.run_pure, hback, hfind]
                simp
              · exact absurd rfl hne
            · exact absurd rfl hne
          · exact absurd rfl hne
        · exact absurd rfl hne
      · exact absurd rfl hne
    · exact absurd rfl hne

/-! ### whichever entry comes next -/
theorem cNxtC_few {c : Nat} {it : AV} {H : Hp} (h : ∀ r m since seen last es clock e0 e1 l, it = .ptr r 0 → H.get r = some (.iter (some m) since seen last) → H.get m = some (.map es clock) → leftE seen es ≠ e0 :: e1 :: l) : cNxtC c it H = cNxt it H := by
  unfold cNxtC
  split
  · rename_i r
    split
    · rename_i m since seen last hr
      split
      · rename_i es clock hm
        split
        · rename_i e0 e1 l hl
          exact absurd hl (h r m since seen last es clock e0 e1 l rfl hr hm)
        · rfl
      · rfl
    · rfl
  · rfl
theorem oldAll_rel {φ : Ph} {D : Da} (since : Nat) : ∀ {es : List (AV × AV × Nat)} {l : List MapEntry}, EsR φ D es l → oldAll since es = true → ∀ e ∈ l, e.born < since
  | _, _, .nil, _, e, he => by cases he
  | _, _, .cons k v b x y es l h1 h2 h3, h, e, he => by
    simp only [oldAll] at h
    split at h
    · rename_i hb
      rw [Nat.blt_eq] at hb
      rcases List.mem_cons.1 he with rfl | he
      · exact hb
      · exact oldAll_rel since h3 h e he
    · cases h
theorem EsR.get {φ : Ph} {D : Da} : ∀ {es : List (AV × AV × Nat)} {l : List MapEntry} {c : Nat} {e : AV × AV × Nat}, EsR φ D es l → es[c]? = some e → ∃ x, l[c]? = some x ∧ VR φ D e.1 x.key ∧ VR φ D e.2.1 x.val ∧ x.born = e.2.2
  | _, _, _, _, .nil, h => by simp at h
  | _, _, 0, _, .cons k v b x y es l h1 h2 h3, h => by
    simp at h; subst h
    exact ⟨⟨x, y, b⟩, rfl, h1, h2, rfl⟩
  | _, _, c + 1, _, .cons k v b x y es l h1 h2 h3, h => by
    simp at h
    simpa using EsR.get h3 h

theorem nxt_alts {o : Oper} {x : Operand} {g : G} {F : Fr} {H : Hp} {n : Nat} {φ : Ph} {D : Da} {a : Act} {w : World} (ho : o.op = .next x false) (hg : opd x = some g) (hr : Rel φ D H.get w) (hF : FR φ D F.get a.tmps)
    (hall : ∀ c, c < Nat.succ (Nat.pred (nxtCnt g F H)) → eNxtC c g F H n ≠ .fail) : ∃ c, c < Nat.succ (Nat.pred (nxtCnt g F H)) ∧ Does P (execOp a.eval o) φ D H.get w n (eNxtC c g F H n) := by
  cases hv : g.f F with
  | none => exact absurd (by unfold eNxtC; rw [hv]) (hall 0 (Nat.succ_pos _))
  | some v =>
  by_cases hm : ∃ r m since seen last es clock e0 e1 l, v = .ptr r 0 ∧ H.get r = some (.iter (some m) since seen last) ∧ H.get m = some (.map es clock) ∧ leftE seen es = e0 :: e1 :: l
  · obtain ⟨r, m, since, seen, last, es, clock, e0, e1, l, rfl, hb, hbm, hle⟩ := hm
    have hcnt : nxtCnt g F H = (leftE seen es).length := by
      unfold nxtCnt
      simp only [hv, hb, hbm]
      rw [lenAcc_zero]
    have hlen : 2 ≤ (leftE seen es).length := by rw [hle]; simp
    have hsp : Nat.succ (Nat.pred (nxtCnt g F H)) = (leftE seen es).length := by rw [hcnt]; exact Nat.succ_pred (by omega)
    rw [hsp] at hall ⊢
    have hco : ∀ c, eNxtC c g F H n = (match goneE seen last es with
        | true => .fail
        | false => match oldAll since (leftE seen es) with
          | true => match nth (leftE seen es) c with
            | some e => .upd (.tup [.bool true, e.1, e.2.1]) r (.iter (some m) since (seen ++ [e.2.2]) clock)
            | none => .fail
          | false => .fail : ERes) := by
      intro c
      unfold eNxtC
      rw [hv]
      dsimp only
      unfold cNxtC
      simp only [hb, hbm]
      rw [hle]
      rfl
    have h0 := hall 0 (by omega)
    rw [hco] at h0
    cases hgo : goneE seen last es with
    | true => rw [hgo] at h0; exact absurd rfl h0
    | false =>
      rw [hgo] at h0
      dsimp only at h0
      cases hold : oldAll since (leftE seen es) with
      | false => rw [hold] at h0; exact absurd rfl h0
      | true =>
        have hvr := opd_sound hg F φ D a hF _ hv
        generalize hxv : a.eval x = xv at hvr
        cases hvr with
        | ptr _ _ cb co cz hp =>
        obtain ⟨_, hz, cm, hc1, cb', co', cz', hp', e'⟩ := hr.block hb hp
        have hz : co = 0 := hz
        subst hz e'
        have hc1 : w.heap[cb]? = some (.mapIter (some cb') since ⟨seen⟩ last) := hc1
        obtain ⟨_, ces, hm1, hm2⟩ := hr.block hbm hp'
        have hm1 : w.heap[cb']? = some (.map ces clock) := hm1
        have hguard : goneE seen last es = (!(⟨seen⟩ : Array Nat).isEmpty && !ces.isEmpty && ces.all fun e => decide (e.born ≥ last)) := by
          have hl := hm2.len
          unfold goneE
          cases seen with
          | nil => simp
          | cons s ss =>
            cases es with
            | nil =>
              have : ces.size = 0 := by simpa using hl.symm
              simp [Array.isEmpty, this]
            | cons e ee =>
              have : ces.size ≠ 0 := by simp at hl; omega
              simp only [allBorn_rel last hm2]
              rw [← Array.all_toList]
              simp [Array.isEmpty, this]
        rw [hguard] at hgo
        have hleft := leftE_rel seen hm2
        have hfil : (ces.filter fun e => !(⟨seen⟩ : Array Nat).contains e.born).toList = ces.toList.filter fun e => !seen.contains e.born := by simp
        obtain ⟨left, hleft0⟩ : ∃ left, left = ces.filter fun e => !(⟨seen⟩ : Array Nat).contains e.born := ⟨_, rfl⟩
        rw [← hfil, ← hleft0] at hleft
        have hsz : left.size = (leftE seen es).length := by rw [hleft.len, Array.length_toList]
        have hborn := oldAll_rel since hleft hold
        have e1 : left.filter (fun e => decide (e.born < since)) = left := by
          apply Array.ext'; rw [Array.toList_filter]
          exact List.filter_eq_self.2 fun e he => by simpa using hborn e he
        have e2 : left.filter (fun e => decide (e.born ≥ since)) = #[] := by
          apply Array.ext'; rw [Array.toList_filter]
          exact List.filter_eq_nil_iff.2 fun e he => by have := hborn e he; simp; omega
        have e3 : left.isEmpty = false := by
          cases hq : left.isEmpty with
          | false => rfl
          | true =>
            have : left.size = 0 := by rw [Array.isEmpty_iff.1 hq]; rfl
            omega
        let q := (Question.mapNext left.size)
        let c := q.cut (w.tape w.drawn q)
        have hc : c < left.size := by
          show (w.tape w.drawn q) % left.size < left.size
          exact Nat.mod_lt _ (by omega)
        refine ⟨c, by omega, ?_⟩
        rw [hco]
        have hgo' : goneE seen last es = false := by rw [hguard]; exact hgo
        rw [hgo', hold]
        dsimp only
        have hget : (leftE seen es)[c]? = some (leftE seen es)[c] := List.getElem?_eq_getElem (by omega)
        rw [nth_eq, hget]
        generalize (leftE seen es)[c] = e at hget
        obtain ⟨me, hme, hk1, hv1, hb1⟩ := hleft.get hget
        dsimp only
        have hcand : (left.map some)[c]? = some (some me) := by
          rw [Array.getElem?_map, ← Array.getElem?_toList, hme]; rfl
        have hnf : q.forced = false := by
          show decide (left.size ≤ 1) = false
          simp; omega
        have hlt : cb < w.heap.size := (Array.getElem?_eq_some_iff.1 hc1).1
        obtain ⟨h1, h2⟩ := rel_upd (n := n) (k := .iter (some m) since (seen ++ [e.2.2]) clock) (rel_drew hr (w.drawn + 1)) (by rw [hb]; simp) hp (World.putObj { w with drawn := w.drawn + 1 } cb (.mapIter (some cb') since (⟨seen⟩ ++ #[e.2.2]) clock)) (fun c hc => putObj_ne _ hc) (putObj_size ..) rfl rfl
          ⟨rfl, some cb', by simp [World.putObj, hlt], cb', co', cz', hp', rfl⟩
        refine ⟨.value (.tuple #[.bool true, me.key, me.val]), .tuple #[.bool true, me.key, me.val], φ, _, ?_, .value _, ext_drew _ h2, h1, .tup _ _ (.cons _ _ _ _ (.bool _) (.cons _ _ _ _ hk1 (.cons _ _ _ _ hv1 .nil)))⟩
        have hc1' : ({ w with drawn := w.drawn + 1 } : World).heap[cb]? = some (.mapIter (some cb') since ⟨seen⟩ last) := hc1
        simp only [execOp, ho, hxv, Instr.next, Nat.add_zero, Sem.run_bind, run_getObj_iter hc1, run_getObj_map hm1, Result.andThen_ok, Sem.run_pure, hgo, ← hleft0, e1, e2, e3, Bool.false_eq_true, if_false]
        have hcs : (#[] ++ (left ++ #[]).map some : Array (Option MapEntry)) = left.map some := by simp
        rw [hcs]
        have hszm : (left.map (some : MapEntry → Option MapEntry)).size = left.size := by simp
        rw [hszm, run_choose]
        rw [show Question.forced (.mapNext left.size) = false from hnf]
        simp only [Bool.false_eq_true, if_false, Result.andThen_ok]
        rw [show (left.map (some : MapEntry → Option MapEntry))[(Question.mapNext left.size).cut (w.tape w.drawn (Question.mapNext left.size))]? = some (some me) from hcand]
        dsimp only
        rw [Sem.run_bind, run_setObj_iter _ hc1', Result.andThen_ok, hb1]
        simp
  · have hco : ∀ c, eNxtC c g F H n = eNxt g F H n := by
      intro c
      unfold eNxtC eNxt
      rw [hv]
      dsimp only
      exact cNxtC_few fun r m since seen last es clock e0 e1 l h1 h2 h3 h4 => hm ⟨r, m, since, seen, last, es, clock, e0, e1, l, h1, h2, h3, h4⟩
    refine ⟨0, Nat.succ_pos _, ?_⟩
    have h0 := hall 0 (Nat.succ_pos _)
    rw [hco] at h0 ⊢
    refine ok_nxt ho hg F H n φ D a w hr hF ?_ h0
    have : outN (eNxt g F H n) n = n := by
      unfold eNxt; rw [hv]; dsimp only
      unfold cNxt
      repeat' split
      all_goals rfl
    rw [this]
    intro b h1 h2; omega
end
end Go.Abs
