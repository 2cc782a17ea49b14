/- The abstract machine: each operation's effect is what the model does. Part thirteen: maps. -/
import Derived.Test.YtfjkegbmlagleaaGreatAbsL
import Derived.MapKept
namespace Go.Abs
open Go.MapKept (bytes_beq run_getObj_map run_setObj_map run_findKey)
section
variable {P : Program}

theorem eqNats_true {a b : List Nat} (h : eqNats a b = true) : a = b := by rw [eqNats_eq] at h; simpa using h
theorem eqNats_self (a : List Nat) : eqNats a a = true := by rw [eqNats_eq]; simp
def kindOk : LK → TypeDesc → Prop
  | .i, .int _ => True
  | .s, .string => True
  | _, _ => False
theorem keyK_spec {t : TypeId} {q : LK} (h : keyK P t = some q) : ∃ d, P.underlying t = some d ∧ kindOk q d := by
  unfold keyK at h
  split at h
  · rename_i hu; injection h with h; subst h; exact ⟨_, hu, trivial⟩
  · rename_i hu; injection h with h; subst h; exact ⟨_, hu, trivial⟩
  · cases h

theorem bytes_inj {s s' : ByteArray} (h : s.data.toList.map UInt8.toNat = s'.data.toList.map UInt8.toNat) : s = s' := by
  have h1 : s.data.toList = s'.data.toList := (List.map_inj_right (fun x y h => UInt8.toNat_inj.1 h)).1 h
  cases s; cases s'
  congr 1
  exact Array.ext' h1

theorem same_spec {φ : Ph} {D : Da} {q : LK} {d : TypeDesc} {a b : AV} {x y : Value} {r : Bool} (hd : kindOk q d) (h : eqLeaf q a b = some r) (hx : VR φ D a x) (hy : VR φ D b y) : Instr.sameNow d x y = some r ∧ (r = true → x = y) := by
  unfold eqLeaf at h
  split at h
  · split at h
    · rename_i e; subst e; injection h with h; subst h
      cases hx; cases hy
      cases d <;> simp [kindOk] at hd
      exact ⟨by simp [Instr.sameNow], by simp⟩
    · cases h
  · cases d <;> simp [kindOk] at hd
  · injection h with h; subst h
    cases hx with
    | str s _ hs => cases hy with
      | str s' _ hs' =>
        subst hs hs'
        cases d <;> simp [kindOk] at hd
        have he : (s == s') = eqNats (s.data.toList.map UInt8.toNat) (s'.data.toList.map UInt8.toNat) := by
          cases hq : eqNats (s.data.toList.map UInt8.toNat) (s'.data.toList.map UInt8.toNat) with
          | true =>
            have := eqNats_true hq
            rw [bytes_inj this]; exact (bytes_beq _ _).2 rfl
          | false =>
            cases hb : s == s' with
            | false => rfl
            | true =>
              have := (bytes_beq _ _).1 hb
              subst this
              rw [eqNats_self] at hq; cases hq
        refine ⟨by simp only [Instr.sameNow, he], fun hr => by rw [bytes_inj (eqNats_true hr)]⟩
  · cases h

theorem ck_ok {q : LK} {d : TypeDesc} {kt : TypeId} {x : Value} {w : World} (hu : P.underlying kt = some d) (hd : kindOk q d) (e : Bool) (n : Nat) : (Instr.checkKey e (n + 1) kt x).run P w = .ok () w := by
  unfold Instr.checkKey
  simp only [Sem.run_bind, run_underlying hu, Result.andThen_ok]
  cases q <;> cases d <;> simp [kindOk] at hd <;> cases x <;> rfl
theorem kts_ok {φ : Ph} {D : Da} {q : LK} {k : AV} {x : Value} {w : World} (h : isKey q k = true) (hx : VR φ D k x) : (Instr.keyThatStays x x).run P w = .ok x w := by
  unfold isKey at h
  split at h
  · cases hx; simp [Instr.keyThatStays, Instr.sameBits]
  · cases hx; simp [Instr.keyThatStays, Instr.sameBits, (bytes_beq _ _).2]
  · cases h

theorem findKey_spec {φ : Ph} {D : Da} {q : LK} {d : TypeDesc} {k : AV} {x : Value} (hd : kindOk q d) (hx : VR φ D k x) : ∀ (es : List (AV × AV × Nat)) (l : List MapEntry) (i : Nat) (r : Option AV), EsR φ D es l → findKey q k es = some r →
    (r = none ∧ Instr.findNow d x l i = some none) ∨ ∃ v j y, r = some v ∧ Instr.findNow d x l i = some (some (j, y)) ∧ VR φ D v y
  | [], l, i, r, he, h => by
    cases he
    simp only [findKey] at h; injection h with h
    exact .inl ⟨h.symm, rfl⟩
  | e :: es, l, i, r, he, h => by
    cases he with
    | cons kk v b y z _ l' h1 h2 h3 =>
    simp only [findKey] at h
    split at h
    · rename_i hq
      injection h with h
      exact .inr ⟨v, i, z, h.symm, by simp [Instr.findNow, (same_spec hd hq hx h1).1], h2⟩
    · rename_i hq
      rcases findKey_spec hd hx es l' (i + 1) r h3 h with ⟨h4, h5⟩ | ⟨v', j, y', h4, h5, h6⟩
      · exact .inl ⟨h4, by simp [Instr.findNow, (same_spec hd hq hx h1).1, h5]⟩
      · exact .inr ⟨v', j, y', h4, by simp [Instr.findNow, (same_spec hd hq hx h1).1, h5], h6⟩
    · cases h

theorem setKey_spec {φ : Ph} {D : Da} {q : LK} {d : TypeDesc} {k v : AV} {x z : Value} (hd : kindOk q d) (hx : VR φ D k x) (hz : VR φ D v z) : ∀ (es : List (AV × AV × Nat)) (l : List MapEntry) (i : Nat) (r : Option (List (AV × AV × Nat))), EsR φ D es l → setKey q k v es = some r →
    (r = none ∧ Instr.findNow d x l i = some none) ∨ ∃ es' j y e, r = some es' ∧ Instr.findNow d x l i = some (some (i + j, y)) ∧ l[j]? = some e ∧ e.key = x ∧ EsR φ D es' (l.modify j fun e => { e with key := x, val := z })
  | [], l, i, r, he, h => by
    cases he
    simp only [setKey] at h; injection h with h
    exact .inl ⟨h.symm, rfl⟩
  | e :: es, l, i, r, he, h => by
    cases he with
    | cons kk u b y u' _ l' h1 h2 h3 =>
    simp only [setKey] at h
    split at h
    · rename_i hq
      injection h with h
      obtain ⟨hs, heq⟩ := same_spec hd hq hx h1
      exact .inr ⟨_, 0, u', _, h.symm, by simp [Instr.findNow, hs], rfl, (heq rfl).symm, .cons _ _ _ _ _ _ _ hx hz h3⟩
    · rename_i hq
      obtain ⟨hs, _⟩ := same_spec hd hq hx h1
      split at h
      · rename_i r' hr'
        injection h with h
        rcases setKey_spec hd hx hz es l' (i + 1) _ h3 hr' with ⟨h4, _⟩ | ⟨es', j, y', e', h4, h5, h6, h7, h8⟩
        · cases h4
        · injection h4 with h4; subst h4
          exact .inr ⟨_, j + 1, y', e', h.symm, by simp [Instr.findNow, hs, h5]; omega, by simpa using h6, h7, .cons _ _ _ _ _ _ _ h1 h2 h8⟩
      · rename_i hr'
        injection h with h
        rcases setKey_spec hd hx hz es l' (i + 1) _ h3 hr' with ⟨_, h5⟩ | ⟨es', j, y', e', h4, _⟩
        · exact .inl ⟨h.symm, by simp [Instr.findNow, hs, h5]⟩
        · cases h4
      · cases h
    · cases h

theorem EsR.push {φ : Ph} {D : Da} {k v : AV} {x z : Value} {b : Nat} (hx : VR φ D k x) (hz : VR φ D v z) : ∀ {es : List (AV × AV × Nat)} {l : List MapEntry}, EsR φ D es l → EsR φ D (es ++ [(k, v, b)]) (l ++ [⟨x, z, b⟩])
  | _, _, .nil => .cons _ _ _ _ _ _ _ hx hz .nil
  | _, _, .cons _ _ _ _ _ _ _ h1 h2 h3 => .cons _ _ _ _ _ _ _ h1 h2 (EsR.push hx hz h3)
theorem EsR.len {φ : Ph} {D : Da} : ∀ {es : List (AV × AV × Nat)} {l : List MapEntry}, EsR φ D es l → es.length = l.length
  | _, _, .nil => rfl
  | _, _, .cons _ _ _ _ _ _ _ _ _ h3 => by simp [EsR.len h3]

theorem World.alloc_get (w : World) (o : Obj) : (World.newObj w o).heap[w.heap.size]? = some o := by
  show (w.heap.push o)[w.heap.size]? = some o
  simp
theorem ok_mkmap {o : Oper} {t : TypeId} {x : Option Operand} (ho : o.op = .makeMap t x) (hx : x = none ∨ ((∃ k n, x = some (.const (.int k n))) ∧ ∃ k e, P.underlying t = some (.map k e))) : EffOk P o eMkmap := by
  intro F H n φ D a w hr hF hf hne
  have hn : φ n = none := hf n (Nat.le_refl _) (by simp [eMkmap, outN])
  obtain ⟨h1, h2⟩ := rel_new hr (fun b x y => hf b x (by simpa [eMkmap, outN] using y)) (.map #[] 0) 0 (.map [] 0) ⟨#[], World.alloc_get w _, .nil⟩
  refine ⟨.value (.map (some w.heap.size)), _, _, _, ?_, .value _, h2, h1, .map _ _ 0 0 (by simp [Ph.set])⟩
  rcases hx with rfl | ⟨⟨k, m, rfl⟩, kt, et, hu⟩
  · simp [execOp, ho, Instr.makeMap]; rfl
  · simp [execOp, ho, Instr.makeMap, run_underlying hu, Act.eval, asInt, asIntOf]; rfl

theorem ok_lookup {o : Oper} {t kt et : TypeId} {x y : Operand} {ok : Bool} {g k : G} {q : LK} {z : AV} {zv : Value} {ti : TypeInfo} (ho : o.op = .lookup t x y ok) (hg : opd x = some g) (hk : opd y = some k) (hu : P.underlying t = some (.map kt et)) (hq : keyK P kt = some q)
    (hi : P.info? et = some ti) (h0 : ti.zero = some zv) (hz : avOf zv = some z) : EffOk P o (eLookup q z ok g k) := by
  obtain ⟨d, hd, hkd⟩ := keyK_spec hq
  intro F H n φ D a w hr hF hf hne
  unfold eLookup at hf hne ⊢
  cases hv : g.f F with
  | none => rw [hv] at hne; exact absurd rfl hne
  | some m =>
    rw [hv] at hne
    dsimp only at hne ⊢
    cases hkv : k.f F with
    | none => rw [hkv] at hne; exact absurd rfl hne
    | some kv =>
      rw [hkv] at hne
      dsimp only at hne ⊢
      have hm := opd_sound hg F φ D a hF m hv
      have hky := opd_sound hk F φ D a hF kv hkv
      unfold cLookup at hne ⊢
      split at hne
      · rename_i b
        split at hne
        · rename_i es clk hb
          split at hne
          · rename_i hisk
            generalize hxv : a.eval x = xv at hm
            cases hm with
            | map _ cb co cz hp =>
            obtain ⟨_, ces, hc1, hc2⟩ := hr.block hb hp
            have hc1 : w.heap[cb]? = some (.map ces clk) := hc1
            have hck := ck_ok (P := P) (x := a.eval y) (w := w) hd hkd ces.isEmpty 9999
            split at hne
            · rename_i v hfk
              rcases findKey_spec hkd hky es ces.toList 0 _ hc2 hfk with ⟨h, _⟩ | ⟨v', j, y', h1, h2, h3⟩
              · cases h
              · injection h1 with h1; subst h1
                have hf2 := run_findKey (w := w) hd h2
                refine Does.val hr (cv := if ok then .tuple #[y', .bool true] else y') ?_ ?_
                · simp only [execOp, ho, hxv, Instr.lookup, Sem.run_bind, run_underlying hu, Result.andThen_ok, run_getObj_map hc1, Sem.run_pure, hck, hf2]
                · cases ok
                  · exact h3
                  · exact .tup _ _ (.cons _ _ _ _ h3 (.cons _ _ _ _ (.bool _) .nil))
            · rename_i hfk
              rcases findKey_spec hkd hky es ces.toList 0 _ hc2 hfk with ⟨_, h2⟩ | ⟨v', j, y', h1, _⟩
              · have hf2 := run_findKey (w := w) hd h2
                refine Does.val hr (cv := if ok then .tuple #[zv, .bool false] else zv) ?_ ?_
                · simp only [execOp, ho, hxv, Instr.lookup, Sem.run_bind, run_underlying hu, Result.andThen_ok, run_getObj_map hc1, Sem.run_pure, hck, hf2, run_zero hi h0]
                · cases ok
                  · exact .constOf hz
                  · exact .tup _ _ (.cons _ _ _ _ (.constOf hz) (.cons _ _ _ _ (.bool _) .nil))
              · cases h1
            · exact absurd rfl hne
          · exact absurd rfl hne
        · exact absurd rfl hne
      · exact absurd rfl hne

theorem ok_mput {o : Oper} {t kt et : TypeId} {x y u : Operand} {g k l : G} {q : LK} (ho : o.op = .mapUpdate t x y u ∨ o.op = .insert t x y u) (hg : opd x = some g) (hk : opd y = some k) (hl : opd u = some l) (hu : P.underlying t = some (.map kt et)) (hq : keyK P kt = some q) :
    EffOk P o (eMput q g k l) := by
  obtain ⟨d, hd, hkd⟩ := keyK_spec hq
  intro F H n φ D a w hr hF hf hne
  unfold eMput at hf hne ⊢
  cases hv : g.f F with
  | none => rw [hv] at hne; exact absurd rfl hne
  | some m =>
    rw [hv] at hne
    dsimp only at hne ⊢
    cases hkv : k.f F with
    | none => rw [hkv] at hne; exact absurd rfl hne
    | some kv =>
      rw [hkv] at hne
      dsimp only at hne ⊢
      cases hlv : l.f F with
      | none => rw [hlv] at hne; exact absurd rfl hne
      | some lv =>
        rw [hlv] at hne
        dsimp only at hne ⊢
        have hm := opd_sound hg F φ D a hF m hv
        have hky := opd_sound hk F φ D a hF kv hkv
        have hly := opd_sound hl F φ D a hF lv hlv
        unfold cMput at hne ⊢
        split at hne
        · rename_i b
          split at hne
          · rename_i es clk hb
            split at hne
            · rename_i hisk
              generalize hxv : a.eval x = xv at hm
              cases hm with
              | map _ cb co cz hp =>
              obtain ⟨_, ces, hc1, hc2⟩ := hr.block hb hp
              have hc1 : w.heap[cb]? = some (.map ces clk) := hc1
              have hck := ck_ok (P := P) (x := a.eval y) (w := w) hd hkd false 9999
              have hlt : cb < w.heap.size := (Array.getElem?_eq_some_iff.1 hc1).1
              have hex : execOp a.eval o = (do Instr.mapUpdate t (a.eval x) (a.eval y) (a.eval u); pure .skip) := by
                rcases ho with ho | ho <;> simp [execOp, ho]
              split at hne
              · rename_i es' hsk
                rcases setKey_spec hkd hky hly es ces.toList 0 _ hc2 hsk with ⟨h, _⟩ | ⟨es2, j, y', e', h1, h2, h3, h4, h5⟩
                · cases h
                · injection h1 with h1; subst h1
                  have hf2 := run_findKey (w := w) hd h2
                  have hkts := kts_ok (P := P) (w := w) hisk hky
                  have h3' : ces[0 + j]? = some e' := by rw [Nat.zero_add]; simpa using h3
                  refine Does.upd hr (by rw [hb]; simp) hp (o := .map (ces.modify (0 + j) fun e => { e with key := a.eval y, val := a.eval u }) clk) (nx := .skip) (cv := undef) ?_ .skip ?_ (.tup _ _ .nil)
                  · rw [hex]
                    simp only [hxv, Instr.mapUpdate, Sem.run_bind, run_underlying hu, Result.andThen_ok, run_getObj_map hc1, hck, hf2, h3', Option.map_some, Option.getD_some, h4, hkts, run_setObj_map _ hc1, Sem.run_pure, World.putObj]
                  · refine ⟨ces.modify (0 + j) fun e => { e with key := a.eval y, val := a.eval u }, by simp [World.putObj, hlt], ?_⟩
                    rw [Nat.zero_add, Array.toList_modify]
                    exact h5
              · rename_i hsk
                rcases setKey_spec hkd hky hly es ces.toList 0 _ hc2 hsk with ⟨_, h2⟩ | ⟨es2, j, y', e', h1, _⟩
                · have hf2 := run_findKey (w := w) hd h2
                  refine Does.upd hr (by rw [hb]; simp) hp (o := .map (ces.push { key := a.eval y, val := a.eval u, born := clk }) (clk + 1)) (nx := .skip) (cv := undef) ?_ .skip ?_ (.tup _ _ .nil)
                  · rw [hex]
                    simp only [hxv, Instr.mapUpdate, Sem.run_bind, run_underlying hu, Result.andThen_ok, run_getObj_map hc1, hck, hf2, run_setObj_map _ hc1, Sem.run_pure, World.putObj]
                  · refine ⟨ces.push { key := a.eval y, val := a.eval u, born := clk }, by simp [World.putObj, hlt], ?_⟩
                    rw [Array.toList_push]
                    exact hc2.push hky hly
                · cases h1
              · exact absurd rfl hne
            · exact absurd rfl hne
          · exact absurd rfl hne
        · exact absurd rfl hne
end
end Go.Abs
