/- The abstract machine: each operation's effect is what the model does. Part eleven: '=='. -/
import Derived.Test.YtfjkegbmlagleaaGreatAbsZ
import Derived.Laws.StructEq
namespace Go.Abs
section
variable {P : Program}

theorem aggT_leaf {t : TypeId} {d : TypeDesc} (hu : P.underlying t = some d) (h : ∀ fs, d ≠ .struct fs) (h2 : ∀ n e, d ≠ .array n e) : aggT P t = some false := by
  unfold aggT; rw [hu]; cases d <;> first | rfl | exact absurd rfl (h _) | exact absurd rfl (h2 _ _)

/-- the cells of a value of that type -/
def pack (P : Program) (t : TypeId) (xs : List Value) : Value := match aggT P t with
  | some true => .agg ⟨xs⟩
  | _ => xs.getD 0 undef

theorem part_pack {t : TypeId} {k off : Nat} {xs : List Value} (hk : sizeT P t = some k) (ha : aggT P t ≠ none) (h1 : aggT P t = some false → k = 1) (hle : off + k ≤ xs.length) (w : World) :
    (part t ⟨xs⟩ off).run P w = .ok (pack P t ((xs.drop off).take k)) w := by
  unfold pack
  cases hagg : aggT P t with
  | none => exact absurd hagg ha
  | some b =>
    cases b with
    | true =>
      cases hi : P.info? t with
      | none => simp [sizeT, hi] at hk
      | some ti =>
        have : ti.size = k := by simpa [sizeT, hi] using hk
        rw [part_agg (P := P) ⟨xs⟩ off hi hagg w, this]
        congr 2
        apply Array.ext'
        simp [List.extract]
    | false =>
      have hk1 := h1 hagg
      subst hk1
      have hlt : off < xs.length := by omega
      rw [part_one (P := P) ⟨xs⟩ off hagg (v := xs[off]) (by simp [hlt]) w]
      congr 1
      simp [List.getD, hlt]

theorem eqLeaf_run {φ : Ph} {D : Da} {q : LK} {a b : AV} {x y : Value} {r : Bool} (h : eqLeaf q a b = some r) (hx : VR φ D a x) (hy : VR φ D b y) :
    (q = .i ∧ ∃ k i j, x = .int k i ∧ y = .int k j ∧ r = (i == j)) ∨ (q = .b ∧ ∃ i j, x = .bool i ∧ y = .bool j ∧ r = (i == j)) ∨ (q = .s ∧ ∃ i j, x = .string i ∧ y = .string j ∧ r = (i.toList == j.toList)) := by
  unfold eqLeaf at h
  split at h
  · split at h
    · rename_i e; subst e; injection h with h; subst h; cases hx; cases hy; exact .inl ⟨rfl, _, _, _, rfl, rfl, rfl⟩
    · cases h
  · injection h with h; subst h; cases hx; cases hy; exact .inr (.inl ⟨rfl, _, _, rfl, rfl, rfl⟩)
  · injection h with h; subst h
    cases hx with
    | str s _ hs => cases hy with
      | str s' _ hs' => exact .inr (.inr ⟨rfl, _, _, rfl, rfl, by rw [eqB_eq, ← toList_data, ← toList_data, hs, hs']⟩)
  · cases h

theorem eqAtoms_len : ∀ {qs : List LK} {as bs : List AV} {r : Bool}, eqAtoms qs as bs = some r → r = true → as.length = qs.length ∧ bs.length = qs.length
  | [], [], [], r, h, _ => ⟨rfl, rfl⟩
  | [], _ :: _, _, r, h, _ => by simp [eqAtoms] at h
  | [], [], _ :: _, r, h, _ => by simp [eqAtoms] at h
  | _ :: _, [], _, r, h, _ => by simp [eqAtoms] at h
  | _ :: _, _ :: _, [], r, h, _ => by simp [eqAtoms] at h
  | q :: qs, a :: as, b :: bs, r, h, hr => by
    simp only [eqAtoms] at h
    split at h
    · have := eqAtoms_len h hr; simp [this.1, this.2]
    · injection h with h; subst h; cases hr
    · cases h
theorem eqAtoms_split : ∀ {qs qs' : List LK} {as bs : List AV} {r : Bool}, eqAtoms (qs ++ qs') as bs = some r → qs.length ≤ as.length → qs.length ≤ bs.length → ∃ r1, eqAtoms qs (as.take qs.length) (bs.take qs.length) = some r1 ∧ (r1 = false → r = false) ∧ (r1 = true → eqAtoms qs' (as.drop qs.length) (bs.drop qs.length) = some r)
  | [], qs', as, bs, r, h, _, _ => ⟨true, by simp [eqAtoms], by simp, by intro _; simpa using h⟩
  | q :: qs, qs', [], bs, r, h, hk, _ => by simp at hk
  | q :: qs, qs', a :: as, [], r, h, hk, hb => by simp at hb
  | q :: qs, qs', a :: as, b :: bs, r, h, hk, hb => by
    simp only [List.cons_append, eqAtoms] at h
    simp only [List.length_cons, List.take_succ_cons, List.drop_succ_cons, eqAtoms]
    cases hab : eqLeaf q a b with
    | none => rw [hab] at h; cases h
    | some c =>
      rw [hab] at h
      cases c with
      | true => exact eqAtoms_split h (by simpa using hk) (by simpa using hb)
      | false => injection h with h; subst h; exact ⟨false, rfl, fun _ => rfl, by simp⟩

/-- what is asked of a type's leaves: its values, of so many cells, are compared as their leaves -/
def LeafOk (P : Program) (φ : Ph) (D : Da) (w : World) (dd : Nat) (t : TypeId) (k : List LK) : Prop :=
  aggT P t ≠ none ∧ (aggT P t = some false → k.length = 1) ∧ ∀ (as bs : List AV) (xs ys : List Value) (r : Bool), as.length = k.length → bs.length = k.length → VRs φ D as xs → VRs φ D bs ys → eqAtoms k as bs = some r →
    (Op.equalIn dd t (pack P t xs) (pack P t ys)).run P w = .ok r w

theorem leavesL_run {φ : Ph} {D : Da} {rr : TypeId → Option (List LK)} {dd : Nat} (w : World) (ih : ∀ t k, rr t = some k → LeafOk P φ D w dd t k) :
    ∀ (fs : List Field) (s : Nat) (k : List LK) (as bs : List AV) (xs ys : List Value) (r : Bool), leavesL P rr fs s = some k → as.length = s + k.length → bs.length = s + k.length → VRs φ D as xs → VRs φ D bs ys → eqAtoms k (as.drop s) (bs.drop s) = some r →
      (Op.eqFields dd ⟨xs⟩ ⟨ys⟩ fs).run P w = .ok r w
  | [], s, k, as, bs, xs, ys, r, h, ha, hb, hx, hy, he => by
    simp only [leavesL] at h; injection h with h; subst h
    rw [List.drop_of_length_le (by simp at ha; omega), List.drop_of_length_le (by simp at hb; omega)] at he
    simp [eqAtoms] at he
    simp [Op.eqFields, he]
  | f :: fs, s, k, as, bs, xs, ys, r, h, ha, hb, hx, hy, he => by
    simp only [leavesL] at h
    split at h
    · cases h
    · rename_i hname
      split at h
      · rename_i hoff
        split at h
        · rename_i kk hk
          split at h
          · rename_i hsz
            split at h
            · rename_i l hl
              injection h with h; subst h
              obtain ⟨i1, i2, i3⟩ := ih f.type kk hk
              simp only [List.length_append] at ha hb
              have hlen := hx.length
              have hlen' := hy.length
              obtain ⟨r1, e1, e2, e3⟩ := eqAtoms_split he (by simp; omega) (by simp; omega)
              have p1 := part_pack (P := P) (xs := xs) (off := s) hsz i1 i2 (by omega) w
              have p2 := part_pack (P := P) (xs := ys) (off := s) hsz i1 i2 (by omega) w
              have q := i3 ((as.drop s).take kk.length) ((bs.drop s).take kk.length) ((xs.drop s).take kk.length) ((ys.drop s).take kk.length) r1 (by simp; omega) (by simp; omega) ((hx.drop s).take kk.length) ((hy.drop s).take kk.length) e1
              simp only [Op.eqFields]
              rw [if_pos hname]
              simp only [Sem.run_bind, hoff, p1, p2, q, Result.andThen_ok]
              cases r1 with
              | false => simp [e2 rfl]
              | true =>
                have e4 := e3 rfl
                rw [List.drop_drop, List.drop_drop] at e4
                simp only [Bool.not_true, Bool.false_eq_true, if_false]
                exact leavesL_run w ih fs (s + kk.length) l as bs xs ys r hl (by omega) (by omega) hx hy e4
            · cases h
          · cases h
        · cases h
      · cases h

theorem leaves_run {φ : Ph} {D : Da} (w : World) : ∀ (d : Nat) (t : TypeId) (k : List LK), leaves P d t = some k → ∀ dd, d ≤ dd → LeafOk P φ D w dd t k
  | 0, t, k, h => by simp [leaves] at h
  | d + 1, t, k, h => by
    intro dd hdd
    obtain ⟨dd, rfl⟩ : ∃ e, dd = e + 1 := ⟨dd - 1, by omega⟩
    have leaf : ∀ dsc q, P.underlying t = some dsc → k = [q] → ((dsc = .bool ∧ q = .b) ∨ (dsc = .string ∧ q = .s) ∨ ∃ kk, dsc = .int kk ∧ q = .i) → LeafOk P φ D w (dd + 1) t k := by
      intro dsc q hu hk hd
      subst hk
      have hagg : aggT P t = some false := aggT_leaf hu (by rcases hd with ⟨rfl, _⟩ | ⟨rfl, _⟩ | ⟨kk, rfl, _⟩ <;> simp) (by rcases hd with ⟨rfl, _⟩ | ⟨rfl, _⟩ | ⟨kk, rfl, _⟩ <;> simp)
      refine ⟨by rw [hagg]; simp, fun _ => rfl, fun as bs xs ys r la lb hx hy he => ?_⟩
      match as, bs, la, lb with
      | [a], [b], _, _ =>
        cases hx with
        | cons _ x _ _ hx0 hx1 =>
        cases hx1
        cases hy with
        | cons _ y _ _ hy0 hy1 =>
        cases hy1
        simp only [eqAtoms] at he
        have he' : eqLeaf q a b = some r := by
          cases hab : eqLeaf q a b with
          | none => rw [hab] at he; cases he
          | some c => rw [hab] at he; cases c <;> simpa using he
        have hp : pack P t [x] = x ∧ pack P t [y] = y := by unfold pack; rw [hagg]; simp
        rw [hp.1, hp.2]
        rcases eqLeaf_run he' hx0 hy0 with ⟨rfl, kk, i, j, rfl, rfl, rfl⟩ | ⟨rfl, i, j, rfl, rfl, rfl⟩ | ⟨rfl, i, j, rfl, rfl, rfl⟩
        · rcases hd with ⟨_, e⟩ | ⟨_, e⟩ | ⟨kk', rfl, _⟩
          · cases e
          · cases e
          · exact run_equalIn_int w dd t kk kk' i j hu
        · rcases hd with ⟨rfl, _⟩ | ⟨_, e⟩ | ⟨kk', _, e⟩
          · exact run_equalIn_bool' w dd t i j hu
          · cases e
          · cases e
        · rcases hd with ⟨_, e⟩ | ⟨rfl, _⟩ | ⟨kk', _, e⟩
          · cases e
          · exact run_equalIn_string w dd t i j hu
          · cases e
    unfold leaves at h
    split at h
    · rename_i hu; injection h with h; exact leaf _ _ hu h.symm (.inl ⟨rfl, rfl⟩)
    · rename_i kk hu; injection h with h; exact leaf _ _ hu h.symm (.inr (.inr ⟨kk, rfl, rfl⟩))
    · rename_i hu; injection h with h; exact leaf _ _ hu h.symm (.inr (.inl ⟨rfl, rfl⟩))
    · rename_i fs hu
      split at h
      · cases h
      · rename_i hst
        have hagg : aggT P t = some true := by unfold aggT; rw [hu]
        refine ⟨by rw [hagg]; simp, by rw [hagg]; simp, fun as bs xs ys r la lb hx hy he => ?_⟩
        have hp : pack P t xs = .agg ⟨xs⟩ ∧ pack P t ys = .agg ⟨ys⟩ := by unfold pack; rw [hagg]; exact ⟨rfl, rfl⟩
        rw [hp.1, hp.2]
        have hfo : P.fieldsOf t = fs := by unfold Program.fieldsOf; rw [hu]
        rw [run_equalIn_struct w dd t ⟨xs⟩ ⟨ys⟩ (by rw [hfo]; exact hu) (by simpa using hst), hfo]
        exact leavesL_run (φ := φ) (D := D) (dd := dd) w (fun t' k' h' => leaves_run (φ := φ) (D := D) w d t' k' h' dd (by omega)) fs.toList 0 k as bs xs ys r h (by omega) (by omega) hx hy (by simpa using he)
    · cases h

theorem ok_eqA {o : Oper} {op : BinOp} {t u : TypeId} {x y : Operand} {g k : G} {fs : Array Field} {ks : List LK} (ho : o.op = .binOp op t x y u) (hg : opd x = some g) (hk : opd y = some k) (hop : isEq op = true) (hu : P.underlying t = some (.struct fs)) (hl : leaves P 20 t = some ks)
    (hgd : P.eqGuardType P.depth t = false) : EffOk P o (e2 (cEqA (isNeq op) ks) g k) := by
  refine eff2 hg hk _ fun φ D h w n ρ v u xv yv hr hx hy hv huv hf hne => ?_
  unfold cEqA at hne ⊢
  split at hne
  · rename_i a na b nb
    split at hne
    · rename_i hn
      simp only [Bool.and_eq_true] at hn
      have hn1 := Nat.eq_of_beq_eq_true hn.1
      have hn2 := Nat.eq_of_beq_eq_true hn.2
      split at hne
      · rename_i r hr'
        cases hv with
        | agg _ xl _ hxs hxn =>
        cases huv with
        | agg _ yl _ hys hyn =>
        have hagg : aggT P t = some true := by unfold aggT; rw [hu]
        obtain ⟨_, _, q3⟩ := leaves_run (P := P) (φ := φ) (D := D) w 20 t ks hl 10000 (by omega)
        have hp : pack P t xl = .agg ⟨xl⟩ ∧ pack P t yl = .agg ⟨yl⟩ := by unfold pack; rw [hagg]; exact ⟨rfl, rfl⟩
        have q := q3 a b xl yl r (by omega) (by omega) hxs hys hr'
        rw [hp.1, hp.2] at q
        refine Does.val hr (cv := .bool (isNeq op != r)) ?_ (.bool _)
        simp only [execOp, ho, hx, hy, Sem.run_bind, run_eqGuard_agg w op t x y _ _ hgd, Result.andThen_ok]
        cases op <;> simp [isEq] at hop
        · simp only [run_eql_struct, q, Result.andThen_ok, Sem.run_pure, isNeq]; cases r <;> rfl
        · simp only [run_neq_struct, q, Result.andThen_ok, Sem.run_pure, isNeq]; cases r <;> rfl
      · exact absurd rfl hne
    · exact absurd rfl hne
  · exact absurd rfl hne

theorem run_eq_of {op : BinOp} {t : TypeId} {x y : Value} {r : Bool} (w : World) (hop : isEq op = true) (he : binOp .eql t x y = (do pure (.bool (← Op.equal t x y)))) (hn : binOp .neq t x y = (do pure (.bool (!(← Op.equal t x y)))))
    (h : ∀ d, (Op.equalIn (d + 1) t x y).run P w = .ok r w) : (binOp op t x y).run P w = .ok (.bool (isNeq op != r)) w := by
  have h' : (Op.equal t x y).run P w = .ok r w := h 9999
  cases op <;> simp [isEq] at hop
  · rw [he]; simp only [Sem.run_bind, h', Result.andThen_ok, Sem.run_pure, isNeq]; cases r <;> rfl
  · rw [hn]; simp only [Sem.run_bind, h', Result.andThen_ok, Sem.run_pure, isNeq]; cases r <;> rfl

def KindOf (P : Program) (cst : Bool) (q : EqK) : TypeDesc → Prop
  | .int _ => q = .num
  | .string => q = .num
  | .bool => q = .bool
  | .pointer e => q = .ptr ∧ ∃ k, sizeT P e = some (k + 1)
  | .slice _ => q = .slice
  | .map _ _ => q = .map
  | .func _ _ _ => q = .func
  | .interface _ => (q = .ifacen ∧ cst = true) ∨ q = .iface
  | _ => False
theorem eqKind_und {t : TypeId} {q : EqK} {cst : Bool} (hq : eqKind P cst t = some q) : ∃ dsc, P.underlying t = some dsc ∧ KindOf P cst q dsc := by
  unfold eqKind at hq
  split at hq
  · rename_i hu; injection hq with hq; exact ⟨_, hu, hq.symm⟩
  · rename_i hu; injection hq with hq; exact ⟨_, hu, hq.symm⟩
  · rename_i hu; injection hq with hq; exact ⟨_, hu, hq.symm⟩
  · rename_i hu
    split at hq
    · rename_i hz
      injection hq with hq
      exact ⟨_, hu, hq.symm, _, hz⟩
    · cases hq
  · rename_i hu; injection hq with hq; exact ⟨_, hu, hq.symm⟩
  · rename_i hu; injection hq with hq; exact ⟨_, hu, hq.symm⟩
  · rename_i hu; injection hq with hq; exact ⟨_, hu, hq.symm⟩
  · rename_i hu
    injection hq with hq
    refine ⟨_, hu, ?_⟩
    show (q = .ifacen ∧ cst = true) ∨ q = .iface
    rw [← hq]
    cases cst
    · exact .inr rfl
    · exact .inl ⟨rfl, rfl⟩
  · cases hq
theorem eqGuard_ok {op : BinOp} {t : TypeId} {xo yo : Operand} {x y : Value} (w : World) (hop : isEq op = true) (hagg : ∀ l, x ≠ .agg l) (hnil : x ≠ .nilIface ∨ y ≠ .nilIface ∨ (isCst xo || isCst yo) = true) :
    (eqGuard op t xo yo x y).run P w = .ok () w := by
  cases op <;> simp [isEq] at hop
  all_goals
    cases x <;> cases y <;> first
      | rfl
      | exact absurd rfl (hagg _)
      | (rcases hnil with hnil | hnil | hnil
         · exact absurd rfl hnil
         · exact absurd rfl hnil
         · cases xo <;> cases yo <;> first | rfl | (simp [isCst] at hnil))
theorem eqPtr_run {t el : TypeId} {k o1 o2 cb co : Nat} (w : World) (hu : P.underlying t = some (.pointer el)) (hk : sizeT P el = some (k + 1)) (d : Nat) :
    (Op.equalIn (d + 1) t (.pointer (some ⟨cb, co + o1, none⟩)) (.pointer (some ⟨cb, co + o2, none⟩))).run P w = .ok (Nat.beq o1 o2) w := by
  cases hi : P.info? el with
  | none => simp [sizeT, hi] at hk
  | some ti =>
    have hsz : ti.size = k + 1 := by simpa [sizeT, hi] using hk
    have hs : (sizeOf el).run P = fun w => .ok (k + 1) w := by funext w; rw [run_sizeOf _ hi]; simp [Program.cellsOf, hi, hsz]
    have heq : ((⟨cb, co + o1, none⟩ : Addr) == ⟨cb, co + o2, none⟩) = Nat.beq o1 o2 := by
      by_cases ho : o1 = o2
      · subst ho; simp
      · have : (Nat.beq o1 o2) = false := by
          cases hb : Nat.beq o1 o2 with
          | false => rfl
          | true => exact absurd (Nat.eq_of_beq_eq_true hb) ho
        rw [this]; simp; exact ho
    simp only [Op.equalIn, Sem.run_bind, run_underlying hu, Result.andThen_ok, hs]
    simp [sameAddr, heq]
theorem eqNil_run {t : TypeId} {dsc : TypeDesc} {x y : Value} {cst : Bool} {q : EqK} (w : World) (hu : P.underlying t = some dsc) (hm : KindOf P cst q dsc) (d : Nat) (r : Bool)
    (h : (q = .ptr ∧ ((∃ a, x = .pointer (some a) ∧ y = .pointer none ∧ r = false) ∨ (∃ a, x = .pointer none ∧ y = .pointer (some a) ∧ r = false) ∨ (x = .pointer none ∧ y = .pointer none ∧ r = true))) ∨
      (q = .slice ∧ ((∃ a l c l' c', x = .slice (some a) l c ∧ y = .slice none l' c' ∧ r = false) ∨ (∃ a l c l' c', x = .slice none l' c' ∧ y = .slice (some a) l c ∧ r = false) ∨ (∃ l c l' c', x = .slice none l c ∧ y = .slice none l' c' ∧ r = true))) ∨
      (q = .map ∧ ((∃ a, x = .map (some a) ∧ y = .map none ∧ r = false) ∨ (∃ a, x = .map none ∧ y = .map (some a) ∧ r = false) ∨ (x = .map none ∧ y = .map none ∧ r = true))) ∨
      (q = .func ∧ ((∃ f a b, x = .func f a b ∧ y = .nilFunc ∧ r = false) ∨ (∃ f a b, x = .nilFunc ∧ y = .func f a b ∧ r = false) ∨ (x = .nilFunc ∧ y = .nilFunc ∧ r = true))) ∨
      ((q = .iface ∨ q = .ifacen) ∧ ((∃ a b, x = .iface a b ∧ y = .nilIface ∧ r = false) ∨ (∃ a b, x = .nilIface ∧ y = .iface a b ∧ r = false) ∨ (x = .nilIface ∧ y = .nilIface ∧ r = true)))) :
    (Op.equalIn (d + 1) t x y).run P w = .ok r w := by
  simp only [Op.equalIn, Sem.run_bind, run_underlying hu, Result.andThen_ok]
  rcases h with ⟨rfl, h⟩ | ⟨rfl, h⟩ | ⟨rfl, h⟩ | ⟨rfl, h⟩ | ⟨h0, h⟩
  · cases dsc <;> simp [KindOf] at hm
    rcases h with ⟨_, rfl, rfl, rfl⟩ | ⟨_, rfl, rfl, rfl⟩ | ⟨rfl, rfl, rfl⟩ <;> rfl
  · cases dsc <;> simp [KindOf] at hm
    rcases h with ⟨_, _, _, _, _, rfl, rfl, rfl⟩ | ⟨_, _, _, _, _, rfl, rfl, rfl⟩ | ⟨_, _, _, _, rfl, rfl, rfl⟩ <;> rfl
  · cases dsc <;> simp [KindOf] at hm
    rcases h with ⟨_, rfl, rfl, rfl⟩ | ⟨_, rfl, rfl, rfl⟩ | ⟨rfl, rfl, rfl⟩ <;> rfl
  · cases dsc <;> simp [KindOf] at hm
    rcases h with ⟨_, _, _, rfl, rfl, rfl⟩ | ⟨_, _, _, rfl, rfl, rfl⟩ | ⟨rfl, rfl, rfl⟩ <;> rfl
  · rcases h0 with rfl | rfl <;> (cases dsc <;> simp [KindOf] at hm) <;>
    rcases h with ⟨_, _, rfl, rfl, rfl⟩ | ⟨_, _, rfl, rfl, rfl⟩ | ⟨rfl, rfl, rfl⟩ <;> rfl

theorem eqVal_run {φ : Ph} {D : Da} {op : BinOp} {t : TypeId} {q : EqK} {a b : AV} {xo yo : Operand} {x y : Value} {r : Bool} (w : World) (hop : isEq op = true) (h : eqVal q a b = some r) (hx : VR φ D a x) (hy : VR φ D b y) (hq : eqKind P (isCst xo || isCst yo) t = some q) :
    (eqGuard op t xo yo x y).run P w = .ok () w ∧ (binOp op t x y).run P w = .ok (.bool (isNeq op != r)) w := by
  obtain ⟨dsc, hu, hm⟩ := eqKind_und hq
  unfold eqVal at h
  split at h
  -- int
  · split at h
    · rename_i hjk
      subst hjk; injection h with h; subst h; cases hx; cases hy
      refine ⟨eqGuard_ok w hop (by simp) (by simp), ?_⟩
      cases op <;> simp [isEq] at hop <;> simp [binOp, Op.intCmp, isNeq, bne]
    · cases h
  -- string
  · injection h with h; subst h
    cases hx with
    | str s _ hs =>
    cases hy with
    | str s' _ hs' =>
    subst hs hs'
    have he : (s.toList == s'.toList) = eqNats (s.data.toList.map UInt8.toNat) (s'.data.toList.map UInt8.toNat) := by rw [eqB_eq, ← toList_data, ← toList_data]
    refine ⟨eqGuard_ok w hop (by simp) (by simp), ?_⟩
    cases op <;> simp [isEq] at hop <;> simp [binOp, Op.stringOp, isNeq, bne, he]
  -- bool
  · injection h with h; subst h; cases hx; cases hy
    refine ⟨eqGuard_ok w hop (by simp) (by simp), ?_⟩
    cases dsc <;> simp [KindOf] at hm
    exact run_eq_of w hop rfl rfl fun d => by simp [Op.equalIn, run_underlying hu]
  -- pointers
  · rename_i a1 o1 b1 o2
    split at h
    · rename_i hb
      have hb := Nat.eq_of_beq_eq_true hb
      subst hb; injection h with h; subst h
      cases hx with
      | ptr _ _ cb co cz hp =>
      cases hy with
      | ptr _ _ cb' co' cz' hp' =>
      rw [hp] at hp'; injection hp' with hp'; simp only [Prod.mk.injEq] at hp'; obtain ⟨rfl, rfl, rfl⟩ := hp'
      refine ⟨eqGuard_ok w hop (by simp) (by simp), ?_⟩
      cases dsc <;> simp [KindOf] at hm
      obtain ⟨k, hk⟩ := hm
      exact run_eq_of w hop rfl rfl (eqPtr_run w hu hk)
    · cases h
  all_goals first
    | (exfalso; cases h; done)
    | (injection h with h; subst h; cases hx <;> cases hy <;>
       exact ⟨eqGuard_ok w hop (fun _ => Value.noConfusion) (.inl Value.noConfusion), run_eq_of w hop rfl rfl fun d => eqNil_run w hu hm d _ (by simp)⟩)
    | (injection h with h; subst h; cases hx <;> cases hy <;>
       exact ⟨eqGuard_ok w hop (fun _ => Value.noConfusion) (.inr (.inl Value.noConfusion)), run_eq_of w hop rfl rfl fun d => eqNil_run w hu hm d _ (by simp)⟩)
    | skip
  · injection h with h; subst h; cases hx; cases hy
    refine ⟨eqGuard_ok w hop (by simp) (.inr (.inr ?_)), run_eq_of w hop rfl rfl fun d => eqNil_run w hu hm d _ (by simp)⟩
    cases dsc <;> simp [KindOf] at hm
    simpa using hm
theorem ok_eq {o : Oper} {op : BinOp} {t u : TypeId} {x y : Operand} {g k : G} {q : EqK} (ho : o.op = .binOp op t x y u) (hg : opd x = some g) (hk : opd y = some k) (hop : isEq op = true) (hq : eqKind P (isCst x || isCst y) t = some q) : EffOk P o (e2 (cEq (isNeq op) q) g k) := by
  refine eff2 hg hk _ fun φ D h w n ρ v u xv yv hr hx hy hv huv hf hne => ?_
  unfold cEq at hne ⊢
  cases he : eqVal q v u with
  | none => rw [he] at hne; exact absurd rfl hne
  | some r =>
    obtain ⟨h1, h2⟩ := eqVal_run (P := P) w hop he hv huv hq
    exact Does.val hr (by simp only [execOp, ho, hx, hy, Sem.run_bind, h1, h2, Result.andThen_ok, Sem.run_pure]) (.bool _)
end
end Go.Abs
