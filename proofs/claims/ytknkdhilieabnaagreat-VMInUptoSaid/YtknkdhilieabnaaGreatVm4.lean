/- A part of the proof. -/
import Derived.Test.YtknkdhilieabnaaGreatVm3
namespace Go.Abs
open Go.Proofs
set_option maxRecDepth 100000

def intsC (l : List Int) : List AV := l.map (.int .i64)
@[simp] theorem intsC_len (l : List Int) : (intsC l).length = l.length := by simp [intsC]
@[simp] theorem intsC_pure (l : List Int) : PureL (intsC l) := PureL.of_mem fun v hv => by
  simp only [intsC, List.mem_map] at hv
  obtain ⟨i, _, rfl⟩ := hv
  simp
theorem intsC_drop (l : List Int) (i : Nat) (h : i < l.length) : (intsC l).drop i = .int .i64 l[i] :: intsC (l.drop (i + 1)) := by
  rw [intsC, ← List.map_drop, List.drop_eq_getElem_cons h]; rfl
theorem ixa_int {l : List Int} {i : Nat} {k : IntKind} (h : i < l.length) : cIxa 1 (.ds (intsC l) l.length 1) (.int k (i : Int)) = .val (.dp (.int .i64 l[i] :: intsC (l.drop (i + 1)))) := by
  rw [cIxa_ds h, Nat.mul_one, intsC_drop l i h]
theorem ixa_intn {l : List Int} {i len : Nat} {k : IntKind} (hl : len = l.length) (h : i < l.length) : cIxa 1 (.ds (intsC l) len 1) (.int k (i : Int)) = .val (.dp (.int .i64 l[i] :: intsC (l.drop (i + 1)))) := by
  subst hl; exact ixa_int h
def valsC : List Val → List AV
  | [] => []
  | v :: r => v.cells ++ valsC r
@[simp] theorem Val.cells_len (v : Val) : v.cells.length = 3 := by simp [Val.cells]
@[simp] theorem valsC_len (l : List Val) : (valsC l).length = l.length * 3 := by
  induction l with
  | nil => simp [valsC]
  | cons e r ih => simp [valsC, ih]; omega
theorem valsC_drop (l : List Val) (i : Nat) (h : i < l.length) : (valsC l).drop (i * 3) = l[i].cells ++ valsC (l.drop (i + 1)) := by
  induction l generalizing i with
  | nil => simp at h
  | cons e r ih =>
    cases i with
    | zero => simp [valsC]
    | succ i =>
      have : (i + 1) * 3 = e.cells.length + i * 3 := by simp; omega
      rw [valsC, this, ← List.drop_drop, List.drop_left' rfl]
      simpa using ih i (by simpa using h)
@[simp] theorem valsC_pure (l : List Val) : PureL (valsC l) := by
  induction l with
  | nil => simp [valsC]
  | cons e r ih => simp [valsC, Val.cells, ih]
theorem ixa_val {l : List Val} {i : Nat} {k : IntKind} (h : i < l.length) : cIxa 3 (.ds (valsC l) l.length 3) (.int k (i : Int)) = .val (.dp (l[i].cells ++ valsC (l.drop (i + 1)))) := by
  rw [cIxa_ds h, valsC_drop l i h]
theorem ld_val (v : Val) (r : List AV) (H : Hp) : cLoadN 3 (.dp (v.cells ++ r)) H = .val v.av := cLoadN_dp r v.cells_len
theorem ld_kind (v : Val) (r : List AV) (H : Hp) : cLoad1 (.dp (v.cells ++ r)) H = .val (.int .i64 v.kind) := Eq.trans rfl rfl
instance : DecidableEq Val := fun a b => if h : a.kind = b.kind ∧ a.num = b.num ∧ a.s = b.s then .isTrue (by cases a; cases b; simp at h; obtain ⟨rfl, rfl, rfl⟩ := h; rfl) else .isFalse (by rintro rfl; exact h ⟨rfl, rfl, rfl⟩)
theorem Val.ext_iff (v u : Val) : v = u ↔ v.kind = u.kind ∧ v.num = u.num ∧ v.s = u.s := by
  cases v; cases u; simp
theorem eqA_val (b : Bool) (v u : Val) : cEqA b [.i, .i, .s] v.av u.av = .val (.bool (b != decide (v = u))) := by
  obtain ⟨k, a, s⟩ := v
  obtain ⟨q, c, t⟩ := u
  have he : eqAtoms [.i, .i, .s] [.int .i64 k, .int .i64 a, .str s] [.int .i64 q, .int .i64 c, .str t] = some (decide ((Val.mk k a s) = Val.mk q c t)) := by
    simp only [eqAtoms, eqLeaf, eqNats_eq, if_true]
    by_cases h1 : k = q
    · subst h1
      rw [show (k == k) = true by simp]
      by_cases h2 : a = c
      · subst h2
        rw [show (a == a) = true by simp]
        by_cases h3 : s = t
        · subst h3; simp
        · rw [show (s == t) = false by simpa using h3]; simp [Val.ext_iff, h3]
      · rw [show (a == c) = false by simpa using h2]; simp [Val.ext_iff, h2]
    · rw [show (k == q) = false by simpa using h1]; simp [Val.ext_iff, h1]
  unfold cEqA Val.av
  simp only [he]
  rfl

structure Idx where
  id : Int
  table : Int
  name : List Nat
  cols : List Int
  uniq : Bool
  root : Int
def Idx.cells (x : Idx) : List AV := [.int .u32 x.id, .int .u32 x.table, .str x.name, .ds (intsC x.cols) x.cols.length 1, .bool x.uniq, .int .u32 x.root]
def Idx.av (x : Idx) : AV := .agg x.cells 6
@[simp] theorem Idx.pure (x : Idx) : Pure x.av := by simp [Idx.av, Idx.cells]
structure Spn where
  eq : List Val
  hasLo : Bool
  lo : Val
  loIn : Bool
  hasHi : Bool
  hi : Val
  hiIn : Bool
def Spn.cells (s : Spn) : List AV := [.ds (valsC s.eq) s.eq.length 3, .bool s.hasLo, .int .i64 s.lo.kind, .int .i64 s.lo.num, .str s.lo.s, .bool s.loIn, .bool s.hasHi, .int .i64 s.hi.kind, .int .i64 s.hi.num, .str s.hi.s, .bool s.hiIn]
def Spn.av (s : Spn) : AV := .agg s.cells 11
@[simp] theorem Spn.pure (s : Spn) : Pure s.av := by simp [Spn.av, Spn.cells]
def rowAV (r : List Val) : AV := .ds (valsC r) r.length 3
@[simp] theorem rowAV_pure (r : List Val) : Pure (rowAV r) := by simp [rowAV]

/-- the place i of an index holds what it must -/
def okAt (cols : List Int) (eq row : List Val) (i : Nat) : Prop := ∃ (c : Nat) (hc : c < row.length), cols[i]? = some (c : Int) ∧ row[c].kind ≠ 0 ∧ ∀ h : i < eq.length, row[c] = eq[i]
/-- the value behind the places that must be equal -/
def lowOk (v u : Val) (incl : Bool) : Bool := !(decide ((v.cmp u).2 ≠ 0) || decide (u.kind = 0) || decide ((v.cmp u).1 < 0) || (decide ((v.cmp u).1 = 0) && !incl))
def highOk (v u : Val) (incl : Bool) : Bool := !(decide ((v.cmp u).2 ≠ 0) || decide (u.kind = 0) || decide (0 < (v.cmp u).1) || (decide ((v.cmp u).1 = 0) && !incl))
def Spn.n (s : Spn) : Nat := if (s.hasLo || s.hasHi) = true then s.eq.length + 1 else s.eq.length
def inP (x : Idx) (s : Spn) (row : List Val) : Prop := s.n ≤ x.cols.length ∧ (∀ i, i < s.n → okAt x.cols s.eq row i) ∧
  ((s.hasLo || s.hasHi) = true → ∃ (c : Nat) (hc : c < row.length), x.cols[s.eq.length]? = some (c : Int) ∧ (s.hasLo = true → lowOk row[c] s.lo s.loIn = true) ∧ (s.hasHi = true → highOk row[c] s.hi s.hiIn = true))
open Classical in
noncomputable def inB (x : Idx) (s : Spn) (row : List Val) : Bool := decide (inP x s row)
theorem inB_true {x : Idx} {s : Spn} {row : List Val} (h : inP x s row) : inB x s row = true := by simp [inB, h]
theorem inB_false {x : Idx} {s : Spn} {row : List Val} (h : ¬ inP x s row) : inB x s row = false := by simp [inB, h]

theorem cSlc_dst {cs : List AV} {len n : Nat} {k : IntKind} (h : n ≤ len) : cSlc 1 none (some (.int k (n : Int))) none (.ds cs len 1) = .val (.ds (cs.take n) n 1) := by
  unfold cSlc
  have : bnds len none (some (.int k (n : Int))) none = some (0, n) := by
    simp [bnds, show bnd len (some (.int k (n : Int))) = some n from rfl, show bnd len none = some len from rfl, show bnd 0 none = some 0 from rfl, h]
  simp only [this]
  simp
set_option maxHeartbeats 2000000 in
theorem in5 (x : Idx) (s : Spn) (row : List Val) (h1 : x.cols.length ≤ 1048576) (h2 : s.eq.length ≤ 1048576) (h3 : row.length ≤ 1048576) : FnPure Tryz.prog 5 [x.av, s.av, rowAV row] (.bool (inB x s row)) := by
  refine pureV c5 (by simp) (by simp) (by simp [A5]) fun F hF => ?_
  by_cases hn : s.n ≤ x.cols.length
  · have g1 : ¬ x.cols.length < s.eq.length := by unfold Spn.n at hn; split at hn <;> omega
    have contHi : ∀ (F : Fr) (H : Hp) (m : Nat), F.get 2 = some (rowAV row) → F.get 3 = some (.ptr 0 0) → F.get 4 = some (.ptr 1 0) → F.get 7 = some (.int .i64 (s.n : Int)) →
        H.get 0 = some (.cells 6 [] x.cells .nil) → H.get 1 = some (.cells 11 [] s.cells .nil) → (∀ i, i < s.n → okAt x.cols s.eq row i) →
        (s.hasLo = true → ∃ (c : Nat) (hc : c < row.length), x.cols[s.eq.length]? = some (c : Int) ∧ lowOk row[c] s.lo s.loIn = true) →
        VC Tryz.prog (.seq (.seq R5_16 (.cond (slotG 130) (.seq R5_17 (.seq R5_18 (.cond (slotG 166) (.seq R5_19 .ret) .skip))) .skip)) (.seq R5_20 .ret)) F H m []
          (RetQ [rTmp 6] fun v1 H' _ => Frz H'.get v1 (.bool (inB x s row))) := by
      intro F H m f2 f3 f4 f7 k0 k1 hall hlow
      have k0' := k0
      have k1' := k1
      simp only [Idx.cells] at k0'
      simp only [Spn.cells] at k1'
      cases hh : s.hasHi with
      | false =>
        rw [inB_true ⟨hn, hall, fun he => by
          have hl : s.hasLo = true := by simpa [hh] using he
          obtain ⟨c, hc, e1, e2⟩ := hlow hl
          exact ⟨c, hc, e1, fun _ => e2, fun h => by rw [hh] at h; cases h⟩⟩]
        simp [R5_16, R5_20, f4, k1', hh]
        exact .bool rfl
      | true =>
        have e : s.n = s.eq.length + 1 := by simp [Spn.n, hh]
        obtain ⟨c, hc, hcc, hck, _⟩ := hall s.eq.length (by omega)
        have hic : s.eq.length < x.cols.length := by omega
        have hcg : x.cols[s.eq.length] = (c : Int) := by rw [List.getElem?_eq_getElem hic] at hcc; injection hcc
        have hx := ixa_int (l := x.cols) (k := .i64) hic
        rw [hcg] at hx
        have hr := ixa_val (k := .i64) hc
        have hw : IntKind.i64.wrap ((s.n : Int) - 1) = (s.eq.length : Int) := by
          rw [e, wrap_sm _ (by omega) (by omega)]; omega
        generalize hrv : row[c] = v at hr
        simp [R5_16, R5_17, f4, k1', hh]
        refine DrwV.of (ceT_ok (l := [(13, [v.av, s.hi.av], fun H n => .mk (.tup [.int .i64 (v.cmp s.hi).1, .int .i64 (v.cmp s.hi).2]) H n)]) ?_) ?_
        · simp only [List.mem_singleton]; rintro y rfl; exact ceT_pure (compare13 v s.hi)
        · simp [clearF_get, f2, f3, f4, f7, k0', k1', rowAV, hw, hx, hr, ld_val]
          rw [show [v.av, AV.agg [AV.int IntKind.i64 s.hi.kind, AV.int IntKind.i64 s.hi.num, AV.str s.hi.s] 3] = [v.av, s.hi.av] from rfl, ceT_hd]
          have hbad : highOk v s.hi s.hiIn = false → ¬ inP x s row := fun hb h => by
            obtain ⟨c', hc', e1, _, e2⟩ := h.2.2 (by simp [hh])
            rw [hcc] at e1; injection e1 with e1
            have : c = c' := by omega
            subst this
            rw [hrv, hb] at e2; exact absurd (e2 hh) (by simp)
          have hgood : highOk v s.hi s.hiIn = true → inP x s row := fun hb => ⟨hn, hall, fun _ => ⟨c, hc, hcc, fun hl => by
            obtain ⟨c', hc', e1, e2⟩ := hlow hl
            rw [hcc] at e1; injection e1 with e1
            have : c = c' := by omega
            subst this
            exact e2, fun _ => by rw [hrv]; exact hb⟩⟩
          generalize hq : v.cmp s.hi = q
          obtain ⟨q1, q2⟩ := q
          simp only [highOk, hq] at hbad hgood
          by_cases a1 : q2 = 0
          · by_cases a2 : s.hi.kind = 0
            · rw [inB_false (hbad (by simp [a2]))]
              simp [clearF_get, f2, f3, f4, f7, k0', k1', R5_18, R5_19, a1, a2]
              exact .bool rfl
            · by_cases a3 : 0 < q1
              · rw [inB_false (hbad (by simp [a3]))]
                simp [clearF_get, f2, f3, f4, f7, k0', k1', R5_18, R5_19, a1, a2, a3]
                exact .bool rfl
              · by_cases a4 : q1 = 0
                · cases a5 : s.hiIn with
                  | false =>
                    rw [inB_false (hbad (by simp [a4, a5]))]
                    simp [clearF_get, f2, f3, f4, f7, k0', k1', R5_18, R5_19, a1, a2, a4, a5]
                    exact .bool rfl
                  | true =>
                    rw [inB_true (hgood (by simp [a1, a2, a4, a5]))]
                    simp [clearF_get, f2, f3, f4, f7, k0', k1', R5_18, R5_20, a1, a2, a4, a5]
                    exact .bool rfl
                · rw [inB_true (hgood (by simp [a1, a2, a3, a4]))]
                  simp [clearF_get, f2, f3, f4, f7, k0', k1', R5_18, R5_20, a1, a2, a3, a4]
                  exact .bool rfl
          · rw [inB_false (hbad (by simp [a1]))]
            simp [clearF_get, f2, f3, f4, f7, k0', k1', R5_18, R5_19, a1]
            exact .bool rfl
    have cont : ∀ (F : Fr) (H : Hp) (m : Nat), F.get 2 = some (rowAV row) → F.get 3 = some (.ptr 0 0) → F.get 4 = some (.ptr 1 0) → F.get 7 = some (.int .i64 (s.n : Int)) →
        H.get 0 = some (.cells 6 [] x.cells .nil) → H.get 1 = some (.cells 11 [] s.cells .nil) →
        VC Tryz.prog (.seq (.seq R5_6 (.block 0 (.loop L5_0))) (.seq (.seq R5_12 (.cond (slotG 92) (.seq R5_13 (.seq R5_14 (.cond (slotG 128) (.seq R5_15 .ret) .skip))) .skip)) (.seq (.seq R5_16 (.cond (slotG 130) (.seq R5_17 (.seq R5_18 (.cond (slotG 166) (.seq R5_19 .ret) .skip))) .skip)) (.seq R5_20 .ret)))) F H m []
          (RetQ [rTmp 6] fun v1 H' _ => Frz H'.get v1 (.bool (inB x s row))) := by
      intro F H m f2 f3 f4 f7 k0 k1
      have k0' := k0
      have k1' := k1
      simp only [Idx.cells] at k0'
      simp only [Spn.cells] at k1'
      have hsl := cSlc_dst (cs := intsC x.cols) (k := .i64) hn
      rw [show (intsC x.cols).take s.n = intsC (x.cols.take s.n) by simp [intsC, List.map_take]] at hsl
      have hcl : (x.cols.take s.n).length = s.n := by simp; omega
      have hnle : s.n ≤ 1048577 := by omega
      simp [R5_6, f3, f4, f7, k0', hsl]
      refine LoopV.of (fun k F K m ms => ∃ i, k = s.n - i ∧ i ≤ s.n ∧ F.get 2 = some (rowAV row) ∧ F.get 3 = some (.ptr 0 0) ∧ F.get 4 = some (.ptr 1 0) ∧ F.get 7 = some (.int .i64 (s.n : Int)) ∧
        F.get 48 = some (.ds (intsC (x.cols.take s.n)) s.n 1) ∧ F.get 49 = some (.int .i64 (s.n : Int)) ∧ F.get 50 = some (.int .i64 (i : Int)) ∧
        K.get 0 = some (.cells 6 [] x.cells .nil) ∧ K.get 1 = some (.cells 11 [] s.cells .nil) ∧ ms = [] ∧ ∀ j, j < i → okAt x.cols s.eq row j) s.n ⟨0, by simp [f2, f3, f4, f7, k0, k1]⟩ ?_
      rintro k F K m ms ⟨i, rfl, hi, f2, f3, f4, f7, f48, f49, f50, k0, k1, rfl, hj⟩
      have k0' := k0
      have k1' := k1
      simp only [Idx.cells] at k0'
      simp only [Spn.cells] at k1'
      by_cases hlt : i < s.n
      · have hx := ixa_intn (l := x.cols.take s.n) (len := s.n) (k := .i64) (i := i) hcl.symm (by omega)
        have hic : i < x.cols.length := by omega
        have hget : (x.cols.take s.n)[i]'(by omega) = x.cols[i] := by simp
        rw [hget] at hx
        have hcc : x.cols[i]? = some x.cols[i] := List.getElem?_eq_getElem hic
        simp [L5_0, R5_7, R5_8, f48, f49, f50, hlt, hx, R5_9]
        refine DrwV.of (ce0_ok (P := Tryz.prog)) ?_
        generalize hcv : x.cols[i] = c at hcc
        by_cases c0 : c < 0
        · rw [inB_false fun h => by
            obtain ⟨cn, _, h1, _⟩ := h.2.1 i hlt
            rw [hcc] at h1; injection h1 with h1; omega]
          simp [clearF_get, f2, c0, R5_10, rowAV]
          exact .bool rfl
        · obtain ⟨cn, rfl⟩ := Int.eq_ofNat_of_zero_le (show 0 ≤ c by omega)
          have hneg : ¬ ((cn : Int) < 0) := by omega
          by_cases c1 : cn < row.length
          · have c1' : ¬ row.length ≤ cn := by omega
            have hr := ixa_val (k := .i64) c1
            generalize hrv : row[cn] = v at hr
            by_cases c2 : v.kind = 0
            · rw [inB_false fun h => by
                obtain ⟨cm, _, h1, h2, _⟩ := h.2.1 i hlt
                rw [hcc] at h1; injection h1 with h1
                have : cn = cm := by omega
                subst this; rw [hrv] at h2; exact h2 c2]
              simp [clearF_get, f2, R5_10, rowAV, c1, c1', hneg, hr, ld_kind, c2]
              exact .bool rfl
            · by_cases hq : i < s.eq.length
              · have he := ixa_val (k := .i64) hq
                generalize hev : s.eq[i] = u at he
                by_cases c3 : v = u
                · subst c3
                  simp [clearF_get, f2, f3, f4, f7, f48, f49, f50, k1', rowAV, c1, c1', hneg, hr, ld_kind, c2, hq, he, ld_val, eqA_val, R5_11, wrap_nat i (by omega)]
                  refine ⟨s.n - (i + 1), by omega, i + 1, rfl, hlt, by omega, k0, rfl, fun j hj' => ?_⟩
                  by_cases e : j = i
                  · subst e; exact ⟨cn, c1, hcc, by rw [hrv]; exact c2, fun h => by rw [hrv, hev]⟩
                  · exact hj j (by omega)
                · rw [inB_false fun h => by
                    obtain ⟨cm, _, h1, _, h2⟩ := h.2.1 i hlt
                    rw [hcc] at h1; injection h1 with h1
                    have : cn = cm := by omega
                    subst this; have h2 := h2 hq; rw [hrv, hev] at h2; exact c3 h2]
                  simp [clearF_get, f2, f4, k1', R5_10, rowAV, c1, c1', hneg, hr, ld_kind, c2, hq, he, ld_val, eqA_val, c3]
                  exact .bool rfl
              · simp [clearF_get, f2, f3, f4, f7, f48, f49, f50, k1', rowAV, c1, c1', hneg, hr, ld_kind, c2, hq, R5_11, wrap_nat i (by omega)]
                refine ⟨s.n - (i + 1), by omega, i + 1, rfl, hlt, by omega, k0, rfl, fun j hj' => ?_⟩
                by_cases e : j = i
                · subst e; exact ⟨cn, c1, hcc, by rw [hrv]; exact c2, fun h => absurd h hq⟩
                · exact hj j (by omega)
          · rw [inB_false fun h => by
              obtain ⟨cm, h0, h1, _⟩ := h.2.1 i hlt
              rw [hcc] at h1; injection h1 with h1; omega]
            have : row.length ≤ cn := by omega
            simp [clearF_get, f2, R5_10, rowAV, hneg, this]
            exact .bool rfl
      · have : i = s.n := by omega
        subst this
        have hall : ∀ i, i < s.n → okAt x.cols s.eq row i := hj
        simp [L5_0, R5_7, f49, f50]
        cases hl : s.hasLo with
        | false =>
          simp [R5_12, f4, k1', hl]
          refine contHi _ _ _ ?_ ?_ ?_ ?_ ?_ ?_ hall (fun h => by rw [hl] at h; cases h) <;> simp [f2, f3, f4, f7, k0, Spn.cells, hl, k1]
        | true =>
          have e : s.n = s.eq.length + 1 := by simp [Spn.n, hl]
          obtain ⟨c, hc, hcc, hck, _⟩ := hall s.eq.length (by omega)
          have hic : s.eq.length < x.cols.length := by omega
          have hcg : x.cols[s.eq.length] = (c : Int) := by rw [List.getElem?_eq_getElem hic] at hcc; injection hcc
          have hx := ixa_int (l := x.cols) (k := .i64) hic
          rw [hcg] at hx
          have hr := ixa_val (k := .i64) hc
          have hw : IntKind.i64.wrap ((s.n : Int) - 1) = (s.eq.length : Int) := by
            rw [e, wrap_sm _ (by omega) (by omega)]; omega
          generalize hrv : row[c] = v at hr
          simp [R5_12, R5_13, f4, k1', hl]
          refine DrwV.of (ceT_ok (l := [(13, [v.av, s.lo.av], fun H n => .mk (.tup [.int .i64 (v.cmp s.lo).1, .int .i64 (v.cmp s.lo).2]) H n)]) ?_) ?_
          · simp only [List.mem_singleton]; rintro y rfl; exact ceT_pure (compare13 v s.lo)
          · simp [clearF_get, f2, f3, f4, f7, k0', k1', rowAV, hw, hx, hr, ld_val]
            rw [show [v.av, AV.agg [AV.int IntKind.i64 s.lo.kind, AV.int IntKind.i64 s.lo.num, AV.str s.lo.s] 3] = [v.av, s.lo.av] from rfl, ceT_hd]
            have hbad : lowOk v s.lo s.loIn = false → ¬ inP x s row := fun hb h => by
              obtain ⟨c', hc', e1, e2, _⟩ := h.2.2 (by simp [hl])
              rw [hcc] at e1; injection e1 with e1
              have : c = c' := by omega
              subst this
              rw [hrv, hb] at e2; exact absurd (e2 hl) (by simp)
            generalize hq : v.cmp s.lo = q
            obtain ⟨q1, q2⟩ := q
            have hgood : lowOk v s.lo s.loIn = true → s.hasLo = true → ∃ (c : Nat) (hc : c < row.length), x.cols[s.eq.length]? = some (c : Int) ∧ lowOk row[c] s.lo s.loIn = true := fun hb _ => ⟨c, hc, hcc, by rw [hrv]; exact hb⟩
            have hlo : lowOk v s.lo s.loIn = (!(decide (q2 ≠ 0) || decide (s.lo.kind = 0) || decide (q1 < 0) || (decide (q1 = 0) && !s.loIn))) := by simp only [lowOk, hq]
            rw [hlo] at hbad hgood
            by_cases a1 : q2 = 0
            · by_cases a2 : s.lo.kind = 0
              · rw [inB_false (hbad (by simp [a2]))]
                simp [clearF_get, f2, f3, f4, f7, k0', k1', R5_14, R5_15, a1, a2]
                exact .bool rfl
              · by_cases a3 : q1 < 0
                · rw [inB_false (hbad (by simp [a3]))]
                  simp [clearF_get, f2, f3, f4, f7, k0', k1', R5_14, R5_15, a1, a2, a3]
                  exact .bool rfl
                · by_cases a4 : q1 = 0
                  · cases a5 : s.loIn with
                    | false =>
                      rw [inB_false (hbad (by simp [a4, a5]))]
                      simp [clearF_get, f2, f3, f4, f7, k0', k1', R5_14, R5_15, a1, a2, a4, a5]
                      exact .bool rfl
                    | true =>
                      simp [clearF_get, f2, f3, f4, f7, k0', k1', R5_14, a1, a2, a4, a5]
                      refine contHi _ _ _ ?_ ?_ ?_ ?_ ?_ ?_ hall (hgood (by simp [a1, a2, a4, a5])) <;> simp [clearF_get, f2, f3, f4, f7, k0, k1]
                  · simp [clearF_get, f2, f3, f4, f7, k0', k1', R5_14, a1, a2, a3, a4]
                    refine contHi _ _ _ ?_ ?_ ?_ ?_ ?_ ?_ hall (hgood (by simp [a1, a2, a3, a4])) <;> simp [clearF_get, f2, f3, f4, f7, k0, k1]
            · rw [inB_false (hbad (by simp [a1]))]
              simp [clearF_get, f2, f3, f4, f7, k0', k1', R5_14, R5_15, a1]
              exact .bool rfl
    cases hl : s.hasLo with
    | true =>
      have e : s.n = s.eq.length + 1 := by simp [Spn.n, hl]
      have g2 : ¬ s.eq.length = x.cols.length := by omega
      simp [A5, B5, R5_0, R5_1, R5_2, R5_4, R5_5, hF, Idx.av, Idx.cells, Spn.av, Spn.cells, g1, g2, hl, wrap_nat _ (show s.eq.length < 2147483648 by omega)]
      refine cont _ _ _ ?_ ?_ ?_ ?_ ?_ ?_ <;> simp [hF, Idx.cells, Spn.cells, hl, e]
    | false =>
      cases hh : s.hasHi with
      | true =>
        have e : s.n = s.eq.length + 1 := by simp [Spn.n, hh]
        have g2 : ¬ s.eq.length = x.cols.length := by omega
        simp [A5, B5, R5_0, R5_1, R5_2, R5_4, R5_5, hF, Idx.av, Idx.cells, Spn.av, Spn.cells, g1, g2, hl, hh, wrap_nat _ (show s.eq.length < 2147483648 by omega)]
        refine cont _ _ _ ?_ ?_ ?_ ?_ ?_ ?_ <;> simp [hF, Idx.cells, Spn.cells, hl, hh, e]
      | false =>
        have e : s.n = s.eq.length := by simp [Spn.n, hl, hh]
        simp [A5, B5, R5_0, R5_1, R5_2, R5_4, R5_5, hF, Idx.av, Idx.cells, Spn.av, Spn.cells, g1, hl, hh]
        refine cont _ _ _ ?_ ?_ ?_ ?_ ?_ ?_ <;> simp [hF, Idx.cells, Spn.cells, hl, hh, e]
  · rw [inB_false fun h => hn h.1]
    by_cases g1 : x.cols.length < s.eq.length
    · simp [A5, B5, R5_0, R5_1, R5_2, R5_3, hF, Idx.av, Idx.cells, Spn.av, Spn.cells, g1]
      exact .bool rfl
    · simp only [Nat.not_lt] at g1
      have g2 : s.eq.length = x.cols.length := by unfold Spn.n at hn; split at hn <;> omega
      have g3 : (s.hasLo || s.hasHi) = true := by
        unfold Spn.n at hn; split at hn
        · assumption
        · omega
      cases hl : s.hasLo with
      | true =>
        simp [A5, B5, R5_0, R5_1, R5_2, R5_3, hF, Idx.av, Idx.cells, Spn.av, Spn.cells, g2, hl]
        exact .bool rfl
      | false =>
        have hh : s.hasHi = true := by simpa [hl] using g3
        simp [A5, B5, R5_0, R5_1, R5_2, R5_3, hF, Idx.av, Idx.cells, Spn.av, Spn.cells, g2, hl, hh]
        exact .bool rfl
end Go.Abs
