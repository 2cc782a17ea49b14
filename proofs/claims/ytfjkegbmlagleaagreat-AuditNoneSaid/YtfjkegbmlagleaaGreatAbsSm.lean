/- Effects of operations, as they are asked step by step. -/
import Derived.Test.YtfjkegbmlagleaaGreatAbsEv
namespace Go.Abs

@[simp] theorem int_eq_nat (a b : Nat) : ((a : Int) = (b : Int)) = (a = b) := propext (by omega)
@[simp] theorem int_lt_nat (a b : Nat) : ((a : Int) < (b : Int)) = (a < b) := propext (by omega)
@[simp] theorem int_le_nat (a b : Nat) : ((a : Int) ≤ (b : Int)) = (a ≤ b) := propext (by omega)
@[simp] theorem nat_ble (a b : Nat) : Nat.ble a b = decide (a ≤ b) := by
  by_cases h : a ≤ b
  · rw [Nat.ble_eq_true_of_le h]; simp [h]
  · cases hh : Nat.ble a b with
    | true => exact absurd (Nat.le_of_ble_eq_true hh) h
    | false => simp [h]
@[simp] theorem nat_blt (a b : Nat) : Nat.blt a b = decide (a < b) := nat_ble (a + 1) b
@[simp] theorem nat_beq (a b : Nat) : Nat.beq a b = decide (a = b) := by
  by_cases h : a = b
  · subst h; simp
  · cases hh : Nat.beq a b with
    | true => exact absurd (Nat.eq_of_beq_eq_true hh) h
    | false => simp [h]
def oE (o : Option AV) (k : AV → ERes) : ERes := match o with
  | some v => k v
  | none => .fail
def lE (o : Option (List AV)) (k : List AV → ERes) : ERes := match o with
  | some v => k v
  | none => .fail
@[simp] theorem oE_some (v : AV) (k : AV → ERes) : oE (some v) k = k v := Eq.trans rfl rfl
@[simp] theorem lE_some (v : List AV) (k : List AV → ERes) : lE (some v) k = k v := Eq.trans rfl rfl
@[simp] theorem avlen_agg (cs : List AV) (n : Nat) : (AV.agg cs n).len = n := Eq.trans rfl rfl
@[simp] theorem avcells_agg (cs : List AV) (n : Nat) : (AV.agg cs n).cells = cs := Eq.trans rfl rfl
@[simp] theorem avlen_int (k : IntKind) (n : Int) : (AV.int k n).len = 1 := Eq.trans rfl rfl
@[simp] theorem avlen_bool (b : Bool) : (AV.bool b).len = 1 := Eq.trans rfl rfl
@[simp] theorem avlen_str (b : List Nat) : (AV.str b).len = 1 := Eq.trans rfl rfl
@[simp] theorem avlen_ptr (a b : Nat) : (AV.ptr a b).len = 1 := Eq.trans rfl rfl
@[simp] theorem avlen_sl (a b c d : Nat) : (AV.sl a b c d).len = 1 := Eq.trans rfl rfl
@[simp] theorem avlen_ds (cs : List AV) (c d : Nat) : (AV.ds cs c d).len = 1 := Eq.trans rfl rfl
@[simp] theorem avlen_cst (v : Value) : (AV.cst v).len = 1 := Eq.trans rfl rfl
@[simp] theorem avlen_fn (f : Fn) (a b : List AV) : (AV.fn f a b).len = 1 := Eq.trans rfl rfl
@[simp] theorem avlen_ifc (t : TypeId) (v : AV) : (AV.ifc t v).len = 1 := Eq.trans rfl rfl
@[simp] theorem avcells_int (k : IntKind) (n : Int) : (AV.int k n).cells = [.int k n] := Eq.trans rfl rfl
@[simp] theorem avcells_bool (b : Bool) : (AV.bool b).cells = [.bool b] := Eq.trans rfl rfl
@[simp] theorem avcells_str (b : List Nat) : (AV.str b).cells = [.str b] := Eq.trans rfl rfl
@[simp] theorem avcells_ptr (a b : Nat) : (AV.ptr a b).cells = [.ptr a b] := Eq.trans rfl rfl
@[simp] theorem avcells_sl (a b c d : Nat) : (AV.sl a b c d).cells = [.sl a b c d] := Eq.trans rfl rfl
@[simp] theorem avcells_ds (cs : List AV) (c d : Nat) : (AV.ds cs c d).cells = [.ds cs c d] := Eq.trans rfl rfl
@[simp] theorem avcells_cst (v : Value) : (AV.cst v).cells = [.cst v] := Eq.trans rfl rfl
@[simp] theorem avcells_fn (f : Fn) (a b : List AV) : (AV.fn f a b).cells = [.fn f a b] := Eq.trans rfl rfl
@[simp] theorem avcells_ifc (t : TypeId) (v : AV) : (AV.ifc t v).cells = [.ifc t v] := Eq.trans rfl rfl
@[simp] theorem allOne_nil : allOne [] = true := Eq.trans rfl rfl
@[simp] theorem allOne_cons (v : AV) (r : List AV) : allOne (v :: r) = (v.one && allOne r) := Eq.trans rfl rfl
@[simp] theorem one_int (k : IntKind) (n : Int) : (AV.int k n).one = true := Eq.trans rfl rfl
@[simp] theorem one_bool (b : Bool) : (AV.bool b).one = true := Eq.trans rfl rfl
@[simp] theorem one_str (b : List Nat) : (AV.str b).one = true := Eq.trans rfl rfl
@[simp] theorem one_ptr (a b : Nat) : (AV.ptr a b).one = true := Eq.trans rfl rfl
@[simp] theorem one_sl (a b c d : Nat) : (AV.sl a b c d).one = true := Eq.trans rfl rfl
@[simp] theorem one_ds (cs : List AV) (c d : Nat) : (AV.ds cs c d).one = true := Eq.trans rfl rfl
@[simp] theorem one_cst (v : Value) : (AV.cst v).one = true := Eq.trans rfl rfl
@[simp] theorem one_fn (f : Fn) (a b : List AV) : (AV.fn f a b).one = true := Eq.trans rfl rfl
@[simp] theorem one_ifc (t : TypeId) (v : AV) : (AV.ifc t v).one = true := Eq.trans rfl rfl
@[simp] theorem allOne_append (a b : List AV) : allOne (a ++ b) = (allOne a && allOne b) := by
  induction a with
  | nil => simp
  | cons v r ih => simp [ih, Bool.and_assoc]

section
variable {F : Fr} {H : Hp} {n : Nat}
@[simp] theorem eMov_f (x : G) : eMov x F H n = oE (x.f F) .val := by unfold eMov oE; cases x.f F <;> rfl
def pickE (c : Option AV) (a b : ERes) : ERes := match c with
  | some (.bool true) => a
  | some (.bool false) => b
  | _ => .fail
@[simp] theorem pickE_t (a b : ERes) : pickE (some (.bool true)) a b = a := Eq.trans rfl rfl
@[simp] theorem pickE_f (a b : ERes) : pickE (some (.bool false)) a b = b := Eq.trans rfl rfl
@[simp] theorem ePick_f (c a b : G) : ePick c a b F H n = pickE (c.f F) (oE (a.f F) .val) (oE (b.f F) .val) := by
  unfold ePick
  cases c.f F with
  | none => rfl
  | some v => cases v with
    | bool x =>
      cases x
      · simp only [pickE, eMov]; cases b.f F <;> rfl
      · simp only [pickE, eMov]; cases a.f F <;> rfl
    | _ => rfl
@[simp] theorem eAlloc_f (z : List AV) (k : Nat) : eAlloc z k F H n = .new (.ptr n 0) (.cells k [] z .nil) := Eq.trans rfl rfl
@[simp] theorem eBox_f (x : G) : eBox x F H n = oE (x.f F) fun v => .new (.ptr n 0) (.cells v.len [] v.cells .nil) := by unfold eBox oE; cases x.f F <;> rfl
@[simp] theorem fillP_nil (cs : List AV) : fillP F [] cs = some cs := Eq.trans rfl rfl
@[simp] theorem fillP_cons (o s : Nat) (x : G) (r : List (Nat × Nat × G)) (cs : List AV) : fillP F ((o, s, x) :: r) cs = (x.f F).bind fun v => bif Nat.beq v.len s && Nat.blt 0 s then (patch cs o v.cells).bind (fun cs' => fillP F r cs') else none := by
  rw [fillP]
  cases x.f F with
  | none => rfl
  | some v =>
    dsimp only [Option.bind]
    cases Nat.beq v.len s && Nat.blt 0 s with
    | false => rfl
    | true => dsimp only [cond]; cases patch cs o v.cells <;> rfl
@[simp] theorem patch_nil (cs : List AV) (o : Nat) : patch cs o [] = some cs := by cases cs <;> cases o <;> rfl
def consM (v : AV) (o : Option (List AV)) : Option (List AV) := match o with
  | some l => some (v :: l)
  | none => none
@[simp] theorem consM_some (v : AV) (l : List AV) : consM v (some l) = some (v :: l) := Eq.trans rfl rfl
@[simp] theorem patch_zero (c v : AV) (cs vs : List AV) : patch (c :: cs) 0 (v :: vs) = consM v (patch cs 0 vs) := by
  rw [patch]; cases patch cs 0 vs <;> rfl
@[simp] theorem patch_succ (c v : AV) (cs vs : List AV) (o : Nat) : patch (c :: cs) (o + 1) (v :: vs) = consM c (patch cs o (v :: vs)) := by
  rw [patch]; cases patch cs o (v :: vs) <;> rfl
@[simp] theorem patch_all {bs vs : List AV} (h : vs.length = bs.length) : patch bs 0 vs = some vs := by
  induction vs generalizing bs with
  | nil => cases bs <;> simp_all
  | cons v r ih =>
    cases bs with
    | nil => simp at h
    | cons b bs => rw [patch_zero, ih (by simpa using h)]; rfl
@[simp] theorem eBuild_f (z : List AV) (k : Nat) (ps : List (Nat × Nat × G)) : eBuild z k ps F H n = lE (fillP F ps z) fun cs => .val (.agg cs k) := by unfold eBuild lE; cases fillP F ps z <;> rfl
@[simp] theorem eBslice_f (z : List AV) (k sz : Nat) (ps : List (Nat × Nat × G)) : eBslice z k sz ps F H n = lE (fillP F ps (rep z k)) fun cs => .new (.sl n 0 k sz) (.cells (k * sz) [] cs .nil) := by unfold eBslice lE; cases fillP F ps (rep z k) <;> rfl
@[simp] theorem rep_zero (z : List AV) : rep z 0 = [] := Eq.trans rfl rfl
theorem rep_succ (z : List AV) (n : Nat) : rep z (n + 1) = z ++ rep z n := rfl
@[simp] theorem rep_one (z : List AV) : rep z 1 = z := by simp [rep_succ]
@[simp] theorem eLoad1_f (x : G) : eLoad1 x F H n = oE (x.f F) fun v => cLoad1 v H := by unfold eLoad1 oE; cases x.f F <;> rfl
@[simp] theorem eLoadN_f (k : Nat) (x : G) : eLoadN k x F H n = oE (x.f F) fun v => cLoadN k v H := by unfold eLoadN oE; cases x.f F <;> rfl
@[simp] theorem eStore_f (k : Nat) (x v : G) : eStore k x v F H n = oE (x.f F) fun a => oE (v.f F) fun v => cStore k a v H := by
  unfold eStore oE
  cases x.f F with
  | none => rfl
  | some a => dsimp only; cases v.f F <;> rfl
@[simp] theorem eNilc_f (x : G) : eNilc x F H n = oE (x.f F) cNilc := by unfold eNilc oE; cases x.f F <;> rfl
@[simp] theorem e1_f (c : AV → ERes) (x : G) : e1 c x F H n = oE (x.f F) c := by unfold e1 oE; cases x.f F <;> rfl
@[simp] theorem e2_f (c : AV → AV → ERes) (x y : G) : e2 c x y F H n = oE (x.f F) fun a => oE (y.f F) fun b => c a b := by
  unfold e2 oE
  cases x.f F with
  | none => rfl
  | some a => dsimp only; cases y.f F <;> rfl
@[simp] theorem evs_nil : evs F [] = some [] := Eq.trans rfl rfl
@[simp] theorem evs_cons (x : G) (r : List G) : evs F (x :: r) = (x.f F).bind fun a => (evs F r).bind fun l => some (a :: l) := by
  rw [evs]
  cases x.f F with
  | none => rfl
  | some a => cases evs F r <;> rfl
@[simp] theorem eMkfn_f (f : Fn) (a b : List G) : eMkfn f a b F H n = lE (evs F a) fun a => lE (evs F b) fun b => .val (.fn f a b) := by
  unfold eMkfn lE
  cases evs F a with
  | none => rfl
  | some a => dsimp only; cases evs F b <;> rfl
@[simp] theorem eApp_f (sz by_ : Nat) (s x : G) : eApp sz by_ s x F H n = oE (s.f F) fun s => oE (x.f F) fun x => cApp sz by_ n s x H := by
  unfold eApp oE
  cases s.f F with
  | none => rfl
  | some a => dsimp only; cases x.f F <;> rfl
def sE (o : Option (Option AV)) (k : Option AV → ERes) : ERes := match o with
  | some v => k v
  | none => .fail
@[simp] theorem sE_some (v : Option AV) (k : Option AV → ERes) : sE (some v) k = k v := Eq.trans rfl rfl
@[simp] theorem oev_none : oev F none = some none := Eq.trans rfl rfl
@[simp] theorem oev_some (x : G) : oev F (some x) = (x.f F).map some := Eq.trans rfl rfl
@[simp] theorem eSl_f (c : Option AV → Option AV → Option AV → AV → ERes) (x : G) (lo hi mx : Option G) : eSl c x lo hi mx F H n = sE (oev F lo) fun lo => sE (oev F hi) fun hi => sE (oev F mx) fun mx => oE (x.f F) fun v => c lo hi mx v := by
  unfold eSl sE oE
  cases oev F lo with
  | none => rfl
  | some a => cases oev F hi with
    | none => rfl
    | some b => cases oev F mx with
      | none => rfl
      | some d => dsimp only; cases x.f F <;> rfl
end

/-! ### memory -/
section
variable {H : Hp} {n : Nat}
@[simp] theorem get_put' {α : Type} (t : Tr α) (a b : Nat) (v : Option α) : (t.put a v).get b = if b = a then v else t.get b := Tr.get_put t a b v
noncomputable def ld1 (k : Option ABlk) (o : Nat) : ERes := match k with
  | some (.cells u z bs t) => oE (getc u z bs t o) .val
  | _ => .fail
noncomputable def ldN (k : Option ABlk) (o c : Nat) : ERes := match k with
  | some (.cells u z bs t) => lE (grab u z bs t o c) fun l => .val (.agg l c)
  | _ => .fail
@[simp] theorem ld1_some (u z bs t o) : ld1 (some (.cells u z bs t)) o = oE (getc u z bs t o) .val := Eq.trans rfl rfl
@[simp] theorem ldN_some (u z bs t o c) : ldN (some (.cells u z bs t)) o c = lE (grab u z bs t o c) fun l => .val (.agg l c) := Eq.trans rfl rfl
@[simp] theorem ld1_none (o : Nat) : ld1 none o = .fail := Eq.trans rfl rfl
@[simp] theorem ldN_none (o c : Nat) : ldN none o c = .fail := Eq.trans rfl rfl
@[simp] theorem cLoad1_ptr' (b o : Nat) : cLoad1 (.ptr b o) H = ld1 (H.get b) o := by
  unfold cLoad1 ld1 oE
  dsimp only
  cases H.get b with
  | none => rfl
  | some k => cases k with
    | cells u z bs t => dsimp only; cases getc u z bs t o <;> rfl
    | _ => rfl
@[simp] theorem cLoad1_dp (v : AV) (r : List AV) : cLoad1 (.dp (v :: r)) H = .val v := Eq.trans rfl rfl
@[simp] theorem cLoadN_ptr' (k b o : Nat) : cLoadN k (.ptr b o) H = ldN (H.get b) o k := by
  unfold cLoadN ldN lE
  dsimp only
  cases H.get b with
  | none => rfl
  | some x => cases x with
    | cells u z bs t => dsimp only; cases grab u z bs t o k <;> rfl
    | _ => rfl
theorem cLoadN_dp {k : Nat} {l : List AV} (r : List AV) (h : l.length = k) : cLoadN k (.dp (l ++ r)) H = .val (.agg l k) := by
  unfold cLoadN
  dsimp only
  have : Nat.ble k (l ++ r).length = true := Nat.ble_eq_true_of_le (by simp; omega)
  rw [this]
  dsimp only
  rw [← h, List.take_left]
theorem getc_list (u : Nat) (bs : List AV) (i : Nat) : getc u [] bs .nil i = if i < u then bs[i]? else none := by
  rw [getc_eq]
  split
  · simp only [Ov.get_nil]
    cases bs[i]? <;> rfl
  · rfl
@[simp] theorem getc_list' (u : Nat) (bs : List AV) (i : Nat) : getc u [] bs .nil i = if i < u then bs[i]? else none := getc_list u bs i
theorem grabR_list (u : Nat) (bs : List AV) (hl : bs.length = u) (o : Nat) : ∀ (k : Nat) (acc : List AV), o + k ≤ u → grabR u [] bs .nil o k acc = some ((bs.drop o).take k ++ acc)
  | 0, acc, h => by simp; rfl
  | k + 1, acc, h => by
    show osel (getc u [] bs .nil (o + k)) none (fun v => grabR u [] bs .nil o k (v :: acc)) = _
    rw [getc_list, if_pos (by omega), List.getElem?_eq_getElem (by omega)]
    simp only [osel_some]
    rw [grabR_list u bs hl o k _ (by omega), List.take_add_one, List.append_assoc]
    congr 1
    simp [List.getElem?_drop, List.getElem?_eq_getElem (show o + k < bs.length by omega)]
@[simp] theorem grab_list {u : Nat} {bs : List AV} {o k : Nat} (hl : bs.length = u) (h : o + k ≤ u) : grab u [] bs .nil o k = some ((bs.drop o).take k) := by
  unfold grab
  dsimp only
  split
  · rename_i hb
    simp at hb
    obtain ⟨rfl, rfl⟩ := hb
    simp [← hl]
  · have e : pieceO k o bs = some ((bs.drop o).take k) := by
      unfold pieceO
      dsimp only
      rw [tkO_eq, drO_eq, lenO_zero]
      have : ((bs.drop o).take k).length = k := by simp; omega
      have hb : Nat.beq ((bs.drop o).take k).length k = true := by rw [this]; exact Nat.beq_refl k
      rw [hb]
    rw [show Nat.ble (Nat.add o k) u = true from Nat.ble_eq_true_of_le h, e]
    rfl
@[simp high] theorem grab_all (u : Nat) (bs : List AV) : grab u [] bs .nil 0 u = some bs := by
  unfold grab
  simp
noncomputable def stE (k : Nat) (v : AV) (x : Option ABlk) (b o : Nat) : ERes := match x with
  | some (.cells u z bs t) => bif Nat.beq v.len k && Nat.ble (o + k) u && allOne v.cells then .upd (.tup []) b (stBlk u z bs t v.cells o) else .fail
  | _ => .fail
@[simp] theorem stE_some (k : Nat) (v : AV) (u z bs t b o) : stE k v (some (.cells u z bs t)) b o = bif Nat.beq v.len k && Nat.ble (o + k) u && allOne v.cells then .upd (.tup []) b (stBlk u z bs t v.cells o) else .fail := Eq.trans rfl rfl
@[simp] theorem cStore_ptr (k b o : Nat) (v : AV) : cStore k (.ptr b o) v H = stE k v (H.get b) b o := by
  unfold cStore stE
  dsimp only
  cases H.get b with
  | none => rfl
  | some x => cases x with
    | cells u z bs t => dsimp only; cases Nat.beq v.len k && Nat.ble (o + k) u && allOne v.cells <;> rfl
    | _ => rfl
noncomputable def stL (u : Nat) (bs vs : List AV) (o : Nat) (r : Option (List AV)) : ABlk := match r with
  | some bs' => .cells u [] bs' .nil
  | none => .cells u [] bs (Ov.putAll vs o .nil)
@[simp] theorem stL_some (u : Nat) (bs vs : List AV) (o : Nat) (r : List AV) : stL u bs vs o (some r) = .cells u [] r .nil := Eq.trans rfl rfl
@[simp] theorem stBlk_list' {u : Nat} {bs vs : List AV} {o : Nat} (h : u ≤ 64) : stBlk u [] bs .nil vs o = stL u bs vs o (patch bs o vs) := by
  unfold stBlk stL
  simp only [Nat.ble_eq_true_of_le h]
  cases patch bs o vs <;> rfl
@[simp] theorem cNilc_ptr (b o : Nat) : cNilc (.ptr b o) = .val (.ptr b o) := Eq.trans rfl rfl
@[simp] theorem cNilc_dp (cs : List AV) : cNilc (.dp cs) = .val (.dp cs) := Eq.trans rfl rfl
@[simp] theorem cAddo_ptr (k b o : Nat) : cAddo k (.ptr b o) = .val (.ptr b (o + k)) := by unfold cAddo; dsimp only; rw [forceN_eq]
@[simp] theorem cAddo_dp (k : Nat) (cs : List AV) : cAddo k (.dp cs) = .val (.dp (cs.drop k)) := Eq.trans rfl rfl
def nE (o : Option AV) : ERes := match o with
  | some v => .val v
  | none => .fail
@[simp] theorem nE_some (v : AV) : nE (some v) = .val v := Eq.trans rfl rfl
@[simp] theorem cFld1_agg (o : Nat) (cs : List AV) (k : Nat) : cFld1 o (.agg cs k) = nE (cs[o]?) := by
  unfold cFld1 nE
  dsimp only
  rw [nth_eq]
  cases cs[o]? <;> rfl
@[simp] theorem cFldN_agg (o k m : Nat) (cs : List AV) : cFldN o k (.agg cs m) = bif Nat.ble (o + k) m then .val (.agg ((cs.drop o).take k) k) else .fail := by
  unfold cFldN
  dsimp only
  cases Nat.ble (o + k) m <;> rfl
@[simp] theorem cExt_tup (i : Nat) (vs : List AV) : cExt i (.tup vs) = nE (vs[i]?) := by
  unfold cExt nE
  dsimp only
  rw [nth_eq]
  cases vs[i]? <;> rfl
/-- a pointer to an element of a data slice -/
theorem cIxa_ds {cs : List AV} {len sz i : Nat} {k : IntKind} (h : i < len) : cIxa sz (.ds cs len sz) (.int k (i : Int)) = .val (.dp (cs.drop (i * sz))) := by
  show (match Nat.blt i len && Nat.beq sz sz with
    | true => ERes.val (.dp (cs.drop (i * sz)))
    | false => .fail) = _
  rw [show Nat.blt i len = true from Nat.ble_eq_true_of_le h, Nat.beq_refl]
  rfl
theorem cIxa_sl {b o len sz i : Nat} {k : IntKind} (h : i < len) : cIxa sz (.sl b o len sz) (.int k (i : Int)) = .val (.ptr b (o + i * sz)) := by
  show (match Nat.blt i len && Nat.beq sz sz with
    | true => forceN (o + i * sz) fun o' => ERes.val (.ptr b o')
    | false => .fail) = _
  rw [show Nat.blt i len = true from Nat.ble_eq_true_of_le h, Nat.beq_refl]
  exact forceN_eq _ _
@[simp] theorem cLenL_ds (cs : List AV) (len sz : Nat) : cLenL (.ds cs len sz) = .val (.int .i64 (len : Int)) := Eq.trans rfl rfl
@[simp] theorem cLenL_sl (b o len sz : Nat) : cLenL (.sl b o len sz) = .val (.int .i64 (len : Int)) := Eq.trans rfl rfl
@[simp] theorem cLenL_nil : cLenL (.cst (.slice none 0 0)) = .val (.int .i64 0) := Eq.trans rfl rfl
@[simp] theorem cLenS_str (l : List Nat) : cLenS (.str l) = .val (.int .i64 (l.length : Int)) := by unfold cLenS; dsimp only; rw [lenAcc_zero]; rfl

/-! ### numbers, texts -/
@[simp] theorem vint_eq (k : IntKind) (i : Int) : vint k i = .val (.int k i) := by unfold vint; rw [forceI_eq]
@[simp] theorem cBin_add : cBin .add = cAdd := Eq.trans rfl rfl
@[simp] theorem cBin_lss : cBin .lss = cCmp .lss := Eq.trans rfl rfl
@[simp] theorem cBin_leq : cBin .leq = cCmp .leq := Eq.trans rfl rfl
@[simp] theorem cBin_gtr : cBin .gtr = cCmp .gtr := Eq.trans rfl rfl
@[simp] theorem cBin_geq : cBin .geq = cCmp .geq := Eq.trans rfl rfl
@[simp] theorem cBin_sub : cBin .sub = int2 (cArith .sub) := Eq.trans rfl rfl
@[simp] theorem cBin_mul : cBin .mul = int2 (cArith .mul) := Eq.trans rfl rfl
@[simp] theorem cBin_quo : cBin .quo = int2 (cArith .quo) := Eq.trans rfl rfl
@[simp] theorem cBin_rem : cBin .rem = int2 (cArith .rem) := Eq.trans rfl rfl
@[simp] theorem cBin_shl : cBin .shl = cShift .shl := Eq.trans rfl rfl
@[simp] theorem cBin_shr : cBin .shr = cShift .shr := Eq.trans rfl rfl
@[simp] theorem int2_int (c : IntKind → Int → Int → ERes) (k : IntKind) (a b : Int) : int2 c (.int k a) (.int k b) = c k a b := by simp [int2]
@[simp] theorem cArith_sub (k : IntKind) (a b : Int) : cArith .sub k a b = .val (.int k (k.wrap (a - b))) := by simp [cArith]
@[simp] theorem cArith_mul (k : IntKind) (a b : Int) : cArith .mul k a b = .val (.int k (k.wrap (a * b))) := by simp [cArith]
@[simp] theorem cAdd_int (k : IntKind) (a b : Int) : cAdd (.int k a) (.int k b) = .val (.int k (k.wrap (a + b))) := by simp [cAdd]
@[simp] theorem cCmp_lss (k : IntKind) (a b : Int) : cCmp .lss (.int k a) (.int k b) = .val (.bool (decide (a < b))) := by simp [cCmp]
@[simp] theorem cCmp_leq (k : IntKind) (a b : Int) : cCmp .leq (.int k a) (.int k b) = .val (.bool (decide (a ≤ b))) := by simp [cCmp]
@[simp] theorem cCmp_gtr (k : IntKind) (a b : Int) : cCmp .gtr (.int k a) (.int k b) = .val (.bool (decide (b < a))) := by simp [cCmp]
@[simp] theorem cCmp_geq (k : IntKind) (a b : Int) : cCmp .geq (.int k a) (.int k b) = .val (.bool (decide (b ≤ a))) := by simp [cCmp]
@[simp] theorem cEq_int (k : IntKind) (a b : Int) : cEq false .num (.int k a) (.int k b) = .val (.bool (decide (a = b))) := by simp only [cEq, eqVal, if_true]; by_cases h : a = b <;> simp [h]
@[simp] theorem cNe_int (k : IntKind) (a b : Int) : cEq true .num (.int k a) (.int k b) = .val (.bool (decide (a ≠ b))) := by
  simp only [cEq, eqVal, if_true]; by_cases h : a = b <;> simp [h]
@[simp] theorem cEq_str (a b : List Nat) : cEq false .num (.str a) (.str b) = .val (.bool (decide (a = b))) := by simp only [cEq, eqVal, eqNats_eq]; by_cases h : a = b <;> simp [h]
@[simp] theorem cNe_str (a b : List Nat) : cEq true .num (.str a) (.str b) = .val (.bool (decide (a ≠ b))) := by simp only [cEq, eqVal, eqNats_eq]; by_cases h : a = b <;> simp [h]
@[simp] theorem cEq_bool (a b : Bool) : cEq false .bool (.bool a) (.bool b) = .val (.bool (a == b)) := by simp [cEq, eqVal]
@[simp] theorem cNe_bool (a b : Bool) : cEq true .bool (.bool a) (.bool b) = .val (.bool (a != b)) := by cases a <;> cases b <;> rfl
def andO (b : Bool) (r : Option Bool) : Option Bool := if b then r else some false
@[simp] theorem andO_some (b c : Bool) : andO b (some c) = some (b && c) := by cases b <;> rfl
@[simp] theorem eqAtoms_nil : eqAtoms [] [] [] = some true := Eq.trans rfl rfl
@[simp] theorem eqAtoms_i (qs : List LK) (k : IntKind) (a b : Int) (x y : List AV) : eqAtoms (.i :: qs) (.int k a :: x) (.int k b :: y) = andO (decide (a = b)) (eqAtoms qs x y) := by
  by_cases h : a = b
  · simp [eqAtoms, eqLeaf, h, andO]
  · have : (a == b) = false := by simpa using h
    simp only [eqAtoms, eqLeaf, if_true, this, h, andO, decide_false]; rfl
@[simp] theorem eqAtoms_s (qs : List LK) (a b : List Nat) (x y : List AV) : eqAtoms (.s :: qs) (.str a :: x) (.str b :: y) = andO (decide (a = b)) (eqAtoms qs x y) := by
  by_cases h : a = b
  · simp [eqAtoms, eqLeaf, eqNats_eq, h, andO]
  · have : (a == b) = false := by simpa using h
    simp only [eqAtoms, eqLeaf, eqNats_eq, if_true, this, h, andO, decide_false]; rfl
@[simp] theorem eqAtoms_b (qs : List LK) (a b : Bool) (x y : List AV) : eqAtoms (.b :: qs) (.bool a :: x) (.bool b :: y) = andO (decide (a = b)) (eqAtoms qs x y) := by
  by_cases h : a = b
  · simp [eqAtoms, eqLeaf, h, andO]
  · have : (a == b) = false := by simpa using h
    simp only [eqAtoms, eqLeaf, if_true, this, h, andO, decide_false]; rfl
def bE (neg : Bool) (r : Option Bool) : ERes := match r with
  | some b => .val (.bool (neg != b))
  | none => .fail
@[simp] theorem bE_some (neg b : Bool) : bE neg (some b) = .val (.bool (neg != b)) := Eq.trans rfl rfl
@[simp] theorem cEqA_agg (neg : Bool) (ks : List LK) (a b : List AV) (n m : Nat) : cEqA neg ks (.agg a n) (.agg b m) = if n = ks.length ∧ m = ks.length then bE neg (eqAtoms ks a b) else .fail := by
  unfold cEqA bE
  dsimp only
  rw [nat_beq, nat_beq]
  by_cases h : n = ks.length ∧ m = ks.length
  · rw [if_pos h]; simp only [h.1, h.2, decide_true, Bool.and_self]; cases eqAtoms ks a b <;> rfl
  · rw [if_neg h]
    have : (decide (n = ks.length) && decide (m = ks.length)) = false := by
      by_cases h1 : n = ks.length <;> by_cases h2 : m = ks.length <;> simp_all
    rw [this]
@[simp] theorem cUn_not (b : Bool) : cUn .not (.bool b) = .val (.bool (!b)) := Eq.trans rfl rfl
@[simp] theorem unmark_nil : unmark [] H = some H := Eq.trans rfl rfl

/-! ### results -/
noncomputable def rTmp (t : Nat) : Fr → Hp → Option AV := fun F _ => (slotG t).f F
def vE (r : ERes) : Option AV := match r with
  | .val v => some v
  | _ => none
@[simp] theorem vE_val (v : AV) : vE (.val v) = some v := Eq.trans rfl rfl
noncomputable def rCelN (a k : Nat) : Fr → Hp → Option AV := fun F H => match (slotG a).f F with
  | some v => match cLoadN k v H with
    | .val v => some v
    | _ => none
  | none => none
noncomputable def rCel1 (a : Nat) : Fr → Hp → Option AV := fun F H => match (slotG a).f F with
  | some v => match cLoad1 v H with
    | .val v => some v
    | _ => none
  | none => none
variable {F : Fr}
@[simp] theorem evR_nil : evR F H [] = some [] := Eq.trans rfl rfl
@[simp] theorem evR_cons (x : Fr → Hp → Option AV) (r : List (Fr → Hp → Option AV)) : evR F H (x :: r) = (x F H).bind fun v => (evR F H r).bind fun l => some (v :: l) := by
  rw [evR]
  cases x F H with
  | none => rfl
  | some a => cases evR F H r <;> rfl
@[simp] theorem rTmp_f (t : Nat) : rTmp t F H = F.get t := by simp [rTmp]
@[simp] theorem rCelN_f (a k : Nat) : rCelN a k F H = (F.get a).bind fun v => vE (cLoadN k v H) := by
  simp only [rCelN, slotG_f]
  cases F.get a with
  | none => rfl
  | some v => dsimp only [Option.bind]; cases cLoadN k v H <;> rfl
@[simp] theorem rCel1_f (a : Nat) : rCel1 a F H = (F.get a).bind fun v => vE (cLoad1 v H) := by
  simp only [rCel1, slotG_f]
  cases F.get a with
  | none => rfl
  | some v => dsimp only [Option.bind]; cases cLoad1 v H <;> rfl
@[simp] theorem retV_one (v : AV) : retV [v] = v := Eq.trans rfl rfl
@[simp] theorem retV_nil : retV [] = .tup [] := Eq.trans rfl rfl
@[simp] theorem retV_two (v u : AV) (l : List AV) : retV (v :: u :: l) = .tup (v :: u :: l) := Eq.trans rfl rfl
end

/-! ### the start of a function -/
section
variable {P : Program} {ce : Ce}
theorem putAll_cons {α : Type} (v : α) (r : List α) (i : Nat) (t : Tr α) : Tr.putAll (v :: r) i t = Tr.putAll r (i + 1) (t.put i (some v)) := rfl
@[simp] theorem putAll_nil {α : Type} (i : Nat) (t : Tr α) : Tr.putAll [] i t = t := Eq.trans rfl rfl
theorem enter {g : FuncId} {af : AF} {args : List AV} {H : Hp} {n : Nat} {R : AV → Hp → Nat → Prop} (h : compF P g = some af) (hl : args.length ≤ af.nt)
    (hb : ∀ F : Fr, (∀ i, F.get i = args[i]?) → Ev (af.code.f ce F H n []) (RetQ af.res R)) : EvC (fnCall P ce g args H n) R := by
  unfold fnCall
  rw [h]
  dsimp only
  rw [lenAcc_zero, Nat.ble_eq_true_of_le hl]
  dsimp only
  have := hb (Tr.putAll args 0 .nil) fun i => by
    rw [Tr.get_putAll]
    split
    · simp
    · rw [List.getElem?_eq_none (by omega)]; rfl
  cases hr : af.code.f ce (Tr.putAll args 0 .nil) H n [] with
  | fail => rw [hr] at this; exact this
  | mk o F1 H1 n1 m1 =>
    rw [hr] at this
    have key : (o = .normal ∨ o = .ret) → EvC (leaveK.leave2 af.res F1 H1 n1 m1) R := by
      intro ho
      have : OpB (unmark m1 H1) fun H' => OpB (evR F1 H' af.res) fun vs => R (retV vs) H' n1 := by
        rcases ho with rfl | rfl
        · simpa using this
        · simpa using this
      unfold leaveK.leave2
      cases hu : unmark m1 H1 with
      | none => rw [hu] at this; exact this
      | some H2 =>
        rw [hu] at this
        dsimp only
        simp only [opB_some] at this
        cases he : evR F1 H2 af.res with
        | none => rw [he] at this; exact this
        | some vs => rw [he] at this; exact this
    cases o with
    | normal => exact key (.inl rfl)
    | ret => exact key (.inr rfl)
    | exit i => exact this
end
end Go.Abs
