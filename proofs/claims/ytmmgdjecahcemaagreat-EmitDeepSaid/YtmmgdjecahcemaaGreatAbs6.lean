/- The abstract machine: sums over bytes, reckoned at once. -/
import Derived.Test.YtmmgdjecahcemaaGreatAbs5
namespace Go.Abs

set_option maxRecDepth 100000

def crcS (s : Nat) : Nat := Nat.xor (Nat.div s 2) (match Nat.mod s 2 with
  | 0 => 0
  | _ + 1 => 2197175160)
noncomputable def crc8 (s : Nat) : Nat := forceN (crcS s) fun s => forceN (crcS s) fun s => forceN (crcS s) fun s => forceN (crcS s) fun s => forceN (crcS s) fun s => forceN (crcS s) fun s => forceN (crcS s) fun s => crcS s
noncomputable def crcL (l : List Nat) : Nat → Nat := List.rec (motive := fun _ => Nat → Nat) (fun s => s) (fun x _ ih s => forceN (crc8 (Nat.xor s x)) ih) l
noncomputable def sumM (s : Nat) (l : List Nat) : Nat := Nat.sub 4294967295 (crcL l (Nat.sub 4294967295 s))
def crcN : Nat → Nat → Nat
  | 0, s => s
  | k + 1, s => crcS (crcN k s)
theorem crc8_eq (s : Nat) : crc8 s = crcN 8 s := by
  unfold crc8
  simp only [forceN_eq]
  rfl
theorem crcL_nil (s : Nat) : crcL [] s = s := rfl
theorem crcL_cons (x : Nat) (l : List Nat) (s : Nat) : crcL (x :: l) s = crcL l (crc8 (s ^^^ x)) := by
  show forceN (crc8 (Nat.xor s x)) (crcL l) = _
  rw [forceN_eq]; rfl
theorem wrapU (s : Nat) (h : s < 4294967296) : IntKind.u32.wrap (s : Int) = (s : Int) := by
  simp [IntKind.wrap, IntKind.signed, IntKind.bits]
  omega
theorem ofIntU (s : Nat) : BitVec.ofInt 32 (s : Int) = BitVec.ofNat 32 s := by simp
theorem xorU (s x : Nat) (hs : s < 4294967296) (hx : x < 4294967296) : IntKind.u32.wrap ((BitVec.ofInt 32 (s : Int) ^^^ BitVec.ofInt 32 (x : Int)).toNat : Int) = ((s ^^^ x : Nat) : Int) := by
  rw [ofIntU, ofIntU, BitVec.toNat_xor, BitVec.toNat_ofNat, BitVec.toNat_ofNat, Nat.mod_eq_of_lt hs, Nat.mod_eq_of_lt hx]
  exact wrapU _ (Nat.xor_lt_two_pow (n := 32) hs hx)
theorem andU (s x : Nat) (hs : s < 4294967296) (hx : x < 4294967296) : IntKind.u32.wrap ((BitVec.ofInt 32 (s : Int) &&& BitVec.ofInt 32 (x : Int)).toNat : Int) = ((s &&& x : Nat) : Int) := by
  rw [ofIntU, ofIntU, BitVec.toNat_and, BitVec.toNat_ofNat, BitVec.toNat_ofNat, Nat.mod_eq_of_lt hs, Nat.mod_eq_of_lt hx]
  exact wrapU _ (Nat.lt_of_le_of_lt Nat.and_le_left hs)
theorem notU (s : Nat) (hs : s < 4294967296) : IntKind.u32.wrap ((BitVec.ofInt 32 (4294967295 : Int) ^^^ BitVec.ofInt 32 (s : Int)).toNat : Int) = ((4294967295 - s : Nat) : Int) := by
  have e : (BitVec.ofInt 32 (4294967295 : Int) ^^^ BitVec.ofInt 32 (s : Int)) = ~~~ BitVec.ofNat 32 s := by
    rw [ofIntU]
    rw [show BitVec.ofInt 32 (4294967295 : Int) = BitVec.allOnes 32 by decide, BitVec.allOnes_xor]
  rw [e, BitVec.toNat_not, BitVec.toNat_ofNat, Nat.mod_eq_of_lt hs]
  rw [show 2 ^ 32 - 1 - s = 4294967295 - s by omega]
  exact wrapU _ (by omega)
theorem crcS_lt {s : Nat} (h : s < 4294967296) : crcS s < 4294967296 := by
  unfold crcS
  refine Nat.xor_lt_two_pow (n := 32) ?_ ?_
  · show s / 2 < 2 ^ 32; omega
  · split <;> decide
theorem crcN_lt {s : Nat} (h : s < 4294967296) : ∀ k, crcN k s < 4294967296
  | 0 => h
  | k + 1 => crcS_lt (crcN_lt h k)
theorem crcL_lt : ∀ (l : List Nat) (s : Nat), s < 4294967296 → (∀ x ∈ l, x < 256) → crcL l s < 4294967296
  | [], s, h, _ => h
  | x :: l, s, h, hl => by
    rw [crcL_cons]
    refine crcL_lt l _ ?_ fun y hy => hl y (List.mem_cons_of_mem _ hy)
    rw [crc8_eq]
    exact crcN_lt (Nat.xor_lt_two_pow (n := 32) h (by have := hl x (List.mem_cons_self ..); omega)) 8

/-! ### the program's code -/
noncomputable def RS_0 : CT :=
  .reg [
  oP (pdT 4) (eMov (constG (.int .u32 0)))]
noncomputable def RS_1 : CT :=
  .reg [
  oP (pdT 7) (eMov (slotG 0)),
  oP (pdT 8) (e1 (cUn .xor) (slotG 7)),
  oP (pdT 0) (eMov (slotG 8))]
noncomputable def RS_2 : CT :=
  .reg [
  oP (pdT 9) (eMov (slotG 1)),
  oP (pdT 10) (e1 cLenL (slotG 9)),
  oP (pdT 11) (eMov (constG (.int .i64 0)))]
noncomputable def RS_3 : CT :=
  .reg [
  oP (pdT 12) (e2 (cBin .lss) (slotG 11) (slotG 10))]
noncomputable def RS_4 : CT :=
  .reg [
  oP (pdT 13) (e2 (cIxa 1) (slotG 9) (slotG 11)),
  oP (pdT 14) (eLoad1 (slotG 13)),
  oP (pdT 6) (eMov (slotG 14))]
noncomputable def RS_5 : CT :=
  .reg [
  oP (pdT 15) (eMov (slotG 0)),
  oP (pdT 16) (eMov (slotG 6)),
  oP (pdT 17) (e1 (cToInt .u32) (slotG 16)),
  oP (pdT 18) (e2 (cBin .xor) (slotG 15) (slotG 17)),
  oP (pdT 0) (eMov (slotG 18))]
noncomputable def RS_6 : CT :=
  .reg [
  oP (pdT 19) (eMov (constG (.int .i64 0)))]
noncomputable def RS_7 : CT :=
  .reg [
  oP (pdT 20) (e2 (cBin .lss) (slotG 19) (constG (.int .i64 8)))]
noncomputable def RS_8 : CT :=
  .reg [
  oP (pdT 21) (eMov (slotG 0)),
  oP (pdT 22) (e2 (cBin .shr) (slotG 21) (constG (.int .u64 1))),
  oP (pdT 23) (eMov (slotG 0)),
  oP (pdT 24) (e2 (cBin .and) (slotG 23) (constG (.int .u32 1))),
  oP (pdT 25) (e1 (cUn .neg) (slotG 24)),
  oP (pdT 26) (e2 (cBin .and) (constG (.int .u32 2197175160)) (slotG 25)),
  oP (pdT 27) (e2 (cBin .xor) (slotG 22) (slotG 26)),
  oP (pdT 0) (eMov (slotG 27))]
noncomputable def RS_9 : CT :=
  .reg [
  oP (pdT 28) (e2 (cBin .add) (slotG 19) (constG (.int .i64 1))),
  oP (pdT 19) (eMov (slotG 28))]
noncomputable def LS_0 : CT := (.seq RS_7 (.seq (.cond (slotG 20) .skip (.exit 2)) (.seq (.block 3 RS_8) RS_9)))
noncomputable def RS_10 : CT :=
  .reg [
  oP (pdT 29) (e2 (cBin .add) (slotG 11) (constG (.int .i64 1))),
  oP (pdT 11) (eMov (slotG 29))]
noncomputable def LS_1 : CT := (.seq RS_3 (.seq (.cond (slotG 12) .skip (.exit 0)) (.seq (.block 1 (.seq RS_4 (.seq RS_5 (.seq RS_6 (.block 2 (.loop LS_0)))))) RS_10)))
noncomputable def RS_11 : CT :=
  .reg [
  oP (pdT 30) (eMov (slotG 0)),
  oP (pdT 31) (e1 (cUn .xor) (slotG 30)),
  oP (pdT 4) (eMov (slotG 31))]
noncomputable def BS : CT := (.seq RS_0 (.seq RS_1 (.seq (.seq RS_2 (.block 0 (.loop LS_1))) (.seq RS_11 .ret))))
noncomputable def AS : CF := { res := [rTmp 4], code := BS, nt := 32 }

theorem cUn_xorU (s : Nat) (h : s < 4294967296) : cUn .xor (.int .u32 (s : Int)) = .val (.int .u32 ((4294967295 - s : Nat) : Int)) := by
  show vint .u32 (IntKind.u32.wrap ((BitVec.ofInt 32 (4294967295 : Int) ^^^ BitVec.ofInt 32 (s : Int)).toNat : Int)) = _
  rw [notU s h, vint_eq]
theorem cXorU (s x : Nat) (hs : s < 4294967296) (hx : x < 4294967296) : cBin .xor (.int .u32 (s : Int)) (.int .u32 (x : Int)) = .val (.int .u32 ((s ^^^ x : Nat) : Int)) := by
  show int2 (cArith .xor) (.int .u32 (s : Int)) (.int .u32 (x : Int)) = _
  rw [int2_int]
  show vint .u32 (IntKind.u32.wrap ((BitVec.ofInt 32 (s : Int) ^^^ BitVec.ofInt 32 (x : Int)).toNat : Int)) = _
  rw [xorU s x hs hx, vint_eq]
theorem cAndU (s x : Nat) (hs : s < 4294967296) (hx : x < 4294967296) : cBin .and (.int .u32 (s : Int)) (.int .u32 (x : Int)) = .val (.int .u32 ((s &&& x : Nat) : Int)) := by
  show int2 (cArith .and) (.int .u32 (s : Int)) (.int .u32 (x : Int)) = _
  rw [int2_int]
  show vint .u32 (IntKind.u32.wrap ((BitVec.ofInt 32 (s : Int) &&& BitVec.ofInt 32 (x : Int)).toNat : Int)) = _
  rw [andU s x hs hx, vint_eq]
theorem cShrU (s : Nat) : cBin .shr (.int .u32 (s : Int)) (.int .u64 1) = .val (.int .u32 ((s / 2 : Nat) : Int)) := by
  show vint .u32 (Int.fdiv (s : Int) (2 ^ (min 1 32))) = _
  rw [vint_eq]
  congr 2
  show Int.fdiv (s : Int) 2 = _
  rw [Int.fdiv_eq_ediv_of_nonneg _ (by omega)]; omega
theorem cNegU (b : Nat) (h : b = 0 ∨ b = 1) : cUn .neg (.int .u32 (b : Int)) = .val (.int .u32 ((if b = 0 then 0 else 4294967295 : Nat) : Int)) := by
  rcases h with rfl | rfl
  · show vint .u32 _ = _
    rw [vint_eq]; rfl
  · show vint .u32 _ = _
    rw [vint_eq]; rfl
theorem cToInt_int (k j : IntKind) (a : Int) : cToInt k (.int j a) = .val (.int k (k.wrap a)) := by
  show vint k (k.wrap a) = _
  rw [vint_eq]
theorem and_one (s : Nat) : s &&& 1 = s % 2 := Nat.and_one_is_mod s

@[simp] theorem u8s_len (l : List Nat) : (u8s l).length = l.length := by simp [u8s]
theorem u8s_pure (l : List Nat) : PureL (u8s l) := PureL.of_mem fun v hv => by
  simp only [u8s, List.mem_map] at hv
  obtain ⟨i, _, rfl⟩ := hv
  simp
theorem ixa_u8 {l : List Nat} {i : Nat} {k : IntKind} (h : i < l.length) : cIxa 1 (.ds (u8s l) l.length 1) (.int k (i : Int)) = .val (.dp (.int .u8 (l[i] : Int) :: u8s (l.drop (i + 1)))) := by
  rw [cIxa_ds h, Nat.mul_one]
  congr 2
  rw [u8s, ← List.map_drop, List.drop_eq_getElem_cons h]; rfl
theorem wrap_i (i : Nat) (h : i < 2147483648) : IntKind.i64.wrap ((i : Int) + 1) = ((i + 1 : Nat) : Int) := by
  simp [IntKind.wrap, IntKind.signed, IntKind.bits]
  omega
section
variable {P : Program}
theorem more_pure {g : FuncId} (hc : ctF P g = some AS) (s : Nat) (bs : List Nat) (hs : s < 4294967296) (hb : ∀ x ∈ bs, x < 256) (hl : bs.length < 2147483648) :
    FnPure P g [.int .u32 (s : Int), .ds (u8s bs) bs.length 1] (.int .u32 (sumM s bs : Int)) := by
  refine pureV hc (by simp [u8s_pure]) (by simp) (by simp [AS]) fun F hF => ?_
  simp [AS, BS, RS_0, RS_1, RS_2, hF, cUn_xorU s hs]
  refine LoopV.of (fun k F K m ms => ∃ (i t : Nat), k = bs.length - i ∧ i ≤ bs.length ∧ F.get 9 = some (.ds (u8s bs) bs.length 1) ∧ F.get 10 = some (.int .i64 (bs.length : Int)) ∧ F.get 11 = some (.int .i64 (i : Int)) ∧ F.get 0 = some (.int .u32 (t : Int)) ∧ K = .nil ∧ ms = [] ∧
    t < 4294967296 ∧ crcL bs (4294967295 - s) = crcL (bs.drop i) t) bs.length ⟨0, 4294967295 - s, by simp; omega⟩ ?_
  rintro k F K m ms ⟨i, t, rfl, hi, f9, f10, f11, f0, rfl, rfl, ht, he⟩
  by_cases hlt : i < bs.length
  · have hx := ixa_u8 (k := .i64) hlt
    have hxb : bs[i] < 256 := hb _ (List.getElem_mem hlt)
    have hwx : IntKind.u32.wrap (bs[i] : Int) = (bs[i] : Int) := wrapU _ (by omega)
    have hxo := cXorU t bs[i] ht (by omega)
    have ht2 : t ^^^ bs[i] < 4294967296 := Nat.xor_lt_two_pow (n := 32) ht (by omega)
    simp [LS_1, RS_3, RS_4, RS_5, RS_6, f9, f10, f11, f0, hlt, hx, hwx, cToInt_int, hxo]
    refine LoopV.of (fun k F K m ms => ∃ (j : Nat), k = 8 - j ∧ j ≤ 8 ∧ F.get 9 = some (.ds (u8s bs) bs.length 1) ∧ F.get 10 = some (.int .i64 (bs.length : Int)) ∧ F.get 11 = some (.int .i64 (i : Int)) ∧ F.get 19 = some (.int .i64 (j : Int)) ∧ F.get 0 = some (.int .u32 (crcN j (t ^^^ bs[i]) : Int)) ∧ K = .nil ∧ ms = []) 8 ⟨0, by simp [f9, f10, f11, crcN]⟩ ?_
    rintro k F K m ms ⟨j, rfl, hj, f9, f10, f11, f19, f0, rfl, rfl⟩
    have hcj := crcN_lt ht2 j
    by_cases hj8 : j < 8
    · generalize hu : crcN j (t ^^^ bs[i]) = u at f0 hcj
      have hand : u &&& 1 = 0 ∨ u &&& 1 = 1 := by rw [and_one]; omega
      have a1 := cAndU u 1 hcj (by omega)
      have a2 := cNegU (u &&& 1) hand
      have a3 := cAndU 2197175160 (if u &&& 1 = 0 then 0 else 4294967295) (by omega) (by split <;> omega)
      have a4 := cXorU (u / 2) (2197175160 &&& (if u &&& 1 = 0 then 0 else 4294967295)) (by omega) (Nat.lt_of_le_of_lt Nat.and_le_left (by omega))
      have hstep : (u / 2) ^^^ (2197175160 &&& (if u &&& 1 = 0 then 0 else 4294967295)) = crcN (j + 1) (t ^^^ bs[i]) := by
        show _ = crcS (crcN j (t ^^^ bs[i]))
        rw [hu]
        unfold crcS
        rcases hand with h | h
        · have hm : u % 2 = 0 := by rw [← and_one]; exact h
          rw [if_pos h]
          show _ = Nat.xor (u / 2) (match u % 2 with | 0 => 0 | _ + 1 => 2197175160)
          rw [hm]; rfl
        · have hm : u % 2 = 1 := by rw [← and_one]; exact h
          rw [if_neg (by omega)]
          show _ = Nat.xor (u / 2) (match u % 2 with | 0 => 0 | _ + 1 => 2197175160)
          rw [hm]; rfl
      rw [hstep] at a4
      have a1 : cBin .and (.int .u32 (u : Int)) (.int .u32 1) = .val (.int .u32 ((u &&& 1 : Nat) : Int)) := a1
      have a3 : cBin .and (.int .u32 2197175160) (.int .u32 ((if u &&& 1 = 0 then 0 else 4294967295 : Nat) : Int)) = .val (.int .u32 ((2197175160 &&& (if u &&& 1 = 0 then 0 else 4294967295) : Nat) : Int)) := a3
      generalize hz : (if u &&& 1 = 0 then 0 else 4294967295 : Nat) = z at a2 a3 a4
      generalize hy : u &&& 1 = y at a1 a2
      generalize hw : 2197175160 &&& z = q at a3 a4
      have a0 := cShrU u
      have hj8' : (j : Int) < 8 := by omega
      generalize hu2 : u / 2 = u2 at a0 a4
      simp only [LS_0, RS_7, RS_8, RS_9]
      simp [f0, f19, hj8', a0, a1, a2, a3, a4, -cBin_shr, wrap_i j (by omega)]
      exact ⟨8 - (j + 1), by omega, j + 1, rfl, by omega, f9, f10, f11, by omega⟩
    · have : j = 8 := by omega
      subst this
      simp [LS_0, RS_7, f19, RS_10, f11, wrap_i i (by omega)]
      refine ⟨bs.length - (i + 1), by omega, i + 1, rfl, hlt, f9, f10, by omega, crcN 8 (t ^^^ bs[i]), f0, hcj, ?_⟩
      rw [he, List.drop_eq_getElem_cons hlt, crcL_cons, crc8_eq]
  · have : i = bs.length := by omega
    subst this
    simp [LS_1, RS_3, f10, f11, RS_11, f0, cUn_xorU t ht]
    have : sumM s bs = 4294967295 - t := by
      show 4294967295 - crcL bs (4294967295 - s) = _
      rw [he, List.drop_length, crcL_nil]
    rw [this]
    exact .pure _ (by simp)
end
end Go.Abs

/- The abstract machine: runs in which a function known by its contract is not walked. -/
namespace Go.Abs

noncomputable def runO (P : Program) (ov : FuncId → List AV → Hp → Option AV) : Nat → Ce
  | 0 => { call := fun _ _ _ _ => .fail, code := fun _ _ _ _ _ => .fail, dcall := fun _ _ _ _ _ => .fail }
  | f + 1 => {
      call := fun g args H n => match ov g args H with
        | some v => .mk v H n
        | none => fnCall P (runO P ov f) g args H n
      code := fun nt c F H n => (comp P nt true c).f (runO P ov f) F H n []
      dcall := fun g args u H n => fnDef P (runO P ov f) g args u H n }
section
variable {P : Program}
theorem runO_ok {ov : FuncId → List AV → Hp → Option AV} (hov : ∀ g args H n v, ov g args H = some v → CallOk P g args H n v H n) : ∀ k, CeOk P (runO P ov k)
  | 0 => ⟨fun _ _ _ _ _ _ _ h => by (simp only [runO] at h; cases h), fun _ _ _ _ _ _ _ h => by (simp only [runO] at h; cases h), fun _ _ _ _ _ _ _ _ _ _ h => by (simp only [runO] at h; cases h), fun _ _ _ _ _ _ _ _ h => by (simp only [runO] at h; cases h)⟩
  | k + 1 => by
    have ih := runO_ok hov k
    refine ⟨fun g args H n v H' n' h => ?_, fun g args H n v H' n' h => ?_, fun nt c F H n o F' H' n' m' h => ?_, fun g args u H n u' H' n' h => ?_⟩
    · simp only [runO] at h
      split at h
      · rename_i u hu
        injection h with e1 e2 e3
        subst e1 e2 e3
        exact hov g args H n u hu
      · exact fnCall_ok ih h
    · simp only [runO] at h
      split at h
      · cases h
      · exact fnCall_end ih h (.pan ..)
    · simp only [runO] at h
      obtain ⟨hn, _⟩ := comp_sound (P := P) (nt := nt) (r := some 0) ih c _ _ _ _ _ _ _ _ _ h
      refine ⟨hn, fun l => ?_⟩
      exact (comp_sound (P := P) (nt := nt) (r := some l) ih c _ _ _ _ _ _ _ _ _ h).2
    · exact fnDef_ok ih h
theorem FnPure.byRunO {ov : FuncId → List AV → Hp → Option AV} (hov : ∀ g args H n v, ov g args H = some v → CallOk P g args H n v H n) {g : FuncId} {args : List AV} {v : AV} (k : Nat) (hp : PureL args) (hv : Pure v) (h : getV (fnCall P (runO P ov k) g args .nil 0) = some v) : FnPure P g args v := by
  refine FnPure.of (runO_ok hov k) hp ?_
  cases hr : fnCall P (runO P ov k) g args .nil 0 with
  | fail => rw [hr] at h; cases h
  | pan v1 H' n' => rw [hr] at h; cases h
  | mk v1 H' n' => rw [hr] at h; injection h with h; subst h; exact ⟨_, _, _, rfl, .pure _ hv⟩

/-! ### sums -/
def u8of : List AV → Option (List Nat)
  | [] => some []
  | .int .u8 (.ofNat x) :: r => match Nat.blt x 256 with
    | true => match u8of r with
      | some l => some (x :: l)
      | none => none
    | false => none
  | _ :: _ => none
theorem u8of_spec : ∀ {l : List AV} {bs : List Nat}, u8of l = some bs → l = u8s bs ∧ ∀ x ∈ bs, x < 256
  | [], bs, h => by simp only [u8of] at h; injection h with h; subst h; exact ⟨rfl, fun x hx => by cases hx⟩
  | a :: r, bs, h => by
    unfold u8of at h
    split at h
    · rename_i e; cases e
    · rename_i x r' e
      injection e with e1 e2
      subst e1 e2
      split at h
      · rename_i hx
        rw [Nat.blt_eq] at hx
        split at h
        · rename_i l hl
          injection h with h; subst h
          obtain ⟨h1, h2⟩ := u8of_spec hl
          refine ⟨by rw [h1]; rfl, fun y hy => ?_⟩
          rcases List.mem_cons.1 hy with rfl | hy
          · exact hx
          · exact h2 y hy
        · cases h
      · cases h
    · cases h
noncomputable def ovSum (gM g : FuncId) (args : List AV) (H : Hp) : Option AV := match Nat.beq g gM with
  | true => match args with
    | [.int .u32 (.ofNat s), .sl b o len 1] => match H.get b with
      | some (.cells u z bs t) => match grab u z bs t o (len * 1) with
        | some cs => match u8of cs with
          | some l => match Nat.blt s 4294967296 && Nat.beq (lenAcc l 0) len && Nat.blt len 2147483648 with
            | true => some (.int .u32 (Int.ofNat (sumM s l)))
            | false => none
          | none => none
        | none => none
      | _ => none
    | _ => none
  | false => none
theorem FrzL.refl {h : Hf} : ∀ {l : List AV}, PureL l → FrzL h l l
  | [], _ => .nil
  | v :: l, hp => .cons _ _ _ _ (.pure _ (by simp only [PureL] at hp; exact hp.1)) (FrzL.refl (by simp only [PureL] at hp; exact hp.2))
theorem ovSum_ok {gM : FuncId} (hc : ctF P gM = some AS) : ∀ g args H n v, ovSum gM g args H = some v → CallOk P g args H n v H n := by
  intro g args H n v h
  unfold ovSum at h
  split at h
  · rename_i hg
    have hg := Nat.eq_of_beq_eq_true hg
    subst hg
    split at h
    · rename_i s b o len
      split at h
      · rename_i u z bs t hb
        split at h
        · rename_i cs hcs
          split at h
          · rename_i l hl
            split at h
            · rename_i hcond
              simp only [Bool.and_eq_true] at hcond
              obtain ⟨⟨d1, d2⟩, d3⟩ := hcond
              rw [Nat.blt_eq] at d1 d3
              have d2 := Nat.eq_of_beq_eq_true d2
              rw [lenAcc_zero] at d2
              obtain ⟨e1, e2⟩ := u8of_spec hl
              injection h with h; subst h
              subst d2
              refine FnPure.callFOk (more_pure hc s l d1 e2 d3) (by simp [Flat]) n (.cons _ _ _ _ (.pure _ (by simp)) (.cons _ _ _ _ ?_ .nil))
              subst e1
              exact .sl b o l.length 1 u z bs t (u8s l) (u8s l) hb hcs (FrzL.refl (u8s_pure l))
            · cases h
          · cases h
        · cases h
      · cases h
    · cases h
  · cases h
end
end Go.Abs

/- A long loop, run in pieces: between two pieces the state is written down, and what of it is not needed is forgotten. -/
namespace Go.Abs

/-! ### states -/
structure ASt where
  F : Fr
  H : Hp
  n : Nat
def okO {α : Type} (ok : α → α → Bool) : Option α → Option α → Bool
  | none, _ => true
  | some x, some y => ok x y
  | some _, none => false
def and3 (a b c : Bool) : Bool := match a with
  | true => match b with
    | true => c
    | false => false
  | false => false
noncomputable def subT {α : Type} (ok : α → α → Bool) (t : Tr α) : Tr α → Bool :=
  Tr.rec (motive := fun _ => Tr α → Bool) (fun _ => true) (fun v _ _ il ir u => match u with
    | .nil => and3 (okO ok v none) (il .nil) (ir .nil)
    | .node v' l' r' => and3 (okO ok v v') (il l') (ir r')) t
theorem and3_ok {a b c : Bool} (h : and3 a b c = true) : a = true ∧ b = true ∧ c = true := by
  cases a <;> cases b <;> cases c <;> simp_all [and3]
/-- the first block's cells, as a list, are the second one's -/
noncomputable def blkSub : ABlk → ABlk → Bool
  | .cells u [] bs .nil, .cells u' z' bs' t' => match Nat.beq u u' with
    | true => match grab u' z' bs' t' 0 u' with
      | some l => eqVs (eqV 12) bs l
      | none => false
    | false => false
  | a, b => blkEq a b
/-- what a run comes to holds that state -/
noncomputable def goesB (r : Res) (S : ASt) : Bool := match r with
  | .mk .normal F H n [] => match subT (eqV 12) S.F F with
    | true => match subT blkSub S.H H with
      | true => Nat.ble n S.n
      | false => false
    | false => false
  | _ => false

theorem okO_ok {α : Type} {ok : α → α → Bool} {a b : Option α} (h : okO ok a b = true) {v : α} (e : a = some v) : ∃ v', b = some v' ∧ ok v v' = true := by
  subst e
  cases b with
  | none => cases h
  | some y => exact ⟨y, rfl, h⟩
theorem subT_ok {α : Type} {ok : α → α → Bool} : ∀ (t u : Tr α), subT ok t u = true → ∀ i v, t.get i = some v → ∃ v', u.get i = some v' ∧ ok v v' = true := by
  intro t
  induction t with
  | nil => intro u _ i v e; simp at e
  | node x l r il ir =>
    intro u h i v e
    rw [Tr.get_node] at e
    cases u with
    | nil =>
      obtain ⟨h1, h2, h3⟩ := and3_ok (show and3 (okO ok x none) (subT ok l .nil) (subT ok r .nil) = true from h)
      by_cases h0 : i = 0
      · simp only [h0, if_true] at e
        obtain ⟨v', e', _⟩ := okO_ok h1 e
        cases e'
      · simp only [h0, if_false] at e
        by_cases h1 : (i - 1) % 2 = 0
        · simp only [h1, if_true] at e
          obtain ⟨v', e', _⟩ := il .nil h2 _ _ e
          simp at e'
        · simp only [h1, if_false] at e
          obtain ⟨v', e', _⟩ := ir .nil h3 _ _ e
          simp at e'
    | node x' l' r' =>
      obtain ⟨h1, h2, h3⟩ := and3_ok (show and3 (okO ok x x') (subT ok l l') (subT ok r r') = true from h)
      rw [Tr.get_node]
      by_cases h0 : i = 0
      · simp only [h0, if_true] at e ⊢
        exact okO_ok h1 e
      · simp only [h0, if_false] at e ⊢
        by_cases h1 : (i - 1) % 2 = 0
        · simp only [h1, if_true] at e ⊢
          exact il l' h2 _ _ e
        · simp only [h1, if_false] at e ⊢
          exact ir r' h3 _ _ e

theorem blkSub_ok {φ : Ph} {D : Da} {w : World} {p : Nat × Nat × Nat} {a b : ABlk} (h : blkSub a b = true) (hb : BlkR φ D w p b) : BlkR φ D w p a := by
  unfold blkSub at h
  split at h
  · rename_i u bs u' z' bs' t'
    split at h
    · rename_i hu
      have hu := Nat.eq_of_beq_eq_true hu
      subst hu
      split at h
      · rename_i l hg
        have hl := eqVs_ok (eqV_ok 12) h
        subst hl
        obtain ⟨c, e, fr, q1, q2, q3, q4, q5, q6⟩ := hb
        obtain ⟨g1, g2⟩ := grab_spec q5 hg
        refine ⟨c, e, fr, q1, q2, q3, fun i v hv => ?_, fun _ _ => g1, q6⟩
        rw [getc_list] at hv
        split at hv
        · rename_i hi
          have := g2 i hi
          rw [Nat.zero_add] at this
          exact q4 i v (this.trans hv)
        · cases hv
      · cases h
    · cases h
  · rw [blkEq_ok _ _ h]; exact hb

section
variable {P : Program} {ce : Ce} {nt : Nat}
/-- from what a run came to, to that state -/
theorem goes_st {φ φ' : Ph} {D D' : Da} {h : Hf} {w w' : World} {n : Nat} {a' : Act} {F' : Fr} {H' : Hp} {n' : Nat} {S : ASt} (hg : goesB (.mk .normal F' H' n' []) S = true)
    (e : Ext φ D h w n φ' D' H'.get w' n') (st : St nt φ' D' F' H' [] a' w') : Ext φ D h w n φ' D' S.H.get w' S.n ∧ St nt φ' D' S.F S.H [] a' w' := by
  unfold goesB at hg
  dsimp only at hg
  cases h1 : subT (eqV 12) S.F F' with
  | false => rw [h1] at hg; cases hg
  | true =>
  rw [h1] at hg
  dsimp only at hg
  cases h2 : subT blkSub S.H H' with
  | false => rw [h2] at hg; cases hg
  | true =>
  rw [h2] at hg
  have hn : n' ≤ S.n := Nat.le_of_ble_eq_true hg
  have hne : ∀ b, S.H.get b ≠ none → H'.get b ≠ none := by
    intro b hb
    cases hx : S.H.get b with
    | none => exact absurd hx hb
    | some k => obtain ⟨k', hk, _⟩ := subT_ok _ _ h2 b k hx; rw [hk]; simp
  refine ⟨e.less hne hn, ⟨⟨fun b k hb => ?_, fun b c p q hb hc => st.rel.inj b c p q (hne b hb) (hne c hc), fun b p hb => st.rel.sep b p (hne b hb), st.rel.dat⟩, ⟨fun t v hv => ?_, st.fr.2⟩, st.sz, st.mar⟩⟩
  · obtain ⟨k', hk, ho⟩ := subT_ok _ _ h2 b k hb
    obtain ⟨p, hp, hlt, hr⟩ := st.rel.blk b k' hk
    exact ⟨p, hp, hlt, blkSub_ok ho hr⟩
  · obtain ⟨v', hv', ho⟩ := subT_ok _ _ h1 t v hv
    rw [eqV_ok 12 _ _ ho]
    exact st.fr.1 t v' hv'

/-! ### a loop's rounds -/
noncomputable def itrB (b : K) (ce : Ce) (k : Nat) : Fr → Hp → Nat → List Dm → Res :=
  Nat.rec (motive := fun _ => Fr → Hp → Nat → List Dm → Res) (fun F H n m => .mk .normal F H n m) (fun _ ih F H n m => match b.f ce F H n m with
    | .mk .normal F' H' n' m' => ih F' H' n' m'
    | _ => .fail) k
theorem itr_ok {b : K} {c : Code} (ib : Sound nt (fun Q a w => c.wpIn (FW none) 0 P Q a w) (b.f ce)) : ∀ (k : Nat) {F : Fr} {H : Hp} {n : Nat} {m : List Dm} {o : AOut} {F' : Fr} {H' : Hp} {n' : Nat} {m' : List Dm}, itrB b ce k F H n m = .mk o F' H' n' m' →
    n ≤ n' ∧ o = .normal ∧ ∀ φ D a w, St nt φ D F H m a w → Fresh φ n n' → ∀ (K : Nat) (Q : QT), (∀ φ' D' a' w', Ext φ D H.get w n φ' D' H'.get w' n' → St nt φ' D' F' H' m' a' w' → Code.roundsIn (FW none) 0 P c Q K a' w') → Code.roundsIn (FW none) 0 P c Q (k + K) a w
  | 0, F, H, n, m, o, F', H', n', m', h => by
    have h : Res.mk .normal F H n m = .mk o F' H' n' m' := h
    cases h
    refine ⟨Nat.le_refl _, rfl, fun φ D a w st hf K Q hQ => ?_⟩
    rw [Nat.zero_add]
    exact hQ φ D a w (Ext.refl ..) st
  | k + 1, F, H, n, m, o, F', H', n', m', h => by
    have h : (match b.f ce F H n m with
      | .mk .normal F' H' n' m' => itrB b ce k F' H' n' m'
      | _ => .fail) = Res.mk o F' H' n' m' := h
    split at h
    · rename_i F1 H1 n1 m1 hx
      obtain ⟨hn1, hs1⟩ := ib _ _ _ _ _ _ _ _ _ hx
      obtain ⟨hn2, ho, hs2⟩ := itr_ok ib k h
      refine ⟨by omega, ho, fun φ D a w st hf K Q hQ => ?_⟩
      rw [show k + 1 + K = (k + K) + 1 by omega, roundsIn_succ]
      refine hs1 φ D a w st (hf.left hn2) _ fun φ1 D1 a1 w1 px e1 st1 pp => ?_
      exact hs2 φ1 D1 a1 w1 st1 (hf.step e1) K Q fun φ2 D2 a2 w2 e2 st2 => hQ φ2 D2 a2 w2 (e1.trans e2) st2
    · cases h

/-! ### a function whose code is a row of codes, a loop, and the rest -/
structure Lp where
  nt : Nat
  res : List (Fr → Hp → Option AV)
  pre : List Code
  i : Nat
  c : Code
  rest : Code
def seqs : List Code → Code → Code
  | [], r => r
  | a :: l, r => .seq a (seqs l r)
def splitL : Code → Option (List Code × Nat × Code × Code)
  | .seq (.block i (.loop c)) r => some ([], i, c, r)
  | .seq a r => match splitL r with
    | some (l, x) => some (a :: l, x)
    | none => none
  | _ => none
theorem splitL_ok : ∀ {b : Code} {l : List Code} {i : Nat} {c r : Code}, splitL b = some (l, i, c, r) → b = seqs l (.seq (.block i (.loop c)) r)
  | .seq a r', l, i, c, r, h => by
    unfold splitL at h
    split at h
    · rename_i h1
      cases h1
      cases h
      rfl
    · rename_i h1
      cases h1
      split at h
      · rename_i l' x hx
        obtain ⟨i', c', r2⟩ := x
        cases h
        rw [splitL_ok hx]; rfl
      · cases h
    · cases h
  | .skip, _, _, _, _, h => by simp [splitL] at h
  | .region .., _, _, _, _, h => by simp [splitL] at h
  | .cond .., _, _, _, _, h => by simp [splitL] at h
  | .block .., _, _, _, _, h => by simp [splitL] at h
  | .loop .., _, _, _, _, h => by simp [splitL] at h
  | .exit .., _, _, _, _, h => by simp [splitL] at h
  | .ret, _, _, _, _, h => by simp [splitL] at h
  | .scope .., _, _, _, _, h => by simp [splitL] at h
  | .label .., _, _, _, _, h => by simp [splitL] at h
  | .goto .., _, _, _, _, h => by simp [splitL] at h
  | .refuse .., _, _, _, _, h => by simp [splitL] at h
  | .rangeFunc .., _, _, _, _, h => by simp [splitL] at h
noncomputable def lpOf (P : Program) (g : FuncId) : Option Lp := match P.funcs[g]? with
  | some fn => match fn.body with
    | some b => match fn.name == "runtime.NumGoroutine" with
      | true => none
      | false => match getRes P fn.results.toList with
        | some r => match splitL b with
          | some (l, i, c, rest) => some ⟨fn.ntmps, r, l, i, c, rest⟩
          | none => none
        | none => none
    | none => none
  | none => none
noncomputable def seqsK (P : Program) (nt : Nat) : List Code → K
  | [] => endK
  | a :: l => seqK (comp P nt false a) (seqsK P nt l)
theorem seqs_ok (hce : CeOk P ce) : ∀ (l : List Code) {F : Fr} {H : Hp} {n : Nat} {m : List Dm} {F' : Fr} {H' : Hp} {n' : Nat} {m' : List Dm}, (seqsK P nt l).f ce F H n m = .mk .normal F' H' n' m' →
    n ≤ n' ∧ ∀ φ D a w, St nt φ D F H m a w → Fresh φ n n' → ∀ (r : Code) (Q : QT), (∀ φ' D' a' w', Ext φ D H.get w n φ' D' H'.get w' n' → St nt φ' D' F' H' m' a' w' → r.wpIn (FW none) 0 P Q a' w') → (seqs l r).wpIn (FW none) 0 P Q a w
  | [], F, H, n, m, F', H', n', m', h => by
    cases h
    exact ⟨Nat.le_refl _, fun φ D a w st hf r Q hQ => hQ φ D a w (Ext.refl ..) st⟩
  | c :: l, F, H, n, m, F', H', n', m', h => by
    have h : (match (comp P nt false c).f ce F H n m with
      | .mk .normal F' H' n' m' => (seqsK P nt l).f ce F' H' n' m'
      | r => r) = Res.mk .normal F' H' n' m' := h
    split at h
    · rename_i F1 H1 n1 m1 hx
      obtain ⟨hn1, hs1⟩ := comp_sound (P := P) (nt := nt) (r := none) hce c _ _ _ _ _ _ _ _ _ hx
      obtain ⟨hn2, hs2⟩ := seqs_ok hce l h
      refine ⟨by omega, fun φ D a w st hf r Q hQ => wpIn_seq (hs1 φ D a w st (hf.left hn2) _ fun φ1 D1 a1 w1 px e1 st1 pp => ?_)⟩
      exact hs2 φ1 D1 a1 w1 st1 (hf.step e1) r Q fun φ2 D2 a2 w2 e2 st2 => hQ φ2 D2 a2 w2 (e1.trans e2) st2
    · rename_i hne
      exact absurd h (hne _ _ _ _)

/-! ### what is asked of the pieces -/
noncomputable def chPre (P : Program) (ce : Ce) (g : FuncId) (args : List AV) (S : ASt) : Bool := match lpOf P g with
  | some l => Nat.ble (lenAcc args 0) l.nt && goesB ((seqsK P l.nt l.pre).f ce (Tr.putAll args 0 .nil) .nil 0 []) S
  | none => false
noncomputable def chMid (P : Program) (ce : Ce) (g : FuncId) (k : Nat) (S S' : ASt) : Bool := match lpOf P g with
  | some l => goesB (itrB (comp P l.nt false l.c) ce k S.F S.H S.n []) S'
  | none => false
noncomputable def chEnd (P : Program) (ce : Ce) (g : FuncId) (S : ASt) (v : AV) : Bool := match lpOf P g with
  | some l => match loopN (comp P l.nt false l.c) ce big S.F S.H S.n [] with
    | .mk (.exit j) F H n m => match Nat.beq j l.i with
      | true => match leaveK ce l.res ((comp P l.nt false l.rest).f ce F H n m) with
        | .mk u _ _ => eqV 12 u v
        | _ => false
      | false => false
    | _ => false
  | none => false

/-- a chain of pieces -/
inductive Pieces (P : Program) (ce : Ce) (g : FuncId) : ASt → ASt → Prop
  | nil (S) : Pieces P ce g S S
  | cons (S S' S'' k) : chMid P ce g k S S' = true → Pieces P ce g S' S'' → Pieces P ce g S S''

theorem pieces_ok {g : FuncId} {l : Lp} (hl : lpOf P g = some l) (hce : CeOk P ce) {S S' : ASt} (h : Pieces P ce g S S') :
    S.n ≤ S'.n ∧ ∃ k, ∀ φ D a w, St l.nt φ D S.F S.H [] a w → Fresh φ S.n S'.n → ∀ (K : Nat) (Q : QT), (∀ φ' D' a' w', Ext φ D S.H.get w S.n φ' D' S'.H.get w' S'.n → St l.nt φ' D' S'.F S'.H [] a' w' → Code.roundsIn (FW none) 0 P l.c Q K a' w') → Code.roundsIn (FW none) 0 P l.c Q (k + K) a w := by
  induction h with
  | nil S => exact ⟨Nat.le_refl _, 0, fun φ D a w st _ K Q hQ => by rw [Nat.zero_add]; exact hQ φ D a w (Ext.refl ..) st⟩
  | cons S S1 S2 k hm _ ih =>
    obtain ⟨hn2, K2, hs2⟩ := ih
    unfold chMid at hm
    rw [hl] at hm
    dsimp only at hm
    cases hr : itrB (comp P l.nt false l.c) ce k S.F S.H S.n [] with
    | fail => rw [hr] at hm; cases hm
    | mk o F1 H1 n1 m1 =>
      rw [hr] at hm
      obtain ⟨hn1, ho, hs1⟩ := itr_ok (comp_sound (P := P) (nt := l.nt) (r := none) hce l.c) k hr
      subst ho
      have hm1 : m1 = [] := by cases m1 with
        | nil => rfl
        | cons => simp [goesB] at hm
      subst hm1
      have hle : n1 ≤ S1.n := by
        unfold goesB at hm
        dsimp only at hm
        split at hm
        · split at hm
          · exact Nat.le_of_ble_eq_true hm
          · cases hm
        · cases hm
      refine ⟨by omega, k + K2, fun φ D a w st hf K Q hQ => ?_⟩
      rw [Nat.add_assoc]
      refine hs1 φ D a w st (fun b h1 h2 => hf b h1 (by omega)) (K2 + K) Q fun φ1 D1 a1 w1 e1 st1 => ?_
      obtain ⟨e1', st1'⟩ := goes_st hm e1 st1
      exact hs2 φ1 D1 a1 w1 st1' (hf.step e1') K Q fun φ2 D2 a2 w2 e2 st2 => hQ φ2 D2 a2 w2 (e1'.trans e2) st2

theorem FnPure.pieces_end {g : FuncId} {args : List AV} {v : AV} {S S' : ASt} {fn : Func} {b : Code} {gs : List (Fr → Hp → Option AV)} {pre : List Code} {i : Nat} {c rest : Code} {k : Nat} (hce : CeOk P ce) (hp : PureL args) (hv : Pure v) (hle : lenAcc args 0 ≤ fn.ntmps)
    (hfn : P.funcs[g]? = some fn) (hb : fn.body = some b) (hname : (fn.name == "runtime.NumGoroutine") = false) (hgs : getRes P fn.results.toList = some gs) (hsp : splitL b = some (pre, i, c, rest))
    (hpc : ∀ φ D a w, St fn.ntmps φ D S.F S.H [] a w → Fresh φ S.n S'.n → ∀ (K : Nat) (Q : QT), (∀ φ' D' a' w', Ext φ D S.H.get w S.n φ' D' S'.H.get w' S'.n → St fn.ntmps φ' D' S'.F S'.H [] a' w' → Code.roundsIn (FW none) 0 P c Q K a' w') → Code.roundsIn (FW none) 0 P c Q (k + K) a w)
    (h0 : goesB ((seqsK P fn.ntmps pre).f ce (Tr.putAll args 0 .nil) .nil 0 []) S = true) {Fl : Fr} {Hl : Hp} {nl : Nat} {ml : List Dm} (hlo : loopN (comp P fn.ntmps false c) ce big S'.F S'.H S'.n [] = .mk (.exit i) Fl Hl nl ml)
    {Hz : Hp} {nz : Nat} (hlr : leaveK ce gs ((comp P fn.ntmps false rest).f ce Fl Hl nl ml) = .mk v Hz nz) : FnPure P g args v := by
  have hbody := splitL_ok hsp
  cases hpr : (seqsK P fn.ntmps pre).f ce (Tr.putAll args 0 .nil) .nil 0 [] with
  | fail => rw [hpr] at h0; cases h0
  | mk o F1 H1 n1 m1 =>
  rw [hpr] at h0
  have ho : o = .normal := by cases o <;> first | rfl | (simp [goesB] at h0)
  subst ho
  have hm1 : m1 = [] := by cases m1 with
    | nil => rfl
    | cons => simp [goesB] at h0
  subst hm1
  obtain ⟨hn1, hs1⟩ := seqs_ok (nt := fn.ntmps) hce pre hpr
  obtain ⟨hnl, hs2⟩ := loopN_sound (comp_sound (P := P) (nt := fn.ntmps) (r := none) hce c) big _ _ _ _ _ _ _ _ _ hlo
  cases hres : (comp P fn.ntmps false rest).f ce Fl Hl nl ml with
  | fail => rw [hres] at hlr; simp only [leaveK] at hlr; cases hlr
  | mk ou F2 H2 n2 m2 =>
  rw [hres] at hlr
  obtain ⟨hn2, hs3⟩ := comp_sound (P := P) (nt := fn.ntmps) (r := none) hce rest _ _ _ _ _ _ _ _ _ hres
  obtain ⟨hn3, hl⟩ := leaveK_ok (P := P) hce hgs hlr (.ret ..)
  refine FnPure.ofR hp hv ⟨⟨fn, b, hfn, hb, hname⟩, fun φ D w xs hrel hvs hf R hR => ?_⟩
  refine callsIn_of_wp_marks hfn hb trivial ?_
  have hsz : ((⟨xs⟩ : Array Value) ++ Array.replicate (fn.ntmps - (⟨xs⟩ : Array Value).size) undef).size = fn.ntmps := by
    have := hvs.length
    rw [lenAcc_zero] at hle
    simp
    omega
  rw [hbody]
  refine hs1 φ D { tmps := (⟨xs⟩ : Array Value) ++ Array.replicate (fn.ntmps - (⟨xs⟩ : Array Value).size) undef, defers := [] } w ⟨hrel, frame_ok hrel.dat.2 hvs _, hsz, rfl⟩ (hf.fresh _) _ _ fun φ1 D1 a1 w1 e1 st1 => ?_
  obtain ⟨e1, st1⟩ := goes_st h0 e1 st1
  have f1 := hf.step e1
  refine wpIn_seq (wpIn_block (wpIn_loop_rounds (k + big) (hpc φ1 D1 a1 w1 st1 (f1.fresh _) big _ fun φ2 D2 a2 w2 e2 st2 => ?_)))
  have f2 := f1.step e2
  refine hs2 φ2 D2 a2 w2 st2 (f2.fresh _) _ fun φ3 D3 a3 w3 px e3 st3 pp => ?_
  simp only [exitOf, Exit.inBlock, if_true]
  have f3 := f2.step e3
  refine hs3 φ3 D3 a3 w3 st3 (f3.fresh _) _ fun φ4 D4 a4 w4 py e4 st4 pq => ?_
  have f4 := f3.step e4
  refine hl φ4 D4 a4 w4 py R st4.rel st4.fr st4.mar pq (f4.fresh _) fun φ5 D5 w5 x e5 r5 h5 => ?_
  exact hR v Hz nz φ5 D5 w5 x (.pure _ hv) ((((e1.trans e2).trans e3).trans e4).trans e5) r5 h5

theorem FnPure.pieces {g : FuncId} {args : List AV} {v : AV} {S S' : ASt} (hce : CeOk P ce) (hp : PureL args) (hv : Pure v) (h0 : chPre P ce g args S = true) (h1 : Pieces P ce g S S') (h2 : chEnd P ce g S' v = true) : FnPure P g args v := by
  unfold chPre at h0
  cases hl : lpOf P g with
  | none => rw [hl] at h0; cases h0
  | some l =>
  rw [hl] at h0
  simp only [Bool.and_eq_true] at h0
  obtain ⟨hle, h0⟩ := h0
  have hle := Nat.le_of_ble_eq_true hle
  unfold chEnd at h2
  rw [hl] at h2
  dsimp only at h2
  obtain ⟨hnp, k, hpc⟩ := pieces_ok hl hce h1
  unfold lpOf at hl
  split at hl
  · rename_i fn hfn
    split at hl
    · rename_i b hb
      split at hl
      · cases hl
      · rename_i hname
        split at hl
        · rename_i gs hgs
          split at hl
          · rename_i pre i c rest hsp
            injection hl with hl; subst hl
            dsimp only at *
            have hbody := splitL_ok hsp
            -- the end
            split at h2
            · rename_i j Fl Hl nl ml hlo
              split at h2
              · rename_i hji
                have hji := Nat.eq_of_beq_eq_true hji
                subst hji
                split at h2
                · rename_i u Hz nz hlr
                  have hu := eqV_ok 12 _ _ h2
                  subst hu
                  refine FnPure.pieces_end hce hp hv hle hfn hb hname hgs hsp hpc h0 hlo hlr
                · cases h2
              · cases h2
            · cases h2
          · cases hl
        · cases hl
    · cases hl
  · cases hl
end
end Go.Abs

/- The abstract machine: runs in which some calls, of values that are shut, are known. -/
namespace Go.Abs

noncomputable def frzLL (f : AV → Option AV) : List AV → Option (List AV)
  | [] => some []
  | v :: r => match f v with
    | some u => match frzLL f r with
      | some l => some (u :: l)
      | none => none
    | none => none
/-- a value, shut: what its slices hold now -/
noncomputable def frzV (H : Hp) : Nat → AV → Option AV
  | 0, _ => none
  | k + 1, v => match v with
    | .int k n => some (.int k n)
    | .bool b => some (.bool b)
    | .str l => some (.str l)
    | .cst x => if atom x then some (.cst x) else none
    | .sl b o len sz => match H.get b with
      | some (.cells u z bs t) => match grab u z bs t o (len * sz) with
        | some l => match frzLL (frzV H k) l with
          | some l' => some (.ds l' len sz)
          | none => none
        | none => none
      | _ => none
    | .agg cs n => match frzLL (frzV H k) cs with
      | some l => some (.agg l n)
      | none => none
    | _ => none
theorem frzLL_ok {H : Hp} {f : AV → Option AV} (h : ∀ v u, f v = some u → Frz H.get v u) : ∀ {l l' : List AV}, frzLL f l = some l' → FrzL H.get l l'
  | [], l', e => by simp only [frzLL] at e; injection e with e; subst e; exact .nil
  | v :: r, l', e => by
    simp only [frzLL] at e
    split at e
    · rename_i u hu
      split at e
      · rename_i l hl
        injection e with e; subst e
        exact .cons _ _ _ _ (h _ _ hu) (frzLL_ok h hl)
      · cases e
    · cases e
theorem frzV_ok {H : Hp} : ∀ (k : Nat) (v u : AV), frzV H k v = some u → Frz H.get v u
  | 0, _, _, e => by simp [frzV] at e
  | k + 1, v, u, e => by
    have ih := frzV_ok (H := H) k
    simp only [frzV] at e
    split at e
    · injection e with e; subst e; exact .pure _ (by simp)
    · injection e with e; subst e; exact .pure _ (by simp)
    · injection e with e; subst e; exact .pure _ (by simp)
    · split at e
      · rename_i hx; injection e with e; subst e; exact .pure _ (by simp [Pure])
      · cases e
    · split at e
      · rename_i hb
        split at e
        · rename_i hg
          split at e
          · rename_i hl
            injection e with e; subst e
            exact .sl _ _ _ _ _ _ _ _ _ _ hb hg (frzLL_ok ih hl)
          · cases e
        · cases e
      · cases e
    · split at e
      · rename_i hl
        injection e with e; subst e
        exact .agg _ _ _ (frzLL_ok ih hl)
      · cases e
    · cases e

section
variable {P : Program}
/-- one known call -/
noncomputable def ovOne (g0 : FuncId) (args0 : List AV) (v0 : AV) (g : FuncId) (args : List AV) (H : Hp) : Option AV := match Nat.beq g g0 with
  | true => match frzLL (frzV H 12) args with
    | some l => match eqVs (eqV 12) l args0 with
      | true => some v0
      | false => none
    | none => none
  | false => none
theorem ovOne_ok {g0 : FuncId} {args0 : List AV} {v0 : AV} (h : FnPure P g0 args0 v0) (hf : Flat v0) : ∀ g args H n v, ovOne g0 args0 v0 g args H = some v → CallOk P g args H n v H n := by
  intro g args H n v e
  unfold ovOne at e
  split at e
  · rename_i hg
    have hg := Nat.eq_of_beq_eq_true hg
    subst hg
    split at e
    · rename_i l hl
      split at e
      · rename_i he
        have he := eqVs_ok (eqV_ok 12) he
        subst he
        injection e with e; subst e
        exact h.callFOk hf n (frzLL_ok (frzV_ok 12) hl)
      · cases e
    · cases e
  · cases e
end
end Go.Abs

/- The abstract machine: a run in which some calls, each at its moment, are known: what they come to is written down, and what of it is not needed is forgotten. -/
namespace Go.Abs

/-! ### one heap over another -/
def orV {α : Type} : Option α → Option α → Option α
  | some x, _ => some x
  | none, y => y
def lessV {α β : Type} : Option α → Option β → Option β
  | some _, _ => none
  | none, y => y
noncomputable def ovl {α : Type} (t : Tr α) : Tr α → Tr α :=
  Tr.rec (motive := fun _ => Tr α → Tr α) (fun u => u) (fun v _ _ il ir u => match u with
    | .nil => .node v (il .nil) (ir .nil)
    | .node v' l' r' => .node (orV v v') (il l') (ir r')) t
noncomputable def delT {α β : Type} (t : Tr α) : Tr β → Tr β :=
  Tr.rec (motive := fun _ => Tr β → Tr β) (fun u => u) (fun v _ _ il ir u => match u with
    | .nil => .nil
    | .node v' l' r' => .node (lessV v v') (il l') (ir r')) t
theorem orV_none {α : Type} (x : Option α) : orV x none = x := by cases x <;> rfl
theorem ovl_get {α : Type} : ∀ (t u : Tr α) (b : Nat), (ovl t u).get b = orV (t.get b) (u.get b) := by
  intro t
  induction t with
  | nil => intro u b; have : ovl .nil u = u := rfl; rw [this]; simp [orV]
  | node v l r il ir =>
    intro u b
    cases u with
    | nil =>
      have : ovl (.node v l r) .nil = .node v (ovl l .nil) (ovl r .nil) := rfl
      rw [this, Tr.get_node, Tr.get_node, il, ir]
      simp only [Tr.get_nil, orV_none]
    | node v' l' r' =>
      have : ovl (.node v l r) (.node v' l' r') = .node (orV v v') (ovl l l') (ovl r r') := rfl
      rw [this, Tr.get_node, Tr.get_node, Tr.get_node, il, ir]
      by_cases h0 : b = 0
      · simp only [h0, if_true]
      · simp only [h0, if_false]
        by_cases h1 : (b - 1) % 2 = 0
        · simp only [h1, if_true]
        · simp only [h1, if_false]
theorem delT_get {α β : Type} : ∀ (t : Tr α) (u : Tr β) (b : Nat), (delT t u).get b = lessV (t.get b) (u.get b) := by
  intro t
  induction t with
  | nil => intro u b; have : delT (α := α) .nil u = u := rfl; rw [this]; simp [lessV]
  | node v l r il ir =>
    intro u b
    cases u with
    | nil =>
      have : delT (.node v l r) (.nil : Tr β) = .nil := rfl
      rw [this]
      simp only [Tr.get_nil]
      cases (Tr.node v l r).get b <;> rfl
    | node v' l' r' =>
      have : delT (.node v l r) (.node v' l' r') = .node (lessV v v') (delT l l') (delT r r') := rfl
      rw [this, Tr.get_node, Tr.get_node, Tr.get_node, il, ir]
      by_cases h0 : b = 0
      · simp only [h0, if_true]
      · simp only [h0, if_false]
        by_cases h1 : (b - 1) % 2 = 0
        · simp only [h1, if_true]
        · simp only [h1, if_false]

/-! ### lists, told shortly -/
noncomputable def rpL (v : AV) (n : Nat) (r : List AV) : List AV := Nat.rec (motive := fun _ => List AV) r (fun _ ih => v :: ih) n
noncomputable def byL8 (l : List Nat) (r : List AV) : List AV := List.rec (motive := fun _ => List AV) r (fun a _ ih => .int .u8 (.ofNat a) :: ih) l

/-! ### a known call -/
structure Sg where
  g : FuncId
  args : List AV
  H : Hp
  n : Nat
  v : AV
  H' : Hp
  n' : Nat
noncomputable def sgRes (s : Sg) (r : CRes) : Bool := match r with
  | .mk v H' n' => match eqV 12 s.v v with
    | true => match subT blkSub s.H' H' with
      | true => Nat.ble n' s.n'
      | false => false
    | false => false
  | _ => false
noncomputable def sgAns (s : Sg) (args : List AV) (H : Hp) : CRes := match eqVs (eqV 12) s.args args with
  | true => match subT blkSub s.H H with
    | true => .mk s.v (ovl s.H' (delT s.H H)) s.n'
    | false => .fail
  | false => .fail
noncomputable def ovB (ov : FuncId → List AV → Hp → Option AV) (g : FuncId) (args : List AV) (H : Hp) (n : Nat) : CRes := match ov g args H with
  | some v => .mk v H n
  | none => .fail
noncomputable def ovS (base : FuncId → List AV → Hp → Nat → CRes) : List Sg → FuncId → List AV → Hp → Nat → CRes
  | [], g, args, H, n => base g args H n
  | s :: r, g, args, H, n => match Nat.beq n s.n with
    | true => match Nat.beq g s.g with
      | true => sgAns s args H
      | false => ovS base r g args H n
    | false => ovS base r g args H n
noncomputable def runS (P : Program) (ov : FuncId → List AV → Hp → Nat → CRes) : Nat → Ce
  | 0 => { call := fun _ _ _ _ => .fail, code := fun _ _ _ _ _ => .fail, dcall := fun _ _ _ _ _ => .fail }
  | f + 1 => {
      call := fun g args H n => match ov g args H n with
        | .mk v H' n' => .mk v H' n'
        | _ => fnCall P (runS P ov f) g args H n
      code := fun nt c F H n => (comp P nt true c).f (runS P ov f) F H n []
      dcall := fun g args u H n => fnDef P (runS P ov f) g args u H n }

section
variable {P : Program}
def OvOk (P : Program) (ov : FuncId → List AV → Hp → Nat → CRes) : Prop := ∀ g args H n v H' n', ov g args H n = .mk v H' n' → CallOk P g args H n v H' n'
def Sg.Ok (P : Program) (s : Sg) : Prop := CallOk P s.g s.args s.H s.n s.v s.H' s.n'

theorem runS_ok {ov : FuncId → List AV → Hp → Nat → CRes} (hov : OvOk P ov) : ∀ k, CeOk P (runS P ov k)
  | 0 => ⟨fun _ _ _ _ _ _ _ h => by (simp only [runS] at h; cases h), fun _ _ _ _ _ _ _ h => by (simp only [runS] at h; cases h), fun _ _ _ _ _ _ _ _ _ _ h => by (simp only [runS] at h; cases h), fun _ _ _ _ _ _ _ _ h => by (simp only [runS] at h; cases h)⟩
  | k + 1 => by
    have ih := runS_ok hov k
    refine ⟨fun g args H n v H' n' h => ?_, fun g args H n v H' n' h => ?_, fun nt c F H n o F' H' n' m' h => ?_, fun g args u H n u' H' n' h => ?_⟩
    · simp only [runS] at h
      split at h
      · rename_i u H1 n1 hu
        injection h with e1 e2 e3
        subst e1 e2 e3
        exact hov g args H n u _ _ hu
      · exact fnCall_ok ih h
    · simp only [runS] at h
      split at h
      · cases h
      · exact fnCall_end ih h (.pan ..)
    · simp only [runS] at h
      obtain ⟨hn, _⟩ := comp_sound (P := P) (nt := nt) (r := some 0) ih c _ _ _ _ _ _ _ _ _ h
      refine ⟨hn, fun l => ?_⟩
      exact (comp_sound (P := P) (nt := nt) (r := some l) ih c _ _ _ _ _ _ _ _ _ h).2
    · exact fnDef_ok ih h

theorem Rel.part {φ : Ph} {D : Da} {w : World} {S H : Hp} (h : subT blkSub S H = true) (r : Rel φ D H.get w) : Rel φ D S.get w := by
  have hne : ∀ b, S.get b ≠ none → H.get b ≠ none := by
    intro b hb
    cases hx : S.get b with
    | none => exact absurd hx hb
    | some k => obtain ⟨k', hk, _⟩ := subT_ok _ _ h b k hx; rw [hk]; simp
  refine ⟨fun b k hb => ?_, fun b c p q hb hc => r.inj b c p q (hne b hb) (hne c hc), fun b p hb => r.sep b p (hne b hb), r.dat⟩
  obtain ⟨k', hk, ho⟩ := subT_ok _ _ h b k hb
  obtain ⟨p, hp, hlt, hr⟩ := r.blk b k' hk
  exact ⟨p, hp, hlt, blkSub_ok ho hr⟩
theorem subT_ne {S H : Hp} (h : subT blkSub S H = true) (b : Nat) (hb : S.get b ≠ none) : H.get b ≠ none := by
  cases hx : S.get b with
  | none => exact absurd hx hb
  | some k => obtain ⟨k', hk, _⟩ := subT_ok _ _ h b k hx; rw [hk]; simp

/-- what a run shows -/
theorem Sg.ofRun {ce : Ce} (hce : CeOk P ce) (s : Sg) (h : sgRes s (fnCall P ce s.g s.args s.H s.n) = true) : s.Ok P := by
  cases hr : fnCall P ce s.g s.args s.H s.n with
  | fail => rw [hr] at h; cases h
  | pan => rw [hr] at h; cases h
  | mk v H' n' =>
    rw [hr] at h
    unfold sgRes at h
    dsimp only at h
    split at h
    · rename_i hv
      have hv := eqV_ok 12 _ _ hv
      split at h
      · rename_i hH
        have hn := Nat.le_of_ble_eq_true h
        obtain ⟨hb, hn1, hs⟩ := fnCall_ok hce hr
        refine ⟨hb, by omega, fun φ D w xs hrel hvs hf R hR => ?_⟩
        refine hs φ D w xs hrel hvs (fun b h1 h2 => hf b h1 (by omega)) R fun φ' D' w' x e r hx => ?_
        exact hR φ' D' w' x (e.less (subT_ne hH) hn) (r.part hH) (hv ▸ hx)
      · cases h
    · cases h

/-- with more beside it -/
theorem Sg.frame {s : Sg} (h : s.Ok P) {H : Hp} (hs : subT blkSub s.H H = true) : CallOk P s.g s.args H s.n s.v (ovl s.H' (delT s.H H)) s.n' := by
  obtain ⟨hb, hn, h⟩ := h
  refine ⟨hb, hn, fun φ D w xs hrel hvs hf R hR => ?_⟩
  have hne := subT_ne hs
  refine h φ D w xs (hrel.part hs) hvs hf R fun φ' D' w' x e r hx => ?_
  -- what is there behind it
  have hget : ∀ b, (ovl s.H' (delT s.H H)).get b = orV (s.H'.get b) (lessV (s.H.get b) (H.get b)) := fun b => by rw [ovl_get, delT_get]
  have hcase : ∀ b k, (ovl s.H' (delT s.H H)).get b = some k → s.H'.get b = some k ∨ (s.H'.get b = none ∧ s.H.get b = none ∧ H.get b = some k) := by
    intro b k hk
    rw [hget] at hk
    cases h1 : s.H'.get b with
    | some k' => rw [h1] at hk; exact .inl hk
    | none =>
      rw [h1] at hk
      cases h2 : s.H.get b with
      | some k' => rw [h2] at hk; cases hk
      | none => rw [h2] at hk; exact .inr ⟨rfl, rfl, hk⟩
  have hold : ∀ b k, s.H.get b = none → H.get b = some k → ∃ p, φ b = some p ∧ p.1 < w.heap.size ∧ BlkR φ D w p k ∧ (∀ b0 p0, s.H.get b0 ≠ none → φ b0 = some p0 → p0.1 ≠ p.1) := by
    intro b k h1 h2
    obtain ⟨p, hp, hlt, hk⟩ := hrel.blk b k h2
    refine ⟨p, hp, hlt, hk, fun b0 p0 hb0 hp0 heq => ?_⟩
    have := hrel.inj b0 b p0 p (hne b0 hb0) (by rw [h2]; simp) hp0 hp heq
    subst this
    exact hb0 h1
  have hnb : ∀ b, (ovl s.H' (delT s.H H)).get b ≠ none → s.H'.get b ≠ none ∨ (s.H'.get b = none ∧ s.H.get b = none ∧ ∃ k, H.get b = some k) := by
    intro b hb
    cases hx : (ovl s.H' (delT s.H H)).get b with
    | none => exact absurd hx hb
    | some k =>
      rcases hcase b k hx with h1 | ⟨h1, h2, h3⟩
      · exact .inl (by rw [h1]; simp)
      · exact .inr ⟨h1, h2, k, h3⟩
  refine hR φ' D' w' x ⟨e.le, e.phi, e.new, e.dat, e.size, fun c hc hk => e.keep c hc fun b p hb => hk b p (hne b hb), fun b p hb hp => ?_, fun c hc => ?_, fun b hb => ?_, e.os, e.out⟩ ⟨fun b k hk => ?_, fun b c p q hb hc hp hq heq => ?_, fun b p hb hp => ?_, r.dat⟩ hx
  · rcases hnb b hb with h1 | ⟨_, h2, k, h3⟩
    · rcases e.live b p h1 hp with h4 | ⟨b0, p0, h5, h6, h7⟩
      · exact .inl h4
      · exact .inr ⟨b0, p0, hne b0 h5, h6, h7⟩
    · obtain ⟨p1, hp1, hlt, _⟩ := hold b k h2 h3
      have := e.phi b p1 hp1
      rw [hp] at this
      injection this with this
      subst this
      exact .inr ⟨b, p, by rw [h3]; simp, hp1, rfl⟩
  · rcases e.dnew c hc with h4 | h4 | ⟨b0, p0, h5, h6, h7⟩
    · exact .inl h4
    · exact .inr (.inl h4)
    · exact .inr (.inr ⟨b0, p0, hne b0 h5, h6, h7⟩)
  · rcases hnb b hb with h1 | ⟨_, _, k, h3⟩
    · rcases e.hid b h1 with h4 | h4
      · exact .inl (hne b h4)
      · exact .inr h4
    · exact .inl (by rw [h3]; simp)
  · rcases hcase b k hk with h1 | ⟨_, h2, h3⟩
    · exact r.blk b k h1
    · obtain ⟨p, hp, hlt, hB, hx⟩ := hold b k h2 h3
      exact ⟨p, e.phi b p hp, Nat.lt_of_lt_of_le hlt e.size, hB.mono e.phi e.dat (e.keep p.1 hlt hx)⟩
  · have mixed : ∀ b c p q, s.H'.get b ≠ none → s.H.get c = none → ∀ k, H.get c = some k → φ' b = some p → φ' c = some q → p.1 = q.1 → b = c := by
      intro b c p q h1 h2 k h3 hp hq heq
      obtain ⟨q1, hq1, hlt, _, hx⟩ := hold c k h2 h3
      have := e.phi c q1 hq1
      rw [hq] at this
      injection this with this
      subst this
      rcases e.live b p h1 hp with h4 | ⟨b0, p0, h5, h6, h7⟩
      · omega
      · exact absurd (h7.trans heq) (hx b0 p0 h5 h6)
    rcases hnb b hb with h1 | ⟨_, h2, k, h3⟩
    · rcases hnb c hc with h4 | ⟨_, h5, k', h6⟩
      · exact r.inj b c p q h1 h4 hp hq heq
      · exact mixed b c p q h1 h5 k' h6 hp hq heq
    · rcases hnb c hc with h4 | ⟨_, h5, k', h6⟩
      · exact (mixed c b q p h4 h2 k h3 hq hp heq.symm).symm
      · obtain ⟨p1, hp1, _⟩ := hold b k h2 h3
        obtain ⟨q1, hq1, _⟩ := hold c k' h5 h6
        have e1 := e.phi b p1 hp1
        have e2 := e.phi c q1 hq1
        rw [hp] at e1
        rw [hq] at e2
        injection e1 with e1
        injection e2 with e2
        subst e1 e2
        exact hrel.inj b c p q (by rw [h3]; simp) (by rw [h6]; simp) hp1 hq1 heq
  · rcases hnb b hb with h1 | ⟨_, h2, k, h3⟩
    · exact r.sep b p h1 hp
    · obtain ⟨p1, hp1, hlt, _, hx⟩ := hold b k h2 h3
      have e1 := e.phi b p1 hp1
      rw [hp] at e1
      injection e1 with e1
      subst e1
      have hD := hrel.sep b p (by rw [h3]; simp) hp1
      cases hd : D' p.1 with
      | none => rfl
      | some y =>
        rcases e.dnew p.1 (by rw [hd]; simp) with h4 | h4 | ⟨b0, p0, h5, h6, h7⟩
        · exact absurd hD h4
        · omega
        · exact absurd h7 (hx b0 p0 h5 h6)

theorem ovB_ok {ov : FuncId → List AV → Hp → Option AV} (h : ∀ g args H n v, ov g args H = some v → CallOk P g args H n v H n) : OvOk P (ovB ov) := by
  intro g args H n v H' n' e
  unfold ovB at e
  split at e
  · rename_i hv
    injection e with e1 e2 e3
    subst e1 e2 e3
    exact h _ _ _ _ _ hv
  · cases e
theorem ovN_ok : OvOk P (fun _ _ _ _ => .fail) := by
  intro g args H n v H' n' e
  cases e
theorem ovS_ok {base : FuncId → List AV → Hp → Nat → CRes} (hb : OvOk P base) : ∀ {l : List Sg}, (∀ s ∈ l, s.Ok P) → OvOk P (ovS base l)
  | [], _ => hb
  | s :: r, hl => by
    have ih := ovS_ok hb (l := r) fun x hx => hl x (List.mem_cons_of_mem _ hx)
    intro g args H n v H' n' e
    simp only [ovS] at e
    split at e
    · rename_i h1
      have h1 := Nat.eq_of_beq_eq_true h1
      split at e
      · rename_i h2
        have h2 := Nat.eq_of_beq_eq_true h2
        subst h1 h2
        unfold sgAns at e
        split at e
        · rename_i ha
          have ha := eqVs_ok (eqV_ok 12) ha
          split at e
          · rename_i hH
            injection e with e1 e2 e3
            subst e1 e2 e3 ha
            exact Sg.frame (hl s (List.mem_cons_self ..)) hH
          · cases e
        · cases e
      · exact ih g args H n v H' n' e
    · exact ih g args H n v H' n' e
theorem sgs_nil : ∀ s ∈ ([] : List Sg), s.Ok P := fun _ h => by cases h
theorem sgs_cons {s : Sg} {l : List Sg} (h : s.Ok P) (k : ∀ s ∈ l, s.Ok P) : ∀ x ∈ s :: l, x.Ok P := fun x hx => by
  rcases List.mem_cons.1 hx with rfl | hx
  · exact h
  · exact k x hx
theorem FnPure.byRunS {ov : FuncId → List AV → Hp → Nat → CRes} (hov : OvOk P ov) {g : FuncId} {args : List AV} {v : AV} (k : Nat) (hp : PureL args) (hv : Pure v) (h : getV (fnCall P (runS P ov k) g args .nil 0) = some v) : FnPure P g args v := by
  refine FnPure.of (runS_ok hov k) hp ?_
  cases hr : fnCall P (runS P ov k) g args .nil 0 with
  | fail => rw [hr] at h; cases h
  | pan v1 H' n' => rw [hr] at h; cases h
  | mk v1 H' n' => rw [hr] at h; injection h with h; subst h; exact ⟨_, _, _, rfl, .pure _ hv⟩
end
end Go.Abs

/- A contract as a relation, and what a call comes to: where all that it names is told. -/
namespace Go.Abs
section
mutual
/-- what it names in memory stands below n -/
def RLt (n : Nat) : AV → Prop
  | .ptr b _ => b < n
  | .sl b _ _ _ => b < n
  | .map b => b < n
  | .yld b => b < n
  | .agg cs _ => RLtL n cs
  | .tup cs => RLtL n cs
  | .ifc _ v => RLt n v
  | .fn _ a b => RLtL n a ∧ RLtL n b
  | .ds cs _ _ => RLtL n cs
  | .dp cs => RLtL n cs
  | _ => True
def RLtL (n : Nat) : List AV → Prop
  | [] => True
  | v :: r => RLt n v ∧ RLtL n r
end
variable {n : Nat}
@[simp] theorem rLt_int (k : IntKind) (i : Int) : RLt n (.int k i) := by simp only [RLt]
@[simp] theorem rLt_bool (b : Bool) : RLt n (.bool b) := by simp only [RLt]
@[simp] theorem rLt_str (l : List Nat) : RLt n (.str l) := by simp only [RLt]
@[simp] theorem rLt_cst (v : Value) : RLt n (.cst v) := by simp only [RLt]
@[simp] theorem rLt_ptr (b o : Nat) : RLt n (.ptr b o) = (b < n) := by simp only [RLt]
@[simp] theorem rLt_sl (b o l s : Nat) : RLt n (.sl b o l s) = (b < n) := by simp only [RLt]
@[simp] theorem rLt_map (b : Nat) : RLt n (.map b) = (b < n) := by simp only [RLt]
@[simp] theorem rLt_agg (cs : List AV) (k : Nat) : RLt n (.agg cs k) = RLtL n cs := by simp only [RLt]
@[simp] theorem rLt_tup (cs : List AV) : RLt n (.tup cs) = RLtL n cs := by simp only [RLt]
@[simp] theorem rLt_ifc (t : TypeId) (v : AV) : RLt n (.ifc t v) = RLt n v := by simp only [RLt]
@[simp] theorem rLt_ds (cs : List AV) (k s : Nat) : RLt n (.ds cs k s) = RLtL n cs := by simp only [RLt]
@[simp] theorem rLt_dp (cs : List AV) : RLt n (.dp cs) = RLtL n cs := by simp only [RLt]
@[simp] theorem rLtL_nil : RLtL n [] := by simp only [RLtL]
@[simp] theorem rLtL_cons (v : AV) (r : List AV) : RLtL n (v :: r) = (RLt n v ∧ RLtL n r) := by simp only [RLtL]
theorem RLtL.mem : ∀ {l : List AV}, RLtL n l → ∀ v ∈ l, RLt n v
  | [], _, v, hv => by simp at hv
  | a :: r, h, v, hv => by
    simp only [rLtL_cons] at h
    rcases List.mem_cons.1 hv with rfl | hv
    · exact h.1
    · exact RLtL.mem h.2 v hv
theorem RLtL.of : ∀ {l : List AV}, (∀ v ∈ l, RLt n v) → RLtL n l
  | [], _ => by simp
  | a :: r, h => by simp only [rLtL_cons]; exact ⟨h a (by simp), RLtL.of fun v hv => h v (by simp [hv])⟩
mutual
theorem Flat.rlt : ∀ {v : AV}, Flat v → RLt n v
  | .int _ _, _ => by simp
  | .bool _, _ => by simp
  | .str _, _ => by simp
  | .cst _, _ => by simp
  | .agg _ _, h => by simp only [rLt_agg]; exact FlatL.rlt (by simpa only [Flat] using h)
  | .tup _, h => by simp only [rLt_tup]; exact FlatL.rlt (by simpa only [Flat] using h)
  | .ifc _ _, h => by simp only [rLt_ifc]; exact Flat.rlt (by simpa only [Flat] using h)
  | .ptr _ _, h => by simp only [Flat] at h
  | .sl _ _ _ _, h => by simp only [Flat] at h
  | .map _, h => by simp only [Flat] at h
  | .yld _, h => by simp only [Flat] at h
  | .fn _ _ _, h => by simp only [Flat] at h
  | .ds _ _ _, h => by simp only [Flat] at h
  | .dp _, h => by simp only [Flat] at h
theorem FlatL.rlt : ∀ {vs : List AV}, FlatL vs → RLtL n vs
  | [], _ => by simp
  | _ :: _, h => by simp only [FlatL] at h; simp only [rLtL_cons]; exact ⟨Flat.rlt h.1, FlatL.rlt h.2⟩
end
def cutP (φ : Ph) (n : Nat) : Ph := fun b => if b < n then φ b else none
theorem cutP_lt {φ : Ph} {b : Nat} (h : b < n) : cutP φ n b = φ b := by unfold cutP; rw [if_pos h]
theorem cutP_some {φ : Ph} {b : Nat} {p} (h : cutP φ n b = some p) : b < n ∧ φ b = some p := by
  unfold cutP at h
  split at h
  · rename_i hb; exact ⟨hb, h⟩
  · cases h
mutual
theorem VR.cut {φ : Ph} {D : Da} : ∀ {v : AV} {x : Value}, RLt n v → VR φ D v x → VR (cutP φ n) D v x
  | _, _, _, .int _ _ => .int _ _
  | _, _, _, .bool _ => .bool _
  | _, _, _, .str _ _ h => .str _ _ h
  | _, _, r, .ptr _ _ _ _ _ h => .ptr _ _ _ _ _ ((cutP_lt (by simpa using r)).trans h)
  | _, _, r, .sl _ _ _ _ _ _ _ _ _ h a b => .sl _ _ _ _ _ _ _ _ _ ((cutP_lt (by simpa using r)).trans h) a b
  | _, _, r, .agg _ _ _ h e => .agg _ _ _ (VRs.cut (by simpa using r) h) e
  | _, _, r, .tup _ _ h => .tup _ _ (VRs.cut (by simpa using r) h)
  | _, _, r, .ifc _ _ _ h => .ifc _ _ _ (VR.cut (by simpa using r) h)
  | _, _, r, .fn _ _ _ _ _ h k => .fn _ _ _ _ _ (VRs.cut (by simp only [RLt] at r; exact r.1) h) (VRs.cut (by simp only [RLt] at r; exact r.2) k)
  | _, _, r, .map _ _ _ _ h => .map _ _ _ _ ((cutP_lt (by simpa using r)).trans h)
  | _, _, r, .ds _ _ _ _ _ _ _ _ h a b c d => .ds _ _ _ _ _ _ _ _ h a b (VRs.cut (by simpa using r) c) d
  | _, _, _, .ds0 _ _ _ => .ds0 _ _ _
  | _, _, _, .dsn _ => .dsn _
  | _, _, r, .dp _ _ _ _ _ h a b => .dp _ _ _ _ _ h a (VRs.cut (by simpa using r) b)
  | _, _, r, .yld _ _ _ _ h => .yld _ _ _ _ ((cutP_lt (by simp only [RLt] at r; exact r)).trans h)
  | _, _, _, .cst _ h => .cst _ h
theorem VRs.cut {φ : Ph} {D : Da} : ∀ {v : List AV} {x : List Value}, RLtL n v → VRs φ D v x → VRs (cutP φ n) D v x
  | _, _, _, .nil => .nil
  | _, _, r, .cons _ _ _ _ h k => .cons _ _ _ _ (VR.cut (by simp only [rLtL_cons] at r; exact r.1) h) (VRs.cut (by simp only [rLtL_cons] at r; exact r.2) k)
end
/-- what a block names -/
def RLtB (n : Nat) : ABlk → Prop
  | .cells u z bs t => ∀ i v, getc u z bs t i = some v → RLt n v
  | .map es _ => ∀ e ∈ es, RLt n e.1 ∧ RLt n e.2.1
  | .defd => True
  | _ => False
theorem rLtB_list {u : Nat} {l : List AV} (h : RLtL n l) : RLtB n (.cells u [] l .nil) := by
  intro i v hv
  rw [getc_list'] at hv
  split at hv
  · exact h.mem v (List.mem_of_getElem? hv)
  · cases hv
theorem EsR.cut {φ : Ph} {D : Da} : ∀ {es l}, (∀ e ∈ es, RLt n e.1 ∧ RLt n e.2.1) → EsR φ D es l → EsR (cutP φ n) D es l
  | _, _, _, .nil => .nil
  | _, _, r, .cons _ _ _ _ _ _ _ h k t => .cons _ _ _ _ _ _ _ (h.cut (r _ (List.mem_cons_self ..)).1) (k.cut (r _ (List.mem_cons_self ..)).2) (EsR.cut (fun e he => r e (by simp [he])) t)
theorem BlkR.cut {φ : Ph} {D : Da} {w : World} {p} {k : ABlk} (r : RLtB n k) (h : BlkR φ D w p k) : BlkR (cutP φ n) D w p k := by
  cases k with
  | cells u z bs t =>
    obtain ⟨c, e, fr, h1, h2, h3, h4, h5⟩ := h
    exact ⟨c, e, fr, h1, h2, h3, fun i v hv => let ⟨x, a, b⟩ := h4 i v hv; ⟨x, a, b.cut (r i v hv)⟩, h5⟩
  | map es clk => obtain ⟨ces, h1, h2⟩ := h; exact ⟨ces, h1, h2.cut r⟩
  | defd => exact h
  | loop => exact absurd r id
  | iter => exact absurd r id
end
/-- a block that tells no more than another one -/
def BLe (y' y : ABlk) : Prop := ∀ (φ : Ph) (D : Da) (w : World) (p : Nat × Nat × Nat), BlkR φ D w p y' → BlkR φ D w p y
theorem BLe.refl (y : ABlk) : BLe y y := fun _ _ _ _ h => h
theorem OwnB.ble {y : ABlk} {l : List AV} {u : Nat} (h : OwnB y l) (hu : u = l.length) : BLe y (.cells u [] l .nil) := by
  subst hu
  obtain ⟨u, z, bs, t, rfl, rfl, hg, hl⟩ := h
  rintro φ D w p ⟨c, e, fr, h1, h2, h3, h4, h5, h6⟩
  refine ⟨c, e, fr, h1, h2, h3, fun i v hv => h4 i v ?_, fun _ _ => rfl, h6⟩
  rw [getc_list'] at hv
  rw [hg]
  split at hv
  · exact hv
  · cases hv
section
variable {P : Program}
/-- A CONTRACT, AND WHAT A CALL COMES TO: the blocks S and all that they name stand below n; H holds S, and whatever else. -/
theorem CallR.okS {g : FuncId} {args : List AV} {S S' H H' : Hp} {n n' : Nat} {v0 : AV} (h : CallR P g args S n (fun v K k => v = v0 ∧ (∀ b y, S'.get b = some y → ∃ y', K.get b = some y' ∧ BLe y' y) ∧ k ≤ n')) (hle : n ≤ n')
    (ha : RLtL n args) (hs : ∀ b k, S.get b = some k → b < n ∧ RLtB n k) (hsub : ∀ b k, S.get b = some k → H.get b = some k)
    (h1 : ∀ b, S.get b ≠ none ∨ (n ≤ b ∧ b < n') → H'.get b = S'.get b) (h2 : ∀ b, S.get b = none → ¬ (n ≤ b ∧ b < n') → H'.get b = H.get b) : CallOk P g args H n v0 H' n' := by
  refine ⟨h.1, hle, fun φ D w xs hrel hvs hf R hR => ?_⟩
  have hne : ∀ b, S.get b ≠ none → H.get b ≠ none := fun b hb => by
    cases hx : S.get b with
    | none => exact absurd hx hb
    | some k => rw [hsub b k hx]; simp
  have hr0 : Rel (cutP φ n) D S.get w := by
    refine ⟨fun b k hb => ?_, fun b c p q hb hc hp hq => ?_, fun b p hb hp => ?_, hrel.dat⟩
    · obtain ⟨p, hp, hl, hk⟩ := hrel.blk b k (hsub b k hb)
      exact ⟨p, (cutP_lt (hs b k hb).1).trans hp, hl, hk.cut (hs b k hb).2⟩
    · exact hrel.inj b c p q (hne b hb) (hne c hc) (cutP_some hp).2 (cutP_some hq).2
    · exact hrel.sep b p (hne b hb) (cutP_some hp).2
  refine h.2 (cutP φ n) D w xs hr0 (hvs.cut ha) (fun b hb => ?_) R fun v K k φ' D' w' x ⟨hv, hK, hk⟩ e r hx => ?_
  · unfold cutP; rw [if_neg (by omega)]
  subst hv
  have hphi : ∀ b p, φ' b = some p → (match φ b with | some p => some p | none => φ' b) = some p := by
    intro b p hp
    cases hb : φ b with
    | none => exact hp
    | some q =>
      dsimp only
      by_cases hlt : b < n
      · have := e.phi b q ((cutP_lt hlt).trans hb)
        rw [hp] at this; exact this.symm
      · have h3 := e.new b (by unfold cutP; rw [if_neg hlt]) (by rw [hp]; simp)
        rw [hf b h3.1 (by omega)] at hb; cases hb
  generalize hφ2 : (fun b => match φ b with | some p => some p | none => φ' b : Ph) = φ2
  have hφ2' : ∀ b, φ2 b = match φ b with | some p => some p | none => φ' b := fun b => by rw [← hφ2]
  have hup : ∀ b p, φ' b = some p → φ2 b = some p := fun b p hp => by rw [hφ2']; exact hphi b p hp
  have hold2 : ∀ b p, φ b = some p → φ2 b = some p := fun b p hp => by rw [hφ2', hp]
  have hcase : ∀ b, H'.get b ≠ none → (∃ y y', H'.get b = some y ∧ K.get b = some y' ∧ BLe y' y) ∨ (S.get b = none ∧ ¬ (n ≤ b ∧ b < n') ∧ H'.get b = H.get b) := by
    intro b hb
    by_cases hc : S.get b ≠ none ∨ (n ≤ b ∧ b < n')
    · cases hy : H'.get b with
      | none => exact absurd hy hb
      | some y =>
        obtain ⟨y', h3, h4⟩ := hK b y (by rw [← h1 b hc, hy])
        exact .inl ⟨y, y', rfl, h3, h4⟩
    · have hc1 : S.get b = none := Decidable.byContradiction fun h => hc (.inl h)
      have hc2 : ¬ (n ≤ b ∧ b < n') := fun h => hc (.inr h)
      exact .inr ⟨hc1, hc2, h2 b hc1 hc2⟩
  have hold : ∀ b, S.get b = none → H'.get b = H.get b → H'.get b ≠ none → ∃ p, φ b = some p ∧ p.1 < w.heap.size ∧ (∀ y, H'.get b = some y → BlkR φ D w p y) ∧ (∀ b0 p0, S.get b0 ≠ none → φ b0 = some p0 → p0.1 ≠ p.1) := by
    intro b hb1 hb2 hb3
    cases hy : H.get b with
    | none => rw [hb2, hy] at hb3; exact absurd rfl hb3
    | some y =>
      obtain ⟨p, hp, hlt, hk⟩ := hrel.blk b y hy
      refine ⟨p, hp, hlt, fun y' hy' => ?_, fun b0 p0 hb0 hp0 heq => ?_⟩
      · rw [hb2, hy] at hy'; injection hy' with hy'; subst hy'; exact hk
      · have := hrel.inj b0 b p0 p (hne b0 hb0) (by rw [hy]; simp) hp0 hp heq
        subst this
        exact hb0 hb1
  have hnew : ∀ b p, K.get b ≠ none → φ2 b = some p → φ' b = some p := by
    intro b p hb hp
    cases hy : K.get b with
    | none => exact absurd hy hb
    | some y =>
      obtain ⟨q, hq, _⟩ := r.blk b y hy
      have := hup b q hq
      rw [hp] at this
      rw [hq, this]
  have hs' : ∀ {b : Nat} {y : ABlk}, K.get b = some y → K.get b ≠ none := fun h => by rw [h]; simp
  refine hR φ2 D' w' x ⟨hle, hold2, fun b hb hb2 => ?_, e.dat, e.size, fun c hc hk => e.keep c hc fun b p hb hp => hk b p (hne b hb) (cutP_some hp).2, fun b p hb hp => ?_, fun c hc => ?_, fun b hb => ?_, e.os, e.out⟩
    ⟨fun b y hy => ?_, fun b c p q hb hc hp hq heq => ?_, fun b p hb hp => ?_, r.dat⟩ (hx.mono hup fun _ _ h => h)
  · have h3 := e.new b (by
      cases hc : cutP φ n b with
      | none => rfl
      | some p => rw [(cutP_some hc).2] at hb; cases hb) (by rw [hφ2', hb] at hb2; exact hb2)
    omega
  · rcases hcase b hb with ⟨_, _, _, h3, _⟩ | ⟨h3, _, h5⟩
    · rcases e.live b p (hs' h3) (hnew b p (hs' h3) hp) with h4 | ⟨b0, p0, h5, h6, h7⟩
      · exact .inl h4
      · exact .inr ⟨b0, p0, hne b0 h5, (cutP_some h6).2, h7⟩
    · obtain ⟨p1, hp1, hlt, _⟩ := hold b h3 h5 hb
      have := hold2 b p1 hp1
      rw [hp] at this
      injection this with this
      subst this
      exact .inr ⟨b, p, by rw [← h5]; exact hb, hp1, rfl⟩
  · rcases e.dnew c hc with h4 | h4 | ⟨b0, p0, h5, h6, h7⟩
    · exact .inl h4
    · exact .inr (.inl h4)
    · exact .inr (.inr ⟨b0, p0, hne b0 h5, (cutP_some h6).2, h7⟩)
  · rcases hcase b hb with ⟨_, _, _, h3, _⟩ | ⟨_, _, h5⟩
    · rcases e.hid b (hs' h3) with h4 | h4
      · exact .inl (hne b h4)
      · exact .inr (by omega)
    · exact .inl (by rw [← h5]; exact hb)
  · have hb : H'.get b ≠ none := by rw [hy]; simp
    rcases hcase b hb with ⟨y1, y', h2, h3, h4⟩ | ⟨h3, _, h5⟩
    · rw [hy] at h2
      injection h2 with h2
      subst h2
      obtain ⟨p, hp, hl, hk⟩ := r.blk b y' h3
      exact ⟨p, hup b p hp, hl, (h4 _ _ _ _ hk).mono hup (fun _ _ h => h) rfl⟩
    · obtain ⟨p, hp, hlt, hB, hx⟩ := hold b h3 h5 hb
      exact ⟨p, hold2 b p hp, Nat.lt_of_lt_of_le hlt e.size, (hB y hy).mono hold2 e.dat (e.keep p.1 hlt fun b0 p0 hb0 hp0 => hx b0 p0 hb0 (cutP_some hp0).2)⟩
  · have mixed : ∀ b c p q, K.get b ≠ none → S.get c = none → H'.get c = H.get c → H'.get c ≠ none → φ2 b = some p → φ2 c = some q → p.1 = q.1 → b = c := by
      intro b c p q hb h4 h5 hc hp hq heq
      obtain ⟨q1, hq1, hlt, _, hx⟩ := hold c h4 h5 hc
      have := hold2 c q1 hq1
      rw [hq] at this
      injection this with this
      subst this
      rcases e.live b p hb (hnew b p hb hp) with h6 | ⟨b0, p0, h5, h6, h7⟩
      · omega
      · exact absurd (h7.trans heq) (hx b0 p0 h5 (cutP_some h6).2)
    rcases hcase b hb with ⟨_, _, _, h3, _⟩ | ⟨h3, _, h5⟩
    · rcases hcase c hc with ⟨_, _, _, h4, _⟩ | ⟨h4, _, h6⟩
      · exact r.inj b c p q (hs' h3) (hs' h4) (hnew b p (hs' h3) hp) (hnew c q (hs' h4) hq) heq
      · exact mixed b c p q (hs' h3) h4 h6 hc hp hq heq
    · rcases hcase c hc with ⟨_, _, _, h4, _⟩ | ⟨h4, _, h6⟩
      · exact (mixed c b q p (hs' h4) h3 h5 hb hq hp heq.symm).symm
      · obtain ⟨p1, hp1, _⟩ := hold b h3 h5 hb
        obtain ⟨q1, hq1, _⟩ := hold c h4 h6 hc
        have e1 := hold2 b p1 hp1
        have e2 := hold2 c q1 hq1
        rw [hp] at e1
        rw [hq] at e2
        injection e1 with e1
        injection e2 with e2
        subst e1 e2
        exact hrel.inj b c p q (by rw [← h5]; exact hb) (by rw [← h6]; exact hc) hp1 hq1 heq
  · rcases hcase b hb with ⟨_, _, _, h3, _⟩ | ⟨h3, _, h5⟩
    · exact r.sep b p (hs' h3) (hnew b p (hs' h3) hp)
    · obtain ⟨p1, hp1, hlt, _, hx⟩ := hold b h3 h5 hb
      have e1 := hold2 b p1 hp1
      rw [hp] at e1
      injection e1 with e1
      subst e1
      have hD := hrel.sep b p (by rw [← h5]; exact hb) hp1
      cases hd : D' p.1 with
      | none => rfl
      | some y =>
        rcases e.dnew p.1 (by rw [hd]; simp) with h4 | h4 | ⟨b0, p0, h6, h7, h8⟩
        · exact absurd hD h4
        · omega
        · exact absurd h8 (hx b0 p0 h6 (cutP_some h7).2)
end
end Go.Abs

/- Calls of function values within regions that draw. -/
namespace Go.Abs
section
variable {F : Fr} {H : Hp} {Hs : List Hp} {n : Nat} {m : List Dm} {Q : QA} {ce : Ce}
/-- a call of a function value -/
def FnI (v : Option AV) (vs : Option (List AV)) (pd : Pd) (r : List (Option RO)) (ce : Ce) (F : Fr) (H : Hp) (Hs : List Hp) (n : Nat) (m : List Dm) (Q : QA) : Prop := match v, vs with
  | some (.fn (.func f) first cap), some vs => CalI (ce.call f (first ++ (vs ++ cap)) H n) pd r ce F Hs m Q
  | some (.yld q), some vs => CalI (yldC ce q vs H n) pd r ce F Hs m Q
  | _, _ => False
@[simp] theorem fnI_some (f : FuncId) (first cap vs : List AV) (pd : Pd) (r : List (Option RO)) : FnI (some (.fn (.func f) first cap)) (some vs) pd r ce F H Hs n m Q = CalI (ce.call f (first ++ (vs ++ cap)) H n) pd r ce F Hs m Q := propext Iff.rfl
theorem ev_callR (rs : RS) (pd : Pd) (g : G) (as : List G) (next : List (Option RO)) : Ev ((callR rs pd g as (mkR next)).f ce F H Hs n m) Q = FnI (g.f (rs.f F)) (evs (rs.f F) as) pd next ce F H Hs n m Q := by
  simp only [callR]
  unfold FnI
  cases g.f (rs.f F) with
  | none => rfl
  | some v =>
    cases v with
    | fn x first cap =>
      cases x with
      | func f =>
        dsimp only
        cases evs (rs.f F) as with
        | none => rfl
        | some vs =>
          dsimp only
          unfold CalI EvC
          cases ce.call f (first ++ (vs ++ cap)) H n <;> rfl
      | _ => rfl
    | yld q =>
      dsimp only
      cases evs (rs.f F) as with
      | none => rfl
      | some vs =>
        dsimp only
        unfold CalI EvC
        cases yldC ce q vs H n <;> rfl
    | _ => rfl
@[simp] theorem ev_vI (rs : List Nat) (pd : Pd) (g : G) (as : List G) (r : List (Option RO)) : Ev ((mkR (vI rs pd g as :: r)).f ce F H Hs n m) Q = FnI (g.f ((rsOf rs).f F)) (evs ((rsOf rs).f F) as) pd r ce F H Hs n m Q := ev_callR (rsOf rs) pd g as r
noncomputable def gvI (rs : List Nat) (g : G) (b : Bool) (pd : Pd) (h : G) (as : List G) : Option RO := some ⟨rsOf rs, some (g, b), pd, .call h as, none⟩
def GvI (v : Option AV) (b : Bool) (F0 : Fr) (pd : Pd) (h : G) (as : List G) (r : List (Option RO)) (ce : Ce) (F : Fr) (H : Hp) (Hs : List Hp) (n : Nat) (m : List Dm) (Q : QA) : Prop := GrdE v b (FnI (h.f F0) (evs F0 as) pd r ce F H Hs n m Q) (Ev ((mkR r).f ce (pd.f (.tup []) F) H (H :: Hs) n m) Q)
@[simp] theorem ev_gvI (rs : List Nat) (g : G) (b : Bool) (pd : Pd) (h : G) (as : List G) (r : List (Option RO)) : Ev ((mkR (gvI rs g b pd h as :: r)).f ce F H Hs n m) Q = GvI (g.f ((rsOf rs).f F)) b ((rsOf rs).f F) pd h as r ce F H Hs n m Q := by
  have h1 := ev_guardR (ce := ce) (F := F) (H := H) (Hs := Hs) (n := n) (m := m) (Q := Q) (rs := rsOf rs) (g := g) (b := b) (yes := callR (rsOf rs) pd h as (mkR r)) (no := nopM pd (mkR r))
  rw [ev_callR] at h1
  exact h1
@[simp] theorem gvI_t (F0 : Fr) (pd : Pd) (h : G) (as : List G) (r : List (Option RO)) : GvI (some (.bool true)) true F0 pd h as r ce F H Hs n m Q = FnI (h.f F0) (evs F0 as) pd r ce F H Hs n m Q := propext Iff.rfl
@[simp] theorem gvI_f (F0 : Fr) (pd : Pd) (h : G) (as : List G) (r : List (Option RO)) : GvI (some (.bool false)) true F0 pd h as r ce F H Hs n m Q = Ev ((mkR r).f ce (pd.f (.tup []) F) H (H :: Hs) n m) Q := propext Iff.rfl
@[simp] theorem gvI_t' (F0 : Fr) (pd : Pd) (h : G) (as : List G) (r : List (Option RO)) : GvI (some (.bool true)) false F0 pd h as r ce F H Hs n m Q = Ev ((mkR r).f ce (pd.f (.tup []) F) H (H :: Hs) n m) Q := propext Iff.rfl
@[simp] theorem gvI_f' (F0 : Fr) (pd : Pd) (h : G) (as : List G) (r : List (Option RO)) : GvI (some (.bool false)) false F0 pd h as r ce F H Hs n m Q = FnI (h.f F0) (evs F0 as) pd r ce F H Hs n m Q := propext Iff.rfl
end
end Go.Abs
