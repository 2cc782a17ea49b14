/- The abstract machine: sums over bytes, reckoned at once. -/
import Derived.Test.YtfjkegbmlagleaaGreatAbsRd
namespace Go.Abs

set_option maxRecDepth 100000

def crcS (s : Nat) : Nat := Nat.xor (Nat.div s 2) (match Nat.mod s 2 with
  | 0 => 0
  | _ + 1 => 2197175160)
noncomputable def crc8 (s : Nat) : Nat := forceN (crcS s) fun s => forceN (crcS s) fun s => forceN (crcS s) fun s => forceN (crcS s) fun s => forceN (crcS s) fun s => forceN (crcS s) fun s => forceN (crcS s) fun s => crcS s
noncomputable def crcL (l : List Nat) : Nat → Nat := List.rec (motive := fun _ => Nat → Nat) (fun s => s) (fun x _ ih s => forceN (crc8 (Nat.xor s x)) ih) l
noncomputable def sumM (s : Nat) (l : List Nat) : Nat := Nat.sub 4294967295 (crcL l (Nat.sub 4294967295 s))
def crcN : Nat → Nat → Nat
  | 0, s => s
  | k + 1, s => crcS (crcN k s)
theorem crc8_eq (s : Nat) : crc8 s = crcN 8 s := by
  unfold crc8
  simp only [forceN_eq]
  rfl
theorem crcL_nil (s : Nat) : crcL [] s = s := rfl
theorem crcL_cons (x : Nat) (l : List Nat) (s : Nat) : crcL (x :: l) s = crcL l (crc8 (s ^^^ x)) := by
  show forceN (crc8 (Nat.xor s x)) (crcL l) = _
  rw [forceN_eq]; rfl
theorem wrapU (s : Nat) (h : s < 4294967296) : IntKind.u32.wrap (s : Int) = (s : Int) := by
  simp [IntKind.wrap, IntKind.signed, IntKind.bits]
  omega
theorem ofIntU (s : Nat) : BitVec.ofInt 32 (s : Int) = BitVec.ofNat 32 s := by simp
theorem xorU (s x : Nat) (hs : s < 4294967296) (hx : x < 4294967296) : IntKind.u32.wrap ((BitVec.ofInt 32 (s : Int) ^^^ BitVec.ofInt 32 (x : Int)).toNat : Int) = ((s ^^^ x : Nat) : Int) := by
  rw [ofIntU, ofIntU, BitVec.toNat_xor, BitVec.toNat_ofNat, BitVec.toNat_ofNat, Nat.mod_eq_of_lt hs, Nat.mod_eq_of_lt hx]
  exact wrapU _ (Nat.xor_lt_two_pow (n := 32) hs hx)
theorem andU (s x : Nat) (hs : s < 4294967296) (hx : x < 4294967296) : IntKind.u32.wrap ((BitVec.ofInt 32 (s : Int) &&& BitVec.ofInt 32 (x : Int)).toNat : Int) = ((s &&& x : Nat) : Int) := by
  rw [ofIntU, ofIntU, BitVec.toNat_and, BitVec.toNat_ofNat, BitVec.toNat_ofNat, Nat.mod_eq_of_lt hs, Nat.mod_eq_of_lt hx]
  exact wrapU _ (Nat.lt_of_le_of_lt Nat.and_le_left hs)
theorem notU (s : Nat) (hs : s < 4294967296) : IntKind.u32.wrap ((BitVec.ofInt 32 (4294967295 : Int) ^^^ BitVec.ofInt 32 (s : Int)).toNat : Int) = ((4294967295 - s : Nat) : Int) := by
  have e : (BitVec.ofInt 32 (4294967295 : Int) ^^^ BitVec.ofInt 32 (s : Int)) = ~~~ BitVec.ofNat 32 s := by
    rw [ofIntU]
    rw [show BitVec.ofInt 32 (4294967295 : Int) = BitVec.allOnes 32 by decide, BitVec.allOnes_xor]
  rw [e, BitVec.toNat_not, BitVec.toNat_ofNat, Nat.mod_eq_of_lt hs]
  rw [show 2 ^ 32 - 1 - s = 4294967295 - s by omega]
  exact wrapU _ (by omega)
theorem crcS_lt {s : Nat} (h : s < 4294967296) : crcS s < 4294967296 := by
  unfold crcS
  refine Nat.xor_lt_two_pow (n := 32) ?_ ?_
  · show s / 2 < 2 ^ 32; omega
  · split <;> decide
theorem crcN_lt {s : Nat} (h : s < 4294967296) : ∀ k, crcN k s < 4294967296
  | 0 => h
  | k + 1 => crcS_lt (crcN_lt h k)
theorem crcL_lt : ∀ (l : List Nat) (s : Nat), s < 4294967296 → (∀ x ∈ l, x < 256) → crcL l s < 4294967296
  | [], s, h, _ => h
  | x :: l, s, h, hl => by
    rw [crcL_cons]
    refine crcL_lt l _ ?_ fun y hy => hl y (List.mem_cons_of_mem _ hy)
    rw [crc8_eq]
    exact crcN_lt (Nat.xor_lt_two_pow (n := 32) h (by have := hl x (List.mem_cons_self ..); omega)) 8

/-! ### the program's code -/
noncomputable def RS_0 : CT :=
  .reg [
  oP (pdT 4) (eMov (constG (.int .u32 0)))]
noncomputable def RS_1 : CT :=
  .reg [
  oP (pdT 7) (eMov (slotG 0)),
  oP (pdT 8) (e1 (cUn .xor) (slotG 7)),
  oP (pdT 0) (eMov (slotG 8))]
noncomputable def RS_2 : CT :=
  .reg [
  oP (pdT 9) (eMov (slotG 1)),
  oP (pdT 10) (e1 cLenL (slotG 9)),
  oP (pdT 11) (eMov (constG (.int .i64 0)))]
noncomputable def RS_3 : CT :=
  .reg [
  oP (pdT 12) (e2 (cBin .lss) (slotG 11) (slotG 10))]
noncomputable def RS_4 : CT :=
  .reg [
  oP (pdT 13) (e2 (cIxa 1) (slotG 9) (slotG 11)),
  oP (pdT 14) (eLoad1 (slotG 13)),
  oP (pdT 6) (eMov (slotG 14))]
noncomputable def RS_5 : CT :=
  .reg [
  oP (pdT 15) (eMov (slotG 0)),
  oP (pdT 16) (eMov (slotG 6)),
  oP (pdT 17) (e1 (cToInt .u32) (slotG 16)),
  oP (pdT 18) (e2 (cBin .xor) (slotG 15) (slotG 17)),
  oP (pdT 0) (eMov (slotG 18))]
noncomputable def RS_6 : CT :=
  .reg [
  oP (pdT 19) (eMov (constG (.int .i64 0)))]
noncomputable def RS_7 : CT :=
  .reg [
  oP (pdT 20) (e2 (cBin .lss) (slotG 19) (constG (.int .i64 8)))]
noncomputable def RS_8 : CT :=
  .reg [
  oP (pdT 21) (eMov (slotG 0)),
  oP (pdT 22) (e2 (cBin .shr) (slotG 21) (constG (.int .u64 1))),
  oP (pdT 23) (eMov (slotG 0)),
  oP (pdT 24) (e2 (cBin .and) (slotG 23) (constG (.int .u32 1))),
  oP (pdT 25) (e1 (cUn .neg) (slotG 24)),
  oP (pdT 26) (e2 (cBin .and) (constG (.int .u32 2197175160)) (slotG 25)),
  oP (pdT 27) (e2 (cBin .xor) (slotG 22) (slotG 26)),
  oP (pdT 0) (eMov (slotG 27))]
noncomputable def RS_9 : CT :=
  .reg [
  oP (pdT 28) (e2 (cBin .add) (slotG 19) (constG (.int .i64 1))),
  oP (pdT 19) (eMov (slotG 28))]
noncomputable def LS_0 : CT := (.seq RS_7 (.seq (.cond (slotG 20) .skip (.exit 2)) (.seq (.block 3 RS_8) RS_9)))
noncomputable def RS_10 : CT :=
  .reg [
  oP (pdT 29) (e2 (cBin .add) (slotG 11) (constG (.int .i64 1))),
  oP (pdT 11) (eMov (slotG 29))]
noncomputable def LS_1 : CT := (.seq RS_3 (.seq (.cond (slotG 12) .skip (.exit 0)) (.seq (.block 1 (.seq RS_4 (.seq RS_5 (.seq RS_6 (.block 2 (.loop LS_0)))))) RS_10)))
noncomputable def RS_11 : CT :=
  .reg [
  oP (pdT 30) (eMov (slotG 0)),
  oP (pdT 31) (e1 (cUn .xor) (slotG 30)),
  oP (pdT 4) (eMov (slotG 31))]
noncomputable def BS : CT := (.seq RS_0 (.seq RS_1 (.seq (.seq RS_2 (.block 0 (.loop LS_1))) (.seq RS_11 .ret))))
noncomputable def AS : CF := { res := [rTmp 4], code := BS, nt := 32 }

theorem cUn_xorU (s : Nat) (h : s < 4294967296) : cUn .xor (.int .u32 (s : Int)) = .val (.int .u32 ((4294967295 - s : Nat) : Int)) := by
  show vint .u32 (IntKind.u32.wrap ((BitVec.ofInt 32 (4294967295 : Int) ^^^ BitVec.ofInt 32 (s : Int)).toNat : Int)) = _
  rw [notU s h, vint_eq]
theorem cXorU (s x : Nat) (hs : s < 4294967296) (hx : x < 4294967296) : cBin .xor (.int .u32 (s : Int)) (.int .u32 (x : Int)) = .val (.int .u32 ((s ^^^ x : Nat) : Int)) := by
  show int2 (cArith .xor) (.int .u32 (s : Int)) (.int .u32 (x : Int)) = _
  rw [int2_int]
  show vint .u32 (IntKind.u32.wrap ((BitVec.ofInt 32 (s : Int) ^^^ BitVec.ofInt 32 (x : Int)).toNat : Int)) = _
  rw [xorU s x hs hx, vint_eq]
theorem cAndU (s x : Nat) (hs : s < 4294967296) (hx : x < 4294967296) : cBin .and (.int .u32 (s : Int)) (.int .u32 (x : Int)) = .val (.int .u32 ((s &&& x : Nat) : Int)) := by
  show int2 (cArith .and) (.int .u32 (s : Int)) (.int .u32 (x : Int)) = _
  rw [int2_int]
  show vint .u32 (IntKind.u32.wrap ((BitVec.ofInt 32 (s : Int) &&& BitVec.ofInt 32 (x : Int)).toNat : Int)) = _
  rw [andU s x hs hx, vint_eq]
theorem cShrU (s : Nat) : cBin .shr (.int .u32 (s : Int)) (.int .u64 1) = .val (.int .u32 ((s / 2 : Nat) : Int)) := by
  show vint .u32 (Int.fdiv (s : Int) (2 ^ (min 1 32))) = _
  rw [vint_eq]
  congr 2
  show Int.fdiv (s : Int) 2 = _
  rw [Int.fdiv_eq_ediv_of_nonneg _ (by omega)]; omega
theorem cNegU (b : Nat) (h : b = 0 ∨ b = 1) : cUn .neg (.int .u32 (b : Int)) = .val (.int .u32 ((if b = 0 then 0 else 4294967295 : Nat) : Int)) := by
  rcases h with rfl | rfl
  · show vint .u32 _ = _
    rw [vint_eq]; rfl
  · show vint .u32 _ = _
    rw [vint_eq]; rfl
theorem cToInt_int (k j : IntKind) (a : Int) : cToInt k (.int j a) = .val (.int k (k.wrap a)) := by
  show vint k (k.wrap a) = _
  rw [vint_eq]
theorem and_one (s : Nat) : s &&& 1 = s % 2 := Nat.and_one_is_mod s

@[simp] theorem u8s_len (l : List Nat) : (u8s l).length = l.length := by simp [u8s]
theorem u8s_pure (l : List Nat) : PureL (u8s l) := PureL.of_mem fun v hv => by
  simp only [u8s, List.mem_map] at hv
  obtain ⟨i, _, rfl⟩ := hv
  simp
theorem ixa_u8 {l : List Nat} {i : Nat} {k : IntKind} (h : i < l.length) : cIxa 1 (.ds (u8s l) l.length 1) (.int k (i : Int)) = .val (.dp (.int .u8 (l[i] : Int) :: u8s (l.drop (i + 1)))) := by
  rw [cIxa_ds h, Nat.mul_one]
  congr 2
  rw [u8s, ← List.map_drop, List.drop_eq_getElem_cons h]; rfl
theorem wrap_i (i : Nat) (h : i < 2147483648) : IntKind.i64.wrap ((i : Int) + 1) = ((i + 1 : Nat) : Int) := by
  simp [IntKind.wrap, IntKind.signed, IntKind.bits]
  omega
section
variable {P : Program}
theorem more_pure {g : FuncId} (hc : ctF P g = some AS) (s : Nat) (bs : List Nat) (hs : s < 4294967296) (hb : ∀ x ∈ bs, x < 256) (hl : bs.length < 2147483648) :
    FnPure P g [.int .u32 (s : Int), .ds (u8s bs) bs.length 1] (.int .u32 (sumM s bs : Int)) := by
  refine pureV hc (by simp [u8s_pure]) (by simp) (by simp [AS]) fun F hF => ?_
  simp [AS, BS, RS_0, RS_1, RS_2, hF, cUn_xorU s hs]
  refine LoopV.of (fun k F K m ms => ∃ (i t : Nat), k = bs.length - i ∧ i ≤ bs.length ∧ F.get 9 = some (.ds (u8s bs) bs.length 1) ∧ F.get 10 = some (.int .i64 (bs.length : Int)) ∧ F.get 11 = some (.int .i64 (i : Int)) ∧ F.get 0 = some (.int .u32 (t : Int)) ∧ K = .nil ∧ ms = [] ∧
    t < 4294967296 ∧ crcL bs (4294967295 - s) = crcL (bs.drop i) t) bs.length ⟨0, 4294967295 - s, by simp [hF]; omega⟩ ?_
  rintro k F K m ms ⟨i, t, rfl, hi, f9, f10, f11, f0, rfl, rfl, ht, he⟩
  by_cases hlt : i < bs.length
  · have hx := ixa_u8 (k := .i64) hlt
    have hxb : bs[i] < 256 := hb _ (List.getElem_mem hlt)
    have hwx : IntKind.u32.wrap (bs[i] : Int) = (bs[i] : Int) := wrapU _ (by omega)
    have hxo := cXorU t bs[i] ht (by omega)
    have ht2 : t ^^^ bs[i] < 4294967296 := Nat.xor_lt_two_pow (n := 32) ht (by omega)
    simp [LS_1, RS_3, RS_4, RS_5, RS_6, f9, f10, f11, f0, hlt, hx, hwx, cToInt_int, hxo]
    refine LoopV.of (fun k F K m ms => ∃ (j : Nat), k = 8 - j ∧ j ≤ 8 ∧ F.get 9 = some (.ds (u8s bs) bs.length 1) ∧ F.get 10 = some (.int .i64 (bs.length : Int)) ∧ F.get 11 = some (.int .i64 (i : Int)) ∧ F.get 19 = some (.int .i64 (j : Int)) ∧ F.get 0 = some (.int .u32 (crcN j (t ^^^ bs[i]) : Int)) ∧ K = .nil ∧ ms = []) 8 ⟨0, by simp [f9, f10, f11, crcN]⟩ ?_
    rintro k F K m ms ⟨j, rfl, hj, f9, f10, f11, f19, f0, rfl, rfl⟩
    have hcj := crcN_lt ht2 j
    by_cases hj8 : j < 8
    · generalize hu : crcN j (t ^^^ bs[i]) = u at f0 hcj
      have hand : u &&& 1 = 0 ∨ u &&& 1 = 1 := by rw [and_one]; omega
      have a1 := cAndU u 1 hcj (by omega)
      have a2 := cNegU (u &&& 1) hand
      have a3 := cAndU 2197175160 (if u &&& 1 = 0 then 0 else 4294967295) (by omega) (by split <;> omega)
      have a4 := cXorU (u / 2) (2197175160 &&& (if u &&& 1 = 0 then 0 else 4294967295)) (by omega) (Nat.lt_of_le_of_lt Nat.and_le_left (by omega))
      have hstep : (u / 2) ^^^ (2197175160 &&& (if u &&& 1 = 0 then 0 else 4294967295)) = crcN (j + 1) (t ^^^ bs[i]) := by
        show _ = crcS (crcN j (t ^^^ bs[i]))
        rw [hu]
        unfold crcS
        rcases hand with h | h
        · have hm : u % 2 = 0 := by rw [← and_one]; exact h
          rw [if_pos h]
          show _ = Nat.xor (u / 2) (match u % 2 with | 0 => 0 | _ + 1 => 2197175160)
          rw [hm]; rfl
        · have hm : u % 2 = 1 := by rw [← and_one]; exact h
          rw [if_neg (by omega)]
          show _ = Nat.xor (u / 2) (match u % 2 with | 0 => 0 | _ + 1 => 2197175160)
          rw [hm]; rfl
      rw [hstep] at a4
      have a1 : cBin .and (.int .u32 (u : Int)) (.int .u32 1) = .val (.int .u32 ((u &&& 1 : Nat) : Int)) := a1
      have a3 : cBin .and (.int .u32 2197175160) (.int .u32 ((if u &&& 1 = 0 then 0 else 4294967295 : Nat) : Int)) = .val (.int .u32 ((2197175160 &&& (if u &&& 1 = 0 then 0 else 4294967295) : Nat) : Int)) := a3
      generalize hz : (if u &&& 1 = 0 then 0 else 4294967295 : Nat) = z at a2 a3 a4
      generalize hy : u &&& 1 = y at a1 a2
      generalize hw : 2197175160 &&& z = q at a3 a4
      have a0 := cShrU u
      have hj8' : (j : Int) < 8 := by omega
      generalize hu2 : u / 2 = u2 at a0 a4
      simp only [LS_0, RS_7, RS_8, RS_9]
      simp [f0, f19, hj8', a0, a1, a2, a3, a4, -cBin_shr, wrap_i j (by omega)]
      exact ⟨8 - (j + 1), by omega, j + 1, rfl, by omega, f9, f10, f11, by omega⟩
    · have : j = 8 := by omega
      subst this
      simp [LS_0, RS_7, f19, RS_10, f11, wrap_i i (by omega)]
      refine ⟨bs.length - (i + 1), by omega, i + 1, rfl, hlt, f9, f10, by omega, crcN 8 (t ^^^ bs[i]), f0, hcj, ?_⟩
      rw [he, List.drop_eq_getElem_cons hlt, crcL_cons, crc8_eq]
  · have : i = bs.length := by omega
    subst this
    simp [LS_1, RS_3, f10, f11, RS_11, f0, cUn_xorU t ht]
    have : sumM s bs = 4294967295 - t := by
      show 4294967295 - crcL bs (4294967295 - s) = _
      rw [he, List.drop_length, crcL_nil]
    rw [this]
    exact .pure _ (by simp)
end
end Go.Abs
