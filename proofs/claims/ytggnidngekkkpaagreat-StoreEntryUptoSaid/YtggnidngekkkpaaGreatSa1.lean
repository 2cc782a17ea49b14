/- Values, their bytes: plain. -/
import Derived.Test.YtggnidngekkkpaaGreatAbs6
import Derived.Test.YtggnidngekkkpaaGreatAbs5
namespace Go.Abs
set_option maxRecDepth 100000

structure Val where
  k : Int
  n : Int
  s : List Nat
def Val.cells (v : Val) : List AV := [.int .i64 v.k, .int .i64 v.n, .str v.s]
def Val.av (v : Val) : AV := .agg v.cells 3
@[simp] theorem Val.cells_len (v : Val) : v.cells.length = 3 := rfl
@[simp] theorem Val.pureL (v : Val) : PureL v.cells := by simp [Val.cells]
@[simp] theorem Val.pure (v : Val) : Pure v.av := by simp [Val.av]
def VL : List Val → List AV
  | [] => []
  | v :: l => v.cells ++ VL l
@[simp] theorem VL_len (l : List Val) : (VL l).length = l.length * 3 := by
  induction l with
  | nil => rfl
  | cons v l ih => simp [VL, ih]; omega
@[simp] theorem VL_pure (l : List Val) : PureL (VL l) := by
  induction l with
  | nil => simp [VL]
  | cons v l ih => simp [VL, ih, Val.cells]
@[simp] theorem VL_one (l : List Val) : allOne (VL l) = true := by
  induction l with
  | nil => rfl
  | cons v l ih => simp [VL, ih, Val.cells]
theorem VL_append (a b : List Val) : VL (a ++ b) = VL a ++ VL b := by
  induction a with
  | nil => rfl
  | cons v l ih => simp [VL, ih]
theorem VL_drop (l : List Val) (i : Nat) (h : i < l.length) : (VL l).drop (i * 3) = l[i].cells ++ VL (l.drop (i + 1)) := by
  induction l generalizing i with
  | nil => simp at h
  | cons v l ih =>
    cases i with
    | zero => simp [VL]
    | succ i =>
      have := ih i (by simpa using h)
      rw [show (i + 1) * 3 = 3 + i * 3 by omega, ← List.drop_drop]
      have e : (VL (v :: l)).drop 3 = VL l := by simp [VL, Val.cells]
      rw [e, this]; simp
theorem VL_flat (l : List Val) : VL l = l.flatMap Val.cells := by
  induction l with
  | nil => rfl
  | cons v l ih => simp [VL, ih]

def Val.may (v : Val) : Bool :=
  if v.k = 0 then decide (v.n = 0) && decide (v.s = []) else if v.k = 1 then decide (v.s = []) else if v.k = 2 then decide (v.n = 0) && decide (v.s.length ≤ 64)
  else if v.k = 3 then decide (v.s = []) && (decide (v.n = 0) || decide (v.n = 1)) else false

/-! ### bytes of a number -/
/-- w bytes, the greatest ahead -/
def beN (w u : Nat) : List Nat := (List.range w).map fun j => u / 2 ^ (8 * (w - 1 - j)) % 256
@[simp] theorem beN_len (w u : Nat) : (beN w u).length = w := by simp [beN]
theorem beN_get {w u j : Nat} (h : j < w) : (beN w u)[j]'(by simpa using h) = u / 2 ^ (8 * (w - 1 - j)) % 256 := by simp [beN]
theorem beN_lt (w u : Nat) : ∀ x ∈ beN w u, x < 256 := by
  intro x hx
  simp only [beN, List.mem_map] at hx
  obtain ⟨j, _, rfl⟩ := hx
  omega
def u64 (n : Int) : Nat := (n % 18446744073709551616).toNat
theorem u64_lt (n : Int) : u64 n < 18446744073709551616 := by unfold u64; omega
theorem wrap_u64 (n : Int) : IntKind.u64.wrap n = (u64 n : Int) := by
  unfold u64
  simp [IntKind.wrap, IntKind.signed, IntKind.bits]
  omega
theorem wrap_u8 (n : Nat) : IntKind.u8.wrap (n : Int) = ((n % 256 : Nat) : Int) := by
  simp [IntKind.wrap, IntKind.signed, IntKind.bits]
theorem wrap_u16 (n : Nat) (h : n < 65536) : IntKind.u16.wrap (n : Int) = (n : Int) := by
  simp [IntKind.wrap, IntKind.signed, IntKind.bits]; omega
theorem top_xor (u : Nat) (h : u < 18446744073709551616) : u ^^^ 9223372036854775808 = (u + 9223372036854775808) % 18446744073709551616 := by
  apply Nat.eq_of_testBit_eq
  intro i
  rw [Nat.testBit_xor, show (18446744073709551616 : Nat) = 2 ^ 64 from rfl, Nat.testBit_mod_two_pow, show (9223372036854775808 : Nat) = 2 ^ 63 from rfl, Nat.testBit_two_pow, Nat.add_comm u]
  rcases Nat.lt_trichotomy i 63 with h1 | h1 | h1
  · rw [Nat.testBit_two_pow_add_gt (by omega)]
    simp [show i < 64 by omega, show ¬ 63 = i by omega]
  · subst h1
    rw [Nat.testBit_two_pow_add_eq]
    simp
  · have : u.testBit i = false := Nat.testBit_lt_two_pow (Nat.lt_of_lt_of_le h (by
      have : (2 : Nat) ^ 64 ≤ 2 ^ i := Nat.pow_le_pow_right (by omega) (by omega)
      exact this))
    simp [this, show ¬ i < 64 by omega, show ¬ 63 = i by omega]
/-- a number, so that its bytes stand in the numbers' order -/
def Val.up (v : Val) : Nat := (u64 v.n + 9223372036854775808) % 18446744073709551616
theorem cXor64 (a b : Nat) (ha : a < 18446744073709551616) (hb : b < 18446744073709551616) : cBin .xor (.int .u64 (a : Int)) (.int .u64 (b : Int)) = .val (.int .u64 ((a ^^^ b : Nat) : Int)) := by
  show int2 (cArith .xor) (.int .u64 (a : Int)) (.int .u64 (b : Int)) = _
  rw [int2_int]
  show vint .u64 (IntKind.u64.wrap ((BitVec.ofInt 64 (a : Int) ^^^ BitVec.ofInt 64 (b : Int)).toNat : Int)) = _
  rw [show BitVec.ofInt 64 (a : Int) = BitVec.ofNat 64 a by simp, show BitVec.ofInt 64 (b : Int) = BitVec.ofNat 64 b by simp, BitVec.toNat_xor, BitVec.toNat_ofNat, BitVec.toNat_ofNat, Nat.mod_eq_of_lt ha, Nat.mod_eq_of_lt hb, vint_eq, wrap_u64]
  congr 2
  unfold u64
  have := Nat.xor_lt_two_pow (n := 64) ha hb
  omega
theorem cShrN (k : IntKind) (s i : Nat) (j : IntKind) (hk : i ≤ k.bits) : cBin .shr (.int k (s : Int)) (.int j (i : Int)) = .val (.int k ((s / 2 ^ i : Nat) : Int)) := by
  show vint k (Int.fdiv (s : Int) (2 ^ (min i k.bits))) = _
  rw [vint_eq, Nat.min_eq_left hk]
  congr 2
  rw [Int.fdiv_eq_ediv_of_nonneg _ (by have : (0 : Int) < 2 ^ i := Int.pow_pos (by omega); omega)]
  simp
theorem cQuoN (k : IntKind) (s d : Nat) (h : 0 < d) (hw : k.wrap ((s / d : Nat) : Int) = ((s / d : Nat) : Int)) : cBin .quo (.int k (s : Int)) (.int k (d : Int)) = .val (.int k ((s / d : Nat) : Int)) := by
  show int2 (cArith .quo) (.int k (s : Int)) (.int k (d : Int)) = _
  rw [int2_int]
  have h0 : ¬ d = 0 := by omega
  have e : ((s : Int) / (d : Int)) = ((s / d : Nat) : Int) := by simp
  simp [cArith, h0]
  rw [e, hw]
theorem cRemN (k : IntKind) (s d : Nat) (h : 0 < d) (hw : k.wrap ((s % d : Nat) : Int) = ((s % d : Nat) : Int)) : cBin .rem (.int k (s : Int)) (.int k (d : Int)) = .val (.int k ((s % d : Nat) : Int)) := by
  show int2 (cArith .rem) (.int k (s : Int)) (.int k (d : Int)) = _
  rw [int2_int]
  have h0 : ¬ d = 0 := by omega
  simp [cArith, h0]
  exact Int.tmod_eq_emod_of_nonneg (by omega)

/-! ### texts -/
def esc (l : List Nat) : List Nat := l.flatMap fun c => if c = 0 then [0, 255] else [c]
theorem esc_snoc (l : List Nat) (c : Nat) : esc (l ++ [c]) = esc l ++ (if c = 0 then [0, 255] else [c]) := by simp [esc]
theorem esc_len (l : List Nat) : (esc l).length ≤ 2 * l.length := by
  induction l with
  | nil => simp [esc]
  | cons c l ih =>
    have : esc (c :: l) = (if c = 0 then [0, 255] else [c]) ++ esc l := by simp [esc]
    rw [this, List.length_append, List.length_cons]
    have : (if c = 0 then [0, 255] else [c] : List Nat).length ≤ 2 := by split <;> simp
    omega
theorem esc_lt {l : List Nat} (h : ∀ x ∈ l, x < 256) : ∀ x ∈ esc l, x < 256 := by
  intro x hx
  simp only [esc, List.mem_flatMap] at hx
  obtain ⟨c, hc, hx⟩ := hx
  have := h c hc
  split at hx
  · simp at hx; omega
  · simp at hx; omega
/-- a value's bytes -/
def Val.enc (v : Val) : List Nat :=
  if v.k = 3 then [(2 + v.n).toNat] else if v.k = 1 then 4 :: beN 8 v.up else if v.k = 2 then 5 :: (esc v.s ++ [0, 1]) else [1]
theorem Val.enc_len {v : Val} (h : v.may = true) : v.enc.length ≤ 131 := by
  unfold Val.enc
  by_cases h3 : v.k = 3
  · simp [h3]
  by_cases h1 : v.k = 1
  · simp [h1]
  by_cases h2 : v.k = 2
  · simp [Val.may, h2] at h
    have := esc_len v.s
    simp [h2]
    omega
  · simp [h3, h1, h2]
theorem Val.enc_lt {v : Val} (h : v.may = true) (hs : ∀ x ∈ v.s, x < 256) : ∀ x ∈ v.enc, x < 256 := by
  intro x hx
  unfold Val.enc at hx
  by_cases h3 : v.k = 3
  · simp [Val.may, h3] at h
    simp [h3] at hx
    rcases h.2 with h | h <;> rw [h] at hx <;> simp at hx <;> omega
  by_cases h1 : v.k = 1
  · simp [h1] at hx
    rcases hx with rfl | hx
    · omega
    · exact beN_lt _ _ x hx
  by_cases h2 : v.k = 2
  · simp [h2] at hx
    rcases hx with rfl | hx | rfl | rfl
    · omega
    · exact esc_lt hs x hx
    · omega
    · omega
  · simp [h3, h1, h2] at hx; omega
/-- a row's bytes -/
def enc : List Val → List Nat
  | [] => []
  | v :: l => v.enc ++ enc l
theorem enc_append (a b : List Val) : enc (a ++ b) = enc a ++ enc b := by
  induction a with
  | nil => rfl
  | cons v l ih => simp [enc, ih]
theorem enc_len {l : List Val} (h : ∀ v ∈ l, v.may = true) : (enc l).length ≤ 131 * l.length := by
  induction l with
  | nil => simp [enc]
  | cons v l ih =>
    have h1 := Val.enc_len (h v (by simp))
    have h2 := ih fun u hu => h u (by simp [hu])
    simp [enc]; omega
theorem enc_lt {l : List Val} (h : ∀ v ∈ l, v.may = true) (hs : ∀ v ∈ l, ∀ x ∈ v.s, x < 256) : ∀ x ∈ enc l, x < 256 := by
  induction l with
  | nil => simp [enc]
  | cons v l ih =>
    intro x hx
    simp [enc] at hx
    rcases hx with hx | hx
    · exact Val.enc_lt (h v (by simp)) (hs v (by simp)) x hx
    · exact ih (fun u hu => h u (by simp [hu])) (fun u hu => hs u (by simp [hu])) x hx
/-- what a row is encoded to: its bytes, an error's number -/
def encE (l : List Val) : List Nat × Int :=
  if 16 < l.length then ([], 1) else if l.all Val.may = false then ([], 5) else if 140 < (enc l).length then ([], 51) else (enc l, 0)

/-! ### one's own bytes as a text -/
theorem bytesOf_u8s {l : List Nat} (h : ∀ x ∈ l, x < 256) : bytesOf (u8s l) = some l := by
  induction l with
  | nil => rfl
  | cons c l ih =>
    have h1 := ih fun x hx => h x (by simp [hx])
    have h2 := h c (by simp)
    show bytesOf (.int .u8 (c : Int) :: u8s l) = _
    simp only [bytesOf, h1]
    simp; omega
section
variable {F : Fr} {H : Hp} {n : Nat}
theorem u8s_append (a b : List Nat) : u8s (a ++ b) = u8s a ++ u8s b := by simp [u8s]
theorem u8s_take (l : List Nat) (k : Nat) : (u8s l).take k = u8s (l.take k) := by simp [u8s]
@[simp] theorem u8s_one (l : List Nat) : allOne (u8s l) = true := by
  induction l with
  | nil => rfl
  | cons c l ih => show ((AV.int .u8 (c : Int)).one && allOne (u8s l)) = true; simp [ih]
theorem OwnS.b2s {x : AV} {l : List Nat} {len : Nat} (h : OwnS H n x (u8s l) len 1) (hl : ∀ c ∈ l, c < 256) : cB2s x H = .val (.str l) := by
  obtain ⟨h0, ⟨rfl, rfl⟩ | ⟨b, k, rfl, hb, hk, ho⟩⟩ := h
  · have : l = [] := by simpa using h0
    subst this
    rfl
  · have hs := sliceCells_sl (o := 0) (len := len) (sz := 1) hk ho (by omega)
    unfold cB2s
    dsimp only
    rw [hs]
    dsimp only
    rw [List.drop_zero, List.take_of_length_le (by omega), bytesOf_u8s hl]
theorem OwnS.lenL {x : AV} {l : List AV} {len sz : Nat} (h : OwnS H n x l len sz) : cLenL x = .val (.int .i64 (len : Int)) := by
  obtain ⟨_, ⟨rfl, rfl⟩ | ⟨b, k, rfl, _⟩⟩ := h
  · rfl
  · exact cLenL_sl ..
@[simp] theorem eB2s_f (x : G) : eB2s x F H n = oE (x.f F) fun v => cB2s v H := by unfold eB2s oE; cases x.f F <;> rfl
@[simp] theorem eS2b_str (x : G) (l : List Nat) (h : x.f F = some (.str l)) : eS2b x F H n = .new (.sl n 0 l.length 1) (.cells l.length [] (u8s l) .nil) := by
  unfold eS2b; rw [h]; dsimp only; rw [lenAcc_zero]
end
theorem cIxs_at {l : List Nat} {i : Nat} {k : IntKind} (h : i < l.length) : cIxs (.str l) (.int k (i : Int)) = .val (.int .u8 (l[i] : Int)) := by
  unfold cIxs
  show (match nth l i with | some c => ERes.val (.int .u8 (Int.ofNat c)) | none => .fail) = _
  rw [nth_eq, List.getElem?_eq_getElem h]; rfl
theorem wrap_nat (i : Nat) (h : i < 2147483648) : IntKind.i64.wrap ((i : Int) + 1) = ((i + 1 : Nat) : Int) := wrap_i i h
end Go.Abs
