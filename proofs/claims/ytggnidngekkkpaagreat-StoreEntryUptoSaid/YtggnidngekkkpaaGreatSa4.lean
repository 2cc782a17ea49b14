/- store.Entry, the document's Entry: what they come to. -/
import Derived.Test.YtggnidngekkkpaaGreatSa3
namespace Go.Abs
open Go.Proofs
set_option maxRecDepth 100000

structure Ix where
  id : Int
  tb : Int
  nm : List Nat
  cols : List Int
  un : Bool
  rt : Int
def ints (l : List Int) : List AV := l.map (.int .i64 ·)
@[simp] theorem ints_len (l : List Int) : (ints l).length = l.length := by simp [ints]
@[simp] theorem ints_pure (l : List Int) : PureL (ints l) := by
  induction l with
  | nil => simp [ints]
  | cons a l ih => simp only [ints, List.map_cons, pureL_cons] at ih ⊢; exact ⟨by simp, ih⟩
def Ix.cells (x : Ix) : List AV := [.int .u32 x.id, .int .u32 x.tb, .str x.nm, .ds (ints x.cols) x.cols.length 1, .bool x.un, .int .u32 x.rt]
def Ix.av (x : Ix) : AV := .agg x.cells 6
@[simp] theorem Ix.cells_len (x : Ix) : x.cells.length = 6 := rfl
@[simp] theorem Ix.pure (x : Ix) : Pure x.av := by simp [Ix.av, Ix.cells]
theorem ixa_int {l : List Int} {i : Nat} {k : IntKind} (h : i < l.length) : cIxa 1 (.ds (ints l) l.length 1) (.int k (i : Int)) = .val (.dp (.int .i64 l[i] :: ints (l.drop (i + 1)))) := by
  rw [cIxa_ds h, Nat.mul_one]
  congr 2
  simp only [ints]
  rw [← List.map_drop, List.drop_eq_getElem_cons h, List.map_cons]
/-- the columns of a row; none: there is none of them -/
def pick (row : List Val) : List Int → Option (List Val)
  | [] => some []
  | c :: r => match (if 0 ≤ c then row[c.toNat]? else none), pick row r with
    | some v, some l => some (v :: l)
    | _, _ => none
theorem pick_snoc (row : List Val) (a : List Int) (c : Int) {l : List Val} (h : pick row a = some l) : pick row (a ++ [c]) = (if 0 ≤ c then row[c.toNat]? else none).map (l ++ [·]) := by
  induction a generalizing l with
  | nil =>
    simp only [pick] at h; injection h with h; subst h
    simp only [List.nil_append, pick]
    cases (if 0 ≤ c then row[c.toNat]? else none) <;> rfl
  | cons b a ih =>
    simp only [pick] at h
    split at h
    · rename_i v l' h1 h2
      injection h with h; subst h
      simp only [List.cons_append, pick, h1, ih h2]
      cases (if 0 ≤ c then row[c.toNat]? else none) <;> rfl
    · cases h
theorem pick_none (row : List Val) (a b : List Int) (h : pick row a = none) : pick row (a ++ b) = none := by
  induction a with
  | nil => simp [pick] at h
  | cons c a ih =>
    simp only [List.cons_append, pick] at h ⊢
    split at h
    · cases h
    · rename_i hne
      cases h1 : (if 0 ≤ c then row[c.toNat]? else none) with
      | none => rfl
      | some v =>
        cases h2 : pick row a with
        | some l => exact (hne v l h1 h2).elim
        | none => rw [ih h2]
theorem pick_len (row : List Val) : ∀ (a : List Int) (l : List Val), pick row a = some l → l.length = a.length ∧ ∀ v ∈ l, v ∈ row
  | [], l, h => by simp only [pick] at h; injection h with h; subst h; simp
  | c :: a, l, h => by
    simp only [pick] at h
    split at h
    · rename_i v l' h1 h2
      injection h with h; subst h
      obtain ⟨i1, i2⟩ := pick_len row a l' h2
      refine ⟨by simp [i1], fun u hu => ?_⟩
      simp at hu
      rcases hu with rfl | hu
      · split at h1
        · exact List.mem_of_getElem? h1
        · cases h1
      · exact i2 u hu
    · cases h
/-- an entry: its bytes, an error's number -/
def entE (row : List Val) (cols : List Int) (page slot : Nat) : List Nat × Int := match pick row cols with
  | none => ([], 1)
  | some l => if (encE l).2 = 0 then ((encE l).1 ++ (beN 4 page ++ [slot / 256, slot % 256]), 0) else ([], (encE l).2)
theorem encE_lt {l : List Val} (hs : ∀ v ∈ l, ∀ c ∈ v.s, c < 256) : (∀ x ∈ (encE l).1, x < 256) ∧ (encE l).1.length ≤ 140 := by
  unfold encE
  split
  · simp
  · split
    · simp
    · rename_i h
      have hm : ∀ v ∈ l, v.may = true := by
        have : l.all Val.may = true := by cases h2 : l.all Val.may <;> simp_all
        exact List.all_eq_true.1 this
      split
      · simp
      · exact ⟨enc_lt hm hs, by simp; omega⟩
theorem sel_at {row : List Val} {c : Int} (h0 : 0 ≤ c) (h1 : c < row.length) : ∃ i, i < row.length ∧ c = (i : Int) ∧ (if 0 ≤ c then row[c.toNat]? else none) = some (row[c.toNat]'(by omega)) := by
  refine ⟨c.toNat, by omega, by omega, ?_⟩
  rw [if_pos h0, List.getElem?_eq_getElem (by omega)]
theorem sel_none {row : List Val} {c : Int} (h : c < 0 ∨ (row.length : Int) ≤ c) : (if 0 ≤ c then row[c.toNat]? else none) = none := by
  split
  · rw [List.getElem?_eq_none (by omega)]
  · rfl
theorem shr32 (u j : Nat) (h : j < 4) : cBin .shr (.int .u32 (u : Int)) (.int .i64 (24 - 8 * (j : Int))) = .val (.int .u32 ((u / 2 ^ (8 * (4 - 1 - j)) : Nat) : Int)) := by
  rw [show (24 - 8 * (j : Int)) = ((8 * (4 - 1 - j) : Nat) : Int) by omega]
  exact cShrN _ _ _ _ (by show 8 * (4 - 1 - j) ≤ 32; omega)

theorem entry19 (x : Ix) (row : List Val) (page slot : Nat) (hs : ∀ v ∈ row, ∀ c ∈ v.s, c < 256) (hc : x.cols.length ≤ 1048576) (hsl : slot < 65536) :
    FnPure Tryz.prog 19 [x.av, .ds (VL row) row.length 3, .agg [.int .u32 (page : Int), .int .i64 (slot : Int)] 2] (.tup [.str (entE row x.cols page slot).1, .int .i64 (entE row x.cols page slot).2]) := by
  refine pureV c19 (by simp) (by simp) (by simp [A19]) fun F hF => ?_
  simp [A19, B19, R19_0, R19_1, R19_2, hF, Ix.av, Ix.cells]
  refine LoopV.of (fun k F H n m_ => ∃ i y l, k = x.cols.length - i ∧ i ≤ x.cols.length ∧ F.get 1 = some (.ds (VL row) row.length 3) ∧ F.get 5 = some (.ptr 1 0) ∧ F.get 8 = some y ∧ F.get 16 = some (.ds (ints x.cols) x.cols.length 1) ∧ F.get 17 = some (.int .i64 (x.cols.length : Int)) ∧ F.get 18 = some (.int .i64 (i : Int)) ∧
    pick row (x.cols.take i) = some l ∧ OwnS H n y (VL l) i 3 ∧ 2 ≤ n ∧ (∀ c, y = .sl c 0 i 3 → 2 ≤ c) ∧ H.get 1 = some (.cells 2 [] [.int .u32 (page : Int), .int .i64 (slot : Int)] .nil) ∧ m_ = []) x.cols.length ⟨0, _, [], rfl, by omega, by simp [hF], by simp, by simp, by simp, by simp, by simp, by simp [pick], OwnS.nil _ _ _, by omega, by simp, by simp, rfl⟩ ?_
  rintro k F H n m_ ⟨i, y, l, rfl, hi, f1, f5, f8, f16, f17, f18, hp, ho, hn, hy, hb, rfl⟩
  by_cases hlt : i < x.cols.length
  · have ht : x.cols.take (i + 1) = x.cols.take i ++ [x.cols[i]] := List.take_succ_eq_append_getElem hlt
    have hdr : x.cols = x.cols.take (i + 1) ++ x.cols.drop (i + 1) := (List.take_append_drop _ _).symm
    have hx := ixa_int (l := x.cols) (k := .i64) hlt
    by_cases hneg : x.cols[i] < 0
    · have hnone : pick row x.cols = none := by
        rw [hdr]; refine pick_none _ _ _ ?_
        rw [ht, pick_snoc row _ _ hp, sel_none (.inl hneg)]; rfl
      simp [L19_0, R19_3, R19_4, R19_5, R19_6, f1, f8, f16, f17, f18, hlt, hx, hneg]
      unfold entE
      rw [hnone]
      exact .pure _ (by simp)
    · by_cases hbig : (row.length : Int) ≤ x.cols[i]
      · have hnone : pick row x.cols = none := by
          rw [hdr]; refine pick_none _ _ _ ?_
          rw [ht, pick_snoc row _ _ hp, sel_none (.inr hbig)]; rfl
        simp [L19_0, R19_3, R19_4, R19_5, R19_6, f1, f8, f16, f17, f18, hlt, hx, hneg, hbig]
        unfold entE
        rw [hnone]
        exact .pure _ (by simp)
      · obtain ⟨j, hj, hcj, hsel⟩ := sel_at (row := row) (c := x.cols[i]) (by omega) (by omega)
        have hp' : pick row (x.cols.take (i + 1)) = some (l ++ [row[j]]) := by
          rw [ht, pick_snoc row _ _ hp, hsel]
          simp [hcj]
        have hx3 : cIxa 3 (.ds (VL row) row.length 3) (.int .i64 (j : Int)) = .val (.dp (row[j].cells ++ VL (row.drop (j + 1)))) := by rw [cIxa_ds hj, VL_drop row j hj]
        have hL : cLoadN 3 (.dp (row[j].cells ++ VL (row.drop (j + 1)))) H = .val (.agg row[j].cells 3) := cLoadN_dp _ (by simp)
        rw [hcj] at hneg hbig hx
        have hpt : patch [AV.int .i64 0, .int .i64 0, .str []] 0 row[j].cells = some row[j].cells := patch_all (by simp)
        have hone : allOne row[j].cells = true := by simp [Val.cells]
        have hjn : ¬ (row.length : Int) ≤ (j : Int) := by omega
        simp [L19_0, R19_3, R19_4, R19_5, R19_7, f1, f8, f16, f17, f18, hlt, hx, hj, hx3, hL, hneg, hbig, hpt, hone, show ¬ row.length ≤ j by omega]
        refine OwnS.app (k := 1) (new := row[j].cells) (len := i) (l := VL l) (ho.more (by omega) fun c hc => by simp [show ¬ c = n by omega]) ?_ rfl (by simp) (by omega) (by omega) (by unfold big; omega) (by omega) (by simp [Val.cells]) fun H' ho' hk => ?_
        · rw [sliceCells_sl (l := row[j].cells) (k := .cells 3 [] row[j].cells .nil) (by simp) (OwnB.list (by simp)) (by simp)]; simp [Val.cells]
        · simp [R19_8, f1, f5, f16, f17, f18, wrap_nat i (by omega)]
          refine ⟨x.cols.length - (i + 1), by omega, i + 1, rfl, by omega, ?_⟩
          refine ⟨by omega, l ++ [row[j]], hp', ?_, fun _ => by omega, ?_⟩
          · rw [VL_append]; simpa [VL] using ho'
          · rw [hk 1 (by omega) fun e => by have := hy 1 e; omega]
            simp [show ¬ 1 = n by omega, hb]
  · have hi' : i = x.cols.length := by omega
    subst hi'
    rw [List.take_length] at hp
    obtain ⟨hpl, hpm⟩ := pick_len row _ _ hp
    have hsl' : ∀ v ∈ l, ∀ c ∈ v.s, c < 256 := fun v hv => hs v (hpm v hv)
    obtain ⟨hlt8, h140⟩ := encE_lt hsl'
    have hent : entE row x.cols page slot = if (encE l).2 = 0 then ((encE l).1 ++ (beN 4 page ++ [slot / 256, slot % 256]), 0) else ([], (encE l).2) := by unfold entE; rw [hp]
    rw [hent]
    simp [L19_0, R19_3, R19_9, f1, f5, f8, f16, f17, f18]
    rw [← hpl] at ho
    refine CalV.frz (encode60 l hsl' (by omega)) (by simp [Flat, FlatL]) (.cons _ _ _ _ (ho.frz (FrzL.pure (VL_pure l))) .nil) ?_
    by_cases he : (encE l).2 = 0
    · generalize hk : (encE l).1 = kb at *
      simp [R19_10, R19_12, R19_13, f5, he]
      refine LoopV.of (fun k F H' n' ms => ∃ j y, k = 4 - j ∧ j ≤ 4 ∧ F.get 5 = some (.ptr 1 0) ∧ F.get 13 = some y ∧ F.get 14 = some (.int .i64 (24 - 8 * (j : Int))) ∧
        OwnS H' n' y (u8s (kb ++ (beN 4 page).take j)) (kb.length + j) 1 ∧ 2 ≤ n' ∧ (∀ c, y = .sl c 0 (kb.length + j) 1 → 2 ≤ c) ∧ H'.get 1 = some (.cells 2 [] [.int .u32 (page : Int), .int .i64 (slot : Int)] .nil) ∧ ms = []) 4
        ⟨0, .sl n 0 kb.length 1, rfl, by omega, by simp [f5], by simp, by simp, ⟨by simp, .inr ⟨n, _, by simp, by omega, by simp; rfl, by simpa using OwnB.list (l := u8s kb) (by simp)⟩⟩, by omega, fun c h => by injection h with h; omega, by simp [show ¬ 1 = n by omega, hb], rfl⟩ ?_
      rintro k F H' n' ms ⟨j, y', rfl, hj, f5, f13, f14, ho', hn', hy', hb', rfl⟩
      obtain ⟨d0, hd0⟩ : ∃ d : Int, d = 24 - 8 * (j : Int) := ⟨_, rfl⟩
      rw [← hd0] at f14
      by_cases hjl : j < 4
      · have hc0 : (0 : Int) ≤ d0 := by omega
        have hw := down d0 (by omega)
        obtain ⟨q, hq, hsh⟩ : ∃ q : Nat, q = page / 2 ^ (8 * (4 - 1 - j)) ∧ cBin .shr (.int .u32 (page : Int)) (.int .i64 d0) = .val (.int .u32 (q : Int)) := ⟨_, rfl, hd0 ▸ shr32 page j hjl⟩
        obtain ⟨b, hbq, hto⟩ := low8 .u32 q
        simp [L19_1, R19_14, R19_15, f5, f13, f14, hc0, hb', hsh, hto, -cBin_shr]
        refine OwnS.app (k := 1) (new := [.int .u8 (b : Int)]) (len := kb.length + j) (l := u8s (kb ++ (beN 4 page).take j)) (ho'.more (by omega) fun c hc => by simp [show ¬ c = n' by omega]) ?_ rfl (by simp) (by omega) (by omega) (by unfold big; omega) (by omega) (by simp) fun H2 ho2 hk2 => ?_
        · rw [sliceCells_sl (l := [.int .u8 (b : Int)]) (k := .cells 1 [] [.int .u8 (b : Int)] .nil) (by simp) (OwnB.list (by simp)) (by simp)]; simp
        · simp [R19_16, f5, f14, hw]
          refine ⟨4 - (j + 1), by omega, j + 1, rfl, by omega, by omega, ?_, fun _ => by omega, ?_⟩
          · rw [List.take_succ_eq_append_getElem (by simpa using hjl), beN_get hjl, ← hq, ← hbq, ← List.append_assoc, u8s_append]
            simpa [u8s_cons, u8s_nil, Nat.add_assoc] using ho2
          · rw [hk2 1 (by omega) fun e => by have := hy' 1 e; omega]
            simp [show ¬ 1 = n' by omega, hb']
      · have hj4 : j = 4 := by omega
        subst hj4
        have hc0 : ¬ (0 : Int) ≤ d0 := by omega
        obtain ⟨q, hq, hsh⟩ : ∃ q : Nat, q = slot / 256 ∧ cBin .shr (.int .i64 (slot : Int)) (.int .u64 8) = .val (.int .i64 (q : Int)) := ⟨_, rfl, cShrN .i64 slot 8 .u64 (by show 8 ≤ 64; omega)⟩
        obtain ⟨b1, hb1, hto1⟩ : ∃ b : Nat, b = slot / 256 ∧ cToInt .u8 (.int .i64 (q : Int)) = .val (.int .u8 (b : Int)) := by
          obtain ⟨b, h1, h2⟩ := low8 .i64 q
          exact ⟨b, by omega, h2⟩
        obtain ⟨b2, hb2, hto2⟩ := low8 .i64 slot
        rw [List.take_of_length_le (by simp)] at ho'
        simp [L19_1, R19_14, R19_17, f5, f13, f14, hc0, hb', hsh, hto1, hto2, rep2, -cBin_shr]
        refine OwnS.app (k := 2) (new := [.int .u8 (b1 : Int), .int .u8 (b2 : Int)]) (len := kb.length + 4) (l := u8s (kb ++ beN 4 page)) (ho'.more (by omega) fun c hc => by simp [show ¬ c = n' by omega]) ?_ rfl (by simp) (by omega) (by omega) (by unfold big; omega) (by omega) (by simp) fun H2 ho2 hk2 => ?_
        · rw [sliceCells_sl (l := [.int .u8 (b1 : Int), .int .u8 (b2 : Int)]) (k := .cells 2 [] [.int .u8 (b1 : Int), .int .u8 (b2 : Int)] .nil) (by simp) (OwnB.list (by simp)) (by simp)]; simp
        · have hall : ∀ c ∈ kb ++ (beN 4 page ++ [slot / 256, slot % 256]), c < 256 := by
            intro c hc
            simp at hc
            rcases hc with hc | hc | hc | hc
            · exact hlt8 c hc
            · exact beN_lt _ _ c hc
            · omega
            · omega
          have ho3 : OwnS H2 (n' + 1 + 1) (.sl (n' + 1) 0 (kb.length + 4 + 2) 1) (u8s (kb ++ (beN 4 page ++ [slot / 256, slot % 256]))) (kb.length + 4 + 2) 1 := by
            rw [← List.append_assoc, u8s_append, ← hb1, ← hb2]; exact ho2
          simp [ho3.b2s hall]
          exact .pure _ (by simp)
    · simp [R19_10, R19_11, he]
      exact .pure _ (by simp)
end Go.Abs
