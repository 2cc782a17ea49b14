/- The document's Entry: what it comes to. -/
import Derived.Test.YtggnidngekkkpaaGreatSa4
namespace Go.Abs
open Go.Proofs
set_option maxRecDepth 100000

theorem wrap_u32 (n : Nat) (h : n < 4294967296) : IntKind.u32.wrap (n : Int) = (n : Int) := wrapU n h
theorem quo32 (p d : Nat) (hp : p < 4294967296) (h : 0 < d) : cBin .quo (.int .u32 (p : Int)) (.int .u32 (d : Int)) = .val (.int .u32 ((p / d : Nat) : Int)) :=
  cQuoN .u32 p d h (wrap_u32 _ (Nat.lt_of_le_of_lt (Nat.div_le_self _ _) hp))
theorem rem32 (p d : Nat) (hp : p < 4294967296) (h : 0 < d) : cBin .rem (.int .u32 (p : Int)) (.int .u32 (d : Int)) = .val (.int .u32 ((p % d : Nat) : Int)) :=
  cRemN .u32 p d h (wrap_u32 _ (Nat.lt_of_le_of_lt (Nat.mod_le _ _) hp))
theorem be4 (p : Nat) : beN 4 p = [p / 16777216 % 256, p / 65536 % 256, p / 256 % 256, p % 256] := by
  simp [beN, List.range_succ_eq_map]

theorem entry23 (x : Ix) (row : List Val) (page slot : Nat) (hs : ∀ v ∈ row, ∀ c ∈ v.s, c < 256) (hc : x.cols.length ≤ 1048576) (hpg : page < 4294967296) (hsl : slot < 65536) :
    FnPure Tryz.prog 23 [x.av, .ds (VL row) row.length 3, .agg [.int .u32 (page : Int), .int .i64 (slot : Int)] 2] (.tup [.str (entE row x.cols page slot).1, .int .i64 (entE row x.cols page slot).2]) := by
  refine pureV c23 (by simp) (by simp) (by simp [A23]) fun F hF => ?_
  simp [A23, B23, R23_0, R23_1, R23_2, hF, Ix.av]
  refine LoopV.of (fun k F H n m_ => ∃ i y l, k = x.cols.length - i ∧ i ≤ x.cols.length ∧ F.get 1 = some (.ds (VL row) row.length 3) ∧ F.get 3 = some (.ptr 0 0) ∧ F.get 5 = some (.ptr 1 0) ∧ F.get 8 = some y ∧ F.get 9 = some (.int .i64 (i : Int)) ∧
    pick row (x.cols.take i) = some l ∧ OwnS H n y (VL l) i 3 ∧ 2 ≤ n ∧ (∀ c, y = .sl c 0 i 3 → 2 ≤ c) ∧ H.get 0 = some (.cells 6 [] x.cells .nil) ∧ H.get 1 = some (.cells 2 [] [.int .u32 (page : Int), .int .i64 (slot : Int)] .nil) ∧ m_ = []) x.cols.length ⟨0, _, [], rfl, by omega, by simp [hF], by simp, by simp, by simp, by simp, by simp [pick], OwnS.nil _ _ _, by omega, by simp, by simp, by simp, rfl⟩ ?_
  rintro k F H n m_ ⟨i, y, l, rfl, hi, f1, f3, f5, f8, f9, hp, ho, hn, hy, ha, hb, rfl⟩
  have hcl : (6 : Nat) = 6 := rfl
  by_cases hlt : i < x.cols.length
  · have ht : x.cols.take (i + 1) = x.cols.take i ++ [x.cols[i]] := List.take_succ_eq_append_getElem hlt
    have hdr : x.cols = x.cols.take (i + 1) ++ x.cols.drop (i + 1) := (List.take_append_drop _ _).symm
    have hx := ixa_int (l := x.cols) (k := .i64) hlt
    by_cases hneg : x.cols[i] < 0
    · have hnone : pick row x.cols = none := by
        rw [hdr]; refine pick_none _ _ _ ?_
        rw [ht, pick_snoc row _ _ hp, sel_none (.inl hneg)]; rfl
      simp [L23_0, R23_3, R23_4, R23_5, R23_6, f1, f3, f8, f9, ha, Ix.cells, hlt, hx, hneg]
      unfold entE
      rw [hnone]
      exact .pure _ (by simp)
    · by_cases hbig : (row.length : Int) ≤ x.cols[i]
      · have hnone : pick row x.cols = none := by
          rw [hdr]; refine pick_none _ _ _ ?_
          rw [ht, pick_snoc row _ _ hp, sel_none (.inr hbig)]; rfl
        simp [L23_0, R23_3, R23_4, R23_5, R23_6, f1, f3, f8, f9, ha, Ix.cells, hlt, hx, hneg, hbig]
        unfold entE
        rw [hnone]
        exact .pure _ (by simp)
      · obtain ⟨j, hj, hcj, hsel⟩ := sel_at (row := row) (c := x.cols[i]) (by omega) (by omega)
        have hp' : pick row (x.cols.take (i + 1)) = some (l ++ [row[j]]) := by
          rw [ht, pick_snoc row _ _ hp, hsel]
          simp [hcj]
        have hx3 : cIxa 3 (.ds (VL row) row.length 3) (.int .i64 (j : Int)) = .val (.dp (row[j].cells ++ VL (row.drop (j + 1)))) := by rw [cIxa_ds hj, VL_drop row j hj]
        have hL : cLoadN 3 (.dp (row[j].cells ++ VL (row.drop (j + 1)))) H = .val (.agg row[j].cells 3) := cLoadN_dp _ (by simp)
        rw [hcj] at hneg hbig hx
        have hpt : patch [AV.int .i64 0, .int .i64 0, .str []] 0 row[j].cells = some row[j].cells := patch_all (by simp)
        have hone : allOne row[j].cells = true := by simp [Val.cells]
        simp [L23_0, R23_3, R23_4, R23_5, R23_7, f1, f3, f8, f9, ha, Ix.cells, hlt, hx, hj, hx3, hL, hneg, hbig, hpt, hone, show ¬ row.length ≤ j by omega]
        refine OwnS.app (k := 1) (new := row[j].cells) (len := i) (l := VL l) (ho.more (by omega) fun c hc => by simp [show ¬ c = n by omega]) ?_ rfl (by simp) (by omega) (by omega) (by unfold big; omega) (by omega) (by simp [Val.cells]) fun H' ho' hk => ?_
        · rw [sliceCells_sl (l := row[j].cells) (k := .cells 3 [] row[j].cells .nil) (by simp) (OwnB.list (by simp)) (by simp)]; simp [Val.cells]
        · simp [R23_8, f1, f3, f5, f9, wrap_nat i (by omega)]
          refine ⟨x.cols.length - (i + 1), by omega, i + 1, rfl, by omega, ?_⟩
          refine ⟨by omega, l ++ [row[j]], hp', ?_, fun _ => by omega, ?_, ?_⟩
          · rw [VL_append]; simpa [VL] using ho'
          · rw [hk 0 (by omega) fun e => by have := hy 0 e; omega]
            simp [show ¬ 0 = n by omega, ha]
            rfl
          · rw [hk 1 (by omega) fun e => by have := hy 1 e; omega]
            simp [show ¬ 1 = n by omega, hb]
  · have hi' : i = x.cols.length := by omega
    subst hi'
    rw [List.take_length] at hp
    obtain ⟨hpl, hpm⟩ := pick_len row _ _ hp
    have hsl' : ∀ v ∈ l, ∀ c ∈ v.s, c < 256 := fun v hv => hs v (hpm v hv)
    obtain ⟨hlt8, h140⟩ := encE_lt hsl'
    have hent : entE row x.cols page slot = if (encE l).2 = 0 then ((encE l).1 ++ (beN 4 page ++ [slot / 256, slot % 256]), 0) else ([], (encE l).2) := by unfold entE; rw [hp]
    rw [hent]
    simp [L23_0, R23_3, R23_9, f1, f3, f5, f8, f9, ha, Ix.cells]
    rw [← hpl] at ho
    refine CalV.frz (encode65 l hsl' (by omega)) (by simp [Flat, FlatL]) (.cons _ _ _ _ (ho.frz (FrzL.pure (VL_pure l))) .nil) ?_
    by_cases he : (encE l).2 = 0
    · generalize hk : (encE l).1 = kb at *
      obtain ⟨a1, ha1, q1⟩ : ∃ a : Nat, a = page / 16777216 ∧ cBin .quo (.int .u32 (page : Int)) (.int .u32 16777216) = .val (.int .u32 (a : Int)) := ⟨_, rfl, quo32 page 16777216 hpg (by omega)⟩
      obtain ⟨a2, ha2, q2⟩ : ∃ a : Nat, a = page / 65536 ∧ cBin .quo (.int .u32 (page : Int)) (.int .u32 65536) = .val (.int .u32 (a : Int)) := ⟨_, rfl, quo32 page 65536 hpg (by omega)⟩
      obtain ⟨a3, ha3, q3⟩ : ∃ a : Nat, a = page / 256 ∧ cBin .quo (.int .u32 (page : Int)) (.int .u32 256) = .val (.int .u32 (a : Int)) := ⟨_, rfl, quo32 page 256 hpg (by omega)⟩
      obtain ⟨c2, hc2, r2⟩ : ∃ c : Nat, c = a2 % 256 ∧ cBin .rem (.int .u32 (a2 : Int)) (.int .u32 256) = .val (.int .u32 (c : Int)) := ⟨_, rfl, rem32 a2 256 (by omega) (by omega)⟩
      obtain ⟨c3, hc3, r3⟩ : ∃ c : Nat, c = a3 % 256 ∧ cBin .rem (.int .u32 (a3 : Int)) (.int .u32 256) = .val (.int .u32 (c : Int)) := ⟨_, rfl, rem32 a3 256 (by omega) (by omega)⟩
      obtain ⟨c4, hc4, r4⟩ : ∃ c : Nat, c = page % 256 ∧ cBin .rem (.int .u32 (page : Int)) (.int .u32 256) = .val (.int .u32 (c : Int)) := ⟨_, rfl, rem32 page 256 hpg (by omega)⟩
      obtain ⟨c5, hc5, s1⟩ : ∃ c : Nat, c = slot / 256 ∧ cBin .quo (.int .u16 (slot : Int)) (.int .u16 256) = .val (.int .u16 (c : Int)) := ⟨_, rfl, cQuoN .u16 slot 256 (by omega) (wrap_u16 _ (by omega))⟩
      obtain ⟨c6, hc6, s2⟩ : ∃ c : Nat, c = slot % 256 ∧ cBin .rem (.int .u16 (slot : Int)) (.int .u16 256) = .val (.int .u16 (c : Int)) := ⟨_, rfl, cRemN .u16 slot 256 (by omega) (wrap_u16 _ (by omega))⟩
      have l8 : ∀ (k : IntKind) (a : Nat), a < 256 → cToInt .u8 (.int k (a : Int)) = .val (.int .u8 (a : Int)) := fun k a h => by
        obtain ⟨b, h1, h2⟩ := low8 k a
        have : b = a := by omega
        rw [h2, this]
      have t1 := l8 .u32 a1 (by omega)
      have t2 := l8 .u32 c2 (by omega)
      have t3 := l8 .u32 c3 (by omega)
      have t4 := l8 .u32 c4 (by omega)
      have t5 := l8 .u16 c5 (by omega)
      have t6 := l8 .u16 c6 (by omega)
      have e6 : rep [AV.int .u8 0] 6 = [.int .u8 0, .int .u8 0, .int .u8 0, .int .u8 0, .int .u8 0, .int .u8 0] := rfl
      have hbs : ∀ H n, cB2s (.sl n 0 6 1) ((H : Hp).put n (some (.cells 6 [] [.int .u8 (a1 : Int), .int .u8 (c2 : Int), .int .u8 (c3 : Int), .int .u8 (c4 : Int), .int .u8 (c5 : Int), .int .u8 (c6 : Int)] .nil))) = .val (.str [a1, c2, c3, c4, c5, c6]) := by
        intro H n
        refine OwnS.b2s (n := n + 1) (len := 6) ⟨rfl, .inr ⟨n, _, rfl, by omega, by simp; rfl, .list rfl⟩⟩ ?_
        intro c hc
        simp at hc
        omega
      have e4 : beN 4 page ++ [slot / 256, slot % 256] = [a1, c2, c3, c4, c5, c6] := by
        have g1 : page / 16777216 % 256 = a1 := by omega
        have g2 : page / 65536 % 256 = c2 := by omega
        have g3 : page / 256 % 256 = c3 := by omega
        rw [be4, g1, g2, g3, hc4, hc5, hc6]; rfl
      have hs16 : cToInt .u16 (.int .i64 (slot : Int)) = .val (.int .u16 (slot : Int)) := by rw [cToInt_int, wrap_u16 slot hsl]
      have hcat : cAdd (.str kb) (.str [a1, c2, c3, c4, c5, c6]) = .val (.str (kb ++ [a1, c2, c3, c4, c5, c6])) := cAdd_str (by simp; unfold big; omega)
      simp [R23_10, R23_12, R23_13, R23_14, f5, he, hb, hs16, hcat, q1, q2, q3, r2, r3, r4, s1, s2, t1, t2, t3, t4, t5, t6, e6, hbs, e4, -cBin_quo, -cBin_rem]
      exact .pure _ (by simp)
    · simp [R23_10, R23_11, he]
      exact .pure _ (by simp)
end Go.Abs
