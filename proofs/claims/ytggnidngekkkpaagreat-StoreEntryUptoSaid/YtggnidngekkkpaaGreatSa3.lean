/- The document's One, keys.Encode, the document's Encode: what they come to. -/
import Derived.Test.YtggnidngekkkpaaGreatSa2
namespace Go.Abs
open Go.Proofs
set_option maxRecDepth 100000

theorem cAdd_str {a b : List Nat} (h : a.length + b.length ≤ big) : cAdd (.str a) (.str b) = .val (.str (a ++ b)) := by simp [cAdd, lenAcc_zero, h]
/-- eight bytes, laid from behind -/
def stl (u : Nat) : Nat → List Nat
  | 0 => [4, 0, 0, 0, 0, 0, 0, 0, 0]
  | j + 1 => (stl u j).set (8 - j) (u / 256 ^ j % 256)
theorem stl_len (u j : Nat) : (stl u j).length = 9 := by
  induction j with
  | zero => rfl
  | succ j ih => simp [stl, ih]
theorem stl_8 (u : Nat) : stl u 8 = 4 :: beN 8 u := by
  simp [stl, beN, List.range_succ_eq_map]
theorem patch_set (bs : List AV) (o : Nat) (v : AV) (h : o < bs.length) : patch bs o [v] = some (bs.set o v) := by
  induction bs generalizing o with
  | nil => simp at h
  | cons b r ih =>
    cases o with
    | zero => simp
    | succ o => simp [ih o (by simpa using h)]
theorem u8s_set (l : List Nat) (i c : Nat) : (u8s l).set i (.int .u8 (c : Int)) = u8s (l.set i c) := by
  simp only [u8s]
  rw [List.map_set]
  rfl
theorem up_wrap (q : Nat) : u64 ((q + 9223372036854775808 : Nat) : Int) = (q + 9223372036854775808) % 18446744073709551616 := by
  unfold u64; omega
theorem up_add (v : Val) : cBin .add (.int .u64 (u64 v.n : Int)) (.int .u64 9223372036854775808) = .val (.int .u64 (v.up : Int)) := by
  rw [cBin_add, cAdd_int]
  unfold Val.up
  generalize u64 v.n = q
  rw [show ((q : Int) + 9223372036854775808) = ((q + 9223372036854775808 : Nat) : Int) by omega, wrap_u64, up_wrap]

theorem one155 (v : Val) (hv : v.may = true) (hs : ∀ c ∈ v.s, c < 256) : FnPure Tryz.prog 155 [v.av] (.str v.enc) := by
  have hlt := Val.enc_lt hv hs
  refine pureV c155 (by simp) (by simp) (by simp [A155]) fun F hF => ?_
  obtain ⟨k, N, s⟩ := v
  by_cases h0 : k = 0
  · subst h0
    simp [A155, B155, R155_0, R155_1, R155_2, hF, Val.av, Val.cells, Val.enc]
    exact .pure _ (by simp)
  by_cases h3 : k = 3
  · subst h3
    simp [Val.may] at hv
    obtain ⟨rfl, hn⟩ := hv
    rcases hn with rfl | rfl
    · simp [A155, B155, R155_0, R155_1, R155_3, R155_4, hF, Val.av, Val.cells, Val.enc]
      exact .pure _ (by simp)
    · simp [A155, B155, R155_0, R155_1, R155_3, R155_5, R155_6, hF, Val.av, Val.cells, Val.enc]
      exact .pure _ (by simp)
  by_cases h1 : k = 1
  · subst h1
    have hu := up_add ⟨1, N, s⟩
    dsimp only at hu
    have e9 : rep [AV.int .u8 0] 9 = u8s [0, 0, 0, 0, 0, 0, 0, 0, 0] := rfl
    have e9' : u8s [0, 0, 0, 0, 0, 0, 0, 0, 0] = [AV.int .u8 0, .int .u8 0, .int .u8 0, .int .u8 0, .int .u8 0, .int .u8 0, .int .u8 0, .int .u8 0, .int .u8 0] := rfl
    rw [cBin_add] at hu
    simp [A155, B155, R155_0, R155_1, R155_3, R155_5, R155_7, R155_8, R155_9, R155_10, hF, Val.av, Val.cells, cToInt_int, wrap_u64, hu, e9, e9', -cAdd_int]
    have hen : Val.enc ⟨1, N, s⟩ = 4 :: beN 8 (Val.up ⟨1, N, s⟩) := by simp [Val.enc]
    rw [hen] at hlt ⊢
    have hup : Val.up ⟨1, N, s⟩ < 18446744073709551616 := by unfold Val.up; omega
    generalize Val.up ⟨1, N, s⟩ = u at *
    refine LoopV.of (fun k F H' n' ms => ∃ j, k = 8 - j ∧ j ≤ 8 ∧ F.get 4 = some (.sl 1 0 9 1) ∧ F.get 3 = some (.int .u64 ((u / 256 ^ j : Nat) : Int)) ∧ F.get 5 = some (.int .i64 (8 - (j : Int))) ∧
      H'.get 1 = some (.cells 9 [] (u8s (stl u j)) .nil) ∧ n' = 2 ∧ ms = []) 8 ⟨0, rfl, by omega, by simp, by simp, by simp, by simp; rfl, rfl, rfl⟩ ?_
    rintro k F H' n' ms ⟨j, rfl, hj, f4, f3, f5, hb, rfl, rfl⟩
    obtain ⟨d0, hd0⟩ : ∃ d : Int, d = 8 - (j : Int) := ⟨_, rfl⟩
    rw [← hd0] at f5
    by_cases hjl : j < 8
    · have hc : (0 : Int) < d0 := by omega
      have hx : cIxa 1 (.sl 1 0 9 1) (.int .i64 d0) = .val (.ptr 1 (8 - j)) := by
        have := cIxa_sl (b := 1) (o := 0) (len := 9) (sz := 1) (i := 8 - j) (k := .i64) (by omega)
        rw [show ((8 - j : Nat) : Int) = d0 by omega] at this
        simpa using this
      obtain ⟨q, hq⟩ : ∃ q : Nat, q = u / 256 ^ j := ⟨_, rfl⟩
      rw [← hq] at f3
      obtain ⟨r, hrq, hr⟩ : ∃ r : Nat, r = q % 256 ∧ cBin .rem (.int .u64 (q : Int)) (.int .u64 256) = .val (.int .u64 (r : Int)) := ⟨_, rfl, cRemN .u64 _ 256 (by omega) (by rw [wrap_u64]; unfold u64; omega)⟩
      have hle : q ≤ u := by rw [hq]; exact Nat.div_le_self _ _
      obtain ⟨q', hq', hd⟩ : ∃ q' : Nat, q' = u / 256 ^ (j + 1) ∧ cBin .quo (.int .u64 (q : Int)) (.int .u64 256) = .val (.int .u64 (q' : Int)) := by
        have e : q / 256 = u / 256 ^ (j + 1) := by rw [hq, Nat.div_div_eq_div_mul, Nat.pow_succ]
        refine ⟨_, rfl, ?_⟩
        rw [← e]
        exact cQuoN .u64 q 256 (by omega) (by rw [wrap_u64]; unfold u64; omega)
      have hto : cToInt .u8 (.int .u64 (r : Int)) = .val (.int .u8 (r : Int)) := by
        obtain ⟨b, h1, h2⟩ := low8 .u64 r
        have : b = r := by omega
        rw [h2, this]
      have hw : IntKind.i64.wrap (d0 - 1) = 8 - ((j + 1 : Nat) : Int) := by
        rw [show d0 - 1 = 8 - ((j + 1 : Nat) : Int) by omega]; simp [IntKind.wrap, IntKind.signed, IntKind.bits]; omega
      have hp : patch (u8s (stl u j)) (8 - j) [.int .u8 (r : Int)] = some (u8s (stl u (j + 1))) := by
        rw [patch_set _ _ _ (by simp [u8s, stl_len]; omega), u8s_set, show stl u (j + 1) = (stl u j).set (8 - j) r by simp [stl, hrq, hq]]
      obtain ⟨d, hd'⟩ : ∃ d, stl u (j + 1) = d := ⟨_, rfl⟩
      rw [hd'] at hp
      simp [L155_0, R155_11, R155_12, R155_13, R155_14, f3, f4, f5, hc, hx, hr, hd, hto, hb, hp, hw, stl_len, show ¬ 9 < 8 - j + 1 by omega, show 8 - j + 1 ≤ 9 by omega, -cBin_rem, -cBin_quo]
      exact ⟨8 - (j + 1), by omega, j + 1, rfl, by omega, by rw [hq']; simp, by simp, by rw [hd']⟩
    · have hj8 : j = 8 := by omega
      subst hj8
      have hc : ¬ (0 : Int) < d0 := by omega
      rw [stl_8] at hb
      have ho : OwnS H' 2 (.sl 1 0 9 1) (u8s (4 :: beN 8 u)) 9 1 := ⟨by simp, .inr ⟨1, _, rfl, by omega, hb, .list (by simp)⟩⟩
      simp [L155_0, R155_11, R155_15, f3, f4, f5, hc, ho.b2s hlt]
      exact .pure _ (by simp)
  by_cases h2 : k = 2
  · subst h2
    have hen : Val.enc ⟨2, N, s⟩ = 5 :: (esc s ++ [0, 1]) := by simp [Val.enc]
    rw [hen] at hlt ⊢
    simp [Val.may] at hv
    obtain ⟨rfl, hl64⟩ := hv
    simp [A155, B155, R155_0, R155_1, R155_3, R155_5, R155_7, R155_16, R155_17, hF, Val.av, Val.cells]
    have g0 : Gr (((Tr.nil : Hp).put 0 (some (.cells 3 [] [.int .i64 2, .int .i64 0, .str s] .nil))).put 1 (some (.cells 1 [] [.int .u8 5] .nil))) 2 (.sl 1 0 1 1) 1 1 (((Tr.nil : Hp).put 0 (some (.cells 3 [] [.int .i64 2, .int .i64 0, .str s] .nil))).put 1 (some (.cells 1 [] [.int .u8 5] .nil))) 2 (.sl 1 0 1 1) (u8s [5]) 1 :=
      Gr.refl ⟨rfl, .inr ⟨1, _, rfl, by omega, by simp; rfl, .list rfl⟩⟩
    have box : ∀ {H' n' u l' len'}, Gr (((Tr.nil : Hp).put 0 (some (.cells 3 [] [.int .i64 2, .int .i64 0, .str s] .nil))).put 1 (some (.cells 1 [] [.int .u8 5] .nil))) 2 (.sl 1 0 1 1) 1 1 H' n' u l' len' → H'.get 0 = some (.cells 3 [] [.int .i64 2, .int .i64 0, .str s] .nil) := fun g => by
      rw [g.keep 0 (by omega) (by simp)]; simp
    refine LoopV.of (fun k F H' n' ms => ∃ i x', k = s.length - i ∧ i ≤ s.length ∧ F.get 6 = some x' ∧ F.get 1 = some (.ptr 0 0) ∧ F.get 7 = some (.int .i64 (i : Int)) ∧
      Gr (((Tr.nil : Hp).put 0 (some (.cells 3 [] [.int .i64 2, .int .i64 0, .str s] .nil))).put 1 (some (.cells 1 [] [.int .u8 5] .nil))) 2 (.sl 1 0 1 1) 1 1 H' n' x' (u8s (5 :: esc (s.take i))) (1 + (esc (s.take i)).length) ∧ ms = []) s.length ⟨0, _, by simp, by omega, by simp; rfl, by simp, by simp, by simpa [esc] using g0, rfl⟩ ?_
    rintro k F H' n' ms ⟨i, x', rfl, hi, f6, f1, f7, g, rfl⟩
    have hle := esc_len (s.take i)
    have hle' : (esc (s.take i)).length ≤ 128 := by simp at hle; omega
    by_cases hil : i < s.length
    · have hx := cIxs_at (k := .i64) hil
      simp [L155_1, R155_18, R155_19, f6, f1, f7, hil, box g, show ¬ 0 = n' by have := g.le; omega, hx]
      refine (g.more (by omega) fun c hc => by simp [show ¬ c = n' by omega]).app (k := 1) (new := [.int .u8 (s[i] : Int)]) (by simp) rfl (by omega) (by omega) (by unfold big; omega) (by omega) (by simp) fun H2 g2 => ?_
      have ht : s.take (i + 1) = s.take i ++ [s[i]] := List.take_succ_eq_append_getElem hil
      simp [R155_20, f1, f7, box g2, hx]
      by_cases hz : s[i] = 0
      · simp [hz, R155_21]
        refine (g2.more (by omega) fun c hc => by simp [show ¬ c = n' + 1 + 1 by omega]).app (k := 1) (new := [.int .u8 255]) (by simp) rfl (by omega) (by omega) (by unfold big; omega) (by omega) (by simp) fun H3 g3 => ?_
        simp [R155_22, f1, f7, wrap_nat i (by omega)]
        refine ⟨s.length - (i + 1), by omega, i + 1, rfl, by omega, rfl, ?_⟩
        rw [ht, esc_snoc, if_pos hz]
        have e : 5 :: (esc (s.take i) ++ [0, 255]) = ((5 :: esc (s.take i)) ++ [0]) ++ [255] := by simp
        rw [e, u8s_append, u8s_append]
        rw [hz] at g3
        simpa [Nat.add_assoc, u8s_cons, u8s_nil] using g3
      · simp [hz, R155_22, f1, f7, wrap_nat i (by omega)]
        refine ⟨s.length - (i + 1), by omega, i + 1, rfl, by omega, rfl, ?_⟩
        rw [ht, esc_snoc, if_neg hz]
        have e : 5 :: (esc (s.take i) ++ [s[i]]) = (5 :: esc (s.take i)) ++ [s[i]] := by simp
        rw [e, u8s_append]
        simpa [Nat.add_assoc, u8s_cons, u8s_nil] using g2
    · have hi' : i = s.length := by omega
      subst hi'
      rw [List.take_length] at g hle'
      simp [L155_1, R155_18, f6, f1, f7, box g, R155_23, rep2]
      refine (g.more (by omega) fun c hc => by simp [show ¬ c = n' by omega]).app (k := 2) (new := [.int .u8 0, .int .u8 1]) (by simp) rfl (by omega) (by omega) (by unfold big; omega) (by omega) (by simp) fun H2 g2 => ?_
      have e : 5 :: (esc s ++ [0, 1]) = (5 :: esc s) ++ [0, 1] := by simp
      have ho : OwnS H2 (n' + 1 + 1) (.sl (n' + 1) 0 (1 + (esc s).length + 2) 1) (u8s (5 :: (esc s ++ [0, 1]))) (1 + (esc s).length + 2) 1 := by
        rw [e, u8s_append]; exact g2.own
      simp [ho.b2s hlt]
      exact .pure _ (by simp)
  · exfalso
    simp [Val.may, h0, h1, h2, h3] at hv

theorem encE_16 {l : List Val} (h : 16 < l.length) : encE l = ([], 1) := by unfold encE; rw [if_pos h]
theorem encE_5 {l : List Val} (h : ¬ 16 < l.length) (k : l.all Val.may = false) : encE l = ([], 5) := by unfold encE; rw [if_neg h, if_pos k]
theorem encE_51 {l : List Val} (h : ¬ 16 < l.length) (k : l.all Val.may = true) (j : 140 < (enc l).length) : encE l = ([], 51) := by unfold encE; rw [if_neg h, if_neg (by simp [k]), if_pos j]
theorem encE_ok {l : List Val} (h : ¬ 16 < l.length) (k : l.all Val.may = true) (j : ¬ 140 < (enc l).length) : encE l = (enc l, 0) := by unfold encE; rw [if_neg h, if_neg (by simp [k]), if_neg j]
theorem encode60 (l : List Val) (hs : ∀ v ∈ l, ∀ c ∈ v.s, c < 256) (hl : l.length ≤ 1048576) : FnPure Tryz.prog 60 [.ds (VL l) l.length 3] (.tup [.str (encE l).1, .int .i64 (encE l).2]) := by
  refine pureV c60 (by simp) (by simp) (by simp [A60]) fun F hF => ?_
  by_cases h16 : 16 < l.length
  · have h16' : (16 : Int) < (l.length : Int) := by omega
    rw [encE_16 h16]
    simp [h16', A60, B60, R60_0, R60_1, R60_2, hF]
    exact .pure _ (by simp)
  have h16' : ¬ (16 : Int) < (l.length : Int) := by omega
  simp [h16', A60, B60, R60_0, R60_1, R60_3, R60_4, hF]
  refine LoopV.of (fun k F H n m_ => ∃ i x, k = l.length - i ∧ i ≤ l.length ∧ F.get 4 = some x ∧ F.get 10 = some (.ds (VL l) l.length 3) ∧ F.get 11 = some (.int .i64 (l.length : Int)) ∧ F.get 12 = some (.int .i64 (i : Int)) ∧
    OwnS H n x (u8s (enc (l.take i))) (enc (l.take i)).length 1 ∧ (∀ v ∈ l.take i, v.may = true) ∧ m_ = []) l.length ⟨0, _, rfl, by omega, by simp, by simp, by simp, by simp, OwnS.nil _ _ _, by simp, rfl⟩ ?_
  rintro k F H n m_ ⟨i, x, rfl, hi, f4, f10, f11, f12, ho, hm, rfl⟩
  by_cases hlt : i < l.length
  · have hx : cIxa 3 (.ds (VL l) l.length 3) (.int .i64 (i : Int)) = .val (.dp (l[i].cells ++ VL (l.drop (i + 1)))) := by rw [cIxa_ds hlt, VL_drop l i hlt]
    have hL : cLoadN 3 (.dp (l[i].cells ++ VL (l.drop (i + 1)))) H = .val (.agg l[i].cells 3) := cLoadN_dp _ (by simp)
    have hp : patch [AV.int .i64 0, .int .i64 0, .str []] 0 l[i].cells = some l[i].cells := patch_all (by simp)
    have ht : l.take (i + 1) = l.take i ++ [l[i]] := List.take_succ_eq_append_getElem hlt
    have hone : allOne l[i].cells = true := by simp [Val.cells]
    simp [L60_0, R60_5, R60_6, R60_7, f4, f10, f11, f12, hlt, hx, hL, hp, hone]
    refine CalV.pure (may145 l[i]) ?_
    by_cases hmay : l[i].may = true
    · simp [hmay, R60_9, f4]
      have hb := enc_len hm
      have hbl : (l.take i).length ≤ 16 := by simp; omega
      refine CalV.of (put146 l[i] hmay (ho.more (by omega) fun c hc => by simp [show ¬ c = n by omega]) (by omega)) fun u H' n' g => ?_
      simp [R60_10, f10, f11, f12, wrap_nat i (by omega)]
      refine ⟨l.length - (i + 1), by omega, i + 1, rfl, by omega, rfl, ?_, ?_⟩
      · rw [ht, enc_append]
        have := g.own
        simpa [enc] using this
      · rw [ht]
        intro v hv
        rw [List.mem_append, List.mem_singleton] at hv
        rcases hv with hv | hv
        · exact hm v hv
        · rw [hv]; exact hmay
    · have hf : l[i].may = false := by simpa using hmay
      have hall : l.all Val.may = false := by
        rw [List.all_eq_false]
        exact ⟨l[i], List.getElem_mem hlt, by simpa using hf⟩
      rw [encE_5 h16 hall]
      simp [hf, R60_8]
      exact .pure _ (by simp)
  · have hi' : i = l.length := by omega
    subst hi'
    rw [List.take_length] at ho hm
    have hall : l.all Val.may = true := by rw [List.all_eq_true]; exact hm
    have hlt := enc_lt hm hs
    by_cases h140 : 140 < (enc l).length
    · have h140' : (140 : Int) < ((enc l).length : Int) := by omega
      rw [encE_51 h16 hall h140]
      simp [h140', L60_0, R60_5, R60_11, R60_12, f4, f10, f11, f12, ho.lenL]
      exact .pure _ (by simp)
    · have h140' : ¬ (140 : Int) < ((enc l).length : Int) := by omega
      rw [encE_ok h16 hall h140]
      simp [h140', L60_0, R60_5, R60_11, R60_13, f4, f10, f11, f12, ho.lenL, ho.b2s hlt]
      exact .pure _ (by simp)

theorem encode65 (l : List Val) (hs : ∀ v ∈ l, ∀ c ∈ v.s, c < 256) (hl : l.length ≤ 1048576) : FnPure Tryz.prog 65 [.ds (VL l) l.length 3] (.tup [.str (encE l).1, .int .i64 (encE l).2]) := by
  refine pureV c65 (by simp) (by simp) (by simp [A65]) fun F hF => ?_
  by_cases h16 : 16 < l.length
  · have h16' : (16 : Int) < (l.length : Int) := by omega
    rw [encE_16 h16]
    simp [h16', A65, B65, R65_0, R65_1, R65_2, hF]
    exact .pure _ (by simp)
  have h16' : ¬ (16 : Int) < (l.length : Int) := by omega
  simp [h16', A65, B65, R65_0, R65_1, R65_3, R65_4, hF]
  refine LoopV.of (fun k F H n m_ => ∃ i, k = l.length - i ∧ i ≤ l.length ∧ F.get 4 = some (.str (enc (l.take i))) ∧ F.get 0 = some (.ds (VL l) l.length 3) ∧ F.get 5 = some (.int .i64 (i : Int)) ∧
    (∀ v ∈ l.take i, v.may = true) ∧ m_ = []) l.length ⟨0, rfl, by omega, by simp; rfl, by simp [hF], by simp, by simp, rfl⟩ ?_
  rintro k F H n m_ ⟨i, rfl, hi, f4, f0, f5, hm, rfl⟩
  by_cases hlt : i < l.length
  · have hx : cIxa 3 (.ds (VL l) l.length 3) (.int .i64 (i : Int)) = .val (.dp (l[i].cells ++ VL (l.drop (i + 1)))) := by rw [cIxa_ds hlt, VL_drop l i hlt]
    have hL : ∀ H, cLoadN 3 (.dp (l[i].cells ++ VL (l.drop (i + 1)))) H = .val (.agg l[i].cells 3) := fun H => cLoadN_dp _ (by simp)
    have ht : l.take (i + 1) = l.take i ++ [l[i]] := List.take_succ_eq_append_getElem hlt
    simp [L65_0, R65_5, R65_6, f4, f0, f5, hlt, hx, hL]
    refine CalV.pure (may154 l[i]) ?_
    by_cases hmay : l[i].may = true
    · simp [hmay, R65_8, f4, f0, f5, hx, hL]
      refine CalV.pure (one155 l[i] hmay (hs _ (List.getElem_mem hlt))) ?_
      have hcat : cAdd (.str (enc (l.take i))) (.str l[i].enc) = .val (.str (enc (l.take i) ++ l[i].enc)) := cAdd_str (by
        have h1 := enc_len hm
        have h2 := Val.enc_len hmay
        have h3 : (l.take i).length ≤ 16 := by simp; omega
        unfold big; omega)
      simp [R65_9, f4, f0, f5, hcat, wrap_nat i (by omega)]
      refine ⟨l.length - (i + 1), by omega, i + 1, rfl, by omega, ?_, rfl, ?_⟩
      · rw [ht, enc_append]; simp [enc]
      · rw [ht]
        intro v hv
        rw [List.mem_append, List.mem_singleton] at hv
        rcases hv with hv | hv
        · exact hm v hv
        · rw [hv]; exact hmay
    · have hf : l[i].may = false := by simpa using hmay
      have hall : l.all Val.may = false := by
        rw [List.all_eq_false]
        exact ⟨l[i], List.getElem_mem hlt, by simpa using hf⟩
      rw [encE_5 h16 hall]
      simp [hf, R65_7]
      exact .pure _ (by simp)
  · have hi' : i = l.length := by omega
    subst hi'
    rw [List.take_length] at f4 hm
    have hall : l.all Val.may = true := by rw [List.all_eq_true]; exact hm
    by_cases h140 : 140 < (enc l).length
    · have h140' : (140 : Int) < ((enc l).length : Int) := by omega
      rw [encE_51 h16 hall h140]
      simp [h140', L65_0, R65_5, R65_10, R65_11, f4, f0, f5]
      exact .pure _ (by simp)
    · have h140' : ¬ (140 : Int) < ((enc l).length : Int) := by omega
      rw [encE_ok h16 hall h140]
      simp [h140', L65_0, R65_5, R65_10, R65_12, f4, f0, f5]
      exact .pure _ (by simp)
end Go.Abs
