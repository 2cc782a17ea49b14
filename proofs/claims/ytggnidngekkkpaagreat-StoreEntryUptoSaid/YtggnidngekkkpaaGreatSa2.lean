/- keys.put, the document's One, value.May, the document's May: what they come to. -/
import Derived.Test.YtggnidngekkkpaaGreatStC
import Derived.Test.YtggnidngekkkpaaGreatSa1
namespace Go.Abs
open Go.Proofs
set_option maxRecDepth 100000

/-- a slice of one's own that has grown, and what of the heap is as it was -/
structure Gr (H : Hp) (n : Nat) (x : AV) (len sz : Nat) (H' : Hp) (n' : Nat) (x' : AV) (l' : List AV) (len' : Nat) : Prop where
  le : n ≤ n'
  own : OwnS H' n' x' l' len' sz
  keep : ∀ c, c < n → x ≠ .sl c 0 len sz → H'.get c = H.get c
  src : ∀ c, c < n → x' = .sl c 0 len' sz → x = .sl c 0 len sz
section
variable {P : Program} {F : Fr} {H H' H'' : Hp} {n n' n'' : Nat} {m : List Dm} {Q : QA} {x x' : AV} {len len' sz : Nat} {l l' : List AV}
theorem OwnS.more (h : OwnS H n x l len sz) (hn : n ≤ n') (hk : ∀ c, c < n → H'.get c = H.get c) : OwnS H' n' x l len sz := by
  obtain ⟨h0, h | ⟨b, k, rfl, hb, hg, ho⟩⟩ := h
  · exact ⟨h0, .inl h⟩
  · exact ⟨h0, .inr ⟨b, k, rfl, by omega, by rw [hk b hb]; exact hg, ho⟩⟩
theorem Gr.refl (h : OwnS H n x l len sz) : Gr H n x len sz H n x l len := ⟨Nat.le_refl _, h, fun _ _ _ => rfl, fun _ _ h => h⟩
theorem Gr.more (h : Gr H n x len sz H' n' x' l' len') (hn : n' ≤ n'') (hk : ∀ c, c < n' → H''.get c = H'.get c) : Gr H n x len sz H'' n'' x' l' len' :=
  ⟨Nat.le_trans h.le hn, h.own.more hn hk, fun c hc hx => (hk c (Nat.lt_of_lt_of_le hc h.le)).trans (h.keep c hc hx), h.src⟩
/-- append of a slice literal -/
theorem Gr.app {new : List AV} {by_ k mb : Nat} {pd : Pd} {r : List (Option GO)} (h : Gr H n x len sz H' n' x' l' len') (hm : H'.get mb = some (.cells (k * sz) [] new .nil)) (hn : new.length = k * sz)
    (hs : 0 < sz) (hk0 : 0 < k) (hbig : len' + k ≤ big) (hby : by_ ≤ 4096) (h1 : allOne new = true)
    (hgo : ∀ H'', Gr H n x len sz H'' (n' + 1) (.sl n' 0 (len' + k) sz) (l' ++ new) (len' + k) → VCO P r (pd.f (.sl n' 0 (len' + k) sz) F) H'' (n' + 1) m Q) : OpV (Go.Abs.cApp sz by_ n' x' (.sl mb 0 k sz) H') pd r P F H' n' m Q := by
  refine OwnS.app h.own (new := new) (k := k) ?_ rfl hn hs hk0 hbig hby h1 fun H'' ho hk => hgo H'' ⟨by have := h.le; omega, ho, fun c hc hx => ?_, fun c hc e => ?_⟩
  · rw [sliceCells_sl hm (OwnB.list hn.symm) (by omega)]
    rw [List.drop_zero, List.take_of_length_le (by omega)]
  · rw [hk c (Nat.lt_of_lt_of_le hc h.le) fun e => hx (h.src c hc e)]
    exact h.keep c hc hx
  · injection e with e _ _ _
    have := h.le
    omega
theorem Gr.base (h : Gr H' n' x len sz H'' n'' x' l' len') (hn : n ≤ n') (hk : ∀ c, c < n → H'.get c = H.get c) : Gr H n x len sz H'' n'' x' l' len' :=
  ⟨Nat.le_trans hn h.le, h.own, fun c hc hx => (h.keep c (by omega) hx).trans (hk c hc), fun c hc e => h.src c (by omega) e⟩
theorem OwnS.ne (h : OwnS H n x l len sz) {c : Nat} (hc : n ≤ c) : x ≠ .sl c 0 len sz := by
  obtain ⟨_, ⟨rfl, _⟩ | ⟨b, k, rfl, hb, _⟩⟩ := h
  · simp
  · simp; omega
end

theorem rep2 : rep [AV.int .u8 0] 2 = [AV.int .u8 0, .int .u8 0] := rfl
theorem dec64 (n : Nat) : decide ((n : Int) ≤ 64) = decide (n ≤ 64) := decide_eq_decide.2 (by omega)
theorem u8s_cons (c : Nat) (l : List Nat) : u8s (c :: l) = .int .u8 (c : Int) :: u8s l := rfl
theorem u8s_nil : u8s [] = [] := rfl
theorem low8 (k : IntKind) (q : Nat) : ∃ b : Nat, b = q % 256 ∧ cToInt .u8 (.int k (q : Int)) = .val (.int .u8 (b : Int)) := ⟨_, rfl, by rw [cToInt_int, wrap_u8]⟩
theorem may145 (v : Val) : FnPure Tryz.prog 145 [v.av] (.bool v.may) := by
  refine pureV c145 (by simp) (by simp) (by simp [A145]) fun F hF => ?_
  obtain ⟨k, n, s⟩ := v
  unfold Val.may
  dsimp only
  by_cases h0 : k = 0
  · subst h0
    simp [A145, B145, R145_0, R145_1, R145_2, R145_3, hF, Val.av, Val.cells]
    exact .pure _ (by simp)
  by_cases h1 : k = 1
  · subst h1
    simp [A145, B145, R145_0, R145_1, R145_2, R145_4, R145_5, hF, Val.av, Val.cells]
    exact .pure _ (by simp)
  by_cases h2 : k = 2
  · subst h2
    simp [A145, B145, R145_0, R145_1, R145_2, R145_4, R145_6, R145_7, hF, Val.av, Val.cells]
    by_cases hn : n = 0
    · simp [hn, dec64]; exact .pure _ (by simp)
    · simp [hn]; exact .pure _ (by simp)
  by_cases h3 : k = 3
  · subst h3
    simp [A145, B145, R145_0, R145_1, R145_2, R145_4, R145_6, R145_8, R145_9, hF, Val.av, Val.cells]
    by_cases hs : s = []
    · by_cases hn : n = 0
      · simp [hn, hs]; exact .pure _ (by simp)
      · simp [hn, hs]; exact .pure _ (by simp)
    · simp [hs]; exact .pure _ (by simp)
  simp [A145, B145, R145_0, R145_1, R145_2, R145_4, R145_6, R145_8, R145_10, hF, Val.av, Val.cells, h0, h1, h2, h3]
  exact .pure _ (by simp)
theorem may154 (v : Val) : FnPure Tryz.prog 154 [v.av] (.bool v.may) := by
  refine pureV c154 (by simp) (by simp) (by simp [A154]) fun F hF => ?_
  obtain ⟨k, n, s⟩ := v
  unfold Val.may
  dsimp only
  by_cases h0 : k = 0
  · subst h0
    simp [A154, B154, R154_0, R154_1, R154_2, hF, Val.av, Val.cells]
    by_cases hn : n = 0
    · simp [hn]; exact .pure _ (by simp)
    · simp [hn]; exact .pure _ (by simp)
  by_cases h1 : k = 1
  · subst h1
    simp [A154, B154, R154_0, R154_1, R154_3, R154_4, hF, Val.av, Val.cells]
    exact .pure _ (by simp)
  by_cases h2 : k = 2
  · subst h2
    simp [A154, B154, R154_0, R154_1, R154_3, R154_5, R154_6, hF, Val.av, Val.cells]
    by_cases hn : n = 0
    · simp [hn, dec64]; exact .pure _ (by simp)
    · simp [hn]; exact .pure _ (by simp)
  simp [A154, B154, R154_0, R154_1, R154_3, R154_5, R154_7, hF, Val.av, Val.cells, h0, h1, h2]
  by_cases h3 : k = 3
  · by_cases hs : s = []
    · by_cases hn : 0 ≤ n
      · have e : (decide (n ≤ 1)) = (decide (n = 0) || decide (n = 1)) := by
          by_cases e0 : n = 0
          · simp [e0]
          · by_cases e1 : n = 1
            · simp [e1]
            · simp [e0, e1]; omega
        simp [h3, hs, hn, e]; exact .pure _ (by simp)
      · have e0 : ¬ n = 0 := by omega
        have e1 : ¬ n = 1 := by omega
        simp [h3, hs, hn, e0, e1]; exact .pure _ (by simp)
    · simp [h3, hs]; exact .pure _ (by simp)
  · simp [h3]; exact .pure _ (by simp)


/-- the numbers 56, 48 .. 0 that a loop goes through -/
theorem shr64 (u j : Nat) (h : j < 8) : cBin .shr (.int .u64 (u : Int)) (.int .i64 (56 - 8 * (j : Int))) = .val (.int .u64 ((u / 2 ^ (8 * (8 - 1 - j)) : Nat) : Int)) := by
  rw [show (56 - 8 * (j : Int)) = ((8 * (8 - 1 - j) : Nat) : Int) by omega]
  exact cShrN _ _ _ _ (by show 8 * (8 - 1 - j) ≤ 64; omega)
theorem down (a : Int) (h : -100 ≤ a ∧ a ≤ 100) : IntKind.i64.wrap (a - 8) = a - 8 := by
  simp [IntKind.wrap, IntKind.signed, IntKind.bits]; omega
theorem put146 (v : Val) (hv : v.may = true) {H : Hp} {n : Nat} {x : AV} {l : List Nat} {len : Nat} (ho : OwnS H n x (u8s l) len 1) (hb : len ≤ 1000000) :
    CallR Tryz.prog 146 [x, v.av] H n (fun u H' n' => Gr H n x len 1 H' n' u (u8s (l ++ v.enc)) (len + v.enc.length)) := by
  refine CallR.of c146 (by simp [A146]) fun F hF => ?_
  obtain ⟨k, N, s⟩ := v
  -- behind the box
  have g0 : ∀ kb, Gr (H.put n (some kb)) (n + 1) x len 1 (H.put n (some kb)) (n + 1) x (u8s l) len := fun kb => Gr.refl (ho.more (by omega) fun c hc => by simp [show ¬ c = n by omega])
  have back : ∀ {kb H' n' u l' len'}, Gr (H.put n (some kb)) (n + 1) x len 1 H' n' u l' len' → Gr H n x len 1 H' n' u l' len' := fun g => g.base (by omega) fun c hc => by simp [show ¬ c = n by omega]
  have box : ∀ {kb H' n' u l' len'}, Gr (H.put n (some kb)) (n + 1) x len 1 H' n' u l' len' → H'.get n = some kb := fun g => by
    rw [g.keep n (by omega) (ho.ne (Nat.le_refl n))]; simp
  unfold Val.enc
  dsimp only
  by_cases h3 : k = 3
  · subst h3
    simp [Val.may] at hv
    have e : ∃ b : Nat, (2 + N).toNat = b ∧ cToInt .u8 (.int .i64 (IntKind.i64.wrap (2 + N))) = .val (.int .u8 (b : Int)) := by
      rcases hv.2 with h | h
      · subst h; exact ⟨2, rfl, by rw [cToInt_int]; rfl⟩
      · subst h; exact ⟨3, rfl, by rw [cToInt_int]; rfl⟩
    obtain ⟨b, e1, e2⟩ := e
    simp [A146, B146, R146_0, R146_1, R146_2, R146_3, hF, Val.av, Val.cells, e2, e1]
    refine ((g0 (.cells 3 [] [.int .i64 3, .int .i64 N, .str s] .nil)).more (by omega) fun c hc => by simp [show ¬ c = n + 1 by omega]).app (k := 1) (new := [.int .u8 (b : Int)]) (by simp) rfl (by omega) (by omega) (by unfold big; omega) (by omega) (by simp) fun H' g => ?_
    simp
    rw [u8s_append]
    exact back g
  by_cases h1 : k = 1
  · subst h1
    simp [A146, B146, R146_0, R146_1, R146_2, R146_4, R146_5, hF, Val.av, Val.cells]
    refine ((g0 (.cells 3 [] [.int .i64 1, .int .i64 N, .str s] .nil)).more (by omega) fun c hc => by simp [show ¬ c = n + 1 by omega]).app (k := 1) (new := [.int .u8 4]) (by simp) rfl (by omega) (by omega) (by unfold big; omega) (by omega) (by simp) fun H' g => ?_
    have hu : cBin .xor (.int .u64 (u64 N : Int)) (.int .u64 9223372036854775808) = .val (.int .u64 ((Val.up ⟨1, N, s⟩ : Nat) : Int)) := by
      have := cXor64 (u64 N) 9223372036854775808 (u64_lt N) (by omega)
      rw [top_xor _ (u64_lt N)] at this
      exact this
    simp [R146_6, R146_7, hF, box g, cToInt_int, wrap_u64, hu]
    generalize Val.up ⟨1, N, s⟩ = u
    refine LoopV.of (fun k F H' n' ms => ∃ j x', k = 8 - j ∧ j ≤ 8 ∧ F.get 0 = some x' ∧ F.get 5 = some (.int .u64 (u : Int)) ∧ F.get 6 = some (.int .i64 (56 - 8 * (j : Int))) ∧
      Gr (H.put n (some (.cells 3 [] [.int .i64 1, .int .i64 N, .str s] .nil))) (n + 1) x len 1 H' n' x' (u8s (l ++ 4 :: (beN 8 u).take j)) (len + 1 + j) ∧ ms = []) 8 ⟨0, _, rfl, by omega, by simp; rfl, by simp, by simp, by
        rw [u8s_append]; simpa [u8s_cons, u8s_nil] using g, rfl⟩ ?_
    rintro k F H' n' ms ⟨j, x', rfl, hj, f0, f5, f6, g, rfl⟩
    obtain ⟨d, hd⟩ : ∃ d : Int, d = 56 - 8 * (j : Int) := ⟨_, rfl⟩
    rw [← hd] at f6
    by_cases hlt : j < 8
    · have hc : (0 : Int) ≤ d := by omega
      have hw := down d (by omega)
      obtain ⟨q, hq, hsh⟩ : ∃ q : Nat, q = u / 2 ^ (8 * (8 - 1 - j)) ∧ cBin .shr (.int .u64 (u : Int)) (.int .i64 d) = .val (.int .u64 (q : Int)) := ⟨_, rfl, hd ▸ shr64 u j hlt⟩
      obtain ⟨b, hbq, hto⟩ := low8 .u64 q
      simp [L146_0, R146_8, R146_9, f0, f5, f6, hc, hsh, hto, -cBin_shr]
      refine (g.more (H'' := H'.put n' (some (.cells 1 [] [.int .u8 (b : Int)] .nil))) (n'' := n' + 1) (by omega) fun c hc => by simp [show ¬ c = n' by omega]).app (k := 1) (new := [.int .u8 (b : Int)]) (by simp) rfl (by omega) (by omega) (by unfold big; omega) (by omega) (by simp) fun H2 g2 => ?_
      simp [R146_10, f5, f6, hw]
      refine ⟨8 - (j + 1), by omega, j + 1, rfl, by omega, by omega, ?_⟩
      rw [List.take_succ_eq_append_getElem (by simpa using hlt), beN_get hlt]
      have e : l ++ 4 :: ((beN 8 u).take j ++ [u / 2 ^ (8 * (8 - 1 - j)) % 256]) = (l ++ 4 :: (beN 8 u).take j) ++ [b] := by simp [hbq, hq]
      rw [e, u8s_append]
      simpa [u8s_cons, u8s_nil, Nat.add_assoc] using g2
    · have hj8 : j = 8 := by omega
      subst hj8
      have hc : ¬ (0 : Int) ≤ d := by omega
      simp [L146_0, R146_8, R146_11, f0, f5, f6, hc]
      have := back g
      rw [List.take_of_length_le (by simp)] at this
      simpa [Nat.add_assoc] using this
  by_cases h2 : k = 2
  · subst h2
    simp [Val.may] at hv
    obtain ⟨rfl, hs⟩ := hv
    simp [A146, B146, R146_0, R146_1, R146_2, R146_4, R146_12, R146_13, hF, Val.av, Val.cells]
    refine ((g0 (.cells 3 [] [.int .i64 2, .int .i64 0, .str s] .nil)).more (by omega) fun c hc => by simp [show ¬ c = n + 1 by omega]).app (k := 1) (new := [.int .u8 5]) (by simp) rfl (by omega) (by omega) (by unfold big; omega) (by omega) (by simp) fun H' g => ?_
    simp [R146_14, hF, box g]
    refine LoopV.of (fun k F H' n' ms => ∃ i x', k = s.length - i ∧ i ≤ s.length ∧ F.get 0 = some x' ∧ F.get 3 = some (.ptr n 0) ∧ F.get 47 = some (.int .i64 (s.length : Int)) ∧ F.get 48 = some (.int .i64 (i : Int)) ∧
      Gr (H.put n (some (.cells 3 [] [.int .i64 2, .int .i64 0, .str s] .nil))) (n + 1) x len 1 H' n' x' (u8s (l ++ 5 :: esc (s.take i))) (len + 1 + (esc (s.take i)).length) ∧ ms = []) s.length ⟨0, _, by simp, by omega, by simp; rfl, by simp, by simp, by simp, by
        rw [u8s_append]; simpa [esc, u8s_cons, u8s_nil] using g, rfl⟩ ?_
    rintro k F H' n' ms ⟨i, x', rfl, hi, f0, f3, f47, f48, g, rfl⟩
    have hle := esc_len (s.take i)
    have hle' : (esc (s.take i)).length ≤ 128 := by simp at hle; omega
    by_cases hlt : i < s.length
    · have hx := cIxs_at (k := .i64) hlt
      simp [L146_1, R146_15, R146_16, R146_17, f0, f3, f47, f48, hlt, box g, show ¬ n = n' by have := g.le; omega, hx]
      refine (g.more (by omega) fun c hc => by simp [show ¬ c = n' by omega]).app (k := 1) (new := [.int .u8 (s[i] : Int)]) (by simp) rfl (by omega) (by omega) (by unfold big; omega) (by omega) (by simp) fun H2 g2 => ?_
      have ht : s.take (i + 1) = s.take i ++ [s[i]] := List.take_succ_eq_append_getElem hlt
      simp [R146_18, f3, f48, box g2, hx]
      by_cases hz : s[i] = 0
      · simp [hz, R146_19]
        refine (g2.more (by omega) fun c hc => by simp [show ¬ c = n' + 1 + 1 by omega]).app (k := 1) (new := [.int .u8 255]) (by simp) rfl (by omega) (by omega) (by unfold big; omega) (by omega) (by simp) fun H3 g3 => ?_
        simp [R146_20, f3, f47, f48, wrap_nat i (by omega)]
        refine ⟨s.length - (i + 1), by omega, i + 1, rfl, by omega, rfl, ?_⟩
        rw [ht, esc_snoc, if_pos hz]
        have e : l ++ 5 :: (esc (s.take i) ++ [0, 255]) = ((l ++ 5 :: esc (s.take i)) ++ [0]) ++ [255] := by simp
        rw [e, u8s_append, u8s_append]
        rw [hz] at g3
        simpa [Nat.add_assoc, u8s_cons, u8s_nil] using g3
      · simp [hz, R146_20, f3, f47, f48, wrap_nat i (by omega)]
        refine ⟨s.length - (i + 1), by omega, i + 1, rfl, by omega, rfl, ?_⟩
        rw [ht, esc_snoc, if_neg hz]
        have e : l ++ 5 :: (esc (s.take i) ++ [s[i]]) = (l ++ 5 :: esc (s.take i)) ++ [s[i]] := by simp
        rw [e, u8s_append]
        simpa [Nat.add_assoc, u8s_cons, u8s_nil] using g2
    · have hi' : i = s.length := by omega
      subst hi'
      rw [List.take_length] at g hle'
      simp [L146_1, R146_15, f0, f3, f47, f48, R146_21, rep2]
      refine (g.more (by omega) fun c hc => by simp [show ¬ c = n' by omega]).app (k := 2) (new := [.int .u8 0, .int .u8 1]) (by simp) rfl (by omega) (by omega) (by unfold big; omega) (by omega) (by simp) fun H2 g2 => ?_
      simp
      have e : l ++ 5 :: (esc s ++ [0, 1]) = (l ++ 5 :: esc s) ++ [0, 1] := by simp
      rw [e, u8s_append]
      have h := back g2
      have e3 : len + 1 + (esc s).length + 2 = len + ((esc s).length + 2 + 1) := by omega
      rw [e3] at h ⊢
      simpa [u8s_cons, u8s_nil] using h
  have h0 : ¬ k = 0 ∨ k = 0 := by omega
  simp [A146, B146, R146_0, R146_1, R146_2, R146_4, R146_12, R146_22, hF, Val.av, Val.cells, h1, h2, h3]
  refine ((g0 (.cells 3 [] [.int .i64 k, .int .i64 N, .str s] .nil)).more (by omega) fun c hc => by simp [show ¬ c = n + 1 by omega]).app (k := 1) (new := [.int .u8 1]) (by simp) rfl (by omega) (by omega) (by unfold big; omega) (by omega) (by simp) fun H' g => ?_
  simp
  rw [u8s_append]
  exact back g
end Go.Abs
