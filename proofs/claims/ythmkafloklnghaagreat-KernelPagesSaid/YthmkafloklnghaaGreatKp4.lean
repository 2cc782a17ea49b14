/- KernelPages: Fresh, and whether what it tells is right. -/
import Derived.Test.YthmkafloklnghaaGreatKp3
namespace Go.Abs
open Go.Proofs
set_option maxRecDepth 100000
open Classical

/-- what Fresh tells of m pages: which, its error -/
def frL (ub : Ub) (m : Int) : List Nat := if m < 0 ∨ ((free ub 1).length : Int) < m then [] else (free ub 1).take m.toNat
def frE (ub : Ub) (m : Int) : Int := if m < 0 then 1 else if ((free ub 1).length : Int) < m then 4 else 0
theorem frL_len (ub : Ub) (m : Int) : (frL ub m).length ≤ 8 := by
  have := full_free ub
  unfold frL
  split
  · simp
  · simp; omega
theorem frL_mem (ub : Ub) (m : Int) : ∀ k ∈ frL ub m, 1 ≤ k ∧ k ≤ 8 := by
  intro k hk
  unfold frL at hk
  split at hk
  · simp at hk
  · have := free_ge ub (List.mem_of_mem_take hk); omega
/-- the slice of them -/
def frS (n : Nat) (l : List Nat) : AV := if l = [] then .cst (.slice none 0 0) else .sl (n + 2 * l.length - 1) 0 l.length 1
/-- what is there then -/
structure FrH (H : Hp) (n : Nat) (s' : Us × Nat) (l : List Nat) (K : Hp) : Prop where
  m : K.get 298 = some (mapB s')
  old : ∀ c, c < n → c ≠ 298 → K.get c = H.get c
  own : OwnS K (n + 2 * l.length) (frS n l) (u32s l) l.length 1
theorem FrH.km {H K : Hp} {n : Nat} {s' : Us × Nat} {l : List Nat} (h : FrH H n s' l K) (hn : 1453 ≤ n) (hk : KH H) : KM K s' :=
  ⟨⟨by rw [h.old _ (by omega) (by decide), hk.d], by rw [h.old _ (by omega) (by decide), hk.l], by rw [h.old _ (by omega) (by decide), hk.p], by rw [h.old _ (by omega) (by decide), hk.k]⟩, h.m⟩
variable {H : Hp} {n : Nat} {s : Us × Nat} {ub : Ub}
theorem frS_snoc (n : Nat) (l : List Nat) (v : Nat) : frS n (l ++ [v]) = .sl (n + 2 * l.length + 1) 0 (l.length + 1) 1 := by
  unfold frS
  rw [if_neg (by simp)]
  congr 1
  · simp; omega
  · simp
@[simp] theorem cLenM_no (b : Nat) : cLenM (.map b) (Tr.nil : Hp) = .fail := by
  simp [cLenM, Tr.get_nil]
theorem wrap_sm (x : Int) (h : -100 ≤ x) (h2 : x ≤ 100) : IntKind.i64.wrap x = x := by
  simp [IntKind.wrap, IntKind.signed, IntKind.bits]; omega
theorem fresh7 (hn : 1453 ≤ n) (hk : KM H s) (ha : Agr s.1 ub) (m : Int) :
    CallR Tryz.prog 7 [.ptr 299 0, .int .i64 m] H n (fun u K k => u = .tup [frS n (frL ub m), .int .i64 (frE ub m)] ∧ FrH H n ((frL ub m).foldl putU s) (frL ub m) K ∧ k = n + 2 * (frL ub m).length) := by
  have hlen := ha.len
  have hff := full_free ub
  have h00 : FrH H n s [] H := ⟨hk.m, fun _ _ _ => rfl, .nil ..⟩
  refine CallR.of c7 (by simp [A7]) fun F hF => ?_
  simp [A7, B7, R7_0, R7_1, hF]
  refine CalV.same (gone22 hk.k) ?_
  simp [R7_3, hF]
  by_cases h1 : m < 0
  · simp [h1, R7_4, frL, frE, frS, h00]
  simp [h1, R7_5]
  refine DrwV.of (ceT_ok (l := [(13, [.ptr 299 0], fun K k => if KH K ∧ 1453 ≤ k then .mk (.int .i64 8) K k else .fail)]) ?_) ?_
  · simp only [List.mem_cons, List.not_mem_nil, or_false]
    rintro x rfl H n v H' n' h
    dsimp only at h
    split at h
    · rename_i hc; injection h with h1 h2 h3; subst h1 h2 h3; exact KH.ok (by omega) hc.2 (pg13 hc.2 Sk_KH) hc.1
    · cases h
  simp [clearF_get, hF, hk.k.k, kKern, ceT_hd, if_pos (⟨hk.k, hn⟩ : KH H ∧ 1453 ≤ n), cLenM_u hk.m]
  have hw : IntKind.i64.wrap (8 - (s.1.length : Int)) = ((free ub 1).length : Int) := by rw [wrap_sm _ (by omega) (by omega)]; omega
  rw [hw]
  by_cases h2 : ((free ub 1).length : Int) < m
  · simp [h2, R7_6, frL, frE, frS, h00]
    omega
  simp [h2, R7_7, R7_8]
  obtain ⟨q, rfl⟩ : ∃ q : Nat, m = (q : Int) := ⟨m.toNat, by omega⟩
  have hq : q ≤ (free ub 1).length := by omega
  have eL : frL ub q = (free ub 1).take q := by unfold frL; rw [if_neg (by omega)]; simp
  have eE : frE ub q = 0 := by unfold frE; rw [if_neg h1, if_neg h2]
  rw [eE, eL]
  refine LoopV.of (fun k F' K n' ms => ∃ i, k = 9 - i ∧ 1 ≤ i ∧ i ≤ 9 ∧ F'.get 0 = some (.ptr 299 0) ∧ F'.get 1 = some (.int .i64 (q : Int)) ∧ F'.get 7 = some (.int .u32 (i : Int)) ∧ ms = [] ∧ ∃ pre, free ub 1 = pre ++ free ub i ∧ pre.length ≤ q ∧ (∀ j ∈ pre, j < i) ∧ F'.get 6 = some (frS n pre) ∧
    FrH H n (pre.foldl putU s) pre K ∧ n' = n + 2 * pre.length) 8 ⟨1, by omega, by omega, by omega, by simp [clearF_get, hF], by simp [clearF_get, hF], by simp, rfl, [], by simp, by simp, by simp, by simp [frS], h00, by simp⟩ ?_
  rintro k F' K n' ms ⟨i, rfl, hi1, hi9, f0, f1, f7, rfl, pre, hfr, hpq, hpi, f6, hK, rfl⟩
  have hpre : ∀ k ∈ pre, 1 ≤ k ∧ k ≤ 8 ∧ ub k = false := fun k hk => free_ge ub (by rw [hfr]; simp [hk])
  have hag := ha.puts pre fun k hk => ⟨(hpre k hk).1, (hpre k hk).2.1⟩
  have hkm := hK.km hn hk.k
  have hl0 : cLenL (frS n pre) = .val (.int .i64 (pre.length : Int)) := by
    unfold frS
    split
    · rename_i e; subst e; rfl
    · simp
  by_cases hlt : pre.length < q
  · have hi8 : i ≤ 8 := by
      rcases Nat.lt_or_ge 8 i with h | h
      · have e : i = 9 := by omega
        subst e
        rw [free_9, List.append_nil] at hfr
        rw [hfr] at hq; omega
      · exact h
    have hhas : has (pre.foldl putU s).1 i = ub i := by
      rw [hag.has, mark_get]
      have : pre.contains i = false := by
        cases hc : pre.contains i with
        | false => rfl
        | true => have := hpi i (by simpa using hc); omega
      rw [this]
      simp [hi1, hi8]
    have hw32 : IntKind.u32.wrap ((i : Int) + 1) = ((i + 1 : Nat) : Int) := by simp [IntKind.wrap, IntKind.signed, IntKind.bits]; omega
    have hst := free_step ub hi8
    simp [L7_0, R7_9, f0, f1, f6, f7, hl0, hlt, R7_10, hkm.k.k, kKern, cLookup_u hkm.m, hhas]
    cases hu : ub i with
    | true =>
      rw [hu] at hst
      simp [R7_13, f7, hw32]
      exact ⟨9 - (i + 1), by omega, i + 1, rfl, by omega, by omega, f0, f1, by omega, pre, by rw [hfr, hst]; simp, hpq, fun j hj => by have := hpi j hj; omega, f6, hK, rfl⟩
    | false =>
      rw [hu] at hst
      simp [R7_11, f0, f7, hkm.k.k, kKern, cMput_u hkm.m, R7_12, f6]
      have hne : ∀ c, c < n → frS n pre ≠ .sl c 0 pre.length 1 := by
        intro c hc
        unfold frS
        split
        · simp
        · rename_i hnil
          have : pre.length ≠ 0 := fun h => hnil (List.length_eq_zero_iff.1 h)
          intro e; injection e with e; omega
      generalize hH2 : ((Tr.put K 298 (some (mapB (putU (List.foldl putU s pre) i)))).put (n + 2 * pre.length) (some (ABlk.cells 1 [] [AV.int IntKind.u32 (i : Int)] Ov.nil)) : Hp) = H2
      have g2 : ∀ c, c < n + 2 * pre.length → c ≠ 298 → H2.get c = K.get c := by
        intro c hc h298
        rw [← hH2]; simp [h298, show ¬ c = n + 2 * pre.length by omega]
      have g298 : H2.get 298 = some (mapB (putU (List.foldl putU s pre) i)) := by
        rw [← hH2]; simp [show ¬ 298 = n + 2 * pre.length by omega]
      have gl : H2.get (n + 2 * pre.length) = some (ABlk.cells 1 [] [AV.int IntKind.u32 (i : Int)] Ov.nil) := by
        rw [← hH2]; simp
      have own2 : OwnS H2 (n + 2 * pre.length + 1) (frS n pre) (u32s pre) pre.length 1 := by
        obtain ⟨o1, o2 | ⟨b, y, o2, o3, o4, o5⟩⟩ := hK.own
        · exact ⟨o1, .inl o2⟩
        · refine ⟨o1, .inr ⟨b, y, o2, by omega, ?_, o5⟩⟩
          rw [g2 b o3 (fun e => hne b (by omega) o2), o4]
      refine OwnS.app own2 (new := [.int .u32 (i : Int)]) (k := 1) ?_ rfl rfl (by omega) (by omega) (by unfold big; omega) (by omega) (by simp) fun H' ho hk' => ?_
      · rw [sliceCells_sl gl (OwnB.list rfl) (by simp)]; rfl
      simp [R7_13, f7, hw32]
      have eo : u32s pre ++ [AV.int .u32 (i : Int)] = u32s (pre ++ [i]) := by simp [u32s]
      rw [eo] at ho
      refine ⟨9 - (i + 1), by omega, i + 1, rfl, by omega, by omega, f0, f1, by omega, pre ++ [i], by rw [hfr, hst]; simp, by simp; omega, fun j hj => ?_, (frS_snoc n pre i).symm, ⟨?_, fun c hc h298 => ?_, ?_⟩, by simp; omega⟩
      · rcases List.mem_append.1 hj with h | h
        · have := hpi j h; omega
        · simp at h; omega
      · rw [hk' 298 (by omega) (hne 298 (by omega)), g298, List.foldl_append]; rfl
      · rw [hk' c (by omega) (hne c hc), g2 c (by omega) h298, hK.old c hc h298]
      · rw [frS_snoc]
        simpa [Nat.mul_add, Nat.add_assoc] using ho
  · have hpl : pre.length = q := by omega
    have etk : (free ub 1).take q = pre := by rw [hfr, ← hpl]; simp
    rw [etk]
    simp [L7_0, R7_9, f1, f6, hl0, hlt, R7_14, hK]
end Go.Abs
