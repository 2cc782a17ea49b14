/- KernelPages, walked: true of whatever wants. Condition: fewer wants than 2^31, each list of pages shorter than 2^31. -/
import Derived.Test.YthmkafloklnghaaGreatKp6
namespace Go.Abs
open Go.Proofs
set_option maxRecDepth 100000
open Classical

structure Wn where
  d : Int
  l : List Nat
  m : Int
def Wn.cells (w : Wn) : List AV := [.int .i64 w.d, .ds (u32s w.l) w.l.length 1, .int .i64 w.m]
def Wn.ok (w : Wn) : Prop := ∀ x ∈ w.l, x < 4294967296
@[simp] theorem Wn.cells_len (w : Wn) : w.cells.length = 3 := rfl
@[simp] theorem Wn.cells_one (w : Wn) : allOne w.cells = true := rfl
def wnC : List Wn → List AV
  | [] => []
  | x :: r => x.cells ++ wnC r
@[simp] theorem wnC_len (l : List Wn) : (wnC l).length = l.length * 3 := by
  induction l with
  | nil => simp [wnC]
  | cons e r ih => simp [wnC, ih]; omega
theorem wnC_drop (l : List Wn) (i : Nat) (h : i < l.length) : (wnC l).drop (i * 3) = l[i].cells ++ wnC (l.drop (i + 1)) := by
  induction l generalizing i with
  | nil => simp at h
  | cons e r ih =>
    cases i with
    | zero => simp [wnC]
    | succ i =>
      have := ih i (by simpa using h)
      have e1 : (i + 1) * 3 = 3 + i * 3 := by omega
      rw [wnC, e1, ← List.drop_drop, show List.drop 3 (e.cells ++ wnC r) = wnC r from rfl]
      simpa using this
theorem wnC_pure (l : List Wn) : PureL (wnC l) := by
  induction l with
  | nil => simp [wnC]
  | cons e r ih =>
    refine PureL.of_mem fun v hv => ?_
    rcases List.mem_append.1 hv with h | h
    · simp only [Wn.cells, List.mem_cons, List.not_mem_nil, or_false] at h
      rcases h with rfl | rfl | rfl
      · simp
      · simp only [pure_ds]
        refine PureL.of_mem fun v hv => ?_
        simp only [u32s, List.mem_map] at hv
        obtain ⟨x, _, rfl⟩ := hv
        simp
      · simp
    · exact ih.mem v h
theorem ixa_wn {l : List Wn} {i : Nat} {k : IntKind} (h : i < l.length) : cIxa 3 (.ds (wnC l) l.length 3) (.int k (i : Int)) = .val (.dp (l[i].cells ++ wnC (l.drop (i + 1)))) := by
  rw [← wnC_drop l i h]; simp [cIxa, h]
theorem ld_wn (x : Wn) (r : List AV) (H : Hp) : cLoadN 3 (.dp (x.cells ++ r)) H = .val (.agg x.cells 3) := cLoadN_dp r (Wn.cells_len x)
/-- an element of a list of pages that is read -/
theorem ixa_u32 {l : List Nat} {i : Nat} (h : i < l.length) : cIxa 1 (.ds (u32s l) l.length 1) (.int .i64 (i : Int)) = .val (.dp (.int .u32 (l[i] : Int) :: u32s (l.drop (i + 1)))) := by
  have hd : (u32s l).drop i = .int .u32 (l[i] : Int) :: u32s (l.drop (i + 1)) := by
    rw [List.drop_eq_getElem_cons (by simpa using h)]
    simp [u32s, List.map_drop]
  simp [cIxa, h, hd]
/-- between two wants -/
def Btw (n : Nat) (H : Hp) : Prop := 1454 ≤ n ∧ H.get 426 = some kPlay ∧ (∀ c, n ≤ c → H.get c = none) ∧ ∃ s ub, KM H s ∧ Agr s.1 ub ∧ H.get 1453 = some (arrB ub)
structure Fg (l : List Wn) (i : Nat) (F : Fr) : Prop where
  f0 : F.get 0 = some (.ds (wnC l) l.length 3)
  f3 : F.get 3 = some (.ptr 426 0)
  f5 : F.get 5 = some (.ptr 1453 0)
  f6 : F.get 6 = some (.int .i64 (i : Int))
theorem Fg.keep {l : List Wn} {i : Nat} {F F' : Fr} (h : Fg l i F) (e : ∀ j, j = 0 ∨ j = 3 ∨ j = 5 ∨ j = 6 → F'.get j = F.get j) : Fg l i F' :=
  ⟨by rw [e _ (by simp), h.f0], by rw [e _ (by simp), h.f3], by rw [e _ (by simp), h.f5], by rw [e _ (by simp), h.f6]⟩
def Iv (l : List Wn) : Nat → Fr → Hp → Nat → List Dm → Prop := fun k F' H n ms => ∃ i, k = l.length - i ∧ i ≤ l.length ∧ Fg l i F' ∧ Btw n H ∧ ms = []
/-- in a want -/
structure Inw (w : Wn) (n7 n : Nat) (s : Us × Nat) (ub : Ub) (H : Hp) : Prop where
  lo : 1454 ≤ n7
  hi : n7 < n
  k : KM H s
  py : H.get 426 = some kPlay
  ab : H.get 1453 = some (arrB ub)
  no : ∀ c, n ≤ c → H.get c = none
  wn : H.get n7 = some (ABlk.cells 3 [] [AV.int .i64 w.d, AV.ds (u32s w.l) w.l.length 1, AV.int .i64 w.m] Ov.nil)
theorem Inw.btw {w : Wn} {n7 n : Nat} {s : Us × Nat} {ub : Ub} {H : Hp} (h : Inw w n7 n s ub H) (ha : Agr s.1 ub) : Btw n H :=
  ⟨by have := h.lo; have := h.hi; omega, h.py, h.no, s, ub, h.k, ha, h.ab⟩
/-- with other pages in use, and more beside it -/
theorem Inw.more {w : Wn} {n7 n n' : Nat} {s s' : Us × Nat} {ub : Ub} {H K : Hp} (h : Inw w n7 n s ub H) (hn : n ≤ n') (hm : K.get 298 = some (mapB s')) (hold : ∀ c, c < n → c ≠ 298 → K.get c = H.get c) (hno : ∀ c, n' ≤ c → K.get c = none) : Inw w n7 n' s' ub K := by
  have h7 := h.lo
  have hn7 := h.hi
  refine ⟨h.lo, by omega, ⟨⟨?_, ?_, ?_, ?_⟩, hm⟩, ?_, ?_, hno, ?_⟩
  · rw [hold _ (by omega) (by omega)]; exact h.k.k.d
  · rw [hold _ (by omega) (by omega)]; exact h.k.k.l
  · rw [hold _ (by omega) (by omega)]; exact h.k.k.p
  · rw [hold _ (by omega) (by omega)]; exact h.k.k.k
  · rw [hold _ (by omega) (by omega)]; exact h.py
  · rw [hold _ (by omega) (by omega)]; exact h.ab
  · rw [hold _ (by omega) (by omega)]; exact h.wn
theorem Inw.arr {w : Wn} {n7 n : Nat} {s : Us × Nat} {ub : Ub} {H : Hp} (h : Inw w n7 n s ub H) (ub' : Ub) : Inw w n7 n s ub' (H.put 1453 (some (arrB ub'))) := by
  have h7 := h.lo
  have hn7 := h.hi
  refine ⟨h.lo, by omega, ⟨⟨?_, ?_, ?_, ?_⟩, ?_⟩, ?_, by simp, fun c hc => ?_, ?_⟩
  · simp [h.k.k.d]
  · simp [h.k.k.l]
  · simp [h.k.k.p]
  · simp [h.k.k.k]
  · simp [h.k.m]
  · simp [h.py]
  · rw [Tr.get_put, if_neg (by omega)]; exact h.no c hc
  · rw [Tr.get_put, if_neg (by omega)]; exact h.wn
variable {l : List Wn} {i : Nat} {w : Wn} {n7 n : Nat} {s : Us × Nat} {ub : Ub} {H : Hp} {F : Fr} {Q : QA}
/-- a loop that marks, or clears -/
theorem mark_loop (hok : okU w.l = true) (hpl : w.l.length < 2147483648) (h : Inw w n7 n s ub H) (hF : Fg l i F) (f7 : F.get 7 = some (.ptr n7 0)) (f11 : F.get 11 = some (.int .i64 0)) (Q : QA) {x : AV} (f10 : F.get 10 = some x)
    (hgo : ∀ F', Fg l i F' → F'.get 10 = some x → ∀ K, Inw w n7 n s (mark ub w.l) K → Q .normal F' K n []) : LoopV L3_1 Tryz.prog F H n [] (BlkQ 5 Q) := by
  refine LoopV.of (fun k F' K n' ms => ∃ j, k = w.l.length - j ∧ j ≤ w.l.length ∧ Fg l i F' ∧ F'.get 7 = some (.ptr n7 0) ∧ F'.get 10 = some x ∧ F'.get 11 = some (.int .i64 (j : Int)) ∧ Inw w n7 n s (mark ub (w.l.take j)) K ∧ n = n' ∧ ms = []) w.l.length ⟨0, by omega, by omega, hF, f7, f10, f11, by simpa [mark_nil] using h, rfl, rfl⟩ ?_
  clear f7 f10 f11 hF
  rintro k F' K n' ms ⟨j, rfl, hj, hF, f7, f10, f11, hI, rfl, rfl⟩
  by_cases hjl : j < w.l.length
  · have hx := ixa_u32 hjl
    have hm : 1 ≤ w.l[j] ∧ w.l[j] ≤ 8 := by
      unfold okU at hok
      simp only [List.all_eq_true, decide_eq_true_eq] at hok
      exact hok _ (List.getElem_mem hjl)
    have e11 : w.l.take (j + 1) = w.l.take j ++ [w.l[j]] := List.take_succ_eq_append_getElem hjl
    generalize w.l[j] = v at hx hm e11
    simp [L3_1, R3_22, f7, f11, hI.wn, hjl, R3_23, hx, hF.f5, ixarr9 1453 .u32 (show v < 9 by omega), st_arr hI.ab (show v < 9 by omega), R3_24, wrap_i j (by omega)]
    refine ⟨w.l.length - (j + 1), by omega, j + 1, rfl, by omega, hF.keep (by rintro j (rfl | rfl | rfl | rfl) <;> simp), f10, by simp, ?_⟩
    rw [e11, mark_snoc]
    exact hI.arr _
  · have : j = w.l.length := by omega
    subst this
    rw [List.take_length] at hI
    simp [L3_1, R3_22, f7, f11, hI.wn]
    exact hgo _ (hF.keep (by rintro j (rfl | rfl | rfl | rfl) <;> simp)) (by simp [f10]) _ hI
/-- behind Use -/
theorem use_rest (h1000 : w.l.length ≤ 1000) (fin : ∀ F2 K n2, Fg l i F2 → Btw n2 K → VC Tryz.prog R3_38 F2 K n2 [] Q) (hF : Fg l i F) (f7 : F.get 7 = some (.ptr n7 0)) (f8 : F.get 8 = some (.bool (okU w.l))) (f10 : F.get 10 = some (.int .i64 (if okU w.l then 0 else 2)))
    (ha : Agr s.1 ub) (h : Inw w n7 n (if okU w.l then w.l.foldl putU s else s) ub H) :
    VC Tryz.prog ((R3_18.seq (CT.cond (slotG 83) ((R3_19.seq (CT.cond (slotG 85) (R3_20.seq CT.ret) CT.skip)).seq (CT.exit 1)) CT.skip)).seq ((R3_21.seq (CT.block 5 L3_1.loop)).seq (R3_25.seq (CT.cond (slotG 100) (R3_26.seq CT.ret) CT.skip)))) F H n [] (BlkQ 4 (BlkQ 1 (SeqV Tryz.prog R3_38 Q))) := by
  cases hok : okU w.l with
  | false =>
    rw [hok] at f8 f10 h
    simp [R3_18, f8, R3_19, f10]
    exact fin _ _ _ (hF.keep (by rintro j (rfl | rfl | rfl | rfl) <;> simp)) (h.btw ha)
  | true =>
    rw [hok] at f8 f10 h
    simp only [if_true] at h f10
    simp [R3_18, f8, R3_21]
    refine mark_loop hok (by omega) h (hF.keep (by rintro j (rfl | rfl | rfl | rfl) <;> simp)) (by simp [f7]) (by simp) _ (x := .int .i64 0) (by simp [f10]) fun F' hF' g10 K hI => ?_
    simp [R3_25, g10]
    refine fin _ _ _ ?_ (hI.btw (ha.puts _ fun k hk => ?_))
    · exact hF'.keep (by rintro j (rfl | rfl | rfl | rfl) <;> simp)
    unfold okU at hok
    simp only [List.all_eq_true, decide_eq_true_eq] at hok
    exact hok k hk
theorem u32s_one : ∀ l : List Nat, allOne (u32s l) = true
  | [] => by simp [u32s]
  | a :: r => by
    have ih := u32s_one r
    simp only [u32s] at ih
    simp only [u32s, List.map_cons, allOne_cons, ih]
    rfl
def UseC (s : Us × Nat) (b : Nat) (l : List Nat) (H : Hp) (k : Nat) : Prop := KM H s ∧ Sl H b l ∧ 1453 ≤ k ∧ 1453 ≤ b ∧ b < k
theorem use_turn (hwo : w.ok) (h1000 : w.l.length ≤ 1000) (fin : ∀ F2 K n2, Fg l i F2 → Btw n2 K → VC Tryz.prog R3_38 F2 K n2 [] Q) (hF : Fg l i F) (f7 : F.get 7 = some (.ptr n7 0)) (f8 : F.get 8 = some (.bool (okU w.l))) (ha : Agr s.1 ub) (h : Inw w n7 n s ub H) :
    VC Tryz.prog (R3_17.seq ((R3_18.seq (CT.cond (slotG 83) ((R3_19.seq (CT.cond (slotG 85) (R3_20.seq CT.ret) CT.skip)).seq (CT.exit 1)) CT.skip)).seq ((R3_21.seq (CT.block 5 L3_1.loop)).seq (R3_25.seq (CT.cond (slotG 100) (R3_26.seq CT.ret) CT.skip))))) F H n [] (BlkQ 4 (BlkQ 1 (SeqV Tryz.prog R3_38 Q))) := by
  have hlo := h.lo
  have hhi := h.hi
  have hrest := fun F K n => use_rest (F := F) (H := K) (n := n) (n7 := n7) (s := s) (ub := ub) h1000 fin
  generalize hRR : ((R3_18.seq (CT.cond (slotG 83) ((R3_19.seq (CT.cond (slotG 85) (R3_20.seq CT.ret) CT.skip)).seq (CT.exit 1)) CT.skip)).seq ((R3_21.seq (CT.block 5 L3_1.loop)).seq (R3_25.seq (CT.cond (slotG 100) (R3_26.seq CT.ret) CT.skip)))) = RR at hrest ⊢
  obtain ⟨b, hb⟩ : ∃ b, b = if w.l.length = 0 then n else n + 1 := ⟨_, rfl⟩
  simp [R3_17]
  refine DrwV.of (ceT_ok (l := [(6, [.ptr 299 0, .sl b 0 w.l.length 1], fun H k => if UseC s b w.l H k then .mk (.int .i64 (if okU w.l then 0 else 2)) (H.put 298 (some (mapB (if okU w.l then w.l.foldl putU s else s)))) k else .fail)]) ?_) ?_
  · simp only [List.mem_singleton]
    rintro x rfl H n v H' n' h
    dsimp only at h
    split at h
    · rename_i hc
      injection h with h1 h2 h3
      subst h1 h2 h3
      exact KM.okSl hc.2.2.1 hc.2.2.2.1 hc.2.2.2.2 hc.1 hc.2.1 fun S hS1 hS2 => use6 hc.2.2.1 (by omega) hwo hS1 hS2
    · cases h
  have hnA : noneAt n [H] = true := by simp [noneAt, h.no n (Nat.le_refl _)]
  simp [clearF_get, f7, h.wn, hnA]
  refine OwnS.appJ (l := []) (len := 0) (new := u32s w.l) (k := w.l.length) ⟨rfl, .inr ⟨n, .cells 0 [] [] .nil, rfl, by omega, by simp, .list rfl⟩⟩ (by simp) (by simp) (by simp) (by omega) (by unfold big; omega) (by omega) (u32s_one w.l) (fun hk0 => ?_) (fun hk0 H' ho hk' => ?_)
  · rw [if_pos hk0] at hb
    subst hb
    have hl : w.l = [] := List.length_eq_zero_iff.1 hk0
    have hcd : UseC s b w.l (H.put b (some (ABlk.cells 0 [] [] Ov.nil))) (b + 1) := by
      refine ⟨⟨⟨?_, ?_, ?_, ?_⟩, ?_⟩, ⟨by omega, _, by simp; rfl, by rw [hl]; exact .list rfl⟩, by omega, by omega, by omega⟩
      · rw [Tr.get_put, if_neg (by omega)]; exact h.k.k.d
      · rw [Tr.get_put, if_neg (by omega)]; exact h.k.k.l
      · rw [Tr.get_put, if_neg (by omega)]; exact h.k.k.p
      · rw [Tr.get_put, if_neg (by omega)]; exact h.k.k.k
      · rw [Tr.get_put, if_neg (by omega)]; exact h.k.m
    simp [clearF_get, hF.f3, h.py, kPlay, show ¬ 426 = b by omega]
    rw [show [AV.ptr 299 0, AV.sl b 0 0 1] = [AV.ptr 299 0, AV.sl b 0 w.l.length 1] by rw [hk0], ceT_hd, if_pos hcd]
    simp
    refine hrest _ _ _ (hF.keep (by rintro j (rfl | rfl | rfl | rfl) <;> simp [clearF_get])) (by simp [clearF_get, f7]) (by simp [clearF_get, f8]) (by simp) ha (h.more (by omega) (by simp) (fun c hc h298 => by simp [h298, show ¬ c = b by omega]) fun c hc => by simp [show ¬ c = 298 by omega, show ¬ c = b by omega, h.no c (by omega)])
  · rw [if_neg (by omega)] at hb
    subst hb
    have hold : ∀ c, c < n → H'.get c = H.get c := fun c hc => by rw [hk' c (by omega) (by omega), Tr.get_put, if_neg (by omega)]
    rw [List.nil_append, Nat.zero_add] at ho
    obtain ⟨y, hy, hyo⟩ : ∃ y, H'.get (n + 1) = some y ∧ OwnB y (u32s w.l) := by
      obtain ⟨_, ⟨e, _⟩ | ⟨b, y, e, _, h2, h3⟩⟩ := ho
      · cases e
      · injection e with e; subst e; exact ⟨y, h2, h3⟩
    have hcd : UseC s (n + 1) w.l H' (n + 1 + 1) := by
      refine ⟨⟨⟨?_, ?_, ?_, ?_⟩, ?_⟩, ⟨by omega, y, hy, hyo⟩, by omega, by omega, by omega⟩
      · rw [hold _ (by omega)]; exact h.k.k.d
      · rw [hold _ (by omega)]; exact h.k.k.l
      · rw [hold _ (by omega)]; exact h.k.k.p
      · rw [hold _ (by omega)]; exact h.k.k.k
      · rw [hold _ (by omega)]; exact h.k.m
    have h426 : H'.get 426 = some kPlay := by rw [hold _ (by omega)]; exact h.py
    simp [clearF_get, hF.f3, h.py, kPlay, h426]
    rw [ceT_hd, if_pos hcd]
    simp
    refine hrest _ _ _ (hF.keep (by rintro j (rfl | rfl | rfl | rfl) <;> simp [clearF_get])) (by simp [clearF_get, f7]) (by simp [clearF_get, f8]) (by simp) ha (h.more (by omega) (by simp) (fun c hc h298 => by simp [h298, hold c hc]) fun c hc => ?_)
    rw [Tr.get_put, if_neg (by omega), hk' c (by omega) (by omega), Tr.get_put, if_neg (by omega), h.no c (by omega)]

def unm (ub : Ub) : List Nat → Ub := List.foldl (fun u k => setB u k false) ub
theorem unm_snoc (ub : Ub) (l : List Nat) (k : Nat) : unm ub (l ++ [k]) = setB (unm ub l) k false := by simp [unm]
theorem Agr.dels {s : Us × Nat} {ub : Ub} (h : Agr s.1 ub) : ∀ l : List Nat, Agr (l.foldl delU s).1 (unm ub l) := by
  intro l
  induction l generalizing s ub with
  | nil => exact h
  | cons a r ih => exact ih (h.del a)
theorem arr_big (ub : Ub) {k : Nat} (b : Bool) (h : 9 ≤ k) : arrB (setB ub k b) = arrB ub := by
  unfold arrB arr
  congr 1
  apply List.map_congr_left
  intro i hi
  rw [List.mem_range] at hi
  unfold setB
  rw [if_neg (by omega)]
theorem relse_loop (hpl : w.l.length < 2147483648) (h : Inw w n7 n s ub H) (hF : Fg l i F) (f7 : F.get 7 = some (.ptr n7 0)) (f14 : F.get 14 = some (.int .i64 0)) (Q : QA)
    (hgo : ∀ F', Fg l i F' → ∀ K, Inw w n7 n s (unm ub w.l) K → Q .normal F' K n []) : LoopV L3_2 Tryz.prog F H n [] (BlkQ 7 Q) := by
  refine LoopV.of (fun k F' K n' ms => ∃ j, k = w.l.length - j ∧ j ≤ w.l.length ∧ Fg l i F' ∧ F'.get 7 = some (.ptr n7 0) ∧ F'.get 14 = some (.int .i64 (j : Int)) ∧ Inw w n7 n s (unm ub (w.l.take j)) K ∧ n = n' ∧ ms = []) w.l.length ⟨0, by omega, by omega, hF, f7, f14, by simpa [unm] using h, rfl, rfl⟩ ?_
  clear f7 f14 hF
  rintro k F' K n' ms ⟨j, rfl, hj, hF, f7, f11, hI, rfl, rfl⟩
  by_cases hjl : j < w.l.length
  · have hx := ixa_u32 hjl
    have e11 : w.l.take (j + 1) = w.l.take j ++ [w.l[j]] := List.take_succ_eq_append_getElem hjl
    generalize w.l[j] = v at hx e11
    simp [L3_2, R3_34, f7, f11, hI.wn, hjl, R3_35, hx]
    by_cases hv : (v : Int) ≤ 8
    · simp [hv, R3_36, f7, f11, hI.wn, hx, hF.f5, ixarr9 1453 .u32 (show v < 9 by omega), st_arr hI.ab (show v < 9 by omega), R3_37, wrap_i j (by omega)]
      refine ⟨w.l.length - (j + 1), by omega, j + 1, rfl, by omega, hF.keep (by rintro j (rfl | rfl | rfl | rfl) <;> simp), by simp, ?_⟩
      rw [e11, unm_snoc]
      exact hI.arr _
    · simp [hv, f7, f11, R3_37, wrap_i j (by omega)]
      refine ⟨w.l.length - (j + 1), by omega, j + 1, rfl, by omega, hF.keep (by rintro j (rfl | rfl | rfl | rfl) <;> simp), by simp, ?_⟩
      rw [e11, unm_snoc]
      exact { hI with ab := by rw [arr_big _ _ (by omega)]; exact hI.ab }
  · have : j = w.l.length := by omega
    subst this
    rw [List.take_length] at hI
    simp [L3_2, R3_34, f7, f11, hI.wn]
    exact hgo _ (hF.keep (by rintro j (rfl | rfl | rfl | rfl) <;> simp)) _ hI
theorem rel_turn (h1000 : w.l.length ≤ 1000) (fin : ∀ F2 K n2, Fg l i F2 → Btw n2 K → VC Tryz.prog R3_38 F2 K n2 [] Q) (hF : Fg l i F) (f7 : F.get 7 = some (.ptr n7 0)) (ha : Agr s.1 ub) (h : Inw w n7 n s ub H) :
    VC Tryz.prog (R3_32.seq (R3_33.seq (CT.block 7 L3_2.loop))) F H n [] (BlkQ 4 (BlkQ 1 (SeqV Tryz.prog R3_38 Q))) := by
  have hlo := h.lo
  have hhi := h.hi
  have hrest : ∀ F K n, Fg l i F → F.get 7 = some (.ptr n7 0) → Inw w n7 n (w.l.foldl delU s) ub K → VC Tryz.prog (R3_33.seq (CT.block 7 L3_2.loop)) F K n [] (BlkQ 4 (BlkQ 1 (SeqV Tryz.prog R3_38 Q))) := by
    intro F K n hF f7 h
    simp [R3_33]
    refine relse_loop (by omega) h (hF.keep (by rintro j (rfl | rfl | rfl | rfl) <;> simp)) (by simp [f7]) (by simp) _ fun F' hF' K hI => ?_
    simp
    exact fin _ _ _ hF' (hI.btw (ha.dels _))
  generalize hRR : (R3_33.seq (CT.block 7 L3_2.loop)) = RR at hrest ⊢
  obtain ⟨b, hb⟩ : ∃ b, b = if w.l.length = 0 then n else n + 1 := ⟨_, rfl⟩
  simp [R3_32]
  refine DrwV.of (ceT_ok (l := [(9, [.ptr 299 0, .sl b 0 w.l.length 1], fun H k => if UseC s b w.l H k then .mk (.tup []) (H.put 298 (some (mapB (w.l.foldl delU s)))) k else .fail)]) ?_) ?_
  · simp only [List.mem_singleton]
    rintro x rfl H n v H' n' h
    dsimp only at h
    split at h
    · rename_i hc
      injection h with h1 h2 h3
      subst h1 h2 h3
      exact KM.okSl hc.2.2.1 hc.2.2.2.1 hc.2.2.2.2 hc.1 hc.2.1 fun S hS1 hS2 => rel9 (by omega) hS1 hS2
    · cases h
  have hnA : noneAt n [H] = true := by simp [noneAt, h.no n (Nat.le_refl _)]
  simp [clearF_get, f7, h.wn, hnA]
  refine OwnS.appJ (l := []) (len := 0) (new := u32s w.l) (k := w.l.length) ⟨rfl, .inr ⟨n, .cells 0 [] [] .nil, rfl, by omega, by simp, .list rfl⟩⟩ (by simp) (by simp) (by simp) (by omega) (by unfold big; omega) (by omega) (u32s_one w.l) (fun hk0 => ?_) (fun hk0 H' ho hk' => ?_)
  · rw [if_pos hk0] at hb
    subst hb
    have hl : w.l = [] := List.length_eq_zero_iff.1 hk0
    have hcd : UseC s b w.l (H.put b (some (ABlk.cells 0 [] [] Ov.nil))) (b + 1) := by
      refine ⟨⟨⟨?_, ?_, ?_, ?_⟩, ?_⟩, ⟨by omega, _, by simp; rfl, by rw [hl]; exact .list rfl⟩, by omega, by omega, by omega⟩
      · rw [Tr.get_put, if_neg (by omega)]; exact h.k.k.d
      · rw [Tr.get_put, if_neg (by omega)]; exact h.k.k.l
      · rw [Tr.get_put, if_neg (by omega)]; exact h.k.k.p
      · rw [Tr.get_put, if_neg (by omega)]; exact h.k.k.k
      · rw [Tr.get_put, if_neg (by omega)]; exact h.k.m
    simp [clearF_get, hF.f3, h.py, kPlay, show ¬ 426 = b by omega]
    rw [show [AV.ptr 299 0, AV.sl b 0 0 1] = [AV.ptr 299 0, AV.sl b 0 w.l.length 1] by rw [hk0], ceT_hd, if_pos hcd]
    simp
    refine hrest _ _ _ (hF.keep (by rintro j (rfl | rfl | rfl | rfl) <;> simp [clearF_get])) (by simp [clearF_get, f7]) (h.more (by omega) (by simp) (fun c hc h298 => by simp [h298, show ¬ c = b by omega]) fun c hc => by simp [show ¬ c = 298 by omega, show ¬ c = b by omega, h.no c (by omega)])
  · rw [if_neg (by omega)] at hb
    subst hb
    have hold : ∀ c, c < n → H'.get c = H.get c := fun c hc => by rw [hk' c (by omega) (by omega), Tr.get_put, if_neg (by omega)]
    rw [List.nil_append, Nat.zero_add] at ho
    obtain ⟨y, hy, hyo⟩ : ∃ y, H'.get (n + 1) = some y ∧ OwnB y (u32s w.l) := by
      obtain ⟨_, ⟨e, _⟩ | ⟨b, y, e, _, h2, h3⟩⟩ := ho
      · cases e
      · injection e with e; subst e; exact ⟨y, h2, h3⟩
    have hcd : UseC s (n + 1) w.l H' (n + 1 + 1) := by
      refine ⟨⟨⟨?_, ?_, ?_, ?_⟩, ?_⟩, ⟨by omega, y, hy, hyo⟩, by omega, by omega, by omega⟩
      · rw [hold _ (by omega)]; exact h.k.k.d
      · rw [hold _ (by omega)]; exact h.k.k.l
      · rw [hold _ (by omega)]; exact h.k.k.p
      · rw [hold _ (by omega)]; exact h.k.k.k
      · rw [hold _ (by omega)]; exact h.k.m
    have h426 : H'.get 426 = some kPlay := by rw [hold _ (by omega)]; exact h.py
    simp [clearF_get, hF.f3, h.py, kPlay, h426]
    rw [ceT_hd, if_pos hcd]
    simp
    refine hrest _ _ _ (hF.keep (by rintro j (rfl | rfl | rfl | rfl) <;> simp [clearF_get])) (by simp [clearF_get, f7]) (h.more (by omega) (by simp) (fun c hc h298 => by simp [h298, hold c hc]) fun c hc => ?_)
    rw [Tr.get_put, if_neg (by omega), hk' c (by omega) (by omega), Tr.get_put, if_neg (by omega), h.no c (by omega)]
theorem fresh_turn (fin : ∀ F2 K n2, Fg l i F2 → Btw n2 K → VC Tryz.prog R3_38 F2 K n2 [] Q) (hF : Fg l i F) (f7 : F.get 7 = some (.ptr n7 0)) (ha : Agr s.1 ub) (h : Inw w n7 n s ub H) :
    VC Tryz.prog (R3_28.seq (R3_29.seq (CT.cond (slotG 118) (R3_30.seq CT.ret) CT.skip))) F H n [] (BlkQ 4 (BlkQ 1 (SeqV Tryz.prog R3_38 Q))) := by
  have hlo := h.lo
  have hhi := h.hi
  simp [R3_28]
  refine DrwV.of (ceT_ok (l := [(7, [.ptr 299 0, .int .i64 w.m], fun H k => if KM H s ∧ 1453 ≤ k then .mk (.tup [frS k (frL ub w.m), .int .i64 (frE ub w.m)]) (frN H k ((frL ub w.m).foldl putU s) (frL ub w.m)) (k + 2 * (frL ub w.m).length) else .fail)]) ?_) ?_
  · simp only [List.mem_singleton]
    rintro x rfl H n v H' n' h
    dsimp only at h
    split at h
    · rename_i hc
      injection h with h1 h2 h3
      subst h1 h2 h3
      exact fresh7ok hc.2 hc.1 ha w.m
    · cases h
  have hcd : KM H s ∧ 1453 ≤ n := ⟨h.k, by omega⟩
  simp [clearF_get, hF.f3, f7, h.wn, h.py, kPlay]
  rw [ceT_hd, if_pos hcd]
  have hmem := frL_mem ub w.m
  have hI := h.more (n' := n + 2 * (frL ub w.m).length) (K := frN H n ((frL ub w.m).foldl putU s) (frL ub w.m)) (s' := (frL ub w.m).foldl putU s) (by omega) (frN_m H (by omega) _ _) (fun c hc h298 => frN_old H n _ _ hc h298) fun c hc => by
    unfold frN
    split
    · rw [Tr.get_put, if_neg (by omega)]; exact h.no c (by omega)
    · rename_i hl
      have : (frL ub w.m).length ≠ 0 := fun h => hl (List.length_eq_zero_iff.1 h)
      rw [Tr.get_put, if_neg (by omega), Tr.get_put, if_neg (by omega), clr_get, if_neg (by omega)]; exact h.no c (by omega)
  have hts := frN_ts H ((frL ub w.m).foldl putU s) (frL ub w.m) (ab := 1453) (n := n) (by omega)
  simp [R3_29, clearF_get, f7, hI.wn, hF.f5]
  generalize frN H n ((frL ub w.m).foldl putU s) (frL ub w.m) = K at hI hts
  refine CalV.of (takes8 w.m hI.ab hts) fun v K' n' ⟨e1, e2, e3, e4⟩ => ?_
  subst e1 e4
  simp
  refine fin _ _ _ (hF.keep (by rintro j (rfl | rfl | rfl | rfl) <;> simp [clearF_get])) ?_
  refine ⟨by omega, by rw [e3 _ (by omega)]; exact hI.py, fun c hc => by rw [e3 _ (by omega)]; exact hI.no c hc, _, _, ⟨⟨?_, ?_, ?_, ?_⟩, ?_⟩, ha.puts _ hmem, e2⟩
  · rw [e3 _ (by omega)]; exact hI.k.k.d
  · rw [e3 _ (by omega)]; exact hI.k.k.l
  · rw [e3 _ (by omega)]; exact hI.k.k.p
  · rw [e3 _ (by omega)]; exact hI.k.k.k
  · rw [e3 _ (by omega)]; exact hI.k.m
end Go.Abs
