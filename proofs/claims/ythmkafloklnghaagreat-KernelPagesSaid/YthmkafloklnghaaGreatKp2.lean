/- KernelPages: the pages in use, as a list; Use, Release. -/
import Derived.Test.YthmkafloklnghaaGreatKp1
namespace Go.Abs
open Go.Proofs
set_option maxRecDepth 100000

section
variable {F : Fr} {H : Hp} {n : Nat}
@[simp] theorem eMput_f (q : LK) (m k v : G) : eMput q m k v F H n = oE (m.f F) fun m => oE (k.f F) fun k => oE (v.f F) fun v => cMput q m k v H := by
  unfold eMput oE
  cases m.f F with
  | none => rfl
  | some a => dsimp only; cases k.f F with
    | none => rfl
    | some b => dsimp only; cases v.f F <;> rfl
@[simp] theorem eLookup_f (q : LK) (z : AV) (ok : Bool) (m k : G) : eLookup q z ok m k F H n = oE (m.f F) fun m => oE (k.f F) fun k => cLookup q z ok m k H := by
  unfold eLookup oE
  cases m.f F with
  | none => rfl
  | some a => dsimp only; cases k.f F <;> rfl
@[simp] theorem eDel_f (q : LK) (m k : G) : eDel q m k F H n = oE (m.f F) fun m => oE (k.f F) fun k => cDel q m k H := by
  unfold eDel oE
  cases m.f F with
  | none => rfl
  | some a => dsimp only; cases k.f F <;> rfl
@[simp] theorem eLenM_f (m : G) : eLenM m F H n = oE (m.f F) fun m => cLenM m H := by
  unfold eLenM oE
  cases m.f F <;> rfl
end

abbrev Us := List (Nat × Nat)
def has (U : Us) (k : Nat) : Bool := U.any fun p => decide (k = p.1)
def encU (U : Us) : List (AV × AV × Nat) := U.map fun p => (.int .u32 (p.1 : Int), .int .i64 1, p.2)
def mapB (s : Us × Nat) : ABlk := .map (encU s.1) s.2
def putU (s : Us × Nat) (k : Nat) : Us × Nat := if has s.1 k then s else (s.1 ++ [(k, s.2)], s.2 + 1)
def delK (U : Us) (k : Nat) : Us := U.eraseP fun p => decide (k = p.1)
def delU (s : Us × Nat) (k : Nat) : Us × Nat := (delK s.1 k, s.2)

theorem eqLeaf_u (a b : Nat) : eqLeaf .i (.int .u32 (a : Int)) (.int .u32 (b : Int)) = some (decide (a = b)) := by
  simp only [eqLeaf, if_true]
  congr 1
  by_cases h : a = b
  · subst h; simp
  · simp [h]
theorem find_u (k : Nat) : ∀ U : Us, findKey .i (.int .u32 (k : Int)) (encU U) = some (if has U k then some (.int .i64 1) else none)
  | [] => rfl
  | p :: r => by
    have ih := find_u k r
    simp only [encU, List.map_cons, findKey, eqLeaf_u, has, List.any_cons]
    by_cases h : k = p.1
    · simp [h]
    · simp only [h, decide_false, Bool.false_or]
      exact ih
theorem set_u (k : Nat) : ∀ U : Us, setKey .i (.int .u32 (k : Int)) (.int .i64 1) (encU U) = some (if has U k then some (encU U) else none)
  | [] => rfl
  | p :: r => by
    have ih := set_u k r
    simp only [encU] at ih
    simp only [encU, List.map_cons, setKey, eqLeaf_u, has, List.any_cons]
    by_cases h : k = p.1
    · simp [h]
    · simp only [h, decide_false, Bool.false_or, ih]
      unfold has
      by_cases h2 : r.any (fun p => decide (k = p.1)) = true
      · simp only [h2, if_true]
      · simp only [h2, Bool.false_eq_true, if_false]
theorem del_u (k : Nat) : ∀ U : Us, delKey .i (.int .u32 (k : Int)) (encU U) = some (if has U k then some (encU (delK U k)) else none)
  | [] => rfl
  | p :: r => by
    have ih := del_u k r
    simp only [encU] at ih
    simp only [encU, List.map_cons, delKey, eqLeaf_u, has, List.any_cons, delK, List.eraseP_cons]
    by_cases h : k = p.1
    · simp [h]
    · simp only [h, decide_false, Bool.false_or, ih, cond_false]
      unfold has delK
      by_cases h2 : r.any (fun p => decide (k = p.1)) = true
      · simp only [h2, if_true, List.map_cons]
      · simp only [h2, Bool.false_eq_true, if_false]
theorem delK_not {U : Us} {k : Nat} (h : has U k = false) : delK U k = U := by
  unfold delK
  rw [List.eraseP_of_forall_not]
  intro p hp
  unfold has at h
  simp only [List.any_eq_false] at h
  exact h p hp
variable {H : Hp} {n : Nat} {s : Us × Nat}
theorem cMput_u (h : H.get 298 = some (mapB s)) (k : Nat) : cMput .i (.map 298) (.int .u32 (k : Int)) (.int .i64 1) H = .upd (.tup []) 298 (mapB (putU s k)) := by
  simp only [cMput, h, mapB, isKey, set_u, putU]
  by_cases h2 : has s.1 k = true
  · simp only [h2, if_true]
  · simp only [h2, Bool.false_eq_true, if_false]
    simp [encU]
theorem cLookup_u (h : H.get 298 = some (mapB s)) (k : Nat) : cLookup .i (.int .i64 0) false (.map 298) (.int .u32 (k : Int)) H = .val (.int .i64 (if has s.1 k then 1 else 0)) := by
  simp only [cLookup, h, mapB, isKey, find_u]
  by_cases h2 : has s.1 k = true
  · simp [h2]
  · simp [h2]
theorem cDel_u (h : H.get 298 = some (mapB s)) (k : Nat) : cDel .i (.map 298) (.int .u32 (k : Int)) H = .upd (.tup []) 298 (mapB (delU s k)) := by
  simp only [cDel, h, mapB, isKey, del_u, delU]
  by_cases h2 : has s.1 k = true
  · simp only [h2, if_true]
  · simp only [h2, Bool.false_eq_true, if_false]
    rw [delK_not (by simpa using h2)]
theorem cLenM_u (h : H.get 298 = some (mapB s)) : cLenM (.map 298) H = .val (.int .i64 (s.1.length : Int)) := by
  simp [cLenM, h, mapB, encU, lenAcc_zero]

def u32s (l : List Nat) : List AV := l.map fun (x : Nat) => AV.int .u32 (Int.ofNat x)
@[simp] theorem u32s_len (l : List Nat) : (u32s l).length = l.length := by simp [u32s]
/-- the kernel, these pages in use -/
structure KM (H : Hp) (s : Us × Nat) : Prop where
  k : KH H
  m : H.get 298 = some (mapB s)
/-- beside it another slice -/
def Sl (H : Hp) (b : Nat) (l : List Nat) : Prop := b ≠ 298 ∧ ∃ y, H.get b = some y ∧ OwnB y (u32s l)
theorem Sl.put {b : Nat} {l : List Nat} (h : Sl H b l) (y : Option ABlk) : Sl (H.put 298 y) b l := by
  obtain ⟨h1, y', h2, h3⟩ := h
  exact ⟨h1, y', by simp [h1, h2], h3⟩
theorem Sl.load {b : Nat} {l : List Nat} (h : Sl H b l) {i : Nat} (hi : i < l.length) : cLoad1 (.ptr b i) H = .val (.int .u32 (l[i] : Int)) := by
  obtain ⟨_, y, h2, u, z, bs, t, rfl, h3, h4, _⟩ := h
  have := h4 i
  rw [List.getElem?_eq_getElem (by simpa using hi)] at this
  simp [h2, this, u32s]
def okU (l : List Nat) : Bool := l.all fun k => decide (1 ≤ k ∧ k ≤ 8)
/-- only the pages in use are others -/
def Upd (H : Hp) (s' : Us × Nat) (K : Hp) : Prop := K.get 298 = some (mapB s') ∧ ∀ c, c ≠ 298 → K.get c = H.get c
theorem Upd.put {K : Hp} {s' : Us × Nat} (h : Upd H s' K) (s'' : Us × Nat) : Upd H s'' (K.put 298 (some (mapB s''))) := ⟨by simp, fun c hc => by simp [hc, h.2 c hc]⟩
theorem Upd.km {K : Hp} {s' : Us × Nat} (h : Upd H s' K) (hk : KH H) : KM K s' := ⟨⟨by rw [h.2 _ (by decide), hk.d], by rw [h.2 _ (by decide), hk.l], by rw [h.2 _ (by decide), hk.p], by rw [h.2 _ (by decide), hk.k]⟩, h.1⟩
theorem Upd.sl {K : Hp} {s' : Us × Nat} (h : Upd H s' K) {b : Nat} {l : List Nat} (hs : Sl H b l) : Sl K b l := by
  obtain ⟨h1, y', h2, h3⟩ := hs
  exact ⟨h1, y', by rw [h.2 b h1, h2], h3⟩
theorem u64w (v : Nat) (hm : v < 4294967296) : cToInt .u64 (.int .u32 (v : Int)) = .val (.int .u64 (v : Int)) := by
  rw [cToInt_int]; congr 2; simp [IntKind.wrap, IntKind.signed, IntKind.bits]; omega
theorem u64_8 : cToInt .u64 (.int .i64 8) = .val (.int .u64 8) := rfl
/-- Use -/
theorem use6 {b : Nat} {l : List Nat} (hn : 1453 ≤ n) (hl : l.length < 2147483648) (hu : ∀ x ∈ l, x < 4294967296) (hk : KM H s) (hs : Sl H b l) :
    CallR Tryz.prog 6 [.ptr 299 0, .sl b 0 l.length 1] H n (fun u K k => u = .int .i64 (if okU l then 0 else 2) ∧ Upd H (if okU l then l.foldl putU s else s) K ∧ k = n) := by
  refine CallR.of c6 (by simp [A6]) fun F hF => ?_
  simp [A6, B6, R6_0, R6_1, hF]
  refine CalV.same (gone22 hk.k) ?_
  simp [R6_3, hF]
  refine LoopV.of (fun k F' K n' ms => ∃ i, k = l.length - i ∧ i ≤ l.length ∧ F'.get 0 = some (.ptr 299 0) ∧ F'.get 1 = some (.sl b 0 l.length 1) ∧ F'.get 11 = some (.sl b 0 l.length 1) ∧ F'.get 12 = some (.int .i64 (l.length : Int)) ∧ F'.get 13 = some (.int .i64 (i : Int)) ∧ H = K ∧ n = n' ∧ ms = [] ∧ (l.take i).all (fun k => decide (1 ≤ k ∧ k ≤ 8)) = true) l.length ⟨0, by simp [hF]⟩ ?_
  rintro k F' K n' ms ⟨i, rfl, hi, f0, f1, f11, f12, f13, rfl, rfl, rfl, hall⟩
  by_cases hlt : i < l.length
  · have hx := cIxa_sl (b := b) (o := 0) (sz := 1) (k := .i64) hlt
    have hld := hs.load hlt
    simp at hx
    have hm := hu l[i] (List.getElem_mem hlt)
    generalize hv : l[i] = v at *
    have e11 : l.take (i + 1) = l.take i ++ [v] := by rw [← hv]; exact List.take_succ_eq_append_getElem hlt
    simp [L6_0, R6_4, f11, f12, f13, hlt, R6_5, hx, hld, R6_6]
    have hu0 : Upd H s H := ⟨hk.m, fun _ _ => rfl⟩
    by_cases h1 : (v : Int) < 1
    · have hno : okU l = false := by
        unfold okU
        rw [List.all_eq_false]
        exact ⟨v, by rw [← hv]; exact List.getElem_mem hlt, by simp; omega⟩
      simp [h1, R6_7, hno, hu0]
    simp [h1, f0, u64w v hm]
    refine CalV.same (pg13 hn hk.k) ?_
    simp [u64_8]
    by_cases h2 : (8 : Int) < v
    · have hno : okU l = false := by
        unfold okU
        rw [List.all_eq_false]
        exact ⟨v, by rw [← hv]; exact List.getElem_mem hlt, by simp; omega⟩
      simp [h2, R6_7, hno, hu0]
    · simp [h2, R6_8, f0, f1, f11, f12, f13, wrap_i i (by omega)]
      refine ⟨l.length - (i + 1), by omega, i + 1, rfl, hlt, rfl, ?_⟩
      intro x hx
      rw [e11] at hx
      rcases List.mem_append.1 hx with hx | hx
      · simp only [List.all_eq_true, decide_eq_true_eq] at hall
        exact hall x hx
      · simp at hx; subst hx; omega
  · have hi' : i = l.length := by omega
    subst hi'
    have hok : okU l = true := by
      unfold okU; rw [List.take_length] at hall; exact hall
    simp [L6_0, R6_4, f12, f13, hok, R6_9, f1]
    refine LoopV.of (fun k F' K n' ms => ∃ i, k = l.length - i ∧ i ≤ l.length ∧ F'.get 0 = some (.ptr 299 0) ∧ F'.get 28 = some (.sl b 0 l.length 1) ∧ F'.get 29 = some (.int .i64 (l.length : Int)) ∧ F'.get 30 = some (.int .i64 (i : Int)) ∧ Upd H ((l.take i).foldl putU s) K ∧ n = n' ∧ ms = []) l.length ⟨0, by simp [f0]; exact ⟨hk.m, fun _ _ => rfl⟩⟩ ?_
    rintro k F' K n' ms ⟨i, rfl, hi, f0, f28, f29, f30, hU, rfl, rfl⟩
    by_cases hlt : i < l.length
    · have hx := cIxa_sl (b := b) (o := 0) (sz := 1) (k := .i64) hlt
      have hkm := hU.km hk.k
      have hld := (hU.sl hs).load hlt
      simp at hx
      generalize hv : l[i] = v at *
      have e11 : l.take (i + 1) = l.take i ++ [v] := by rw [← hv]; exact List.take_succ_eq_append_getElem hlt
      simp [L6_1, R6_10, f0, f28, f29, f30, hlt, R6_11, hx, hld, R6_12, hkm.k.k, kKern, cMput_u hkm.m, R6_13, wrap_i i (by omega)]
      refine ⟨l.length - (i + 1), by omega, i + 1, rfl, hlt, rfl, ?_⟩
      rw [e11, List.foldl_append]
      exact hU.put _
    · have hi' : i = l.length := by omega
      subst hi'
      rw [List.take_length] at hU
      simp [L6_1, R6_10, f29, f30, R6_14, hU]
/-- Release -/
theorem rel9 {b : Nat} {l : List Nat} (hl : l.length < 2147483648) (hk : KM H s) (hs : Sl H b l) :
    CallR Tryz.prog 9 [.ptr 299 0, .sl b 0 l.length 1] H n (fun u K k => u = .tup [] ∧ Upd H (l.foldl delU s) K ∧ k = n) := by
  refine CallR.of c9 (by simp [A9]) fun F hF => ?_
  simp [A9, B9, R9_0, R9_1, hF]
  refine LoopV.of (fun k F' K n' ms => ∃ i, k = l.length - i ∧ i ≤ l.length ∧ F'.get 0 = some (.ptr 299 0) ∧ F'.get 8 = some (.sl b 0 l.length 1) ∧ F'.get 9 = some (.int .i64 (l.length : Int)) ∧ F'.get 10 = some (.int .i64 (i : Int)) ∧ Upd H ((l.take i).foldl delU s) K ∧ n = n' ∧ ms = []) l.length ⟨0, by simp [hF]; exact ⟨hk.m, fun _ _ => rfl⟩⟩ ?_
  rintro k F' K n' ms ⟨i, rfl, hi, f0, f28, f29, f30, hU, rfl, rfl⟩
  by_cases hlt : i < l.length
  · have hx := cIxa_sl (b := b) (o := 0) (sz := 1) (k := .i64) hlt
    have hkm := hU.km hk.k
    have hld := (hU.sl hs).load hlt
    simp at hx
    generalize hv : l[i] = v at *
    have e11 : l.take (i + 1) = l.take i ++ [v] := by rw [← hv]; exact List.take_succ_eq_append_getElem hlt
    simp [L9_0, R9_2, f0, f28, f29, f30, hlt, R9_3, hx, hld, R9_4, hkm.k.k, kKern, cDel_u hkm.m, R9_5, wrap_i i (by omega)]
    refine ⟨l.length - (i + 1), by omega, i + 1, rfl, hlt, rfl, ?_⟩
    rw [e11, List.foldl_append]
    exact hU.put _
  · have hi' : i = l.length := by omega
    subst hi'
    rw [List.take_length] at hU
    simp [L9_0, R9_2, f29, f30, hU]
end Go.Abs
