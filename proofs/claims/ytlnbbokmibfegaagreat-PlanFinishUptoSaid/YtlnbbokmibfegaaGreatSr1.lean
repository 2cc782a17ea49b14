/- Sorting in place: elements changed, ranges swapped, parts turned round. -/
import Derived.Test.YtlnbbokmibfegaaGreatPfC
import Derived.Test.YtlnbbokmibfegaaGreatSrt
namespace Go.Abs
open Go.Proofs
set_option maxRecDepth 100000

/-- a cell changed -/
theorem OwnB.st {u : Nat} {z bs : List AV} {t : Ov AV} {l : List AV} (h : OwnB (.cells u z bs t) l) {i : Nat} (hi : i < l.length) (v : AV) : OwnB (stBlk u z bs t [v] i) (l.set i v) := by
  obtain ⟨u', z', bs', t', e, hu, hg, hl⟩ := h
  injection e with e1 e2 e3 e4
  subst e1 e2 e3 e4
  have key : ∀ t2, (∀ j, t2.get j = if i ≤ j ∧ j < i + 1 then [v][j - i]? else t.get j) → t2 ≠ .nil → OwnB (.cells u z bs t2) (l.set i v) := by
    intro t2 h2 hne
    refine ⟨u, z, bs, t2, rfl, by simp [hu], fun j => ?_, fun e => absurd e hne⟩
    have hj := hg j
    rw [getc_eq] at hj ⊢
    rw [List.getElem?_set, h2]
    by_cases e : i = j
    · subst e
      rw [if_pos (by omega), if_pos (by omega), if_pos rfl, if_pos hi]
      simp
    · rw [if_neg e]
      by_cases hju : j < u
      · rw [if_pos hju] at hj ⊢
        rw [if_neg (by omega)]
        exact hj
      · rw [if_neg hju] at hj ⊢
        exact hj
  have hput : ∀ t : Ov AV, (Ov.putAll [v] i t) ≠ .nil := by
    intro t e
    have := Ov.get_putAll [v] i t i
    rw [e, if_pos (by simp)] at this
    simp at this
  have hgen : OwnB (.cells u z bs (Ov.putAll [v] i t)) (l.set i v) := key _ (fun j => Ov.get_putAll [v] i t j) (hput t)
  unfold stBlk
  split
  · split
    · split
      · split
        · rename_i bs' hp
          have hb := hl rfl rfl
          obtain ⟨p1, _, p3⟩ := patch_spec hp
          have : bs' = l.set i v := by
            apply List.ext_getElem?
            intro j
            rw [p3, List.getElem?_set]
            have hj := hg j
            rw [getc_list'] at hj
            by_cases e : i = j
            · subst e; rw [if_pos (by simp), if_pos rfl, if_pos hi]; simp
            · rw [if_neg (by simp; omega), if_neg e]
              rw [← hj]
              split
              · rfl
              · rw [List.getElem?_eq_none (by omega)]
          rw [this]
          exact .list (by simp [hu])
        · exact hgen
      · exact hgen
    · exact hgen
  · exact hgen
  · exact hgen
/-- what is compared, by what -/
structure Cm (α : Type) where
  g : FuncId
  first : List AV
  cap : List AV
  av : α → AV
  c : α → α → Int
  El : α → Prop
  J : Hp → Prop
  bk : Nat
structure Cm.Ok {α : Type} (C : Cm α) (P : Program) : Prop where
  call : ∀ x y, C.El x → C.El y → ∀ H n, C.J H → CallOk P C.g (C.first ++ ([C.av x, C.av y] ++ C.cap)) H n (.int .i64 (C.c x y)) H n
  stay : ∀ H K, C.J H → (∀ b, b ≠ C.bk → K.get b = H.get b) → C.J K
  one : ∀ x, (C.av x).one = true
def Cm.fv {α : Type} (C : Cm α) : AV := .fn (.func C.g) C.first C.cap
variable {α : Type} {C : Cm α}
/-- the row of elements -/
def Dt (C : Cm α) (H : Hp) (d : List α) : Prop := ∃ y, H.get C.bk = some y ∧ OwnB y (d.map C.av)
/-- the row alone is another one -/
def Ch (C : Cm α) (H : Hp) (d : List α) (K : Hp) : Prop := Dt C K d ∧ ∀ b, b ≠ C.bk → K.get b = H.get b
theorem Ch.refl {H : Hp} {d : List α} (h : Dt C H d) : Ch C H d H := ⟨h, fun _ _ => rfl⟩
theorem Ch.trans {H K L : Hp} {d e : List α} (h : Ch C H d K) (k : Ch C K e L) : Ch C H e L := ⟨k.1, fun b hb => (k.2 b hb).trans (h.2 b hb)⟩
theorem one_len {v : AV} (h : v.one = true) : v.len = 1 ∧ v.cells = [v] := by
  cases v <;> simp_all [AV.one, AV.len, AV.cells]
theorem Dt.ld {H : Hp} {d : List α} (h : Dt C H d) {i : Nat} (hi : i < d.length) : cLoad1 (.ptr C.bk i) H = .val (C.av d[i]) := by
  obtain ⟨y, h2, u, z, bs, t, rfl, h3, h4, _⟩ := h
  have := h4 i
  rw [List.getElem?_eq_getElem (by simpa using hi)] at this
  simp [h2, this]
theorem Dt.st {P : Program} {H : Hp} {d : List α} (ho : C.Ok P) (h : Dt C H d) {i : Nat} (hi : i < d.length) (x : α) : ∃ y, cStore 1 (.ptr C.bk i) (C.av x) H = .upd (.tup []) C.bk y ∧ Ch C H (d.set i x) (H.put C.bk (some y)) := by
  obtain ⟨y, h2, h3⟩ := h
  have h3' := h3
  obtain ⟨u, z, bs, t, rfl, h4, _⟩ := h3
  obtain ⟨o1, o2⟩ := one_len (ho.one x)
  refine ⟨stBlk u z bs t [C.av x] i, ?_, ⟨⟨_, by simp; rfl, ?_⟩, fun b hb => by simp [hb]⟩⟩
  · have hu : i + 1 ≤ u := by rw [h4, List.length_map]; omega
    have h5 : allOne [C.av x] = true := by rw [allOne_cons, ho.one]; rfl
    simp [cStore, h2, o1, o2, hu, h5]
  · have := h3'.st (i := i) (by simpa using hi) (C.av x)
    rw [← List.map_set] at this
    exact this
theorem ix_dt {bk N i : Nat} (hi : i < N) : cIxa 1 (.sl bk 0 N 1) (.int .i64 (i : Int)) = .val (.ptr bk i) := by
  have := cIxa_sl (b := bk) (o := 0) (sz := 1) (k := .i64) hi
  simpa using this
theorem set_two (X Y Z : List α) (x y : α) : ((X ++ x :: (Y ++ y :: Z)).set X.length y).set (X.length + 1 + Y.length) x = X ++ y :: (Y ++ x :: Z) := by
  have h1 : (X ++ x :: (Y ++ y :: Z)).set X.length y = X ++ y :: (Y ++ y :: Z) := by
    rw [List.set_append_right _ _ (Nat.le_refl _)]; simp
  rw [h1, List.set_append_right _ _ (by omega)]
  have h2 : X.length + 1 + Y.length - X.length = Y.length + 1 := by omega
  rw [h2]
  simp only [List.set_cons_succ]
  rw [List.set_append_right _ _ (Nat.le_refl _)]
  simp
/-- ranges, partly swapped -/
def swD (p u q v s : List α) (i : Nat) : List α := p ++ ((v.take i ++ u.drop i) ++ (q ++ ((u.take i ++ v.drop i) ++ s)))
theorem swD_zero (p u q v s : List α) : swD p u q v s 0 = p ++ (u ++ (q ++ (v ++ s))) := by simp [swD]
theorem swD_end (p u q v s : List α) (h : u.length = v.length) : swD p u q v s u.length = p ++ (v ++ (q ++ (u ++ s))) := by
  unfold swD
  rw [List.take_length, List.drop_length, h, List.take_length, List.drop_length]; simp
theorem swD_at (p u q v s : List α) {i : Nat} (hu : i < u.length) (hv : i < v.length) : swD p u q v s i = (p ++ v.take i) ++ u[i] :: ((u.drop (i + 1) ++ (q ++ u.take i)) ++ v[i] :: (v.drop (i + 1) ++ s)) := by
  unfold swD
  rw [List.drop_eq_getElem_cons hu, List.drop_eq_getElem_cons hv]
  simp only [List.append_assoc, List.cons_append]
theorem swD_succ (p u q v s : List α) {i : Nat} (hu : i < u.length) (hv : i < v.length) : swD p u q v s (i + 1) = (p ++ v.take i) ++ v[i] :: ((u.drop (i + 1) ++ (q ++ u.take i)) ++ u[i] :: (v.drop (i + 1) ++ s)) := by
  unfold swD
  rw [List.take_succ_eq_append_getElem hu, List.take_succ_eq_append_getElem hv]
  simp only [List.append_assoc, List.cons_append, List.nil_append]
theorem wrapS (x : Int) (h : -2147483648 ≤ x) (h2 : x < 2147483648) : IntKind.i64.wrap x = x := by
  simp [IntKind.wrap, IntKind.signed, IntKind.bits]; omega
theorem set_at1 (X Y Z : List α) (x y : α) {i : Nat} (hi : i = X.length) : ∀ h, (X ++ x :: (Y ++ y :: Z))[i]'h = x := by
  subst hi; intro h; simp
theorem set_at2 (X Y Z : List α) (x y : α) {i : Nat} (hi : i = X.length + 1 + Y.length) : ∀ h, (X ++ x :: (Y ++ y :: Z))[i]'h = y := by
  subst hi
  intro h
  rw [List.getElem_append_right (by omega)]
  have e : X.length + 1 + Y.length - X.length = Y.length + 1 := by omega
  simp [e]
/-- two elements change places -/
theorem Ch.swap {P : Program} (ho : C.Ok P) {H K : Hp} {D X Y Z : List α} {x y : α} (h : Ch C H D K) (eD : D = X ++ x :: (Y ++ y :: Z)) {A B : Nat} (hA : A = X.length) (hB : B = X.length + 1 + Y.length) :
    ∃ y1 y2, cLoad1 (.ptr C.bk A) K = .val (C.av x) ∧ cLoad1 (.ptr C.bk B) K = .val (C.av y) ∧ cStore 1 (.ptr C.bk A) (C.av y) K = .upd (.tup []) C.bk y1 ∧ cStore 1 (.ptr C.bk B) (C.av x) (K.put C.bk (some y1)) = .upd (.tup []) C.bk y2 ∧ Ch C H (X ++ y :: (Y ++ x :: Z)) ((K.put C.bk (some y1)).put C.bk (some y2)) := by
  have hl : D.length = B + 1 + Z.length := by rw [eD]; simp; omega
  have l1 := h.1.ld (i := A) (by omega)
  have l2 := h.1.ld (i := B) (by omega)
  have g1 : D[A]'(by omega) = x := by subst eD; exact set_at1 X Y Z _ _ hA _
  have g2 : D[B]'(by omega) = y := by subst eD; exact set_at2 X Y Z _ _ hB _
  rw [g1] at l1
  rw [g2] at l2
  obtain ⟨y1, s1, t1⟩ := h.1.st ho (i := A) (by omega) y
  obtain ⟨y2, s2, t2⟩ := t1.1.st ho (i := B) (by rw [List.length_set]; omega) x
  have e : (D.set A y).set B x = X ++ y :: (Y ++ x :: Z) := by
    rw [eD, hA, hB]; exact set_two X Y Z x y
  rw [e] at t2
  exact ⟨y1, y2, l1, l2, s1, s2, (h.trans t1).trans t2⟩
/-- the same, the latter place first -/
theorem Ch.swap' {P : Program} (ho : C.Ok P) {H K : Hp} {D X Y Z : List α} {x y : α} (h : Ch C H D K) (eD : D = X ++ x :: (Y ++ y :: Z)) {A B : Nat} (hA : A = X.length) (hB : B = X.length + 1 + Y.length) :
    ∃ y1 y2, cLoad1 (.ptr C.bk A) K = .val (C.av x) ∧ cLoad1 (.ptr C.bk B) K = .val (C.av y) ∧ cStore 1 (.ptr C.bk B) (C.av x) K = .upd (.tup []) C.bk y1 ∧ cStore 1 (.ptr C.bk A) (C.av y) (K.put C.bk (some y1)) = .upd (.tup []) C.bk y2 ∧ Ch C H (X ++ y :: (Y ++ x :: Z)) ((K.put C.bk (some y1)).put C.bk (some y2)) := by
  have hl : D.length = B + 1 + Z.length := by rw [eD]; simp; omega
  have l1 := h.1.ld (i := A) (by omega)
  have l2 := h.1.ld (i := B) (by omega)
  have g1 : D[A]'(by omega) = x := by subst eD; exact set_at1 X Y Z _ _ hA _
  have g2 : D[B]'(by omega) = y := by subst eD; exact set_at2 X Y Z _ _ hB _
  rw [g1] at l1
  rw [g2] at l2
  obtain ⟨y1, s1, t1⟩ := h.1.st ho (i := B) (by omega) x
  obtain ⟨y2, s2, t2⟩ := t1.1.st ho (i := A) (by rw [List.length_set]; omega) y
  have e : (D.set B x).set A y = X ++ y :: (Y ++ x :: Z) := by
    rw [List.set_comm _ _ (by omega), eD, hA, hB]; exact set_two X Y Z x y
  rw [e] at t2
  exact ⟨y1, y2, l1, l2, s1, s2, (h.trans t1).trans t2⟩
theorem swap173 (ho : C.Ok Tryz.prog) {H : Hp} {n : Nat} {p u q v s : List α} {N : Nat} (hd : Dt C H (p ++ (u ++ (q ++ (v ++ s))))) (huv : u.length = v.length) (hN : p.length + u.length + q.length + v.length ≤ N) (hb : N < 1000000) {a b k : Nat} (ea : a = p.length) (eb : b = p.length + u.length + q.length) (ek : k = u.length) :
    CallR Tryz.prog 189 [.sl C.bk 0 N 1, .int .i64 (a : Int), .int .i64 (b : Int), .int .i64 (k : Int), C.fv] H n (fun w K j => w = .tup [] ∧ Ch C H (p ++ (v ++ (q ++ (u ++ s)))) K ∧ j = n) := by
  refine CallR.of c189 (by simp [A189]) fun F hF => ?_
  simp [A189, B189, R189_0]
  refine LoopV.of (fun t F' K n' ms => ∃ i, t = k - i ∧ i ≤ k ∧ F'.get 0 = some (.sl C.bk 0 N 1) ∧ F'.get 1 = some (.int .i64 (a : Int)) ∧ F'.get 2 = some (.int .i64 (b : Int)) ∧ F'.get 3 = some (.int .i64 (k : Int)) ∧ F'.get 10 = some (.int .i64 (i : Int)) ∧ Ch C H (swD p u q v s i) K ∧ n = n' ∧ ms = []) k ⟨0, by simp [hF, swD_zero]; exact .refl hd⟩ ?_
  rintro t F' K n' ms ⟨i, rfl, hi, f0, f1, f2, f3, f10, hC, rfl, rfl⟩
  by_cases hlt : i < k
  · have hlu : i < u.length := by omega
    have hlv : i < v.length := by omega
    obtain ⟨A, hA⟩ : ∃ A, A = a + i := ⟨_, rfl⟩
    obtain ⟨B, hB⟩ : ∃ B, B = b + i := ⟨_, rfl⟩
    obtain ⟨y1, y2, l1, l2, s1, s2, t2⟩ := hC.swap ho (swD_at p u q v s hlu hlv) (A := A) (B := B) (by simp; omega) (by simp; omega)
    rw [← swD_succ p u q v s hlu hlv] at t2
    have x1 := ix_dt (bk := C.bk) (N := N) (i := A) (by omega)
    have x2 := ix_dt (bk := C.bk) (N := N) (i := B) (by omega)
    have w1 : IntKind.i64.wrap ((a : Int) + (i : Int)) = (A : Int) := by rw [wrapS _ (by omega) (by omega)]; omega
    have w2 : IntKind.i64.wrap ((b : Int) + (i : Int)) = (B : Int) := by rw [wrapS _ (by omega) (by omega)]; omega
    simp [L189_0, R189_1, f3, f10, hlt, R189_2]
    refine DrwV.of (ce0_ok (P := Tryz.prog)) ?_
    simp [clearF_get, f0, f1, f2, f3, f10, w1, w2, x1, x2, l1, l2, s1, s2, R189_3, wrap_i i (by omega)]
    exact ⟨k - (i + 1), by omega, i + 1, rfl, hlt, by simp, t2⟩
  · have hi' : i = u.length := by omega
    subst hi'
    rw [swD_end _ _ _ _ _ huv] at hC
    simp [L189_0, R189_1, f3, f10, hC, ek]
end Go.Abs
