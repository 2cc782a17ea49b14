/- The pages of a schema, each once: the loop over them. -/
import Derived.Test.YtfdoeenlgkkaiaaBt8
namespace Go.Abs
open Go.Proofs
open Classical
set_option maxRecDepth 100000
section
variable {F : Fr} {H : Hp} {n : Nat}
@[simp] theorem eMput_f (q : LK) (m k v : G) : eMput q m k v F H n = oE (m.f F) fun m => oE (k.f F) fun k => oE (v.f F) fun v => cMput q m k v H := by
 unfold eMput oE
 cases m.f F with
 | none => rfl
 | some a => dsimp only; cases k.f F with
  | none => rfl
  | some b => dsimp only; cases v.f F <;> rfl
@[simp] theorem eLookup_f (q : LK) (z : AV) (ok : Bool) (m k : G) : eLookup q z ok m k F H n = oE (m.f F) fun m => oE (k.f F) fun k => cLookup q z ok m k H := by
 unfold eLookup oE
 cases m.f F with
 | none => rfl
 | some a => dsimp only; cases k.f F <;> rfl
end
def mpE : Nat → List Int → List (AV × AV × Nat)
 | _, [] => []
 | i, x :: r => (.int .u32 x, .int .i64 1, i) :: mpE (i + 1) r
theorem mpE_add (x : Int) : ∀ (l : List Int) (i : Nat), mpE i (l ++ [x]) = mpE i l ++ [(.int .u32 x, .int .i64 1, i + l.length)]
 | [], i => by simp [mpE]
 | y :: r, i => by simp [mpE, mpE_add x r (i + 1)]; omega
theorem eqLeaf_i (a b : Int) : eqLeaf .i (.int .u32 a) (.int .u32 b) = some (decide (a = b)) := by
 simp only [eqLeaf, if_true]
 congr 1
theorem find_i (k : Int) : ∀ (l : List Int) (i : Nat), findKey .i (.int .u32 k) (mpE i l) = some (if k ∈ l then some (.int .i64 1) else none)
 | [], i => rfl
 | y :: r, i => by
  simp only [mpE, findKey, eqLeaf_i]
  by_cases h : k = y
  · simp [h]
  · simp [h, find_i k r (i + 1)]
theorem set_i (k : Int) (v : AV) : ∀ (l : List Int) (i : Nat), k ∉ l → setKey .i (.int .u32 k) v (mpE i l) = some none
 | [], i, _ => rfl
 | y :: r, i, h => by
  simp only [List.mem_cons, not_or] at h
  simp only [mpE, setKey, eqLeaf_i]
  simp [h.1, set_i k v r (i + 1) h.2]
theorem set_y (k : Int) (v : AV) : ∀ (l : List Int) (i : Nat), k ∈ l → ∃ es, setKey .i (.int .u32 k) v (mpE i l) = some (some es) ∧ findKey .i (.int .u32 k) es = some (some v)
 | [], i, h => by simp at h
 | y :: r, i, h => by
  simp only [mpE, setKey, eqLeaf_i]
  by_cases e : k = y
  ·
   subst e
   simp [findKey, eqLeaf_i]
  ·
   have h2 : k ∈ r := by simpa [e] using h
   obtain ⟨es, h3, h4⟩ := set_y k v r (i + 1) h2
   simp [e, h3, findKey, eqLeaf_i, h4]
theorem find_add (k : Int) (l : List Int) (i : Nat) (h : k ∉ l) : findKey .i (.int .u32 k) (mpE i l ++ [(.int .u32 k, .int .i64 1, i + l.length)]) = some (some (.int .i64 1)) := by
 rw [← mpE_add, find_i]; simp
structure S85 (s : Sch) (Fo : Fr) (l : List Int) (K : Hp) (n : Nat) : Prop where
 k0 : K.get 0 = some (.cells 2 [] (eSch.cells s) .nil)
 k1 : K.get 1 = some (.cells 1 [] [.bool false] .nil)
 k2 : K.get 2 = some (.map (mpE 0 l) l.length)
 k3 : K.get 3 = some (.cells 1 [] [.map 2] .nil)
 k4 : K.get 4 = some (.cells 2 [] (eSch.cells s) .nil)
 k5 : K.get 5 = some (.loop .ready .normal 120 Fo [25] Y16_0.1 Y16_0.2)
 k6 : K.get 6 = some .defd
 n7 : 7 ≤ n
 top : Top K n
structure X85 (Fo : Fr) (K : Hp) : Prop where
 k1 : K.get 1 = some (.cells 1 [] [.bool false] .nil)
 k5 : ∃ nt G ps a b, K.get 5 = some (.loop .done .ret nt G ps a b)
 k6 : K.get 6 = some .defd
theorem page_yld (s : Sch) (Fo : Fr) (l : List Int) (x : Int) {K : Hp} {n : Nat} {pd : Pd} {r : List (Option GO)} {F : Fr} {Q : QA} (f2 : Fo.get 2 = some (.ptr 1 0)) (f3 : Fo.get 3 = some (.ptr 3 0)) (S : S85 s Fo l K n)
  (h1 : x ≠ 0 → x ∉ l → ∀ K' n', S85 s Fo (l ++ [x]) K' n' → VCO Try.prog r (pd.f (.bool true) F) K' n' [] Q)
  (h2 : (x = 0 ∨ x ∈ l) → ∀ K' n', X85 Fo K' → VCO Try.prog r (pd.f (.bool false) F) K' n' [] Q) : YldV 5 [.int .u32 x] pd r Try.prog F K n [] Q := by
 obtain ⟨k0, k1, k2, k3, k4, k5, k6, n7, top⟩ := S
 refine YldV.of k5 (by simp [putsF]; rfl) ?_
 rw [y16_0a]
 simp [R16_5, k5]
 refine ⟨_, _, _, _, _, _, ⟨rfl, rfl, rfl, rfl, rfl, rfl⟩, ?_⟩
 rw [y16_0b]
 by_cases hx : x ∈ l
 ·
  obtain ⟨es, hs1, hs2⟩ := set_y x (.int .i64 2) l 0 hx
  by_cases h0 : x = 0
  ·
   subst h0
   simp [R16_6, f2, f3, k1, k2, k3, k5, cLookup, cMput, isKey, find_i, hx, hs1, R16_7, R16_8]
   unfold RndE
   refine ⟨_, _, _, _, _, _, _, (by simp [k5]; exact ⟨rfl, rfl, rfl, rfl, rfl, rfl, rfl⟩), ?_⟩
   refine h2 (by simp) _ _ ⟨by simp, ⟨_, _, _, _, _, by simp; exact ⟨rfl, rfl, rfl, rfl, rfl⟩⟩, by simp [k6]⟩
  ·
   simp [R16_6, f2, f3, k1, k2, k3, k5, cLookup, cMput, isKey, find_i, hx, hs1, hs2, R16_7, h0, R16_8]
   unfold RndE
   refine ⟨_, _, _, _, _, _, _, (by simp [k5]; exact ⟨rfl, rfl, rfl, rfl, rfl, rfl, rfl⟩), ?_⟩
   refine h2 (by simp [hx]) _ _ ⟨by simp, ⟨_, _, _, _, _, by simp; exact ⟨rfl, rfl, rfl, rfl, rfl⟩⟩, by simp [k6]⟩
 ·
  have hs1 := set_i x (.int .i64 1) l 0 hx
  have hs2 := find_add x l 0 hx
  simp only [Nat.zero_add] at hs2
  by_cases h0 : x = 0
  ·
   subst h0
   simp [R16_6, f2, f3, k1, k2, k3, k5, cLookup, cMput, isKey, find_i, hx, hs1, R16_7, R16_8]
   unfold RndE
   refine ⟨_, _, _, _, _, _, _, (by simp [k5]; exact ⟨rfl, rfl, rfl, rfl, rfl, rfl, rfl⟩), ?_⟩
   refine h2 (by simp) _ _ ⟨by simp, ⟨_, _, _, _, _, by simp; exact ⟨rfl, rfl, rfl, rfl, rfl⟩⟩, by simp [k6]⟩
  ·
   simp [R16_6, f2, f3, k1, k2, k3, k5, cLookup, cMput, isKey, find_i, hx, hs1, hs2, R16_7, h0, R16_8]
   unfold RndE
   refine ⟨_, _, _, _, _, _, _, (by simp [k5]; exact ⟨rfl, rfl, rfl, rfl, rfl, rfl, rfl⟩), ?_⟩
   refine h1 h0 hx _ _ ⟨?_, ?_, ?_, ?_, ?_, ?_, ?_, n7, ?_⟩
   · simp [k0]
   · simp [k1]
   · simp [mpE_add]
   · simp [k3]
   · simp [k4]
   · simp
   · simp [k6]
   ·
    intro b hb
    have e2 : ¬ b = 2 := by omega
    have e5 : ¬ b = 5 := by omega
    simp [e2, e5, top b hb]
end Go.Abs
namespace Go.Abs
open Go.Proofs
open Classical
set_option maxRecDepth 100000
def PgOk (l : List Int) : Prop := l.Nodup ∧ 0 ∉ l
def Sch.pages (s : Sch) : List Int := s.tables.map (·.head) ++ s.indexes.map (·.root)
theorem PgOk.add {l : List Int} {x : Int} (h : PgOk l) (h0 : x ≠ 0) (hx : x ∉ l) : PgOk (l ++ [x]) := by
 refine ⟨List.nodup_append.2 ⟨h.1, by simp, fun a ha b hb => ?_⟩, ?_⟩
 · simp at hb; subst hb; intro e; subst e; exact hx ha
 · simp only [List.mem_append, List.mem_singleton, not_or]; exact ⟨h.2, Ne.symm h0⟩
theorem PgOk.bad {l r : List Int} {x : Int} (h : x = 0 ∨ x ∈ l) : ¬ PgOk (l ++ (x :: r)) := by
 rintro ⟨h1, h2⟩
 rcases h with rfl | h
 · exact h2 (by simp)
 · exact (List.nodup_append.1 h1).2.2 x h x (by simp) rfl
theorem S85.alloc {s : Sch} {Fo : Fr} {l : List Int} {K : Hp} {n : Nat} (S : S85 s Fo l K n) (y z : ABlk) : S85 s Fo l ((K.put n (some y)).put n (some z)) (n + 1) := by
 obtain ⟨k0, k1, k2, k3, k4, k5, k6, n7, top⟩ := S
 refine ⟨?_, ?_, ?_, ?_, ?_, ?_, ?_, by omega, ?_⟩
 · simp [show ¬ 0 = n by omega, k0]
 · simp [show ¬ 1 = n by omega, k1]
 · simp [show ¬ 2 = n by omega, k2]
 · simp [show ¬ 3 = n by omega, k3]
 · simp [show ¬ 4 = n by omega, k4]
 · simp [show ¬ 5 = n by omega, k5]
 · simp [show ¬ 6 = n by omega, k6]
 ·
  intro b hb
  simp [show ¬ b = n by omega, top b (by omega)]
def Sch.pg (s : Sch) (i j : Nat) : List Int := (s.tables.take i).map (·.head) ++ (s.indexes.take j).map (·.root)
theorem pg_0 (s : Sch) : s.pg 0 0 = [] := by simp [Sch.pg]
theorem pg_t {s : Sch} {i : Nat} (h : i < s.tables.length) : s.pg (i + 1) 0 = s.pg i 0 ++ [s.tables[i].head] := by
 unfold Sch.pg; rw [List.take_add_one, List.getElem?_eq_getElem h]; simp only [List.map_append, Option.toList, List.map_cons, List.map_nil, List.take_zero, List.append_nil]
theorem pg_i {s : Sch} {i j : Nat} (h : j < s.indexes.length) : s.pg i (j + 1) = s.pg i j ++ [s.indexes[j].root] := by
 unfold Sch.pg; rw [List.take_add_one (l := s.indexes), List.getElem?_eq_getElem h]; simp only [List.map_append, Option.toList, List.map_cons, List.map_nil, List.append_assoc]
theorem pg_all (s : Sch) : s.pg s.tables.length s.indexes.length = s.pages := by simp [Sch.pg, Sch.pages]
theorem pg_tr {s : Sch} {i : Nat} (h : i < s.tables.length) : ∃ r, s.pages = s.pg i 0 ++ (s.tables[i].head :: r) := by
 refine ⟨(s.tables.drop (i + 1)).map (·.head) ++ s.indexes.map (·.root), ?_⟩
 unfold Sch.pages Sch.pg
 conv => lhs; rw [← List.take_append_drop i s.tables, List.drop_eq_getElem_cons h]
 simp only [List.map_append, List.map_cons, List.map_nil, List.take_zero, List.append_nil, List.append_assoc, List.cons_append, List.take_length]
theorem pg_ir {s : Sch} {j : Nat} (h : j < s.indexes.length) : ∃ r, s.pages = s.pg s.tables.length j ++ (s.indexes[j].root :: r) := by
 refine ⟨(s.indexes.drop (j + 1)).map (·.root), ?_⟩
 unfold Sch.pages Sch.pg
 conv => lhs; rw [← List.take_append_drop j s.indexes, List.drop_eq_getElem_cons h]
 simp only [List.map_append, List.map_cons, List.map_nil, List.take_zero, List.append_nil, List.append_assoc, List.cons_append, List.take_length]
theorem pages85 (s : Sch) (hs : s.fine) (Fo : Fr) (K : Hp) (n : Nat) (f2 : Fo.get 2 = some (.ptr 1 0)) (f3 : Fo.get 3 = some (.ptr 3 0)) (S : S85 s Fo [] K n) :
  CallR Try.prog 85 [.yld 5, .ptr 4 0] K n (fun _ K' n' => (PgOk s.pages ∧ S85 s Fo s.pages K' n') ∨ (¬ PgOk s.pages ∧ X85 Fo K')) := by
 have ht := hs.t
 have hi := hs.i
 unfold lim at ht hi
 refine CallR.of c85 (by simp [A85]) fun F hF => ?_
 have k4 := S.k4
 rw [eSch_c] at k4
 simp [A85, B85, R85_0, hF, k4, Enc.len_ds]
 refine LoopV.of (fun t F K n ms => ∃ i, t = s.tables.length - i ∧ i ≤ s.tables.length ∧ F.get 0 = some (.yld 5) ∧ F.get 1 = some (.ptr 4 0) ∧ F.get 8 = some (eTbl.ds s.tables) ∧ F.get 9 = some (.int .i64 (s.tables.length : Int)) ∧ F.get 10 = some (.int .i64 (i : Int)) ∧ S85 s Fo (s.pg i 0) K n ∧ PgOk (s.pg i 0) ∧ ms = []) s.tables.length ⟨0, by simp, by simp, by simp [hF], by simp [hF], by simp, by simp, by simp, by rw [pg_0]; exact S, by simp [pg_0, PgOk], rfl⟩ ?_
 clear S k4 hF F K n
 rintro t F K n ms ⟨i, rfl, hil, f0, f1, f8, f9, f10, S, hP, rfl⟩
 by_cases hlt : i < s.tables.length
 ·
  have hx := eTbl.ix (ik := .i64) hlt
  have hld := fun H => eTbl.ldN s.tables[i] (eTbl.l (s.tables.drop (i + 1))) H
  have S1 := S.alloc (.cells 4 [] [.int .u32 0, .str [], .cst (.slice none 0 0), .int .u32 0] .nil) (.cells 4 [] (eTbl.cells s.tables[i]) .nil)
  obtain ⟨rr, hrr⟩ := pg_tr hlt
  simp [L85_0, R85_1, R85_2, f8, f9, f10, hlt, hx, hld, Enc.av]
  generalize hK1 : Tr.put (Tr.put K n _) n _ = K1 at S1 ⊢
  have kn : K1.get n = some (.cells 4 [] (eTbl.cells s.tables[i]) .nil) := by rw [← hK1]; simp
  rw [eTbl_c] at kn
  clear hK1
  simp [R85_3, f0, kn]
  refine page_yld s Fo (s.pg i 0) s.tables[i].head f2 f3 S1 (fun h0 hx K' n' S' => ?_) (fun hb K' n' X => ?_)
  ·
   simp [R85_4, f0, f1, f8, f9, f10, wrap_nat i (by omega)]
   refine ⟨_, by omega, i + 1, rfl, hlt, rfl, ?_, ?_⟩
   · rw [pg_t hlt]; exact S'
   · rw [pg_t hlt]; exact hP.add h0 hx
  ·
   simp
   exact .inr ⟨by rw [hrr]; exact PgOk.bad hb, X⟩
 ·
  obtain rfl : i = s.tables.length := by omega
  have k4 := S.k4
  rw [eSch_c] at k4
  simp [L85_0, R85_1, f9, f10, R85_5, f1, k4, Enc.len_ds]
  refine LoopV.of (fun t F K n ms => ∃ i, t = s.indexes.length - i ∧ i ≤ s.indexes.length ∧ F.get 0 = some (.yld 5) ∧ F.get 1 = some (.ptr 4 0) ∧ F.get 21 = some (eIxd.ds s.indexes) ∧ F.get 22 = some (.int .i64 (s.indexes.length : Int)) ∧ F.get 23 = some (.int .i64 (i : Int)) ∧ S85 s Fo (s.pg s.tables.length i) K n ∧ PgOk (s.pg s.tables.length i) ∧ ms = []) s.indexes.length ⟨0, by simp, by simp, by simp [f0], by simp [f1], by simp, by simp, by simp, S, hP, rfl⟩ ?_
  clear S hP hil k4 f0 f1 f8 f9 f10 F K n
  rintro t F K n ms ⟨i, rfl, hil, f0, f1, f8, f9, f10, S, hP, rfl⟩
  by_cases hlt : i < s.indexes.length
  ·
   have hx := eIxd.ix (ik := .i64) hlt
   have hld := fun H => eIxd.ldN s.indexes[i] (eIxd.l (s.indexes.drop (i + 1))) H
   have S1 := S.alloc (.cells 6 [] [.int .u32 0, .int .u32 0, .str [], .cst (.slice none 0 0), .bool false, .int .u32 0] .nil) (.cells 6 [] (eIxd.cells s.indexes[i]) .nil)
   obtain ⟨rr, hrr⟩ := pg_ir hlt
   simp [L85_1, R85_6, R85_7, f8, f9, f10, hlt, hx, hld, Enc.av]
   generalize hK1 : Tr.put (Tr.put K n _) n _ = K1 at S1 ⊢
   have kn : K1.get n = some (.cells 6 [] (eIxd.cells s.indexes[i]) .nil) := by rw [← hK1]; simp
   rw [eIxd_c] at kn
   clear hK1
   simp [R85_8, f0, kn]
   refine page_yld s Fo (s.pg s.tables.length i) s.indexes[i].root f2 f3 S1 (fun h0 hx K' n' S' => ?_) (fun hb K' n' X => ?_)
   ·
    simp [R85_9, f0, f1, f8, f9, f10, wrap_nat i (by omega)]
    refine ⟨_, by omega, i + 1, rfl, hlt, rfl, ?_, ?_⟩
    · rw [pg_i hlt]; exact S'
    · rw [pg_i hlt]; exact hP.add h0 hx
   ·
    simp
    exact .inr ⟨by rw [hrr]; exact PgOk.bad hb, X⟩
  ·
   obtain rfl : i = s.indexes.length := by omega
   rw [pg_all] at S hP
   simp [L85_1, R85_6, f9, f10]
   exact .inl ⟨hP, S⟩
theorem pages43 (s : Sch) (H : Hp) (n : Nat) : CallR Try.prog 43 [eSch.av s] H n (fun v K k => v = .fn (.func 85) [] [.ptr n 0] ∧ K = H.put n (some (.cells 2 [] (eSch.cells s) .nil)) ∧ k = n + 1) := by
 refine CallR.of c43 (by simp [A43]) fun F hF => ?_
 simp [A43, B43, R43_0, R43_1, hF, Enc.av]
end Go.Abs
namespace Go.Abs
open Go.Proofs
open Classical
set_option maxRecDepth 100000
structure S16 (s : Sch) (K : Hp) (n : Nat) : Prop where
 k0 : K.get 0 = some (.cells 2 [] (eSch.cells s) .nil)
 k1 : K.get 1 = some (.cells 1 [] [.bool false] .nil)
 k6 : K.get 6 = some .defd
 n7 : 7 ≤ n
 top : Top K n
theorem S16.alloc {s : Sch} {K : Hp} {n : Nat} (S : S16 s K n) (y z : ABlk) : S16 s ((K.put n (some y)).put n (some z)) (n + 1) := by
 obtain ⟨k0, k1, k6, n7, top⟩ := S
 refine ⟨?_, ?_, ?_, by omega, ?_⟩
 · simp [show ¬ 0 = n by omega, k0]
 · simp [show ¬ 1 = n by omega, k1]
 · simp [show ¬ 6 = n by omega, k6]
 ·
  intro b hb
  simp [show ¬ b = n by omega, top b (by omega)]
theorem S16.re {s : Sch} {K : Hp} {n : Nat} (S : S16 s K n) : S16 s (K.put 1 (some (.cells 1 [] [.bool false] .nil))) n := by
 obtain ⟨k0, k1, k6, n7, top⟩ := S
 refine ⟨by simp [k0], by simp, by simp [k6], n7, fun b hb => ?_⟩
 simp [show ¬ b = 1 by omega, top b hb]
def lastT (l : List Tbl) (i : Nat) : Int := match (l.take i).getLast? with
 | some t => t.id
 | none => 0
theorem lastT_0 (l : List Tbl) : lastT l 0 = 0 := by simp [lastT]
theorem lastT_s {l : List Tbl} {i : Nat} (h : i < l.length) : lastT l (i + 1) = l[i].id := by
 unfold lastT; rw [List.take_add_one, List.getElem?_eq_getElem h]; simp only [Option.toList, List.getLast?_concat]
structure TabOk (l : List Tbl) (i : Nat) (h : i < l.length) : Prop where
 id : lastT l i < l[i].id
 name : NameOk l[i].name
 cols : ColsOk l[i].cols
 new : ∀ t ∈ l.take i, t.name ≠ l[i].name
def TabsOk (l : List Tbl) : Prop := ∀ i h, TabOk l i h
theorem may16a (s : Sch) (hs : s.fine) (F : Fr) (K : Hp) (n : Nat) (Q : QA) (S : S16 s K n) (f1 : F.get 1 = some (.ptr 0 0)) (f2 : F.get 2 = some (.ptr 1 0)) (f5 : F.get 5 = some (.int .u32 0)) (f39 : F.get 39 = some (eTbl.ds s.tables)) (f40 : F.get 40 = some (.int .i64 (s.tables.length : Int))) (f41 : F.get 41 = some (.int .i64 0))
  (hok : TabsOk s.tables → ∀ F' K' n', S16 s K' n' → F'.get 1 = some (.ptr 0 0) → F'.get 2 = some (.ptr 1 0) → Q .normal F' K' n' [.col 6])
  (hbad : ¬ TabsOk s.tables → ∀ F' K' n', S16 s K' n' → F'.get 2 = some (.ptr 1 0) → Q .ret F' K' n' [.col 6]) : LoopV L16_0 Try.prog F K n [.col 6] (BlkQ 2 Q) := by
 have ht := hs.t
 unfold lim at ht
 refine LoopV.of (fun t F K n ms => ∃ i, t = s.tables.length - i ∧ i ≤ s.tables.length ∧ F.get 1 = some (.ptr 0 0) ∧ F.get 2 = some (.ptr 1 0) ∧ F.get 5 = some (.int .u32 (lastT s.tables i)) ∧ F.get 39 = some (eTbl.ds s.tables) ∧ F.get 40 = some (.int .i64 (s.tables.length : Int)) ∧ F.get 41 = some (.int .i64 (i : Int)) ∧ S16 s K n ∧ (∀ k, (h : k < s.tables.length) → k < i → TabOk s.tables k h) ∧ ms = [.col 6]) s.tables.length ⟨0, by simp, by simp, f1, f2, by simp [lastT_0, f5], f39, f40, by simp [f41], S, fun k _ h => by omega, rfl⟩ ?_
 clear S f1 f2 f5 f39 f40 f41 F K n
 rintro t F K n ms ⟨i, rfl, hil, f1, f2, f5, f39, f40, f41, S, hP, rfl⟩
 by_cases hlt : i < s.tables.length
 ·
  have hx := eTbl.ix (ik := .i64) hlt
  have hld := fun H => eTbl.ldN s.tables[i] (eTbl.l (s.tables.drop (i + 1))) H
  have S1 := S.alloc (.cells 4 [] [.int .u32 0, .str [], .cst (.slice none 0 0), .int .u32 0] .nil) (.cells 4 [] (eTbl.cells s.tables[i]) .nil)
  have hsl := eTbl.slHi (l := s.tables) (i := i) hil
  simp [L16_0, R16_11, R16_12, f39, f40, f41, hlt, hx, hld, Enc.av]
  generalize hK1 : Tr.put (Tr.put K n _) n _ = K1 at S1 ⊢
  have kn : K1.get n = some (.cells 4 [] (eTbl.cells s.tables[i]) .nil) := by rw [← hK1]; simp
  clear hK1
  have kn' := kn
  rw [eTbl_c] at kn'
  have k0 := S1.k0
  rw [eSch_c] at k0
  have no : ¬ TabOk s.tables i hlt → ¬ TabsOk s.tables := fun h h2 => h (h2 i hlt)
  have k1 := S1.k1
  have hne : ∀ b, b < n → ¬ b = n := fun b h => by omega
  by_cases h1 : s.tables[i].id ≤ lastT s.tables i
  ·
   simp [R16_13, kn', f5, h1, R16_14, f2, k1]
   refine hbad (no fun h => absurd h.id (by omega)) _ _ _ S1.re ?_
   simp [f2]
  simp [R16_13, kn', f5, h1]
  refine CalV.pure (name44 s.tables[i].name) ?_
  by_cases h2 : NameOk s.tables[i].name
  ·
   simp [h2, kn']
   refine CalV.pure (may45 s.tables[i].cols) ?_
   by_cases h3 : ColsOk s.tables[i].cols
   ·
    simp [h3, f1, k0, eSl, oev, hsl]
    refine CalV.same (conTbl (p := fun d => decide (d.name = s.tables[i].name)) (first := []) (cap := [.ptr n 0]) (s.tables.take i) (by simp; unfold lim; omega) fun d _ => tbl47 d s.tables[i] n K1 (n + 1) kn S1.top) ?_
    by_cases h4 : ∃ t ∈ s.tables.take i, t.name = s.tables[i].name
    ·
     have h4' : ((s.tables.take i).any fun d => decide (d.name = s.tables[i].name)) = true := by simpa using h4
     simp [h4', R16_14, f2, k1]
     refine hbad (no fun h => ?_) _ _ _ S1.re ?_
     · obtain ⟨t, ht1, ht2⟩ := h4; exact h.new t ht1 ht2
     · simp [f2]
    ·
     have h4' : ((s.tables.take i).any fun d => decide (d.name = s.tables[i].name)) = false := by
      rw [Bool.eq_false_iff]; intro h; exact h4 (by simpa using h)
     simp [h4', R16_15, R16_16, kn', f1, f2, f39, f40, f41, wrap_nat i (by omega)]
     refine ⟨_, by omega, i + 1, rfl, hlt, by simp [lastT_s hlt], rfl, S1, fun k h hk => ?_⟩
     by_cases e : k = i
     · subst e; exact ⟨by omega, h2, h3, fun t ht1 ht2 => h4 ⟨t, ht1, ht2⟩⟩
     · exact hP k h (by omega)
   ·
    simp [h3, R16_14, f2, k1]
    refine hbad (no fun h => h3 h.cols) _ _ _ S1.re ?_
    simp [f2]
  ·
   simp [h2, R16_14, f2, k1]
   refine hbad (no fun h => h2 h.name) _ _ _ S1.re ?_
   simp [f2]
 ·
  obtain rfl : i = s.tables.length := by omega
  simp [L16_0, R16_11, f40, f41]
  refine hok (fun k h => hP k h h) _ _ _ S ?_ ?_
  · simp [f1]
  · simp [f2]
end Go.Abs
namespace Go.Abs
open Go.Proofs
open Classical
set_option maxRecDepth 100000
def lastI (l : List Ixd) (i : Nat) : Int := match (l.take i).getLast? with
 | some t => t.id
 | none => 0
theorem lastI_0 (l : List Ixd) : lastI l 0 = 0 := by simp [lastI]
theorem lastI_s {l : List Ixd} {i : Nat} (h : i < l.length) : lastI l (i + 1) = l[i].id := by
 unfold lastI; rw [List.take_add_one, List.getElem?_eq_getElem h]; simp only [Option.toList, List.getLast?_concat]
structure IxOk (s : Sch) (i : Nat) (h : i < s.indexes.length) : Prop where
 id : lastI s.indexes i < s.indexes[i].id
 name : NameOk s.indexes[i].name
 table : (s.table s.indexes[i].table).2 = true
 cols : PlacesOk (s.table s.indexes[i].table).1 s.indexes[i].cols
 new : ∀ t ∈ s.indexes.take i, t.name ≠ s.indexes[i].name
def IxsOk (s : Sch) : Prop := ∀ i h, IxOk s i h
theorem may16b (s : Sch) (hs : s.fine) (F : Fr) (K : Hp) (n : Nat) (Q : QA) (S : S16 s K n) (f1 : F.get 1 = some (.ptr 0 0)) (f2 : F.get 2 = some (.ptr 1 0)) (f5 : F.get 5 = some (.int .u32 0)) (f39 : F.get 74 = some (eIxd.ds s.indexes)) (f40 : F.get 75 = some (.int .i64 (s.indexes.length : Int))) (f41 : F.get 76 = some (.int .i64 0))
  (hok : IxsOk s → ∀ F' K' n', S16 s K' n' → F'.get 1 = some (.ptr 0 0) → F'.get 2 = some (.ptr 1 0) → Q .normal F' K' n' [.col 6])
  (hbad : ¬ IxsOk s → ∀ F' K' n', S16 s K' n' → F'.get 2 = some (.ptr 1 0) → Q .ret F' K' n' [.col 6]) : LoopV L16_1 Try.prog F K n [.col 6] (BlkQ 4 Q) := by
 have ht := hs.i
 unfold lim at ht
 refine LoopV.of (fun t F K n ms => ∃ i, t = s.indexes.length - i ∧ i ≤ s.indexes.length ∧ F.get 1 = some (.ptr 0 0) ∧ F.get 2 = some (.ptr 1 0) ∧ F.get 5 = some (.int .u32 (lastI s.indexes i)) ∧ F.get 74 = some (eIxd.ds s.indexes) ∧ F.get 75 = some (.int .i64 (s.indexes.length : Int)) ∧ F.get 76 = some (.int .i64 (i : Int)) ∧ S16 s K n ∧ (∀ k, (h : k < s.indexes.length) → k < i → IxOk s k h) ∧ ms = [.col 6]) s.indexes.length ⟨0, by simp, by simp, f1, f2, by simp [lastI_0, f5], f39, f40, by simp [f41], S, fun k _ h => by omega, rfl⟩ ?_
 clear S f1 f2 f5 f39 f40 f41 F K n
 rintro t F K n ms ⟨i, rfl, hil, f1, f2, f5, f39, f40, f41, S, hP, rfl⟩
 by_cases hlt : i < s.indexes.length
 ·
  have hx := eIxd.ix (ik := .i64) hlt
  have hld := fun H => eIxd.ldN s.indexes[i] (eIxd.l (s.indexes.drop (i + 1))) H
  have S1 := S.alloc (.cells 6 [] [.int .u32 0, .int .u32 0, .str [], .cst (.slice none 0 0), .bool false, .int .u32 0] .nil) (.cells 6 [] (eIxd.cells s.indexes[i]) .nil)
  have hsl := eIxd.slHi (l := s.indexes) (i := i) hil
  simp [L16_1, R16_19, R16_20, f39, f40, f41, hlt, hx, hld, Enc.av]
  generalize hK1 : Tr.put (Tr.put K n _) n _ = K1 at S1 ⊢
  have kn : K1.get n = some (.cells 6 [] (eIxd.cells s.indexes[i]) .nil) := by rw [← hK1]; simp
  clear hK1
  have kn' := kn
  rw [eIxd_c] at kn'
  have k0 := S1.k0
  rw [eSch_c] at k0
  have no : ¬ IxOk s i hlt → ¬ IxsOk s := fun h h2 => h (h2 i hlt)
  have h23 := table23 s hs s.indexes[i].table
  have hav : eSch.av s = .agg [eTbl.ds s.tables, eIxd.ds s.indexes] 2 := rfl
  rw [hav] at h23
  simp [R16_21, f1, k0, kn']
  refine CalV.pure h23 ?_
  have hcl : (s.table s.indexes[i].table).1.cols.length ≤ lim := firstD_len (Q := fun t : Tbl => t.cols.length ≤ lim) (by simp [Tbl.zero, lim]) hs.tc
  have h48 := fun c => places48 (s.table s.indexes[i].table).1 c hcl
  generalize hT : s.table s.indexes[i].table = T at h48 hcl ⊢
  obtain ⟨t, ok⟩ := T
  have S2 := S1.alloc (.cells 4 [] [.int .u32 0, .str [], .cst (.slice none 0 0), .int .u32 0] .nil) (.cells 4 [] (eTbl.cells t) .nil)
  simp [Enc.av]
  generalize hK2 : Tr.put (Tr.put K1 (n + 1) _) (n + 1) _ = K2 at S2 ⊢
  have kn2 : K2.get n = some (.cells 6 [] (eIxd.cells s.indexes[i]) .nil) := by rw [← hK2]; simp [kn]
  have kt : K2.get (n + 1) = some (.cells 4 [] (eTbl.cells t) .nil) := by rw [← hK2]; simp
  clear hK2 kn kn' k0 S1
  have kn' := kn2
  rw [eIxd_c] at kn'
  have k0 := S2.k0
  rw [eSch_c] at k0
  have k1 := S2.k1
  have h48' := h48 s.indexes[i].cols
  simp only [Enc.av] at h48'
  by_cases h1 : s.indexes[i].id ≤ lastI s.indexes i
  ·
   simp [R16_22, kn', f5, h1, R16_23, f2, k1]
   refine hbad (no fun h => absurd h.id (by omega)) _ _ _ S2.re ?_
   simp [f2]
  simp [R16_22, kn', f5, h1]
  refine CalV.pure (name44 s.indexes[i].name) ?_
  by_cases h2 : NameOk s.indexes[i].name
  ·
   cases ok with
   | false =>
    simp [h2, R16_23, f2, k1]
    refine hbad (no fun h => ?_) _ _ _ S2.re ?_
    · have := h.table; rw [hT] at this; simp at this
    · simp [f2]
   | true =>
   simp [h2, kn', kt]
   refine CalV.pure h48' ?_
   by_cases h3 : PlacesOk t s.indexes[i].cols
   ·
    simp [h3, f1, k0, eSl, oev, hsl]
    refine CalV.same (conIxd (p := fun d => decide (d.name = s.indexes[i].name)) (first := []) (cap := [.ptr n 0]) (s.indexes.take i) (by simp; unfold lim; omega) fun d _ => ixd50 d s.indexes[i] n K2 (n + 1 + 1) kn2 S2.top) ?_
    by_cases h4 : ∃ t ∈ s.indexes.take i, t.name = s.indexes[i].name
    ·
     have h4' : ((s.indexes.take i).any fun d => decide (d.name = s.indexes[i].name)) = true := by simpa using h4
     simp [h4', R16_23, f2, k1]
     refine hbad (no fun h => ?_) _ _ _ S2.re ?_
     · obtain ⟨t, ht1, ht2⟩ := h4; exact h.new t ht1 ht2
     · simp [f2]
    ·
     have h4' : ((s.indexes.take i).any fun d => decide (d.name = s.indexes[i].name)) = false := by
      rw [Bool.eq_false_iff]; intro h; exact h4 (by simpa using h)
     simp [h4', R16_24, R16_25, kn', f1, f2, f39, f40, f41, wrap_nat i (by omega)]
     refine ⟨_, by omega, i + 1, rfl, hlt, by simp [lastI_s hlt], rfl, S2, fun k h hk => ?_⟩
     by_cases e : k = i
     · subst e; exact ⟨by omega, h2, by rw [hT], by rw [hT]; exact h3, fun t ht1 ht2 => h4 ⟨t, ht1, ht2⟩⟩
     · exact hP k h (by omega)
   ·
    simp [h3, R16_23, f2, k1]
    refine hbad (no fun h => h3 ?_) _ _ _ S2.re ?_
    · have := h.cols; rwa [hT] at this
    simp [f2]
  ·
   simp [h2, R16_23, f2, k1]
   refine hbad (no fun h => h2 h.name) _ _ _ S2.re ?_
   simp [f2]
 ·
  obtain rfl : i = s.indexes.length := by omega
  simp [L16_1, R16_19, f40, f41]
  refine hok (fun k h => hP k h h) _ _ _ S ?_ ?_
  · simp [f1]
  · simp [f2]
end Go.Abs
namespace Go.Abs
open Go.Proofs
open Classical
set_option maxRecDepth 100000
@[simp] theorem map_len (b : Nat) : (AV.map b).len = 1 := rfl
@[simp] theorem map_cells (b : Nat) : (AV.map b).cells = [.map b] := rfl
@[simp] theorem map_one (b : Nat) : (AV.map b).one = true := rfl
structure SchOk (s : Sch) : Prop where
 t : s.tables.length ≤ 32
 i : s.indexes.length ≤ 64
 pages : PgOk s.pages
 tabs : TabsOk s.tables
 ixs : IxsOk s
theorem may16 (s : Sch) (hs : s.fine) : FnPure Try.prog 16 [eSch.av s] (.bool (decide (SchOk s))) := by
 refine pureV c16 (by simp) (by simp) (by simp [A16]) fun F hF => ?_
 by_cases h1 : 32 < s.tables.length
 ·
  have : ¬ SchOk s := fun h => absurd h.t (by omega)
  simp [A16, B16, R16_0, R16_1, R16_2, hF, Enc.av, eSch_c, Enc.len_ds, show (32 : Int) < (s.tables.length : Int) by omega]
  exact .bool (by simp [this])
 have h1' : ¬ (32 : Int) < (s.tables.length : Int) := by omega
 by_cases h2 : 64 < s.indexes.length
 ·
  have : ¬ SchOk s := fun h => absurd h.i (by omega)
  simp [A16, B16, R16_0, R16_1, R16_2, hF, Enc.av, eSch_c, Enc.len_ds, h1', show (64 : Int) < (s.indexes.length : Int) by omega]
  exact .bool (by simp [this])
 have h2' : ¬ (64 : Int) < (s.indexes.length : Int) := by omega
 simp [A16, B16, R16_0, R16_1, hF, Enc.av, eSch_c, Enc.len_ds, h1', h2', R16_3, R16_4, eMkmap]
 refine CalV.of (pages43 s _ _) ?_
 rintro v K n ⟨rfl, rfl, rfl⟩
 simp
 refine RngV.of ?_
 generalize hF1 : (Fp 24 _ _ : Fr) = F1
 have f1 : F1.get 1 = some (.ptr 0 0) := by rw [← hF1]; simp
 have f2 : F1.get 2 = some (.ptr 1 0) := by rw [← hF1]; simp
 have f3 : F1.get 3 = some (.ptr 3 0) := by rw [← hF1]; simp
 clear hF1 hF F
 refine CallR.mono (pages85 s hs F1 _ _ f2 f3 ?_) ?_
 ·
  refine ⟨by simp [eSch_c], by simp, by simp [mpE], by simp, by simp, by simp, by simp, by omega, fun b hb => ?_⟩
  simp [show ¬ b = 0 by omega, show ¬ b = 1 by omega, show ¬ b = 2 by omega, show ¬ b = 3 by omega, show ¬ b = 4 by omega, show ¬ b = 5 by omega, show ¬ b = 6 by omega]
 ·
  rintro v K n (⟨hp, S⟩ | ⟨hp, X⟩)
  ·
   refine ⟨_, _, _, _, _, _, _, S.k5, by simp, by simp, ?_⟩
   have S1 : S16 s (K.put 5 none) n := ⟨by simp [S.k0], by simp [S.k1], by simp [S.k6], S.n7, fun b hb => by
    have := S.n7
    simp [show ¬ b = 5 by omega, S.top b hb]⟩
   clear S
   generalize Tr.put K 5 none = K1 at S1 ⊢
   have k0 := S1.k0
   rw [eSch_c] at k0
   simp [R16_9, R16_10, f1, k0, Enc.len_ds]
   refine may16a s hs _ _ _ _ S1 (by simp [f1]) (by simp [f2]) (by simp) (by simp) (by simp) (by simp) (fun ht F' K' n' S' g1 g2 => ?_) (fun ht F' K' n' S' g2 => ?_)
   ·
    have k0 := S'.k0
    rw [eSch_c] at k0
    simp [R16_17, R16_18, g1, k0, Enc.len_ds]
    refine may16b s hs _ _ _ _ S' (by simp [g1]) (by simp [g2]) (by simp) (by simp) (by simp) (by simp) (fun hi F3 K3 n3 S3 w1 w2 => ?_) (fun hi F3 K3 n3 S3 w2 => ?_)
    ·
     have : SchOk s := ⟨by omega, by omega, hp, ht, hi⟩
     have k1 := S3.k1
     have k6 := S3.k6
     simp [R16_26, w2, k1, k6]
     exact .bool (by simp [this])
    ·
     have : ¬ SchOk s := fun h => hi h.ixs
     have k1 := S3.k1
     have k6 := S3.k6
     simp [w2, k1, k6]
     exact .bool (by simp [this])
   ·
    have : ¬ SchOk s := fun h => ht h.tabs
    have k1 := S'.k1
    have k6 := S'.k6
    simp [g2, k1, k6]
    exact .bool (by simp [this])
  ·
   obtain ⟨k1, ⟨nt, G, ps, a, b, k5⟩, k6⟩ := X
   have : ¬ SchOk s := fun h => hp h.pages
   refine ⟨_, _, _, _, _, _, _, k5, by simp, by simp, ?_⟩
   simp [f2, k1, k6]
   exact .bool (by simp [this])
end Go.Abs
namespace Go.Abs
open Go.Proofs
open Classical
set_option maxRecDepth 100000
noncomputable def M5 : CT := .seq (.seq R5_27 (.cond (slotG 107) (.seq R5_28 .ret) .skip)) (.seq R5_29 .ret)
structure OutB (s : Sch) (b : Bnd) (err : Int) (K : Hp) : Prop where
 k2 : K.get 2 = some (.cells 25 [] (outZ 0) .nil)
 k3 : K.get 3 = some (bdS s err)
 k4 : ∃ l, K.get 4 = some (.cells 25 [] l .nil) ∧ l.length = 25 ∧ allOne l = true ∧ ∀ h, FIL h l b.cells
theorem FIL.frzL {h : Hf} : ∀ {l l' : List AV}, FIL h l l' → PureL l' → FrzL h l l'
 | [], [], _, _ => .nil
 | [], _ :: _, k, _ => by simp [FIL] at k
 | _ :: _, [], k, _ => by simp [FIL] at k
 | v :: l, v' :: l', k, hp => by
  simp only [filCons] at k
  simp at hp
  refine .cons _ _ _ _ ?_ (FIL.frzL k.2 hp.2)
  rcases k.1 with rfl | h1
  · exact .pure _ hp.1
  · exact h1
theorem outZ_fil (k : Int) (h : Hf) : FIL h (outZ k) (Bnd.cells { kind := k }) := by
 simp [outZ, Bnd.cells, Tbl.zero, Ixd.zero]
@[simp] theorem outZ_len (k : Int) : (outZ k).length = 25 := rfl
theorem outZ_one (k : Int) : allOne (outZ k) = true := by simp [outZ]
def bndZ : Bnd := { kind := 0 }
def finB (r : Bnd × Int) : Bnd × Int := if r.2 = 0 then r else (bndZ, r.2)
theorem bind5_end (s : Sch) (b : Bnd) (err : Int) (F : Fr) (K : Hp) (n : Nat) (f4 : F.get 4 = some (.ptr 2 0)) (f6 : F.get 6 = some (.ptr 3 0)) (f7 : F.get 7 = some (.ptr 4 0)) (O : OutB s b err K) :
  VC Try.prog M5 F K n [] (RetQ [rCelN 4 25, rTmp 5] fun v1 H' _ => Frz H'.get v1 (.tup [.agg (finB (b, err)).1.cells 25, .int .i64 (finB (b, err)).2])) := by
 obtain ⟨k2, k3, l, k4, hl, ha, hz⟩ := O
 simp only [bdS, bdr] at k3
 have hzo : outZ 0 = [(.int .i64 0), (.str []), (.int .u32 0), (.str []), (.cst (.slice none 0 0)), (.int .u32 0), (.int .u32 0), (.int .u32 0), (.str []), (.cst (.slice none 0 0)), (.bool false), (.int .u32 0), (.cst (.slice none 0 0)), (.cst (.slice none 0 0)), (.cst (.slice none 0 0)), (.cst (.slice none 0 0)), (.cst (.slice none 0 0)), (.cst (.slice none 0 0)), (.cst (.slice none 0 0)), (.cst (.slice none 0 0)), (.cst (.slice none 0 0)), (.cst (.slice none 0 0)), (.bool false), (.bool false), (.int .i64 0)] := rfl
 have zl := outZ_len 0
 have zo := outZ_one 0
 have zf := outZ_fil 0
 by_cases h0 : err = 0
 ·
  subst h0
  generalize outZ 0 = z at *
  have hp : patch z 0 l = some l := patch_all (by omega)
  simp [M5, R5_27, R5_29, f4, f6, f7, k2, k3, k4, hl, ha, hp, finB]
  exact .tup _ _ (.cons _ _ _ _ (.agg _ _ _ ((hz _).frzL (by simp))) (.cons _ _ _ _ (.pure _ (by simp)) .nil))
 ·
  simp [M5, R5_27, R5_28, f4, f6, f7, k2, k3, k4, h0, finB]
  rw [← hzo]
  generalize outZ 0 = z at *
  have hp : patch z 0 z = some z := patch_all rfl
  refine DrwV.of (ce0_ok (P := Try.prog)) ?_
  simp [clearF_get, f4, f6, f7, k2, k3, k4, noneAt_cons, noneAt_nil, zl, zo, hp]
  exact .tup _ _ (.cons _ _ _ _ (.agg _ _ _ ((zf _).frzL (by simp))) (.cons _ _ _ _ (.pure _ (by simp)) .nil))
end Go.Abs
namespace Go.Abs
open Go.Proofs
open Classical
set_option maxRecDepth 100000
noncomputable def C5 : CT := (.seq R5_6 (.cond (slotG 27) R5_7 (.seq R5_8 (.cond (slotG 32) R5_9 (.seq R5_10 (.cond (slotG 39) R5_11 (.seq R5_12 (.cond (slotG 44) (.seq R5_13 (.seq R5_14 (.seq R5_15 R5_16))) (.seq R5_17 (.cond (slotG 67) R5_18 (.seq R5_19 (.cond (slotG 72) (.seq R5_20 (.seq R5_21 (.cond (slotG 83) R5_22 .skip))) (.seq R5_23 (.cond (slotG 92) R5_24 (.seq R5_25 (.cond (slotG 97) R5_26 .skip))))))))))))))))
theorem b5 : B5 = (.seq R5_0 (.seq (.seq R5_1 (.cond (slotG 17) (.seq R5_2 .ret) .skip)) (.seq R5_3 (.seq R5_4 (.seq (.seq R5_5 (.block 0 C5)) M5))))) := rfl
noncomputable def unindexB (s : Sch) (x : Stm) (err : Int) : Bnd × Int := ({ kind := x.kind, table := (s.table (s.index x.name).1.table).1, index := (s.index x.name).1 }, keep err 202 (!(s.index x.name).2))
noncomputable def deleteB (s : Sch) (x : Stm) (err : Int) : Bnd × Int :=
 if keep err 200 (!(s.named x.table).2) ≠ 0 then ({ kind := x.kind, table := (s.named x.table).1 }, keep err 200 (!(s.named x.table).2))
 else ({ kind := x.kind, table := (s.named x.table).1, cond := (condB [(s.named x.table).1.name] [(s.named x.table).1] x.cond 0).1 }, (condB [(s.named x.table).1.name] [(s.named x.table).1] x.cond 0).2)
noncomputable def bodyB (s : Sch) (x : Stm) : Bnd × Int :=
 if x.kind = 1 then createB s x 0
 else if x.kind = 2 then ({ kind := x.kind, table := (s.named x.table).1 }, keep 0 200 (!(s.named x.table).2))
 else if x.kind = 3 then indexB s x 0
 else if x.kind = 4 then unindexB s x 0
 else if x.kind = 5 then insertB s x 0
 else if x.kind = 6 then deleteB s x 0
 else if x.kind = 7 then updateB s x 0
 else if x.kind = 8 then queryB s x.q x.kind 0
 else ({ kind := x.kind }, 0)
noncomputable def bindB (s : Sch) (x : Stm) : Bnd × Int := if SchOk s ∧ x.may = true then finB (bodyB s x) else (bndZ, 1)
structure E5 (s : Sch) (x : Stm) (F : Fr) (K : Hp) : Prop where
 f2 : F.get 2 = some (.ptr 0 0)
 f3 : F.get 3 = some (.ptr 1 0)
 f4 : F.get 4 = some (.ptr 2 0)
 f6 : F.get 6 = some (.ptr 3 0)
 f7 : F.get 7 = some (.ptr 4 0)
 f26 : F.get 26 = some (.int .i64 x.kind)
 k0 : K.get 0 = some (.cells 2 [] (eSch.cells s) .nil)
 k1 : K.get 1 = some (.cells 31 [] x.cells .nil)
 k2 : K.get 2 = some (.cells 25 [] (outZ 0) .nil)
 k3 : K.get 3 = some (bdS s 0)
 k4 : K.get 4 = some (.cells 25 [] (outZ x.kind) .nil)
 top : Top K 5
def Fin5 (s : Sch) (x : Stm) (Q : QA) : Prop := ∀ F' K' n', F'.get 4 = some (.ptr 2 0) → F'.get 6 = some (.ptr 3 0) → F'.get 7 = some (.ptr 4 0) → OutB s (bodyB s x).1 (bodyB s x).2 K' → Q .normal F' K' n' []
theorem Bnd.one (b : Bnd) : allOne b.cells = true := by simp [Bnd.cells, Enc.ds]
theorem outB_put {s : Sch} {b : Bnd} {e : Int} {K : Hp} (k2 : K.get 2 = some (.cells 25 [] (outZ 0) .nil)) : OutB s b e ((K.put 3 (some (bdS s e))).put 4 (some (.cells 25 [] b.cells .nil))) :=
 ⟨by simp [k2], by simp, _, by simp, rfl, b.one, fun h => FIL.refl h _⟩
theorem bind5k1 (s : Sch) (hs : s.fine) (x : Stm) (hx : x.sm) (hk : x.kind = 1) (F : Fr) (K : Hp) (Q : QA) (E : E5 s x F K) (hQ : Fin5 s x Q) : VC Try.prog C5 F K 5 [] Q := by
 obtain ⟨f2, f3, f4, f6, f7, f26, k0, k1, k2, k3, k4, top⟩ := E
 have hc := create18 s hs x hx.cols 3 4 0 K 5 (by omega) (by omega) (by omega) k3 k4
 have hb : bodyB s x = createB s x 0 := by simp [bodyB, hk]
 have xl := x.cells_len
 rw [← hb] at hc
 have hav : x.av = .agg x.cells 31 := Eq.trans rfl rfl
 rw [hav] at hc
 rw [hk] at f26
 generalize x.cells = xs at *
 simp [C5, R5_6, R5_7, f26, f3, f6, f7, k1, xl]
 refine CalV.ok hc ?_
 simp
 exact hQ _ _ _ (by simp [f4]) (by simp [f6]) (by simp [f7]) (outB_put k2)
theorem bind5k3 (s : Sch) (hs : s.fine) (x : Stm) (hx : x.sm) (hk : x.kind = 3) (F : Fr) (K : Hp) (Q : QA) (E : E5 s x F K) (hQ : Fin5 s x Q) : VC Try.prog C5 F K 5 [] Q := by
 obtain ⟨f2, f3, f4, f6, f7, f26, k0, k1, k2, k3, k4, top⟩ := E
 have hc := index20 s hs x hx.on 3 4 0 K 5 (by omega) (by omega) (by omega) k3 k4
 have hb : bodyB s x = indexB s x 0 := by simp [bodyB, hk]
 have xl := x.cells_len
 rw [← hb] at hc
 have hav : x.av = .agg x.cells 31 := Eq.trans rfl rfl
 rw [hav] at hc
 rw [hk] at f26
 generalize x.cells = xs at *
 simp [C5, R5_6, R5_8, R5_10, R5_11, f26, f3, f6, f7, k1, xl]
 refine CalV.ok hc ?_
 simp
 exact hQ _ _ _ (by simp [f4]) (by simp [f6]) (by simp [f7]) (outB_put k2)
theorem bind5k5 (s : Sch) (hs : s.fine) (x : Stm) (hx : x.sm) (hr : ∀ r ∈ x.rows, r.length ≤ lim ∧ ∀ e ∈ r, e.sz ≤ lim ∧ e.may = true) (hk : x.kind = 5) (F : Fr) (K : Hp) (Q : QA) (E : E5 s x F K) (hQ : Fin5 s x Q) : VC Try.prog C5 F K 5 [] Q := by
 obtain ⟨f2, f3, f4, f6, f7, f26, k0, k1, k2, k3, k4, top⟩ := E
 have hc := insert24 s hs x hx.rows hr 3 4 0 K 5 (by omega) (by omega) (by omega) k3 k4
 have hb : bodyB s x = insertB s x 0 := by simp [bodyB, hk]
 have xl := x.cells_len
 rw [← hb] at hc
 have hav : x.av = .agg x.cells 31 := Eq.trans rfl rfl
 rw [hav] at hc
 rw [hk] at f26
 generalize x.cells = xs at *
 simp [C5, R5_6, R5_8, R5_10, R5_12, R5_17, R5_18, f26, f3, f6, f7, k1, xl]
 refine CalV.ok hc ?_
 simp
 exact hQ _ _ _ (by simp [f4]) (by simp [f6]) (by simp [f7]) (outB_put k2)
theorem bind5k7 (s : Sch) (hs : s.fine) (x : Stm) (hx : x.sm) (hr : ∀ y ∈ x.sets, y.e.sz ≤ lim ∧ y.e.may = true) (hcm : x.cond.maybe = true) (hk : x.kind = 7) (F : Fr) (K : Hp) (Q : QA) (E : E5 s x F K) (hQ : Fin5 s x Q) : VC Try.prog C5 F K 5 [] Q := by
 obtain ⟨f2, f3, f4, f6, f7, f26, k0, k1, k2, k3, k4, top⟩ := E
 have hc := update27 s hs x hx.sets hr hx.cond hcm 3 4 K 5 (by omega) (by omega) (by omega) k3 k4
 have hb : bodyB s x = updateB s x 0 := by simp [bodyB, hk]
 have xl := x.cells_len
 rw [← hb] at hc
 have hav : x.av = .agg x.cells 31 := Eq.trans rfl rfl
 rw [hav] at hc
 rw [hk] at f26
 generalize x.cells = xs at *
 simp [C5, R5_6, R5_8, R5_10, R5_12, R5_17, R5_19, R5_23, R5_24, f26, f3, f6, f7, k1, xl]
 refine CalV.ok hc ?_
 simp
 exact hQ _ _ _ (by simp [f4]) (by simp [f6]) (by simp [f7]) (outB_put k2)
theorem bind5k8 (s : Sch) (hs : s.fine) (x : Stm) (hq : x.q.fine s) (hk : x.kind = 8) (F : Fr) (K : Hp) (Q : QA) (E : E5 s x F K) (hQ : Fin5 s x Q) : VC Try.prog C5 F K 5 [] Q := by
 obtain ⟨f2, f3, f4, f6, f7, f26, k0, k1, k2, k3, k4, top⟩ := E
 have hc := query28 s hs x.q hq x.kind 3 4 0 K 5 (by omega) (by omega) (by omega) k3 k4
 have hb : bodyB s x = queryB s x.q x.kind 0 := by simp [bodyB, hk]
 have xl := x.cells_len
 have xq := x.tq
 rw [← hb] at hc
 have hav : x.q.av = .agg x.q.cells 15 := Eq.trans rfl rfl
 rw [hav] at hc
 rw [hk] at f26
 generalize x.cells = xs at *
 generalize x.q.cells = qs at *
 have hg : grab 31 [] xs .nil 16 15 = some qs := by simp [xl, xq]
 simp [C5, R5_6, R5_8, R5_10, R5_12, R5_17, R5_19, R5_23, R5_25, R5_26, f26, f3, f6, f7, k1, hg]
 refine CalV.ok hc ?_
 simp
 exact hQ _ _ _ (by simp [f4]) (by simp [f6]) (by simp [f7]) (outB_put k2)
theorem bind5k9 (s : Sch) (x : Stm) (h1 : ¬ x.kind = 1) (h2 : ¬ x.kind = 2) (h3 : ¬ x.kind = 3) (h4 : ¬ x.kind = 4) (h5 : ¬ x.kind = 5) (h6 : ¬ x.kind = 6) (h7 : ¬ x.kind = 7) (h8 : ¬ x.kind = 8) (F : Fr) (K : Hp) (Q : QA) (E : E5 s x F K) (hQ : Fin5 s x Q) : VC Try.prog C5 F K 5 [] Q := by
 obtain ⟨f2, f3, f4, f6, f7, f26, k0, k1, k2, k3, k4, top⟩ := E
 have hb : bodyB s x = ({ kind := x.kind }, 0) := by simp [bodyB, h1, h2, h3, h4, h5, h6, h7, h8]
 have hO : OutB s (bodyB s x).1 (bodyB s x).2 K := by
  rw [hb]; exact ⟨k2, k3, _, k4, rfl, outZ_one _, outZ_fil _⟩
 generalize x.kind = kk at f26 h1 h2 h3 h4 h5 h6 h7 h8
 simp [C5, R5_6, R5_8, R5_10, R5_12, R5_17, R5_19, R5_23, R5_25, f26, h1, h2, h3, h4, h5, h6, h7, h8]
 exact hQ _ _ _ (by simp [f4]) (by simp [f6]) (by simp [f7]) hO
end Go.Abs
namespace Go.Abs
open Go.Proofs
open Classical
set_option maxRecDepth 100000
theorem outZ_def (k : Int) : outZ k = [.int .i64 k, .str [], .int .u32 0, .str [], .cst (.slice none 0 0), .int .u32 0, .int .u32 0, .int .u32 0, .str [], .cst (.slice none 0 0), .bool false, .int .u32 0,
 .cst (.slice none 0 0), .cst (.slice none 0 0), .cst (.slice none 0 0), .cst (.slice none 0 0), .cst (.slice none 0 0), .cst (.slice none 0 0), .cst (.slice none 0 0), .cst (.slice none 0 0), .cst (.slice none 0 0), .cst (.slice none 0 0), .bool false, .bool false, .int .i64 0] := rfl
theorem bind5k2 (s : Sch) (hs : s.fine) (x : Stm) (hk : x.kind = 2) (F : Fr) (K : Hp) (Q : QA) (E : E5 s x F K) (hQ : Fin5 s x Q) : VC Try.prog C5 F K 5 [] Q := by
 obtain ⟨f2, f3, f4, f6, f7, f26, k0, k1, k2, k3, k4, top⟩ := E
 have hc := table19 s hs x.table 3 0 K 5 (by omega) k3
 have hb : bodyB s x = ({ kind := x.kind, table := (s.named x.table).1 }, keep 0 200 (!(s.named x.table).2)) := by simp [bodyB, hk]
 have x1 := x.g1
 rw [hk] at f26
 rw [outZ_def] at k4
 generalize hxs : x.cells = xs at *
 simp [C5, R5_6, R5_8, R5_9, f26, f3, f6, f7, k1, x1]
 refine CalV.ok hc ?_
 generalize s.named x.table = T at *
 obtain ⟨t, ok⟩ := T
 simp [k4, f7, Enc.av, eTbl_c]
 refine hQ _ _ _ ?_ ?_ ?_ ?_
 · simp [f4]
 · simp [f6]
 · simp [f7]
 ·
  rw [hb]
  exact ⟨by simp [k2], by simp, _, (Tr.get_put _ _ _ _).trans (if_pos rfl), rfl, by simp [Enc.ds], fun h => by simp [Bnd.cells, Ixd.zero]⟩
theorem bind5k4 (s : Sch) (hs : s.fine) (x : Stm) (hk : x.kind = 4) (F : Fr) (K : Hp) (Q : QA) (E : E5 s x F K) (hQ : Fin5 s x Q) : VC Try.prog C5 F K 5 [] Q := by
 obtain ⟨f2, f3, f4, f6, f7, f26, k0, k1, k2, k3, k4, top⟩ := E
 have hi := index21 s hs x.name
 have hb : bodyB s x = unindexB s x 0 := by simp [bodyB, hk]
 unfold unindexB at hb
 have x2 := x.g2
 have ht := table23 s hs (s.index x.name).1.table
 have hav : eSch.av s = .agg [eTbl.ds s.tables, eIxd.ds s.indexes] 2 := rfl
 rw [hav] at hi ht
 rw [eSch_c] at k0
 rw [hk] at f26
 rw [outZ_def] at k4
 generalize hxs : x.cells = xs at *
 simp [C5, R5_6, R5_8, R5_10, R5_12, R5_13, f26, f2, f3, f6, f7, k0, k1, x2]
 refine CalV.pure hi ?_
 generalize s.index x.name = I at *
 obtain ⟨ix, ok⟩ := I
 generalize s.table ix.table = T at *
 obtain ⟨t, ok2⟩ := T
 simp [k4, f6, f7, Enc.av, eIxd_c, R5_14]
 generalize hK1 : Tr.put (Tr.put K 5 _) 5 _ = K1
 have g1 : ∀ b, b < 5 → K1.get b = K.get b := fun b hb => by rw [← hK1]; simp [show ¬ b = 5 by omega]
 have g5 : K1.get 5 = some (.cells 6 [] [.int .u32 ix.id, .int .u32 ix.table, .str ix.name, eInt.ds ix.cols, .bool ix.uniq, .int .u32 ix.root] .nil) := by rw [← hK1]; simp
 clear hK1
 refine CalV.ok (failB 3 s 0 202 (!ok) K1 6 (by omega) ((g1 3 (by omega)).trans k3)) ?_
 have w0 := (g1 0 (by omega)).trans k0
 have w2 := (g1 2 (by omega)).trans k2
 have w4 := (g1 4 (by omega)).trans k4
 simp [R5_15, R5_16, f2, f6, f7, g5, w0, w4]
 refine CalV.pure ht ?_
 simp [Enc.av, eTbl_c, w4, f7]
 refine hQ _ _ _ ?_ ?_ ?_ ?_
 · simp [f4]
 · simp [f6]
 · simp [f7]
 ·
  rw [hb]
  exact ⟨by simp [w2], by simp, _, (Tr.get_put _ _ _ _).trans (if_pos rfl), rfl, by simp [Enc.ds], fun h => by simp [Bnd.cells, eIxd_c]⟩
theorem bind5k6 (s : Sch) (hs : s.fine) (x : Stm) (hz : x.cond.sz ≤ lim) (hm : x.cond.maybe = true) (hk : x.kind = 6) (F : Fr) (K : Hp) (Q : QA) (E : E5 s x F K) (hQ : Fin5 s x Q) : VC Try.prog C5 F K 5 [] Q := by
 obtain ⟨f2, f3, f4, f6, f7, f26, k0, k1, k2, k3, k4, top⟩ := E
 have hc := table19 s hs x.table 3 0 K 5 (by omega) k3
 have hb : bodyB s x = deleteB s x 0 := by simp [bodyB, hk]
 unfold deleteB at hb
 have hcl : (s.named x.table).1.cols.length ≤ lim := firstD_len (Q := fun t : Tbl => t.cols.length ≤ lim) (by simp [Tbl.zero, lim]) hs.tc
 have x1 := x.g1
 have xl := x.cells_len
 have xc := x.cc
 rw [hk] at f26
 rw [outZ_def] at k4
 generalize hxs : x.cells = xs at *
 have hg : grab 31 [] xs .nil 8 8 = some x.cond.cells := by simp [xl, xc]
 clear xl xc
 simp [C5, R5_6, R5_8, R5_10, R5_12, R5_17, R5_19, R5_20, f26, f3, f6, f7, k1, x1]
 refine CalV.ok hc ?_
 generalize s.named x.table = T at *
 obtain ⟨t, ok⟩ := T
 simp [k4, f6, f7, Enc.av, eTbl_c, R5_21]
 generalize hK1 : Tr.put _ 4 _ = K1
 have g1 : ∀ b, b ≠ 3 → b ≠ 4 → K1.get b = K.get b := fun b h1 h2 => by rw [← hK1]; simp [h1, h2]
 have g3 : K1.get 3 = some (bdS s (keep 0 200 !ok)) := by rw [← hK1]; simp
 have g4 : ∃ l, K1.get 4 = some (.cells 25 [] l .nil) ∧ l = [.int .i64 6, .str [], .int .u32 t.id, .str t.name, eCol.ds t.cols, .int .u32 t.head, .int .u32 0, .int .u32 0, .str [], .cst (.slice none 0 0), .bool false, .int .u32 0, .cst (.slice none 0 0), .cst (.slice none 0 0), .cst (.slice none 0 0), .cst (.slice none 0 0), .cst (.slice none 0 0), .cst (.slice none 0 0), .cst (.slice none 0 0), .cst (.slice none 0 0), .cst (.slice none 0 0), .cst (.slice none 0 0), .bool false, .bool false, .int .i64 0] := by
  rw [← hK1, ← hk]; exact ⟨_, (Tr.get_put _ _ _ _).trans (if_pos rfl), rfl⟩
 clear hK1
 obtain ⟨l, g4, hl⟩ := g4
 have w2 := (g1 2 (by omega) (by omega)).trans k2
 have w1 := (g1 1 (by omega) (by omega)).trans k1
 generalize hF2 : (Fp 81 _ _ : Fr) = F2
 have v3 : F2.get 3 = some (.ptr 1 0) := by rw [← hF2]; simp [f3]
 have v4 : F2.get 4 = some (.ptr 2 0) := by rw [← hF2]; simp [f4]
 have v6 : F2.get 6 = some (.ptr 3 0) := by rw [← hF2]; simp [f6]
 have v7 : F2.get 7 = some (.ptr 4 0) := by rw [← hF2]; simp [f7]
 clear hF2
 cases ok with
 | false =>
  have hke : keep 0 200 (!false) = 200 := rfl
  simp only [hke] at g3 hb ⊢
  simp [bdS, bdr]
  refine hQ _ _ _ ?_ ?_ ?_ ?_
  · simp [v4]
  · simp [v6]
  · simp [v7]
  ·
   rw [hb]
   exact ⟨w2, g3, l, g4, by simp [hl], by simp [hl, Enc.ds], fun h => by simp [hl, Bnd.cells, Ixd.zero, hk]⟩
 | true =>
  have hke : keep 0 200 (!true) = 0 := rfl
  simp only [hke] at g3 hb ⊢
  have ha := alone26 t
  have hkd : (kindsS [t]).length ≤ lim := by simpa [kindsS, Tbl.kinds] using hcl
  have hcd := cond25 [t.name] [t] rfl hkd (by simp [lim]) (by simpa using hcl) s x.cond hz hm 3 0 K1 5 (by omega) g3
  have hav : x.cond.av = .agg x.cond.cells 8 := Eq.trans rfl rfl
  rw [hav] at hcd
  generalize condB [t.name] [t] x.cond 0 = cd at *
  obtain ⟨cl, ce⟩ := cd
  simp only [scC] at hcd ha
  have hat : eTbl.av t = .agg [.int .u32 t.id, .str t.name, eCol.ds t.cols, .int .u32 t.head] 4 := rfl
  rw [hat] at ha
  have ha' := ha.callOk K1 5
  generalize x.cond.cells = cs at *
  simp [bdS, bdr]
  simp only [R5_22, vc_drw]
  refine DrwV.of (ceL_ok (l := [⟨26, [.agg [.int .u32 t.id, .str t.name, eCol.ds t.cols, .int .u32 t.head] 4], K1, 5, .agg [eStr.ds [t.name], eTbl.ds [t]] 2, K1, 5⟩, ⟨25, [.ptr 3 0, .agg [eStr.ds [t.name], eTbl.ds [t]] 2, .agg cs 8], K1, 5, eEx.ds cl, K1.put 3 (some (bdS s ce)), 5⟩]) ?_) ?_
  ·
   simp only [List.mem_cons, List.not_mem_nil, or_false]
   rintro c (rfl | rfl)
   · exact ha'
   · exact hcd
  have e2 : ∀ c1, (ceL [⟨26, [.agg [.int .u32 t.id, .str t.name, eCol.ds t.cols, .int .u32 t.head] 4], K1, 5, .agg [eStr.ds [t.name], eTbl.ds [t]] 2, K1, 5⟩, ⟨25, [.ptr 3 0, .agg [eStr.ds [t.name], eTbl.ds [t]] 2, .agg cs 8], K1, 5, eEx.ds cl, K1.put 3 (some (bdS s ce)), 5⟩]).call 25 c1 K1 5 = (ceL [⟨25, [.ptr 3 0, .agg [eStr.ds [t.name], eTbl.ds [t]] 2, .agg cs 8], K1, 5, eEx.ds cl, K1.put 3 (some (bdS s ce)), 5⟩]).call 25 c1 K1 5 := fun c1 => ceL_tl (by decide)
  simp [clearF_get, v3, v4, v6, v7, g4, hl, w1, hg, ceL_hd, e2]
  refine hQ _ _ _ ?_ ?_ ?_ ?_
  · simp [clearF_get, v4]
  · simp [clearF_get, v6]
  · simp [clearF_get, v7]
  ·
   rw [hb]
   refine ⟨by simp [w2], by simp, _, (Tr.get_put _ _ _ _).trans (if_pos rfl), rfl, ?_, fun h => ?_⟩
   · simp [Enc.ds]
   · simp [Bnd.cells, Ixd.zero, hk]
end Go.Abs
namespace Go.Abs
open Go.Proofs
open Classical
set_option maxRecDepth 100000
theorem Stm.okOf {x : Stm} (h : x.may = true) : x.ok = true := by
 unfold Stm.may at h
 rw [Bool.and_eq_true] at h
 exact h.1
theorem Qry.fine_of {s : Sch} (ho : SchOk s) {x : Stm} (hx : x.sm) (h : x.q.may = true) : x.q.fine s := by
 have hm : x.q.cond.maybe = true ∧ x.q.srcs.length ≤ 4 ∧ (x.q.star = true → x.q.items.length = 0) ∧ (x.q.star = false → x.q.items.length ≤ 16) ∧ (∀ y ∈ x.q.items, y.e.may = true) ∧ srcsOk x.q.srcs = true := by
  simp only [Qry.may, Bool.and_eq_true, List.all_eq_true, decide_eq_true_eq] at h
  obtain ⟨⟨⟨⟨⟨⟨⟨⟨h1, h2⟩, h3⟩, h4⟩, h5⟩, h6⟩, h7⟩, h8⟩, h9⟩ := h
  refine ⟨h1, h2, fun e => ?_, fun e => ?_, fun y hy => ?_, h8⟩
  · rw [e] at h6; simpa using h6
  · rw [e] at h6; simp at h6; exact h6.2
  ·
   have := h7 y hy
   simp only [Itm.ok, Bool.and_eq_true] at this
   exact this.1
 obtain ⟨h1, h2, h3, h4, h5, h6⟩ := hm
 have hcols : ∀ y : Src, (s.tb y).cols.length ≤ 16 := fun y => firstD_len (Q := fun t : Tbl => t.cols.length ≤ 16) (by simp [Tbl.zero]) fun t ht => by
  obtain ⟨i, hi, rfl⟩ := List.getElem_of_mem ht
  exact (ho.tabs i hi).cols.2.1
 have hk : ∀ l : List Src, (kindsS (l.map s.tb)).length ≤ 16 * l.length := by
  intro l
  induction l with
  | nil => simp [kindsS]
  | cons y l ih =>
   have := hcols y
   simp only [kindsS, List.map_cons, List.flatMap_cons, List.length_append, List.length_cons] at ih ⊢
   simp only [Tbl.kinds, List.length_map] at ih ⊢
   omega
 refine ⟨?_, hx.srcs, hx.order, fun y hy => ⟨hx.item y hy, h5 y hy⟩, fun y hy => ⟨hx.src y hy, ?_⟩, hx.qc, h1⟩
 ·
  have := hk x.q.srcs
  have : x.q.items.length ≤ 16 := by
   cases e : x.q.star with
   | true => have := h3 e; omega
   | false => exact h4 e
  unfold lim; omega
 ·
  cases hs : x.q.srcs with
  | nil => rw [hs] at hy; cases hy
  | cons z r =>
   rw [hs] at h6 hy
   simp only [srcsOk, Bool.and_eq_true, List.all_eq_true] at h6
   simp only [Ex.maybe, Bool.or_eq_true]
   rcases List.mem_cons.1 hy with rfl | hy
   ·
    have := h6.1
    simp only [Src.ok, if_true, Bool.and_eq_true] at this
    exact .inl this.2.2
   ·
    have := h6.2 y hy
    simp only [Src.ok, Bool.and_eq_true] at this
    exact .inr this.2.2
theorem bind5 (s : Sch) (hs : s.fine) (x : Stm) (hx : x.sm) : FnPure Try.prog 5 [eSch.av s, x.av] (.tup [.agg (bindB s x).1.cells 25, .int .i64 (bindB s x).2]) := by
 refine pureV c5 (by simp) (by simp) (by simp [A5]) fun F hF => ?_
 have h16 := may16 s hs
 have h17 := may17 x hx
 have hav : x.av = .agg x.cells 31 := Eq.trans rfl rfl
 have hsv : eSch.av s = .agg [eTbl.ds s.tables, eIxd.ds s.indexes] 2 := rfl
 have x0 := x.g0
 have xl := x.cells_len
 have xp := x.pure
 rw [hav] at hF h17
 rw [hsv] at hF h16
 have body : SchOk s ∧ x.may = true → ∀ (F : Fr) (K : Hp), E5 s x F K → VC Try.prog C5 F K 5 [] (BlkQ 0 (SeqV Try.prog M5 (RetQ [rCelN 4 25, rTmp 5] fun v1 H' _ => Frz H'.get v1 (.tup [.agg (bindB s x).1.cells 25, .int .i64 (bindB s x).2])))) := by
  rintro ⟨ho, hm⟩ F K E
  have hb : bindB s x = finB (bodyB s x) := by simp [bindB, ho, hm]
  have ok := Stm.okOf hm
  have fin : Fin5 s x (BlkQ 0 (SeqV Try.prog M5 (RetQ [rCelN 4 25, rTmp 5] fun v1 H' _ => Frz H'.get v1 (.tup [.agg (bindB s x).1.cells 25, .int .i64 (bindB s x).2])))) := by
   intro F' K' n' g4 g6 g7 O
   rw [hb]
   exact bind5_end s _ _ F' K' n' g4 g6 g7 O
  by_cases h1 : x.kind = 1
  · exact bind5k1 s hs x hx h1 F K _ E fin
  by_cases h2 : x.kind = 2
  · exact bind5k2 s hs x h2 F K _ E fin
  by_cases h3 : x.kind = 3
  · exact bind5k3 s hs x hx h3 F K _ E fin
  by_cases h4 : x.kind = 4
  · exact bind5k4 s hs x h4 F K _ E fin
  by_cases h5 : x.kind = 5
  ·
   refine bind5k5 s hs x hx (fun r hr => ⟨(hx.row r hr).1, fun e he => ⟨(hx.row r hr).2 e he, ?_⟩⟩) h5 F K _ E fin
   simp [Stm.ok, h5] at ok
   have := ok.2 r hr
   simp only [rowOk, Bool.and_eq_true, List.all_eq_true] at this
   exact this.2 e he
  by_cases h6 : x.kind = 6
  ·
   refine bind5k6 s hs x hx.cond ?_ h6 F K _ E fin
   simp [Stm.ok, h6] at ok
   exact ok.2
  by_cases h7 : x.kind = 7
  ·
   simp [Stm.ok, h7] at ok
   refine bind5k7 s hs x hx (fun y hy => ⟨hx.set y hy, ?_⟩) ok.1.2 h7 F K _ E fin
   have := ok.2 y hy
   simp only [St1.ok, Bool.and_eq_true] at this
   exact this.2
  by_cases h8 : x.kind = 8
  ·
   simp [Stm.ok, h8] at ok
   exact bind5k8 s hs x (Qry.fine_of ho hx ok) h8 F K _ E fin
  exact bind5k9 s x h1 h2 h3 h4 h5 h6 h7 h8 F K _ E fin
 have hz0 := outZ_def 0
 have hzk := outZ_def x.kind
 clear hs hx hav
 have hA : A5.code = B5 := rfl
 have hR : A5.res = [rCelN 4 25, rTmp 5] := rfl
 simp only [hA, hR, b5]
 by_cases ho : SchOk s
 ·
  by_cases hm : x.may = true
  ·
   have body := body ⟨ho, hm⟩
   generalize bindB s x = R at *
   generalize hxs : x.cells = xs at *
   simp only [ho, decide_true] at h16
   simp only [hm] at h17
   simp [R5_0, hF, xl]
   simp [R5_1]
   refine CalV.pure h16 ?_
   simp
   refine CalV.pure h17 ?_
   simp [R5_3, R5_4, R5_5, x0]
   rw [← hz0, ← hzk]
   refine body _ _ ⟨?_, ?_, ?_, ?_, ?_, ?_, ?_, ?_, ?_, ?_, ?_, fun b hb => ?_⟩
   · simp
   · simp
   · simp
   · simp
   · simp
   · simp
   · simp [eSch_c]
   · simp [hxs]
   · simp
   · simp [bdS, bdr]
   · simp
   · simp [show ¬ b = 0 by omega, show ¬ b = 1 by omega, show ¬ b = 2 by omega, show ¬ b = 3 by omega, show ¬ b = 4 by omega]
  ·
   have hb : bindB s x = (bndZ, 1) := by simp [bindB, hm]
   have hm' : x.may = false := by simpa using hm
   rw [hb]
   clear body
   generalize hxs : x.cells = xs at *
   simp only [ho, decide_true] at h16
   simp only [hm'] at h17
   simp [R5_0, hF, xl]
   simp [R5_1]
   refine CalV.pure h16 ?_
   simp
   refine CalV.pure h17 ?_
   simp [R5_2]
   exact .tup _ _ (.cons _ _ _ _ (.agg _ _ _ ((outZ_fil 0 _).frzL (by simp))) (.cons _ _ _ _ (.pure _ (by simp)) .nil))
 ·
  have hb : bindB s x = (bndZ, 1) := by simp [bindB, ho]
  rw [hb]
  clear body h17
  generalize hxs : x.cells = xs at *
  simp only [ho, decide_false] at h16
  simp [R5_0, hF, xl]
  simp [R5_1]
  refine CalV.pure h16 ?_
  simp [R5_2]
  exact .tup _ _ (.cons _ _ _ _ (.agg _ _ _ ((outZ_fil 0 _).frzL (by simp))) (.cons _ _ _ _ (.pure _ (by simp)) .nil))
end Go.Abs
namespace Go.Abs
open Go.Proofs
set_option maxRecDepth 100000
mutual
def Ex.kind (ks : List Int) : Ex → Int × Int
 | .mk op v _ _ col args => if op = 1 then (v.kind, 0) else if op = 3 then (ks.getD col.toNat 0, 0) else
  if (Ex.kindL ks args).2 ≠ 0 then (0, (Ex.kindL ks args).2) else if (wantE op).1.fits (Ex.kindL ks args).1 = true then ((wantE op).1.kind, 0) else (0, 203)
def Ex.kindL (ks : List Int) : List Ex → List Int × Int
 | [] => ([], 0)
 | e :: r => if (e.kind ks).2 ≠ 0 then ([], (e.kind ks).2) else if (Ex.kindL ks r).2 ≠ 0 then ([], (Ex.kindL ks r).2) else ((e.kind ks).1 :: (Ex.kindL ks r).1, 0)
end
theorem Ex.kindL_ok {ks : List Int} {l : List Ex} (h : ∀ i (hi : i < l.length), (l[i].kind ks).2 = 0) : Ex.kindL ks l = (l.map fun e => (e.kind ks).1, 0) := by
 induction l with
 | nil => rfl
 | cons e r ih =>
  have h0 := h 0 (by simp)
  have hr := ih fun i hi => h (i + 1) (by simpa using hi)
  simp at h0
  simp [Ex.kindL, h0, hr]
theorem Ex.kindL_err {ks : List Int} {l : List Ex} {i : Nat} (hi : i < l.length) (h : ∀ j (hj : j < i), ((l[j]'(by omega)).kind ks).2 = 0) (he : (l[i].kind ks).2 ≠ 0) : (Ex.kindL ks l).2 = (l[i].kind ks).2 := by
 induction l generalizing i with
 | nil => simp at hi
 | cons e r ih =>
  cases i with
  | zero => simp at he; simp [Ex.kindL, he]
  | succ i =>
   have h0 := h 0 (by omega)
   have hr := ih (i := i) (by simpa using hi) (fun j hj => h (j + 1) (by omega)) (by simpa using he)
   simp at h0 he
   simp [Ex.kindL, h0, hr, he]
theorem kinds_len (ks : List Int) (l : List Ex) : (l.map fun e => (e.kind ks).1).length = l.length := by simp
theorem wantE_two {op : Int} (h : (wantE op).1.alike = true) : (wantE op).1.n = 2 := by
 unfold wantE at h ⊢
 split at h <;> try (simp at h)
 split at h <;> try (simp at h)
 split at h <;> try (simp at h)
 split at h <;> try (simp at h)
 split at h <;> try (simp at h)
 split at h <;> try (simp at h)
 split at h
 · simp [*]
 · simp at h
theorem kind34' (ks : List Int) (hks : ks.length ≤ lim) : ∀ (N : Nat) (e : Ex), e.sz ≤ N → N ≤ lim → e.right ks.length = true → FnPure Try.prog 34 [e.av, .ds (intsC ks) ks.length 1] (.tup [.int .i64 (e.kind ks).1, .int .i64 (e.kind ks).2])
 | 0, e, h, _, _ => by have := Ex.sz_pos e; omega
 | N + 1, .mk op v t m col args, ha, hN, hr => by
  simp only [Ex.sz] at ha
  have hla := Ex.sz_len args
  refine pureV c34 (by simp) (by simp) (by simp [A34]) fun F hF => ?_
  simp only [Ex.right] at hr
  simp only [Ex.kind]
  by_cases h1 : op = 1
  ·
   subst h1
   simp [A34, B34, R34_0, R34_1, R34_2, R34_3, hF, Ex.av, Ex.cells]
   exact .pure _ (by simp)
  by_cases h3 : op = 3
  ·
   subst h3
   simp at hr
   obtain ⟨h0, hc0, hcl⟩ := hr
   obtain ⟨c, rfl⟩ := Int.eq_ofNat_of_zero_le hc0
   have hcl' : c < ks.length := by omega
   have hx := ixa_int (k := .i64) hcl'
   simp [A34, B34, R34_0, R34_1, R34_2, R34_4, R34_5, hF, Ex.av, Ex.cells, hx]
   exact .eq (by simp) (by simp [hcl'])
  rw [if_neg h1, if_neg h3] at hr ⊢
  simp only [Bool.and_eq_true, decide_eq_true_eq] at hr
  obtain ⟨hok, hlen, hall⟩ := hr
  have hright := Ex.rightL_get hall
  unfold lim at hN hks
  simp [A34, B34, R34_0, R34_1, R34_2, R34_4, R34_6, R34_7, hF, Ex.av, Ex.cells, h1, h3]
  refine LoopV.of (fun j F H n m_ => ∃ i x, j = args.length - i ∧ i ≤ args.length ∧ F.get 1 = some (.ds (intsC ks) ks.length 1) ∧ F.get 2 = some (.ptr 0 0) ∧ F.get 28 = some (.ds (Ex.cellsL args) args.length 8) ∧ F.get 29 = some (.int .i64 (args.length : Int)) ∧ F.get 30 = some (.int .i64 (i : Int)) ∧ F.get 6 = some x ∧
   OwnS H n x (intsC ((args.take i).map fun e => (e.kind ks).1)) i 1 ∧ 1 ≤ n ∧ x ≠ .sl 0 0 i 1 ∧ H.get 0 = some (.cells 8 [] (Ex.mk op v t m col args).cells .nil) ∧ m_ = [] ∧ ∀ j (hj : j < i) (h : j < args.length), (args[j].kind ks).2 = 0) args.length
   ⟨0, .cst (.slice none 0 0), by simp [Ex.cells, OwnS.nil, intsC, hF]⟩ ?_
  rintro j F H n m_ ⟨i, x, rfl, hi, f1, f2, f28, f29, f30, f6, ho, hn, hx0, h0, rfl, hj⟩
  by_cases hlt : i < args.length
  ·
   have hx := ixa_ex (k := .i64) hlt
   have m1 := Ex.sz_mem (List.getElem_mem hlt)
   simp [L34_0, R34_8, R34_9, R34_10, f1, f2, f28, f29, f30, f6, hlt, hx]
   refine CalV.pure (kind34' ks (by unfold lim; omega) N args[i] (by omega) (by unfold lim; omega) (hright i hlt)) ?_
   by_cases he : (args[i].kind ks).2 = 0
   ·
    simp [R34_11, R34_13, he, f6]
    refine OwnS.app (k := 1) (new := [.int .i64 (args[i].kind ks).1]) (len := i) (l := intsC ((args.take i).map fun e => (e.kind ks).1)) (OwnS.step ho (by omega) fun c hc _ => by simp [show ¬ c = n + 1 by omega, show ¬ c = n by omega]) ?_ (by simp) (by simp) (by omega) (by omega) (by unfold big; omega) (by omega) (by simp) fun H' ho' hk => ?_
    · rw [sliceCells_sl (l := [.int .i64 (args[i].kind ks).1]) (k := .cells 1 [] [.int .i64 (args[i].kind ks).1] .nil) (by simp) (OwnB.list (by simp)) (by simp)]; simp
    ·
     simp [f1, f2, f28, f29, f30, R34_14, wrap_nat i (by omega)]
     refine ⟨args.length - (i + 1), by omega, i + 1, rfl, hlt, by omega, ?_, ?_⟩
     ·
      rw [← List.map_take, List.take_succ_eq_append_getElem hlt, List.map_append, intsC_append]
      exact ho'
     ·
      refine ⟨?_, fun j hj' h => ?_⟩
      · rw [hk 0 (by omega) hx0]; simp [show ¬ 0 = n by omega, h0]
      ·
       by_cases e : j = i
       · subst e; exact he
       · exact hj j (by omega) h
   ·
    have hf := Ex.kindL_err hlt (fun j hj' => hj j hj' (by omega)) he
    simp [R34_11, R34_12, he]
    rw [hf]
    simp [he]
    exact .pure _ (by simp)
  ·
   have hi' : i = args.length := by omega
   subst hi'
   have hall0 := Ex.kindL_ok (ks := ks) (l := args) fun j h => hj j (by omega) h
   rw [List.take_length] at ho
   simp [L34_0, R34_8, R34_15, f1, f2, f28, f29, f30, f6, h0, Ex.cells]
   refine CalV.pure (wanted_pure op) ?_
   have hw2 := wantE_two (op := op)
   have hfit := fits56 (wantE op).1 (args.map fun e => (e.kind ks).1) (by unfold lim; simp; omega) (fun _ h => by have := hw2 h; simp; omega)
   rw [hall0]
   generalize wantE op = wo at hw2 hfit hok hlen
   obtain ⟨⟨wn, wp, wk, wa, wl⟩, wok⟩ := wo
   simp [Want.av, R34_16, f6]
   refine CalV.frz hfit (by simp) (.cons _ _ _ _ (.pure _ (by simp)) (.cons _ _ _ _ ?_ .nil)) ?_
   ·
    rw [kinds_len]
    exact (OwnS.step ho (n' := n + 1) (by omega) fun c hc _ => by simp [show ¬ c = n by omega]).frz (.pure (by simp))
   ·
    cases hft : Want.fits ⟨wn, wp, wk, wa, wl⟩ (args.map fun e => (e.kind ks).1) with
    | true =>
     simp [R34_18]
     exact .pure _ (by simp)
    | false =>
     simp [R34_17]
     exact .pure _ (by simp)
theorem kind34 (ks : List Int) (hks : ks.length ≤ lim) (e : Ex) (h : e.sz ≤ lim) (hr : e.right ks.length = true) : FnPure Try.prog 34 [e.av, .ds (intsC ks) ks.length 1] (.tup [.int .i64 (e.kind ks).1, .int .i64 (e.kind ks).2]) := kind34' ks hks lim e h (Nat.le_refl _) hr
def Ex.kindOf (ks : List Int) (e : Ex) : Int × Int := if e.right ks.length = true then e.kind ks else (0, 1)
theorem kind11 (ks : List Int) (hks : ks.length ≤ lim) (e : Ex) (h : e.sz ≤ lim) : FnPure Try.prog 11 [e.av, .ds (intsC ks) ks.length 1] (.tup [.int .i64 (e.kindOf ks).1, .int .i64 (e.kindOf ks).2]) := by
 refine pureV c11 (by simp) (by simp) (by simp [A11]) fun F hF => ?_
 obtain ⟨op, v, t, m, col, args⟩ := e
 simp [A11, B11, R11_0, R11_1, hF, Ex.av, Ex.cells]
 refine CalV.pure (right22 (.mk op v t m col args) ks.length h) ?_
 unfold Ex.kindOf
 cases hr : (Ex.mk op v t m col args).right ks.length with
 | false =>
  simp [R11_2]
  exact .pure _ (by simp)
 | true =>
  simp [R11_3, hF]
  refine CalV.pure (kind34 ks hks (.mk op v t m col args) h hr) ?_
  simp
  exact .pure _ (by simp)
end Go.Abs
namespace Go.Abs
open Go.Proofs
open Classical
set_option maxRecDepth 100000
theorem eInt_l (l : List Int) : eInt.l l = intsC l := by
 induction l with
 | nil => rfl
 | cons a r ih => simp only [intsC, List.map_cons] at ih ⊢; rw [← ih]; rfl
theorem eInt_ds (l : List Int) : eInt.ds l = .ds (intsC l) l.length 1 := by rw [Enc.ds, eInt_l]
theorem kinds8 (ts : List Tbl) (hl : (kindsS ts).length ≤ lim) (ht : ts.length ≤ lim) (hc : ∀ t ∈ ts, t.cols.length ≤ lim) : FnPure Try.prog 8 [eTbl.ds ts] (eInt.ds (kindsS ts)) := by
 rw [eInt_ds]
 unfold lim at hl ht hc
 refine pureV c8 (by simp) (by simp) (by simp [A8]) fun F hF => ?_
 simp [A8, B8, R8_0, R8_1, R8_2, hF]
 refine LoopV.of (fun q F K n ms => ∃ (i : Nat) (v : AV), q = ts.length - i ∧ i ≤ ts.length ∧ F.get 0 = some (eTbl.ds ts) ∧ F.get 3 = some v ∧ F.get 4 = some (.int .i64 (i : Int)) ∧ OwnS K n v (intsC (kindsS (ts.take i))) (kindsS (ts.take i)).length 1 ∧ ms = []) ts.length ⟨0, .cst (.slice none 0 0), by simp, by simp, by simp [hF], by simp, by simp, by simpa [kindsS, intsC] using OwnS.nil _ _ 1, rfl⟩ ?_
 clear hF F
 rintro q F K n ms ⟨i, v, rfl, hi, f0, f3, f4, ho, rfl⟩
 by_cases hlt : i < ts.length
 ·
  have hx := eTbl.ix (ik := .i64) hlt
  rw [eTbl_c] at hx
  have hcl := hc ts[i] (List.getElem_mem hlt)
  have hkl := kindsS_le ts (i + 1)
  rw [kindsS_take hlt] at hkl
  simp [L8_1, R8_3, R8_4, f0, f4, Enc.len_ds, hlt]
  refine LoopV.of (fun q F K n ms => ∃ (j : Nat) (v : AV), q = ts[i].cols.length - j ∧ j ≤ ts[i].cols.length ∧ F.get 0 = some (eTbl.ds ts) ∧ F.get 3 = some v ∧ F.get 4 = some (.int .i64 (i : Int)) ∧ F.get 5 = some (.int .i64 (j : Int)) ∧ OwnS K n v (intsC (kindsS (ts.take i) ++ (ts[i].cols.take j).map (·.kind))) (kindsS (ts.take i) ++ (ts[i].cols.take j).map (·.kind)).length 1 ∧ ms = []) ts[i].cols.length ⟨0, v, by simp, by simp, by simp [f0], by simp [f3], by simp [f4], by simp, by simpa using ho, rfl⟩ ?_
  clear f0 f3 f4 ho F v K n
  rintro q F K n ms ⟨j, v, rfl, hj, f0, f3, f4, f5, ho, rfl⟩
  by_cases hjl : j < ts[i].cols.length
  ·
   have hy := eCol.ix (ik := .i64) hjl
   rw [eCol_c] at hy
   simp [L8_0, R8_5, R8_6, f0, f3, f4, f5, hx, hy, Enc.len_ds, hjl]
   have hbl := fun c hc => ho.blkLt (c := c) hc
   generalize hH1 : Tr.put _ n _ = H1
   have ho2 : OwnS H1 (n + 1) v (intsC (kindsS (ts.take i) ++ (ts[i].cols.take j).map (·.kind))) (kindsS (ts.take i) ++ (ts[i].cols.take j).map (·.kind)).length 1 := ho.frame (by omega) fun c hc => by
    have := hbl c hc
    have q1 : ¬ c = n := by omega
    rw [← hH1]; simp [q1]
   have hw : H1.get n = some (.cells 1 [] (intsC [ts[i].cols[j].kind]) .nil) := by rw [← hH1]; simp [intsC]
   clear hH1
   have hsc : sliceCells H1 1 (.sl n 0 1 1) = some (intsC [ts[i].cols[j].kind]) := by
    rw [sliceCells_sl hw (OwnB.list (by simp)) (by simp)]
    simp [intsC]
   have hjl2 : (kindsS (ts.take i) ++ (ts[i].cols.take j).map (·.kind)).length ≤ 1048576 := by
    have h1 : ((ts[i].cols.take j).map (·.kind)).length ≤ ts[i].kinds.length := by simp [Tbl.kinds]; omega
    simp only [List.length_append] at hkl ⊢
    omega
   refine OwnS.app (k := 1) (new := intsC [ts[i].cols[j].kind]) ho2 hsc (by simp) (by simp) (by omega) (by omega) (by unfold big; omega) (by omega) (by simp) fun H' o' _ => ?_
   simp [R8_7, f5, wrap_nat j (by omega)]
   refine ⟨_, by omega, j + 1, rfl, by omega, f0, f4, by simp, ?_⟩
   have hk := kinds_take hjl
   rw [List.map_take] at hk
   rw [hk, ← List.append_assoc, intsC_append]
   have e1 : (kindsS (ts.take i)).length + min (j + 1) ts[i].cols.length = (kindsS (ts.take i)).length + min j ts[i].cols.length + 1 := by omega
   rw [e1]
   simpa using o'
  ·
   have hje : j = ts[i].cols.length := by omega
   rw [hje, List.take_length] at ho
   rw [hje] at f5
   simp [L8_0, R8_5, R8_8, f0, f4, f5, hx, Enc.len_ds, wrap_nat i (by omega)]
   refine ⟨_, by omega, i + 1, rfl, by omega, v, f3, by simp, ?_⟩
   rw [kindsS_take hlt]
   exact ho
 ·
  have hie : i = ts.length := by omega
  subst hie
  rw [List.take_length] at ho
  simp [L8_1, R8_3, R8_9, f0, f3, f4, Enc.len_ds]
  exact ho.frz (FrzL.pure (by simp)) (by omega)
end Go.Abs
