/- Whether a statement has nothing but what it needs. -/
import Derived.Test.YtfdoeenlgkkaiaaBt7
import Derived.Test.YtfdoeenlgkkaiaaBt5
namespace Go.Abs
open Go.Proofs
open Classical
set_option maxRecDepth 100000
theorem Ex.c0 (e : Ex) : e.cells[0]? = some (.int .i64 e.op) := by
 obtain ⟨op, v, t, m, col, args⟩ := e; simp [Ex.cells, Ex.op]
theorem Stm.g0 (x : Stm) : x.cells[0]? = some (.int .i64 x.kind) := by simp [Stm.cells]
theorem Stm.g1 (x : Stm) : x.cells[1]? = some (.str x.table) := by simp [Stm.cells]
theorem Stm.g2 (x : Stm) : x.cells[2]? = some (.str x.name) := by simp [Stm.cells]
theorem Stm.g3 (x : Stm) : x.cells[3]? = some (eCol.ds x.cols) := by simp [Stm.cells]
theorem Stm.g4 (x : Stm) : x.cells[4]? = some (eStr.ds x.on) := by simp [Stm.cells]
theorem Stm.g5 (x : Stm) : x.cells[5]? = some (.bool x.uniq) := by simp [Stm.cells]
theorem Stm.g6 (x : Stm) : x.cells[6]? = some (eRow.ds x.rows) := by simp [Stm.cells]
theorem Stm.g7 (x : Stm) : x.cells[7]? = some (eSet.ds x.sets) := by simp [Stm.cells]
theorem Stm.g8 (x : Stm) : x.cells[8]? = some (.int .i64 x.cond.op) := by
 obtain ⟨_, _, _, _, _, _, _, _, ⟨op, v, t, m, col, args⟩, _⟩ := x; simp [Stm.cells, Ex.cells, Ex.op]
theorem Qry.g0 (q : Qry) : q.cells[0]? = some (.bool q.dist) := by simp [Qry.cells]
theorem Qry.g4 (q : Qry) : q.cells[4]? = some (.int .i64 q.cond.op) := by
 obtain ⟨_, _, _, _, ⟨op, v, t, m, col, args⟩, _⟩ := q; simp [Qry.cells, Ex.cells, Ex.op]
theorem Stm.tq (x : Stm) : (x.cells.drop 16).take 15 = x.q.cells := by rw [Stm.cq, List.take_of_length_le (by simp)]
noncomputable def condR (a b : Ex) : Bool := decide (a.op = b.op) && (decide (b.op ≠ 0) || decide (a.bare 0))
noncomputable def restB (x t : Stm) : Bool := decide (x.table = t.table) && (decide (x.name = t.name) && (decide (x.cols.length = t.cols.length) && (decide (x.on.length = t.on.length) && ((x.uniq == t.uniq) && (decide (x.rows.length = t.rows.length) && (decide (x.sets.length = t.sets.length) && (condR x.cond t.cond &&
 ((x.q.dist == t.q.dist) && ((x.q.star == t.q.star) && (decide (x.q.items.length = t.q.items.length) && (decide (x.q.srcs.length = t.q.srcs.length) && (condR x.q.cond t.q.cond && (decide (x.q.order.length = t.q.order.length) && ((x.q.limited == t.q.limited) && decide (x.q.limit = t.q.limit)))))))))))))))
set_option maxHeartbeats 4000000 in
theorem rest56 (x t : Stm) : FnPure Try.prog 56 [.agg x.cells 31, .agg t.cells 31] (.bool (restB x t)) := by
 refine pureV c56 (by simp) (by simp) (by simp [A56]) fun F hF => ?_
 have la := lacks91 x.cond
 have lb := lacks91 x.q.cond
 have ax : allOne x.q.cells = true := by simp [Qry.cells]
 have at' : allOne t.q.cells = true := by simp [Qry.cells]
 have hav : x.cond.av = .agg x.cond.cells 8 := Eq.trans rfl rfl
 have hbv : x.q.cond.av = .agg x.q.cond.cells 8 := Eq.trans rfl rfl
 rw [hav] at la
 rw [hbv] at lb
 have x1 := x.g1
 have x2 := x.g2
 have x3 := x.g3
 have x4 := x.g4
 have x5 := x.g5
 have x6 := x.g6
 have x7 := x.g7
 have x8 := x.g8
 have xc := x.cc
 have xq := x.tq
 have xl := x.cells_len
 have t1 := t.g1
 have t2 := t.g2
 have t3 := t.g3
 have t4 := t.g4
 have t5 := t.g5
 have t6 := t.g6
 have t7 := t.g7
 have t8 := t.g8
 have tq := t.tq
 have tl := t.cells_len
 have y0 := x.q.g0
 have y1 := x.q.g1
 have y2 := x.q.g2
 have y3 := x.q.g3
 have y4 := x.q.g4
 have y12 := x.q.g12
 have y13 := x.q.g13
 have y14 := x.q.g14
 have yc := x.q.cc
 have yl := x.q.cells_len
 have z0 := t.q.g0
 have z1 := t.q.g1
 have z2 := t.q.g2
 have z3 := t.q.g3
 have z4 := t.q.g4
 have z12 := t.q.g12
 have z13 := t.q.g13
 have z14 := t.q.g14
 have zl := t.q.cells_len
 generalize hr : restB x t = R
 unfold restB condR at hr
 generalize x.cells = xs at *
 generalize t.cells = ts at *
 generalize x.q.cells = xqs at *
 generalize t.q.cells = tqs at *
 simp [A56, B56, R56_0, hF]
 simp only [R56_1, vc_drw]
 refine DrwV.of (ce0_ok (P := Try.prog)) ?_
 simp [clearF_get, xl, tl, xq, tq, yl, zl, noneAt_cons, noneAt_nil, ax, at']
 generalize hK : (Tr.put (Tr.put _ 2 _) 3 _ : Hp) = K
 have k0 : K.get 0 = some (.cells 31 [] xs .nil) := by rw [← hK]; simp
 have k1 : K.get 1 = some (.cells 31 [] ts .nil) := by rw [← hK]; simp
 have k2 : K.get 2 = some (.cells 15 [] xqs .nil) := by rw [← hK]; simp
 have k3 : K.get 3 = some (.cells 15 [] tqs .nil) := by rw [← hK]; simp
 clear hK
 generalize hF0 : (Fp 10 _ _ : Fr) = F0
 have f2 : F0.get 2 = some (.ptr 0 0) := by rw [← hF0]; simp [clearF_get]
 have f3 : F0.get 3 = some (.ptr 1 0) := by rw [← hF0]; simp [clearF_get]
 have f5 : F0.get 5 = some (.ptr 2 0) := by rw [← hF0]; simp
 have f6 : F0.get 6 = some (.ptr 3 0) := by rw [← hF0]; simp
 clear hF0 hF F
 simp [R56_2, f2, f3, k0, k1, x1, t1]
 by_cases h1n : ¬ x.table = t.table
 ·
  simp [h1n]
  exact .bool (by rw [← hr]; simp [h1n])
 have h1 := Classical.not_not.1 h1n
 clear h1n
 simp [f2, f3, k0, k1, x2, t2, h1]
 by_cases h2n : ¬ x.name = t.name
 ·
  simp [h2n]
  exact .bool (by rw [← hr]; simp [h2n])
 have h2 := Classical.not_not.1 h2n
 clear h2n
 simp [f2, f3, k0, k1, x3, t3, Enc.len_ds, h2]
 by_cases h3n : ¬ x.cols.length = t.cols.length
 ·
  simp [h3n]
  exact .bool (by rw [← hr]; simp [h3n])
 have h3 := Classical.not_not.1 h3n
 clear h3n
 simp [f2, f3, k0, k1, x4, t4, Enc.len_ds, h3]
 by_cases h4n : ¬ x.on.length = t.on.length
 ·
  simp [h4n]
  exact .bool (by rw [← hr]; simp [h4n])
 have h4 := Classical.not_not.1 h4n
 clear h4n
 simp [f2, f3, k0, k1, x5, t5, h4]
 by_cases h5n : ¬ (x.uniq == t.uniq) = true
 ·
  simp [h5n]
  exact .bool (by rw [← hr]; simp [h5n])
 have h5 := Classical.not_not.1 h5n
 clear h5n
 simp [f2, f3, k0, k1, x6, t6, Enc.len_ds, h5]
 by_cases h6n : ¬ x.rows.length = t.rows.length
 ·
  simp [h6n]
  exact .bool (by rw [← hr]; simp [h6n])
 have h6 := Classical.not_not.1 h6n
 clear h6n
 simp [f2, f3, k0, k1, x7, t7, Enc.len_ds, h6]
 by_cases h7n : ¬ x.sets.length = t.sets.length
 ·
  simp [h7n]
  exact .bool (by rw [← hr]; simp [h7n])
 have h7 := Classical.not_not.1 h7n
 clear h7n
 simp [f2, f3, k0, k1, x8, t8, h7]
 by_cases h8n : ¬ x.cond.op = t.cond.op
 ·
  simp [h8n]
  exact .bool (by rw [← hr]; simp [h8n])
 have h8 := Classical.not_not.1 h8n
 clear h8n
 simp [f3, k1, t8, h8]
 by_cases w8 : t.cond.op = 0
 ·
  simp [f2, k0, xc, w8, xl]
  refine CalV.pure la ?_
  by_cases b8 : ¬ x.cond.bare 0
  ·
   simp [b8]
   exact .bool (by rw [← hr]; simp [h8, w8, b8])
  have b8' := Classical.not_not.1 b8
  clear b8
  simp [f5, f6, k2, k3, y0, z0, b8']
  by_cases h9n : ¬ (x.q.dist == t.q.dist) = true
  ·
   simp [h9n]
   exact .bool (by rw [← hr]; simp [h9n])
  have h9 := Classical.not_not.1 h9n
  clear h9n
  simp [f5, f6, k2, k3, y1, z1, h9]
  by_cases h10n : ¬ (x.q.star == t.q.star) = true
  ·
   simp [h10n]
   exact .bool (by rw [← hr]; simp [h10n])
  have h10 := Classical.not_not.1 h10n
  clear h10n
  simp [f5, f6, k2, k3, y2, z2, Enc.len_ds, h10]
  by_cases h11n : ¬ x.q.items.length = t.q.items.length
  ·
   simp [h11n]
   exact .bool (by rw [← hr]; simp [h11n])
  have h11 := Classical.not_not.1 h11n
  clear h11n
  simp [f5, f6, k2, k3, y3, z3, Enc.len_ds, h11]
  by_cases h12n : ¬ x.q.srcs.length = t.q.srcs.length
  ·
   simp [h12n]
   exact .bool (by rw [← hr]; simp [h12n])
  have h12 := Classical.not_not.1 h12n
  clear h12n
  simp [f5, f6, k2, k3, y4, z4, h12]
  by_cases h13n : ¬ x.q.cond.op = t.q.cond.op
  ·
   simp [h13n]
   exact .bool (by rw [← hr]; simp [h13n])
  have h13 := Classical.not_not.1 h13n
  clear h13n
  simp [f6, k3, z4, h13]
  by_cases w13 : t.q.cond.op = 0
  ·
   simp [f5, k2, yc, w13, yl]
   refine CalV.pure lb ?_
   by_cases b13 : ¬ x.q.cond.bare 0
   ·
    simp [b13]
    exact .bool (by rw [← hr]; simp [h13, w13, b13])
   have b13' := Classical.not_not.1 b13
   clear b13
   simp [f5, f6, k2, k3, y12, z12, Enc.len_ds, b13']
   by_cases h14n : ¬ x.q.order.length = t.q.order.length
   ·
    simp [h14n]
    exact .bool (by rw [← hr]; simp [h14n])
   have h14 := Classical.not_not.1 h14n
   clear h14n
   simp [f5, f6, k2, k3, y13, z13, h14]
   by_cases h15n : ¬ (x.q.limited == t.q.limited) = true
   ·
    simp [h15n]
    exact .bool (by rw [← hr]; simp [h15n])
   have h15 := Classical.not_not.1 h15n
   clear h15n
   simp [f5, f6, k2, k3, y14, z14, h15]
   by_cases h16n : ¬ x.q.limit = t.q.limit
   ·
    simp [h16n]
    exact .bool (by rw [← hr]; simp [h16n])
   have h16 := Classical.not_not.1 h16n
   clear h16n
   simp [h16]
   exact .bool (by rw [← hr]; simp [h1, h2, h3, h4, h5, h6, h7, h8, w8, b8', h9, h10, h11, h12, h13, w13, b13', h14, h15, h16])
  ·
   simp [f5, f6, k2, k3, y12, z12, Enc.len_ds, w13]
   by_cases h14n : ¬ x.q.order.length = t.q.order.length
   ·
    simp [h14n]
    exact .bool (by rw [← hr]; simp [h14n])
   have h14 := Classical.not_not.1 h14n
   clear h14n
   simp [f5, f6, k2, k3, y13, z13, h14]
   by_cases h15n : ¬ (x.q.limited == t.q.limited) = true
   ·
    simp [h15n]
    exact .bool (by rw [← hr]; simp [h15n])
   have h15 := Classical.not_not.1 h15n
   clear h15n
   simp [f5, f6, k2, k3, y14, z14, h15]
   by_cases h16n : ¬ x.q.limit = t.q.limit
   ·
    simp [h16n]
    exact .bool (by rw [← hr]; simp [h16n])
   have h16 := Classical.not_not.1 h16n
   clear h16n
   simp [h16]
   exact .bool (by rw [← hr]; simp [h1, h2, h3, h4, h5, h6, h7, h8, w8, b8', h9, h10, h11, h12, h13, w13, h14, h15, h16])
 ·
  simp [f5, f6, k2, k3, y0, z0, w8]
  by_cases h9n : ¬ (x.q.dist == t.q.dist) = true
  ·
   simp [h9n]
   exact .bool (by rw [← hr]; simp [h9n])
  have h9 := Classical.not_not.1 h9n
  clear h9n
  simp [f5, f6, k2, k3, y1, z1, h9]
  by_cases h10n : ¬ (x.q.star == t.q.star) = true
  ·
   simp [h10n]
   exact .bool (by rw [← hr]; simp [h10n])
  have h10 := Classical.not_not.1 h10n
  clear h10n
  simp [f5, f6, k2, k3, y2, z2, Enc.len_ds, h10]
  by_cases h11n : ¬ x.q.items.length = t.q.items.length
  ·
   simp [h11n]
   exact .bool (by rw [← hr]; simp [h11n])
  have h11 := Classical.not_not.1 h11n
  clear h11n
  simp [f5, f6, k2, k3, y3, z3, Enc.len_ds, h11]
  by_cases h12n : ¬ x.q.srcs.length = t.q.srcs.length
  ·
   simp [h12n]
   exact .bool (by rw [← hr]; simp [h12n])
  have h12 := Classical.not_not.1 h12n
  clear h12n
  simp [f5, f6, k2, k3, y4, z4, h12]
  by_cases h13n : ¬ x.q.cond.op = t.q.cond.op
  ·
   simp [h13n]
   exact .bool (by rw [← hr]; simp [h13n])
  have h13 := Classical.not_not.1 h13n
  clear h13n
  simp [f6, k3, z4, h13]
  by_cases w13 : t.q.cond.op = 0
  ·
   simp [f5, k2, yc, w13, yl]
   refine CalV.pure lb ?_
   by_cases b13 : ¬ x.q.cond.bare 0
   ·
    simp [b13]
    exact .bool (by rw [← hr]; simp [h13, w13, b13])
   have b13' := Classical.not_not.1 b13
   clear b13
   simp [f5, f6, k2, k3, y12, z12, Enc.len_ds, b13']
   by_cases h14n : ¬ x.q.order.length = t.q.order.length
   ·
    simp [h14n]
    exact .bool (by rw [← hr]; simp [h14n])
   have h14 := Classical.not_not.1 h14n
   clear h14n
   simp [f5, f6, k2, k3, y13, z13, h14]
   by_cases h15n : ¬ (x.q.limited == t.q.limited) = true
   ·
    simp [h15n]
    exact .bool (by rw [← hr]; simp [h15n])
   have h15 := Classical.not_not.1 h15n
   clear h15n
   simp [f5, f6, k2, k3, y14, z14, h15]
   by_cases h16n : ¬ x.q.limit = t.q.limit
   ·
    simp [h16n]
    exact .bool (by rw [← hr]; simp [h16n])
   have h16 := Classical.not_not.1 h16n
   clear h16n
   simp [h16]
   exact .bool (by rw [← hr]; simp [h1, h2, h3, h4, h5, h6, h7, h8, w8, h9, h10, h11, h12, h13, w13, b13', h14, h15, h16])
  ·
   simp [f5, f6, k2, k3, y12, z12, Enc.len_ds, w13]
   by_cases h14n : ¬ x.q.order.length = t.q.order.length
   ·
    simp [h14n]
    exact .bool (by rw [← hr]; simp [h14n])
   have h14 := Classical.not_not.1 h14n
   clear h14n
   simp [f5, f6, k2, k3, y13, z13, h14]
   by_cases h15n : ¬ (x.q.limited == t.q.limited) = true
   ·
    simp [h15n]
    exact .bool (by rw [← hr]; simp [h15n])
   have h15 := Classical.not_not.1 h15n
   clear h15n
   simp [f5, f6, k2, k3, y14, z14, h15]
   by_cases h16n : ¬ x.q.limit = t.q.limit
   ·
    simp [h16n]
    exact .bool (by rw [← hr]; simp [h16n])
   have h16 := Classical.not_not.1 h16n
   clear h16n
   simp [h16]
   exact .bool (by rw [← hr]; simp [h1, h2, h3, h4, h5, h6, h7, h8, w8, h9, h10, h11, h12, h13, w13, h14, h15, h16])
end Go.Abs
namespace Go.Abs
open Go.Proofs
open Classical
set_option maxRecDepth 100000
noncomputable def Col.ok (c : Col) : Bool := decide (NamedOk c.name) && (decide (1 ≤ c.kind) && decide (c.kind ≤ 3))
noncomputable def St1.ok (x : St1) : Bool := decide (NamedOk x.name) && x.e.may
structure MyF (x : Stm) (tc : List AV) (b : Bool) (F : Fr) (K : Hp) (n : Nat) : Prop where
 f1 : F.get 1 = some (.ptr 0 0)
 f3 : F.get 3 = some (.ptr 1 0)
 f4 : F.get 4 = some (.bool b)
 k0 : K.get 0 = some (.cells 31 [] x.cells .nil)
 k1 : K.get 1 = some (.cells 31 [] tc .nil)
 hn : 2 ≤ n
theorem take_all {α : Type} {l : List α} {i : Nat} (h : i < l.length) (f : α → Bool) (b : Bool) : (b && (l.take (i + 1)).all f) = ((b && (l.take i).all f) && f l[i]) := by
 rw [List.take_add_one, List.getElem?_eq_getElem h, List.all_append]
 simp only [Option.toList, List.all_cons, List.all_nil, Bool.and_true, Bool.and_assoc]
theorem may17a (x : Stm) (hl : x.cols.length ≤ lim) (tc : List AV) (b : Bool) (F : Fr) (K : Hp) (n : Nat) (Q : QA) (M : MyF x tc b F K n) (h38 : F.get 38 = some (eCol.ds x.cols)) (h39 : F.get 39 = some (.int .i64 (x.cols.length : Int))) (h40 : F.get 40 = some (.int .i64 0))
  (hQ : ∀ F' K' n', MyF x tc (b && x.cols.all Col.ok) F' K' n' → Q .normal F' K' n' []) : LoopV L17_0 Try.prog F K n [] (BlkQ 1 Q) := by
 unfold lim at hl
 refine LoopV.of (fun t F K n ms => ∃ i, t = x.cols.length - i ∧ i ≤ x.cols.length ∧ MyF x tc (b && (x.cols.take i).all Col.ok) F K n ∧ F.get 38 = some (eCol.ds x.cols) ∧ F.get 39 = some (.int .i64 (x.cols.length : Int)) ∧ F.get 40 = some (.int .i64 (i : Int)) ∧ ms = []) x.cols.length ⟨0, by simp, by simp, by simpa using M, h38, h39, h40, rfl⟩ ?_
 clear M h38 h39 h40 F K n
 rintro t F K n ms ⟨i, rfl, hi, M, f38, f39, f40, rfl⟩
 obtain ⟨f1, f3, f4, k0, k1, hn⟩ := M
 by_cases hlt : i < x.cols.length
 ·
  have hx := eCol.ix (ik := .i64) hlt
  have hld := fun H => eCol.ldN x.cols[i] (eCol.l (x.cols.drop (i + 1))) H
  have hta := take_all hlt Col.ok b
  simp [L17_0, R17_8, R17_9, f38, f39, f40, hlt, hx, hld, Enc.av]
  generalize hK1 : Tr.put _ n _ = K1
  have g0 : K1.get 0 = some (.cells 31 [] x.cells .nil) := by rw [← hK1]; simp [show ¬ 0 = n by omega, k0]
  have g1 : K1.get 1 = some (.cells 31 [] tc .nil) := by rw [← hK1]; simp [show ¬ 1 = n by omega, k1]
  have gn : K1.get n = some (.cells 3 [] (eCol.cells x.cols[i]) .nil) := by rw [← hK1]; simp
  clear hK1
  rw [eCol_c] at gn
  generalize hb : (b && (x.cols.take i).all Col.ok) = b1 at f4 hta
  have fin : ∀ (F4 : Fr) (b2 : Bool), F4.get 1 = some (.ptr 0 0) → F4.get 3 = some (.ptr 1 0) → F4.get 4 = some (.bool b2) → F4.get 38 = some (eCol.ds x.cols) → F4.get 39 = some (.int .i64 (x.cols.length : Int)) → F4.get 40 = some (.int .i64 (i : Int)) → b2 = (b1 && x.cols[i].ok) → VC Try.prog R17_11 F4 K1 (n + 1) [] (RndQ (fun t F K n ms => ∃ i, t = x.cols.length - i ∧ i ≤ x.cols.length ∧ MyF x tc (b && (x.cols.take i).all Col.ok) F K n ∧ F.get 38 = some (eCol.ds x.cols) ∧ F.get 39 = some (.int .i64 (x.cols.length : Int)) ∧ F.get 40 = some (.int .i64 (i : Int)) ∧ ms = []) (x.cols.length - i) (BlkQ 1 Q)) := by
   intro F4 b2 w1 w3 w4 w38 w39 w40 hb2
   simp [R17_11, w40, wrap_nat i (by omega)]
   refine ⟨_, by omega, i + 1, rfl, hlt, ⟨by simp [w1], by simp [w3], ?_, g0, g1, by omega⟩, by simp [w38], by simp [w39], by simp⟩
   rw [hta, ← hb2]; simp [w4]
  cases b1 with
  | false =>
   simp [R17_10, f4]
   generalize hF3 : (Fp 4 _ _ : Fr) = F3
   have := fin F3 false (by rw [← hF3]; simp [f1]) (by rw [← hF3]; simp [f3]) (by rw [← hF3]; simp) (by rw [← hF3]; simp [f38]) (by rw [← hF3]; simp [f39]) (by rw [← hF3]; simp [f40]) (by simp)
   simpa using this
  | true =>
   simp [R17_10, f4, gn]
   refine CalV.pure (named51 x.cols[i].name) ?_
   by_cases hnm : NamedOk x.cols[i].name
   ·
    by_cases h1 : 1 ≤ x.cols[i].kind
    ·
     simp [hnm, gn, h1]
     generalize hF3 : (Fp 4 _ _ : Fr) = F3
     have := fin F3 (decide (x.cols[i].kind ≤ 3)) (by rw [← hF3]; simp [f1]) (by rw [← hF3]; simp [f3]) (by rw [← hF3]; simp) (by rw [← hF3]; simp [f38]) (by rw [← hF3]; simp [f39]) (by rw [← hF3]; simp [f40]) (by simp [Col.ok, hnm, h1])
     simpa using this
    ·
     simp [hnm, gn, h1]
     generalize hF3 : (Fp 4 _ _ : Fr) = F3
     have := fin F3 false (by rw [← hF3]; simp [f1]) (by rw [← hF3]; simp [f3]) (by rw [← hF3]; simp) (by rw [← hF3]; simp [f38]) (by rw [← hF3]; simp [f39]) (by rw [← hF3]; simp [f40]) (by simp [Col.ok, h1])
     simpa using this
   ·
    simp [hnm]
    generalize hF3 : (Fp 4 _ _ : Fr) = F3
    have := fin F3 false (by rw [← hF3]; simp [f1]) (by rw [← hF3]; simp [f3]) (by rw [← hF3]; simp) (by rw [← hF3]; simp [f38]) (by rw [← hF3]; simp [f39]) (by rw [← hF3]; simp [f40]) (by simp [Col.ok, hnm])
    simpa using this
 ·
  have hie : i = x.cols.length := by omega
  subst hie
  rw [List.take_length] at f4
  simp [L17_0, R17_8, f39, f40]
  exact hQ _ K n ⟨by simp [f1], by simp [f3], by simp [f4], k0, k1, hn⟩
theorem may17b (x : Stm) (hl : x.on.length ≤ lim) (tc : List AV) (b : Bool) (F : Fr) (K : Hp) (n : Nat) (Q : QA) (M : MyF x tc b F K n) (h98 : F.get 98 = some (eStr.ds x.on)) (h99 : F.get 99 = some (.int .i64 (x.on.length : Int))) (h100 : F.get 100 = some (.int .i64 0))
  (hQ : ∀ F' K' n', MyF x tc (b && x.on.all fun s => decide (NamedOk s)) F' K' n' → Q .normal F' K' n' []) : LoopV L17_1 Try.prog F K n [] (BlkQ 3 Q) := by
 unfold lim at hl
 refine LoopV.of (fun t F K n ms => ∃ i, t = x.on.length - i ∧ i ≤ x.on.length ∧ MyF x tc (b && (x.on.take i).all fun s => decide (NamedOk s)) F K n ∧ F.get 98 = some (eStr.ds x.on) ∧ F.get 99 = some (.int .i64 (x.on.length : Int)) ∧ F.get 100 = some (.int .i64 (i : Int)) ∧ ms = []) x.on.length ⟨0, by simp, by simp, by simpa using M, h98, h99, h100, rfl⟩ ?_
 clear M h98 h99 h100 F K n
 rintro t F K n ms ⟨i, rfl, hi, M, f98, f99, f100, rfl⟩
 obtain ⟨f1, f3, f4, k0, k1, hn⟩ := M
 by_cases hlt : i < x.on.length
 ·
  have hx := eStr.ix (ik := .i64) hlt
  rw [eStr_c] at hx
  have hta := take_all hlt (fun s => decide (NamedOk s)) b
  generalize hb : (b && (x.on.take i).all fun s => decide (NamedOk s)) = b1 at f4 hta
  have fin : ∀ (F4 : Fr) (b2 : Bool), F4.get 1 = some (.ptr 0 0) → F4.get 3 = some (.ptr 1 0) → F4.get 4 = some (.bool b2) → F4.get 98 = some (eStr.ds x.on) → F4.get 99 = some (.int .i64 (x.on.length : Int)) → F4.get 100 = some (.int .i64 (i : Int)) → b2 = (b1 && decide (NamedOk x.on[i])) → VC Try.prog R17_22 F4 K n [] (RndQ (fun t F K n ms => ∃ i, t = x.on.length - i ∧ i ≤ x.on.length ∧ MyF x tc (b && (x.on.take i).all fun s => decide (NamedOk s)) F K n ∧ F.get 98 = some (eStr.ds x.on) ∧ F.get 99 = some (.int .i64 (x.on.length : Int)) ∧ F.get 100 = some (.int .i64 (i : Int)) ∧ ms = []) (x.on.length - i) (BlkQ 3 Q)) := by
   intro F4 b2 w1 w3 w4 w38 w39 w40 hb2
   simp [R17_22, w40, wrap_nat i (by omega)]
   refine ⟨_, by omega, i + 1, rfl, hlt, ⟨by simp [w1], by simp [w3], ?_, k0, k1, by omega⟩, by simp [w38], by simp [w39], by simp⟩
   rw [hta, ← hb2]; simp [w4]
  cases b1 with
  | false =>
   simp [L17_1, R17_19, R17_20, R17_21, f98, f99, f100, hlt, hx, f4]
   generalize hF3 : (Fp 4 _ _ : Fr) = F3
   have := fin F3 false (by rw [← hF3]; simp [f1]) (by rw [← hF3]; simp [f3]) (by rw [← hF3]; simp) (by rw [← hF3]; simp [f98]) (by rw [← hF3]; simp [f99]) (by rw [← hF3]; simp [f100]) (by simp)
   simpa using this
  | true =>
   simp [L17_1, R17_19, R17_20, R17_21, f98, f99, f100, hlt, hx, f4]
   refine CalV.pure (named51 x.on[i]) ?_
   simp
   generalize hF3 : (Fp 4 _ _ : Fr) = F3
   have := fin F3 (decide (NamedOk x.on[i])) (by rw [← hF3]; simp [f1]) (by rw [← hF3]; simp [f3]) (by rw [← hF3]; simp) (by rw [← hF3]; simp [f98]) (by rw [← hF3]; simp [f99]) (by rw [← hF3]; simp [f100]) (by simp)
   simpa using this
 ·
  have hie : i = x.on.length := by omega
  subst hie
  rw [List.take_length] at f4
  simp [L17_1, R17_19, f99, f100]
  exact hQ _ K n ⟨by simp [f1], by simp [f3], by simp [f4], k0, k1, hn⟩
theorem may17c (x : Stm) (hl : x.sets.length ≤ lim) (hz : ∀ y ∈ x.sets, y.e.sz ≤ lim) (tc : List AV) (b : Bool) (F : Fr) (K : Hp) (n : Nat) (Q : QA) (M : MyF x tc b F K n) (h203 : F.get 203 = some (eSet.ds x.sets)) (h204 : F.get 204 = some (.int .i64 (x.sets.length : Int))) (h205 : F.get 205 = some (.int .i64 0))
  (hQ : ∀ F' K' n', MyF x tc (b && x.sets.all St1.ok) F' K' n' → Q .normal F' K' n' []) : LoopV L17_4 Try.prog F K n [] (BlkQ 9 Q) := by
 unfold lim at hl
 refine LoopV.of (fun t F K n ms => ∃ i, t = x.sets.length - i ∧ i ≤ x.sets.length ∧ MyF x tc (b && (x.sets.take i).all St1.ok) F K n ∧ F.get 203 = some (eSet.ds x.sets) ∧ F.get 204 = some (.int .i64 (x.sets.length : Int)) ∧ F.get 205 = some (.int .i64 (i : Int)) ∧ ms = []) x.sets.length ⟨0, by simp, by simp, by simpa using M, h203, h204, h205, rfl⟩ ?_
 clear M h203 h204 h205 F K n
 rintro t F K n ms ⟨i, rfl, hi, M, f203, f204, f205, rfl⟩
 obtain ⟨f1, f3, f4, k0, k1, hn⟩ := M
 by_cases hlt : i < x.sets.length
 ·
  have hx := eSet.ix (ik := .i64) hlt
  have hld := fun H => eSet.ldN x.sets[i] (eSet.l (x.sets.drop (i + 1))) H
  have hta := take_all hlt St1.ok b
  simp [L17_4, R17_46, R17_47, f203, f204, f205, hlt, hx, hld, Enc.av]
  generalize hK1 : Tr.put _ n _ = K1
  have g0 : K1.get 0 = some (.cells 31 [] x.cells .nil) := by rw [← hK1]; simp [show ¬ 0 = n by omega, k0]
  have g1 : K1.get 1 = some (.cells 31 [] tc .nil) := by rw [← hK1]; simp [show ¬ 1 = n by omega, k1]
  have gn : K1.get n = some (.cells 9 [] (eSet.cells x.sets[i]) .nil) := by rw [← hK1]; simp
  clear hK1
  rw [eSet_c] at gn
  have htk8 : List.take 8 x.sets[i].e.cells = x.sets[i].e.cells := List.take_of_length_le (by simp)
  have hmy := may53 x.sets[i].e (hz _ (List.getElem_mem hlt))
  have hav : x.sets[i].e.av = .agg x.sets[i].e.cells 8 := Eq.trans rfl rfl
  rw [hav] at hmy
  generalize hb : (b && (x.sets.take i).all St1.ok) = b1 at f4 hta
  have fin : ∀ (F4 : Fr) (b2 : Bool), F4.get 1 = some (.ptr 0 0) → F4.get 3 = some (.ptr 1 0) → F4.get 4 = some (.bool b2) → F4.get 203 = some (eSet.ds x.sets) → F4.get 204 = some (.int .i64 (x.sets.length : Int)) → F4.get 205 = some (.int .i64 (i : Int)) → b2 = (b1 && x.sets[i].ok) → VC Try.prog R17_49 F4 K1 (n + 1) [] (RndQ (fun t F K n ms => ∃ i, t = x.sets.length - i ∧ i ≤ x.sets.length ∧ MyF x tc (b && (x.sets.take i).all St1.ok) F K n ∧ F.get 203 = some (eSet.ds x.sets) ∧ F.get 204 = some (.int .i64 (x.sets.length : Int)) ∧ F.get 205 = some (.int .i64 (i : Int)) ∧ ms = []) (x.sets.length - i) (BlkQ 9 Q)) := by
   intro F4 b2 w1 w3 w4 w38 w39 w40 hb2
   simp [R17_49, w40, wrap_nat i (by omega)]
   refine ⟨_, by omega, i + 1, rfl, hlt, ⟨by simp [w1], by simp [w3], ?_, g0, g1, by omega⟩, by simp [w38], by simp [w39], by simp⟩
   rw [hta, ← hb2]; simp [w4]
  cases b1 with
  | false =>
   simp [R17_48, f4]
   generalize hF3 : (Fp 4 _ _ : Fr) = F3
   have := fin F3 false (by rw [← hF3]; simp [f1]) (by rw [← hF3]; simp [f3]) (by rw [← hF3]; simp) (by rw [← hF3]; simp [f203]) (by rw [← hF3]; simp [f204]) (by rw [← hF3]; simp [f205]) (by simp)
   simpa using this
  | true =>
   simp [R17_48, f4, gn]
   refine CalV.pure (named51 x.sets[i].name) ?_
   by_cases hnm : NamedOk x.sets[i].name
   ·
    simp [hnm, gn, htk8]
    refine CalV.pure hmy ?_
    simp
    generalize hF3 : (Fp 4 _ _ : Fr) = F3
    have := fin F3 x.sets[i].e.may (by rw [← hF3]; simp [f1]) (by rw [← hF3]; simp [f3]) (by rw [← hF3]; simp) (by rw [← hF3]; simp [f203]) (by rw [← hF3]; simp [f204]) (by rw [← hF3]; simp [f205]) (by simp [St1.ok, hnm])
    simpa using this
   ·
    simp [hnm]
    generalize hF3 : (Fp 4 _ _ : Fr) = F3
    have := fin F3 false (by rw [← hF3]; simp [f1]) (by rw [← hF3]; simp [f3]) (by rw [← hF3]; simp) (by rw [← hF3]; simp [f203]) (by rw [← hF3]; simp [f204]) (by rw [← hF3]; simp [f205]) (by simp [St1.ok, hnm])
    simpa using this
 ·
  have hie : i = x.sets.length := by omega
  subst hie
  rw [List.take_length] at f4
  simp [L17_4, R17_46, f204, f205]
  exact hQ _ K n ⟨by simp [f1], by simp [f3], by simp [f4], k0, k1, hn⟩
structure RwF (x : Stm) (i : Nat) (F : Fr) : Prop where
 f136 : F.get 136 = some (eRow.ds x.rows)
 f137 : F.get 137 = some (.int .i64 (x.rows.length : Int))
 f138 : F.get 138 = some (.int .i64 (i : Int))
theorem may17d (x : Stm) (r : List Ex) (k : Nat) (hl : r.length ≤ lim) (hz : ∀ y ∈ r, y.sz ≤ lim) (tc : List AV) (b : Bool) (F : Fr) (K : Hp) (n : Nat) (Q : QA) (M : MyF x tc b F K n) (W : RwF x k F) (h148 : F.get 148 = some (eEx.ds r)) (h149 : F.get 149 = some (.int .i64 (r.length : Int))) (h150 : F.get 150 = some (.int .i64 0))
  (hQ : ∀ F' K' n', MyF x tc (b && r.all Ex.may) F' K' n' → RwF x k F' → Q .normal F' K' n' []) : LoopV L17_2 Try.prog F K n [] (BlkQ 7 Q) := by
 unfold lim at hl
 refine LoopV.of (fun t F K n ms => ∃ i, t = r.length - i ∧ i ≤ r.length ∧ MyF x tc (b && (r.take i).all Ex.may) F K n ∧ RwF x k F ∧ F.get 148 = some (eEx.ds r) ∧ F.get 149 = some (.int .i64 (r.length : Int)) ∧ F.get 150 = some (.int .i64 (i : Int)) ∧ ms = []) r.length ⟨0, by simp, by simp, by simpa using M, W, h148, h149, h150, rfl⟩ ?_
 clear M W h148 h149 h150 F K n
 rintro t F K n ms ⟨i, rfl, hi, M, ⟨f136, f137, f138⟩, f148, f149, f150, rfl⟩
 obtain ⟨f1, f3, f4, k0, k1, hn⟩ := M
 by_cases hlt : i < r.length
 ·
  have hx := eEx.ix (ik := .i64) hlt
  have hld := fun H => eEx.ldN r[i] (eEx.l (r.drop (i + 1))) H
  have hta := take_all hlt Ex.may b
  simp [L17_2, R17_34, R17_35, f148, f149, f150, hlt, hx, hld, Enc.av, eEx_c]
  generalize hK1 : Tr.put _ n (some (ABlk.cells 8 [] r[i].cells .nil)) = K1
  have g0 : K1.get 0 = some (.cells 31 [] x.cells .nil) := by rw [← hK1]; simp [show ¬ 0 = n by omega, k0]
  have g1 : K1.get 1 = some (.cells 31 [] tc .nil) := by rw [← hK1]; simp [show ¬ 1 = n by omega, k1]
  have gn : K1.get n = some (.cells 8 [] r[i].cells .nil) := by rw [← hK1]; simp
  clear hK1
  have hmy := may53 r[i] (hz _ (List.getElem_mem hlt))
  have hav : r[i].av = .agg r[i].cells 8 := Eq.trans rfl rfl
  rw [hav] at hmy
  generalize hb : (b && (r.take i).all Ex.may) = b1 at f4 hta
  have fin : ∀ (F4 : Fr) (b2 : Bool), F4.get 1 = some (.ptr 0 0) → F4.get 3 = some (.ptr 1 0) → F4.get 4 = some (.bool b2) → RwF x k F4 → F4.get 148 = some (eEx.ds r) → F4.get 149 = some (.int .i64 (r.length : Int)) → F4.get 150 = some (.int .i64 (i : Int)) → b2 = (b1 && r[i].may) → VC Try.prog R17_37 F4 K1 (n + 1) [] (RndQ (fun t F K n ms => ∃ i, t = r.length - i ∧ i ≤ r.length ∧ MyF x tc (b && (r.take i).all Ex.may) F K n ∧ RwF x k F ∧ F.get 148 = some (eEx.ds r) ∧ F.get 149 = some (.int .i64 (r.length : Int)) ∧ F.get 150 = some (.int .i64 (i : Int)) ∧ ms = []) (r.length - i) (BlkQ 7 Q)) := by
   intro F4 b2 w1 w3 w4 ⟨w136, w137, w138⟩ w38 w39 w40 hb2
   simp [R17_37, w40, wrap_nat i (by omega)]
   refine ⟨_, by omega, i + 1, rfl, hlt, ⟨by simp [w1], by simp [w3], ?_, g0, g1, by omega⟩, ⟨by simp [w136], by simp [w137], by simp [w138]⟩, by simp [w38], by simp [w39], by simp⟩
   rw [hta, ← hb2]; simp [w4]
  cases b1 with
  | false =>
   simp [R17_36, f4]
   generalize hF3 : (Fp 4 _ _ : Fr) = F3
   have := fin F3 false (by rw [← hF3]; simp [f1]) (by rw [← hF3]; simp [f3]) (by rw [← hF3]; simp) ⟨by rw [← hF3]; simp [f136], by rw [← hF3]; simp [f137], by rw [← hF3]; simp [f138]⟩ (by rw [← hF3]; simp [f148]) (by rw [← hF3]; simp [f149]) (by rw [← hF3]; simp [f150]) (by simp)
   simpa using this
  | true =>
   simp [R17_36, f4, gn]
   refine CalV.pure hmy ?_
   simp
   generalize hF3 : (Fp 4 _ _ : Fr) = F3
   have := fin F3 r[i].may (by rw [← hF3]; simp [f1]) (by rw [← hF3]; simp [f3]) (by rw [← hF3]; simp) ⟨by rw [← hF3]; simp [f136], by rw [← hF3]; simp [f137], by rw [← hF3]; simp [f138]⟩ (by rw [← hF3]; simp [f148]) (by rw [← hF3]; simp [f149]) (by rw [← hF3]; simp [f150]) (by simp)
   simpa using this
 ·
  have hie : i = r.length := by omega
  subst hie
  rw [List.take_length] at f4
  simp [L17_2, R17_34, f149, f150]
  exact hQ _ K n ⟨by simp [f1], by simp [f3], by simp [f4], k0, k1, hn⟩ ⟨by simp [f136], by simp [f137], by simp [f138]⟩
noncomputable def rowOk (r : List Ex) : Bool := decide (1 ≤ r.length ∧ r.length ≤ 16) && r.all Ex.may
theorem may17e (x : Stm) (hl : x.rows.length ≤ lim) (hr : ∀ r ∈ x.rows, r.length ≤ lim ∧ ∀ y ∈ r, y.sz ≤ lim) (tc : List AV) (b : Bool) (F : Fr) (K : Hp) (n : Nat) (Q : QA) (M : MyF x tc b F K n) (W : RwF x 0 F)
  (hQ : ∀ F' K' n', MyF x tc (b && x.rows.all rowOk) F' K' n' → Q .normal F' K' n' []) : LoopV L17_3 Try.prog F K n [] (BlkQ 5 Q) := by
 unfold lim at hl
 refine LoopV.of (fun t F K n ms => ∃ i, t = x.rows.length - i ∧ i ≤ x.rows.length ∧ MyF x tc (b && (x.rows.take i).all rowOk) F K n ∧ RwF x i F ∧ ms = []) x.rows.length ⟨0, by simp, by simp, by simpa using M, W, rfl⟩ ?_
 clear M W F K n
 rintro t F K n ms ⟨i, rfl, hi, M, ⟨f136, f137, f138⟩, rfl⟩
 obtain ⟨f1, f3, f4, k0, k1, hn⟩ := M
 by_cases hlt : i < x.rows.length
 ·
  have hx := eRow.ix (ik := .i64) hlt
  rw [eRow_c] at hx
  obtain ⟨hr1, hr2⟩ := hr _ (List.getElem_mem hlt)
  have hta := take_all hlt rowOk b
  generalize hb : (b && (x.rows.take i).all rowOk) = b1 at f4 hta
  have fin : ∀ (F4 : Fr) (b2 : Bool), MyF x tc b2 F4 K n → RwF x i F4 → F4.get 10 = some (eEx.ds x.rows[i]) → b2 = (b1 && decide (1 ≤ x.rows[i].length ∧ x.rows[i].length ≤ 16)) → VC Try.prog R17_33 F4 K n [] (SeqV Try.prog (.block 7 (.loop L17_2)) (BlkQ 6 (SeqV Try.prog R17_38 (RndQ (fun t F K n ms => ∃ i, t = x.rows.length - i ∧ i ≤ x.rows.length ∧ MyF x tc (b && (x.rows.take i).all rowOk) F K n ∧ RwF x i F ∧ ms = []) (x.rows.length - i) (BlkQ 5 Q))))) := by
   intro F4 b2 ⟨w1, w3, w4, _, _, _⟩ ⟨w136, w137, w138⟩ w10 hb2
   simp [R17_33, w10, Enc.len_ds]
   refine may17d x x.rows[i] i hr1 hr2 tc b2 _ K n _ ⟨by simp [w1], by simp [w3], by simp [w4], k0, k1, hn⟩ ⟨by simp [w136], by simp [w137], by simp [w138]⟩ (by simp) (by simp) (by simp) fun F5 K5 n5 M5 W5 => ?_
   have f138' := W5.f138
   simp [R17_38, f138', wrap_nat i (by omega)]
   refine ⟨_, by omega, i + 1, rfl, hlt, ⟨by simp [M5.f1], by simp [M5.f3], ?_, M5.k0, M5.k1, M5.hn⟩, ⟨by simp [W5.f136], by simp [W5.f137], by simp⟩⟩
   have := M5.f4
   rw [hta, rowOk, ← Bool.and_assoc, ← hb2]; simp [this]
  cases b1 with
  | false =>
   simp [L17_3, R17_30, R17_31, R17_32, f136, f137, f138, hlt, hx, f4]
   generalize hF3 : (Fp 4 _ _ : Fr) = F3
   have := fin F3 false ⟨by rw [← hF3]; simp [f1], by rw [← hF3]; simp [f3], by rw [← hF3]; simp, k0, k1, hn⟩ ⟨by rw [← hF3]; simp [f136], by rw [← hF3]; simp [f137], by rw [← hF3]; simp [f138]⟩ (by rw [← hF3]; simp) (by simp)
   simpa using this
  | true =>
   simp [L17_3, R17_30, R17_31, R17_32, f136, f137, f138, hlt, hx, f4, Enc.len_ds]
   refine CalV.pure (upTo52 (x.rows[i].length : Int) 16) ?_
   simp
   generalize hF3 : (Fp 4 _ _ : Fr) = F3
   have := fin F3 (decide ((1 : Int) ≤ (x.rows[i].length : Int) ∧ (x.rows[i].length : Int) ≤ 16)) ⟨by rw [← hF3]; simp [f1], by rw [← hF3]; simp [f3], by rw [← hF3]; simp, k0, k1, hn⟩ ⟨by rw [← hF3]; simp [f136], by rw [← hF3]; simp [f137], by rw [← hF3]; simp [f138]⟩ (by rw [← hF3]; simp) (by
    rw [Bool.true_and]
    congr 1
    exact propext (by omega))
   simpa using this
 ·
  have hie : i = x.rows.length := by omega
  subst hie
  rw [List.take_length] at f4
  simp [L17_3, R17_30, f137, f138]
  exact hQ _ K n ⟨by simp [f1], by simp [f3], by simp [f4], k0, k1, hn⟩
end Go.Abs
namespace Go.Abs
open Go.Proofs
open Classical
set_option maxRecDepth 100000
@[simp] theorem allVal_4 (e : Eff) (F : Fr) (n : Nat) (A B C D : Hp) (As : List Hp) : allVal e F n 4 (A :: B :: C :: D :: As) = (vE (e F A n)).bind fun v => eqA v ((vE (e F B n)).bind fun v => eqA v ((vE (e F C n)).bind fun v => eqA v (vE (e F D n)))) := by rw [allVal_two e F n 2, allVal_two e F n 1, allVal_two e F n 0, allVal_one]
def NV (v v' : AV) : Prop := v = v' ∨ (v = .cst (.slice none 0 0) ∧ ∃ k, v' = .ds [] 0 (k + 1))
def NL : List AV → List AV → Prop
 | [], [] => True
 | v :: l, v' :: l' => NV v v' ∧ NL l l'
 | _, _ => False
@[simp] theorem nlNil : NL [] [] = True := by simp [NL]
@[simp] theorem nlCons (v v' : AV) (l l' : List AV) : NL (v :: l) (v' :: l') = (NV v v' ∧ NL l l') := by simp [NL]
@[simp] theorem nvRfl (v : AV) : NV v v = True := by simp [NV]
@[simp] theorem nvNil {α : Type} {k : Nat} (E : Enc α (k + 1)) : NV (.cst (.slice none 0 0)) (E.ds []) = True := by
 simp only [eq_iff_iff, iff_true]; exact .inr ⟨rfl, k, rfl⟩
theorem nvEx : NV (.cst (.slice none 0 0)) (.ds (Ex.cellsL []) 0 8) := .inr ⟨rfl, 7, by simp [Ex.cellsL]⟩
theorem NV.vr {φ : Ph} {D : Da} {v v' : AV} {x : Value} (h : NV v v') (hx : VR φ D v x) : VR φ D v' x := by
 rcases h with rfl | ⟨rfl, k, rfl⟩
 · exact hx
 · cases hx; exact .dsn _
theorem NL.len : ∀ {l l' : List AV}, NL l l' → l'.length = l.length
 | [], [], _ => rfl
 | [], _ :: _, k => by simp [NL] at k
 | _ :: _, [], k => by simp [NL] at k
 | _ :: _, _ :: _, k => by simp only [nlCons] at k; simp [NL.len k.2]
theorem NL.vrs {φ : Ph} {D : Da} : ∀ {l l' : List AV} {xs : List Value}, NL l l' → VRs φ D l xs → VRs φ D l' xs
 | [], [], _, _, h => h
 | [], _ :: _, _, k, _ => by simp [NL] at k
 | _ :: _, [], _, k, _ => by simp [NL] at k
 | _ :: _, _ :: _, _, k, .cons _ _ _ _ h1 h2 => by
  simp only [nlCons] at k
  exact .cons _ _ _ _ (k.1.vr h1) (NL.vrs k.2 h2)
theorem FnPure.conv {P : Program} {g : FuncId} {args args' : List AV} {v : AV} (h : FnPure P g args' v) (hp : PureL args) (hc : ∀ D xs, VRs PhN D args xs → VRs PhN D args' xs) : FnPure P g args v :=
 ⟨h.body, hp, h.pval, fun D w xs hd hv => h.run D w xs hd (hc D xs hv)⟩
def exZ : Ex := .mk 0 ⟨0, 0, []⟩ [] [] 0 []
def qryZ : Qry := ⟨false, false, [], [], exZ, [], false, 0⟩
def Stm.z (k : Int) : Stm := ⟨k, [], [], [], [], false, [], [], exZ, qryZ⟩
def Stm.cut (x : Stm) : Stm :=
 if x.kind = 1 then { Stm.z x.kind with table := x.table, cols := x.cols }
 else if x.kind = 2 then { Stm.z x.kind with table := x.table }
 else if x.kind = 3 then { Stm.z x.kind with table := x.table, name := x.name, on := x.on, uniq := x.uniq }
 else if x.kind = 4 then { Stm.z x.kind with name := x.name }
 else if x.kind = 5 then { Stm.z x.kind with table := x.table, rows := x.rows }
 else if x.kind = 6 then { Stm.z x.kind with table := x.table, cond := x.cond }
 else if x.kind = 7 then { Stm.z x.kind with table := x.table, sets := x.sets, cond := x.cond }
 else if x.kind = 8 then { Stm.z x.kind with q := x.q }
 else Stm.z x.kind
noncomputable def Stm.ok (x : Stm) : Bool :=
 if x.kind = 1 then decide (NamedOk x.table) && decide (1 ≤ x.cols.length ∧ x.cols.length ≤ 16) && x.cols.all Col.ok
 else if x.kind = 2 then decide (NamedOk x.table)
 else if x.kind = 3 then decide (NamedOk x.table) && decide (NamedOk x.name) && decide (1 ≤ x.on.length ∧ x.on.length ≤ 16) && x.on.all fun s => decide (NamedOk s)
 else if x.kind = 4 then decide (NamedOk x.name)
 else if x.kind = 5 then decide (NamedOk x.table) && decide (0 < x.rows.length) && x.rows.all rowOk
 else if x.kind = 6 then decide (NamedOk x.table) && x.cond.maybe
 else if x.kind = 7 then decide (NamedOk x.table) && decide (1 ≤ x.sets.length ∧ x.sets.length ≤ 16) && x.cond.maybe && x.sets.all St1.ok
 else if x.kind = 8 then x.q.may
 else decide (x.kind = 9 ∨ x.kind = 10 ∨ x.kind = 11)
structure Stm.sm (x : Stm) : Prop where
 cols : x.cols.length ≤ lim
 on : x.on.length ≤ lim
 rows : x.rows.length ≤ lim
 row : ∀ r ∈ x.rows, r.length ≤ lim ∧ ∀ y ∈ r, y.sz ≤ lim
 sets : x.sets.length ≤ lim
 set : ∀ y ∈ x.sets, y.e.sz ≤ lim
 cond : x.cond.sz ≤ lim
 items : x.q.items.length ≤ lim
 item : ∀ y ∈ x.q.items, y.e.sz ≤ lim
 srcs : x.q.srcs.length ≤ lim
 src : ∀ y ∈ x.q.srcs, y.cond.sz ≤ lim
 order : x.q.order.length ≤ lim
 qc : x.q.cond.sz ≤ lim
def tcZ (kind : Int) : List AV := [(.int .i64 kind), (.str []), (.str []), (.cst (.slice none 0 0)), (.cst (.slice none 0 0)), (.bool false), (.cst (.slice none 0 0)), (.cst (.slice none 0 0)), (.int .i64 0), (.int .i64 0), (.int .i64 0), (.str []), (.str []), (.str []), (.int .i64 0), (.cst (.slice none 0 0)), (.bool false), (.bool false), (.cst (.slice none 0 0)), (.cst (.slice none 0 0)), (.int .i64 0), (.int .i64 0), (.int .i64 0), (.str []), (.str []), (.str []), (.int .i64 0), (.cst (.slice none 0 0)), (.cst (.slice none 0 0)), (.bool false), (.int .i64 0)]
noncomputable def M17 : CT := (.seq R17_4 (.cond (slotG 20) (.seq R17_5 (.seq R17_6 (.seq R17_7 (.block 1 (.loop L17_0))))) (.seq R17_12 (.cond (slotG 61) (.seq R17_13 R17_14) (.seq R17_15 (.cond (slotG 69) (.seq R17_16 (.seq R17_17 (.seq R17_18 (.block 3 (.loop L17_1))))) (.seq R17_23 (.cond (slotG 110) (.seq R17_24 R17_25) (.seq R17_26 (.cond (slotG 118) (.seq R17_27 (.seq R17_28 (.seq R17_29 (.block 5 (.loop L17_3))))) (.seq R17_39 (.cond (slotG 161) (.seq R17_40 R17_41) (.seq R17_42 (.cond (slotG 177) (.seq R17_43 (.seq R17_44 (.seq R17_45 (.block 9 (.loop L17_4))))) (.seq R17_50 (.cond (slotG 221) (.seq R17_51 R17_52) (.seq (.seq R17_53 (.cond (slotG 229) .skip (.seq R17_54 (.cond (slotG 229) .skip R17_55)))) (.cond (slotG 229) R17_56 .skip))))))))))))))))))
theorem b17 : B17 = (.seq R17_0 (.seq R17_1 (.seq R17_2 (.seq (.seq R17_3 (.block 0 M17)) (.seq R17_57 .ret))))) := rfl
structure Ent17 (x : Stm) (F : Fr) (K : Hp) : Prop where
 f1 : F.get 1 = some (.ptr 0 0)
 f3 : F.get 3 = some (.ptr 1 0)
 f4 : F.get 4 = some (.bool false)
 f19 : F.get 19 = some (.int .i64 x.kind)
 k0 : K.get 0 = some (.cells 31 [] x.cells .nil)
 k1 : K.get 1 = some (.cells 31 [] (tcZ x.kind) .nil)
structure Tc17 (x : Stm) (tc : List AV) : Prop where
 len : tc.length = 31
 pure : PureL tc
 cut : NL tc x.cut.cells
def Fin17 (x : Stm) (Q : QA) : Prop := ∀ F' K' n' tc b, MyF x tc b F' K' n' → Tc17 x tc → b = x.ok → Q .normal F' K' n' []
end Go.Abs
namespace Go.Abs
open Go.Proofs
open Classical
set_option maxRecDepth 100000
theorem may17k1 (x : Stm) (hs : x.sm) (hk : x.kind = 1) (F : Fr) (K : Hp) (Q : QA) (E : Ent17 x F K) (hQ : Fin17 x Q) : VC Try.prog M17 F K 2 [] Q := by
 obtain ⟨f1, f3, f4, f19, k0, k1⟩ := E
 have x1 := x.g1
 have x3 := x.g3
 rw [hk] at f19 k1
 generalize hxs : x.cells = xs at *
 simp [M17, R17_4, f19]
 simp [R17_5]
 refine DrwV.of (ce0_ok (P := Try.prog)) ?_
 simp [clearF_get, f1, f3, k0, k1, x1, x3, tcZ, noneAt_cons, noneAt_nil]
 generalize hK2 : Tr.put (Tr.put K 1 _) 1 _ = K2
 obtain ⟨tc, g1, ht⟩ : ∃ tc, K2.get 1 = some (.cells 31 [] tc .nil) ∧ Tc17 x tc := ⟨_, by rw [← hK2]; exact (Tr.get_put _ _ _ _).trans (if_pos rfl), by simp, by simp, by simp [Stm.cut, hk, Stm.cells, Stm.z, exZ, qryZ, Ex.cells, Qry.cells, nvEx]⟩
 have g0 : K2.get 0 = some (.cells 31 [] xs .nil) := by rw [← hK2]; simp [k0]
 clear hK2
 generalize hF2 : (Fp 27 _ _ : Fr) = F2
 have h1 : F2.get 1 = some (.ptr 0 0) := by rw [← hF2]; simp [clearF_get, f1]
 have h3 : F2.get 3 = some (.ptr 1 0) := by rw [← hF2]; simp [clearF_get, f3]
 clear hF2 f1 f3 f4 f19 k0 k1 F
 have fin : ∀ (F' : Fr) (b : Bool), F'.get 1 = some (.ptr 0 0) → F'.get 3 = some (.ptr 1 0) → F'.get 4 = some (.bool b) → b = (decide (NamedOk x.table) && decide (1 ≤ x.cols.length ∧ x.cols.length ≤ 16)) → VC Try.prog R17_7 F' K2 2 [] (SeqV Try.prog (.block 1 L17_0.loop) Q) := by
  intro F' b w1 w3 w4 hb
  simp [R17_7, w1, g0, x3, Enc.len_ds]
  refine may17a x hs.cols tc b _ K2 2 _ ⟨by simp [w1], by simp [w3], by simp [w4], by rw [hxs]; exact g0, g1, by omega⟩ (by simp) (by simp) (by simp) fun F5 K5 n5 M5 => ?_
  exact hQ _ _ _ _ _ M5 ht (by rw [hb]; simp [Stm.ok, hk])
 simp [R17_6, h1, g0, x1]
 refine CalV.pure (named51 x.table) ?_
 by_cases hn : NamedOk x.table
 ·
  simp [hn, h1, g0, x3, Enc.len_ds]
  refine CalV.pure (upTo52 (x.cols.length : Int) 16) ?_
  simp
  generalize hF3 : (Fp 4 _ _ : Fr) = F3
  have := fin F3 (decide ((1 : Int) ≤ (x.cols.length : Int) ∧ (x.cols.length : Int) ≤ 16)) (by rw [← hF3]; simp [h1]) (by rw [← hF3]; simp [h3]) (by rw [← hF3]; simp) (by
    simp only [hn, decide_true, Bool.true_and]
    congr 1
    exact propext (by omega))
  simpa using this
 ·
  simp [hn]
  generalize hF3 : (Fp 4 _ _ : Fr) = F3
  have := fin F3 false (by rw [← hF3]; simp [h1]) (by rw [← hF3]; simp [h3]) (by rw [← hF3]; simp) (by simp [hn])
  simpa using this
theorem may17k2 (x : Stm) (hs : x.sm) (hk : x.kind = 2) (F : Fr) (K : Hp) (Q : QA) (E : Ent17 x F K) (hQ : Fin17 x Q) : VC Try.prog M17 F K 2 [] Q := by
 obtain ⟨f1, f3, f4, f19, k0, k1⟩ := E
 have x1 := x.g1
 rw [hk] at f19 k1
 generalize hxs : x.cells = xs at *
 simp [M17, f19, R17_4, R17_12, R17_13, f1, f3, k0, k1, x1, tcZ]
 generalize hK2 : Tr.put _ 1 _ = K2
 obtain ⟨tc, g1, ht⟩ : ∃ tc, K2.get 1 = some (.cells 31 [] tc .nil) ∧ Tc17 x tc := ⟨_, by rw [← hK2]; exact (Tr.get_put _ _ _ _).trans (if_pos rfl), by simp, by simp, by simp [Stm.cut, hk, Stm.cells, Stm.z, exZ, qryZ, Ex.cells, Qry.cells, nvEx]⟩
 have g0 : K2.get 0 = some (.cells 31 [] xs .nil) := by rw [← hK2]; simp [k0]
 clear hK2
 generalize hF2 : (Fp 65 _ _ : Fr) = F2
 have h1 : F2.get 1 = some (.ptr 0 0) := by rw [← hF2]; simp [clearF_get, f1]
 have h3 : F2.get 3 = some (.ptr 1 0) := by rw [← hF2]; simp [clearF_get, f3]
 clear hF2 f1 f3 f4 f19 k0 k1 F
 have fin : ∀ (F' : Fr) (b : Bool), F'.get 1 = some (.ptr 0 0) → F'.get 3 = some (.ptr 1 0) → F'.get 4 = some (.bool b) → b = x.ok → Q .normal F' K2 2 [] := fun F' b w1 w3 w4 hb => hQ _ _ _ _ _ ⟨w1, w3, w4, by rw [hxs]; exact g0, g1, by omega⟩ ht hb
 simp [R17_14, h1, g0, x1]
 refine CalV.pure (named51 x.table) ?_
 simp
 generalize hF3 : (Fp 4 _ _ : Fr) = F3
 exact fin F3 _ (by rw [← hF3]; simp [h1]) (by rw [← hF3]; simp [h3]) (by rw [← hF3]; simp; rfl) (by simp [Stm.ok, hk])
theorem may17k4 (x : Stm) (hs : x.sm) (hk : x.kind = 4) (F : Fr) (K : Hp) (Q : QA) (E : Ent17 x F K) (hQ : Fin17 x Q) : VC Try.prog M17 F K 2 [] Q := by
 obtain ⟨f1, f3, f4, f19, k0, k1⟩ := E
 have x2 := x.g2
 rw [hk] at f19 k1
 generalize hxs : x.cells = xs at *
 simp [M17, f19, R17_4, R17_12, R17_15, R17_23, R17_24, f1, f3, k0, k1, x2, tcZ]
 generalize hK2 : Tr.put _ 1 _ = K2
 obtain ⟨tc, g1, ht⟩ : ∃ tc, K2.get 1 = some (.cells 31 [] tc .nil) ∧ Tc17 x tc := ⟨_, by rw [← hK2]; exact (Tr.get_put _ _ _ _).trans (if_pos rfl), by simp, by simp, by simp [Stm.cut, hk, Stm.cells, Stm.z, exZ, qryZ, Ex.cells, Qry.cells, nvEx]⟩
 have g0 : K2.get 0 = some (.cells 31 [] xs .nil) := by rw [← hK2]; simp [k0]
 clear hK2
 generalize hF2 : (Fp 114 _ _ : Fr) = F2
 have h1 : F2.get 1 = some (.ptr 0 0) := by rw [← hF2]; simp [clearF_get, f1]
 have h3 : F2.get 3 = some (.ptr 1 0) := by rw [← hF2]; simp [clearF_get, f3]
 clear hF2 f1 f3 f4 f19 k0 k1 F
 have fin : ∀ (F' : Fr) (b : Bool), F'.get 1 = some (.ptr 0 0) → F'.get 3 = some (.ptr 1 0) → F'.get 4 = some (.bool b) → b = x.ok → Q .normal F' K2 2 [] := fun F' b w1 w3 w4 hb => hQ _ _ _ _ _ ⟨w1, w3, w4, by rw [hxs]; exact g0, g1, by omega⟩ ht hb
 simp [R17_25, h1, g0, x2]
 refine CalV.pure (named51 x.name) ?_
 simp
 generalize hF3 : (Fp 4 _ _ : Fr) = F3
 exact fin F3 _ (by rw [← hF3]; simp [h1]) (by rw [← hF3]; simp [h3]) (by rw [← hF3]; simp; rfl) (by simp [Stm.ok, hk])
theorem may17k3 (x : Stm) (hs : x.sm) (hk : x.kind = 3) (F : Fr) (K : Hp) (Q : QA) (E : Ent17 x F K) (hQ : Fin17 x Q) : VC Try.prog M17 F K 2 [] Q := by
 obtain ⟨f1, f3, f4, f19, k0, k1⟩ := E
 have x1 := x.g1
 have x2 := x.g2
 have x4 := x.g4
 have x5 := x.g5
 rw [hk] at f19 k1
 generalize hxs : x.cells = xs at *
 simp [M17, f19, R17_4, R17_12, R17_15]
 simp [R17_16]
 refine DrwV.of (ce0_ok (P := Try.prog)) ?_
 simp [clearF_get, f1, f3, k0, k1, x1, x2, x4, x5, tcZ, noneAt_cons, noneAt_nil]
 generalize hK2 : Tr.put _ 1 _ = K2
 obtain ⟨tc, g1, ht⟩ : ∃ tc, K2.get 1 = some (.cells 31 [] tc .nil) ∧ Tc17 x tc := ⟨_, by rw [← hK2]; exact (Tr.get_put _ _ _ _).trans (if_pos rfl), by simp, by simp, by simp [Stm.cut, hk, Stm.cells, Stm.z, exZ, qryZ, Ex.cells, Qry.cells, nvEx]⟩
 have g0 : K2.get 0 = some (.cells 31 [] xs .nil) := by rw [← hK2]; simp [k0]
 clear hK2
 generalize hF2 : (Fp 82 _ _ : Fr) = F2
 have h1 : F2.get 1 = some (.ptr 0 0) := by rw [← hF2]; simp [clearF_get, f1]
 have h3 : F2.get 3 = some (.ptr 1 0) := by rw [← hF2]; simp [clearF_get, f3]
 clear hF2 f1 f3 f4 f19 k0 k1 F
 have fin : ∀ (F' : Fr) (b : Bool), F'.get 1 = some (.ptr 0 0) → F'.get 3 = some (.ptr 1 0) → F'.get 4 = some (.bool b) → b = (decide (NamedOk x.table) && decide (NamedOk x.name) && decide (1 ≤ x.on.length ∧ x.on.length ≤ 16)) → VC Try.prog R17_18 F' K2 2 [] (SeqV Try.prog (.block 3 L17_1.loop) Q) := by
  intro F' b w1 w3 w4 hb
  simp [R17_18, w1, g0, x4, Enc.len_ds]
  refine may17b x hs.on tc b _ K2 2 _ ⟨by simp [w1], by simp [w3], by simp [w4], by rw [hxs]; exact g0, g1, by omega⟩ (by simp) (by simp) (by simp) fun F5 K5 n5 M5 => ?_
  exact hQ _ _ _ _ _ M5 ht (by rw [hb]; simp [Stm.ok, hk])
 simp [R17_17, h1, g0, x1]
 refine CalV.pure (named51 x.table) ?_
 by_cases hn : NamedOk x.table
 ·
  simp [hn, h1, g0, x2]
  refine CalV.pure (named51 x.name) ?_
  by_cases hn2 : NamedOk x.name
  ·
   simp [hn2, h1, g0, x4, Enc.len_ds]
   refine CalV.pure (upTo52 (x.on.length : Int) 16) ?_
   simp
   generalize hF3 : (Fp 4 _ _ : Fr) = F3
   have := fin F3 (decide ((1 : Int) ≤ (x.on.length : Int) ∧ (x.on.length : Int) ≤ 16)) (by rw [← hF3]; simp [h1]) (by rw [← hF3]; simp [h3]) (by rw [← hF3]; simp) (by
    simp only [hn, hn2, decide_true, Bool.true_and]
    congr 1
    exact propext (by omega))
   simpa using this
  ·
   simp [hn2]
   generalize hF3 : (Fp 4 _ _ : Fr) = F3
   have := fin F3 false (by rw [← hF3]; simp [h1]) (by rw [← hF3]; simp [h3]) (by rw [← hF3]; simp) (by simp [hn2])
   simpa using this
 ·
  simp [hn]
  generalize hF3 : (Fp 4 _ _ : Fr) = F3
  have := fin F3 false (by rw [← hF3]; simp [h1]) (by rw [← hF3]; simp [h3]) (by rw [← hF3]; simp) (by simp [hn])
  simpa using this
theorem may17k5 (x : Stm) (hs : x.sm) (hk : x.kind = 5) (F : Fr) (K : Hp) (Q : QA) (E : Ent17 x F K) (hQ : Fin17 x Q) : VC Try.prog M17 F K 2 [] Q := by
 obtain ⟨f1, f3, f4, f19, k0, k1⟩ := E
 have x1 := x.g1
 have x6 := x.g6
 rw [hk] at f19 k1
 generalize hxs : x.cells = xs at *
 simp [M17, f19, R17_4, R17_12, R17_15, R17_23, R17_26]
 simp [R17_27]
 refine DrwV.of (ce0_ok (P := Try.prog)) ?_
 simp [clearF_get, f1, f3, k0, k1, x1, x6, tcZ, noneAt_cons, noneAt_nil]
 generalize hK2 : Tr.put _ 1 _ = K2
 obtain ⟨tc, g1, ht⟩ : ∃ tc, K2.get 1 = some (.cells 31 [] tc .nil) ∧ Tc17 x tc := ⟨_, by rw [← hK2]; exact (Tr.get_put _ _ _ _).trans (if_pos rfl), by simp, by simp, by simp [Stm.cut, hk, Stm.cells, Stm.z, exZ, qryZ, Ex.cells, Qry.cells, nvEx]⟩
 have g0 : K2.get 0 = some (.cells 31 [] xs .nil) := by rw [← hK2]; simp [k0]
 clear hK2
 generalize hF2 : (Fp 125 _ _ : Fr) = F2
 have h1 : F2.get 1 = some (.ptr 0 0) := by rw [← hF2]; simp [clearF_get, f1]
 have h3 : F2.get 3 = some (.ptr 1 0) := by rw [← hF2]; simp [clearF_get, f3]
 clear hF2 f1 f3 f4 f19 k0 k1 F
 have fin : ∀ (F' : Fr) (b : Bool), F'.get 1 = some (.ptr 0 0) → F'.get 3 = some (.ptr 1 0) → F'.get 4 = some (.bool b) → b = (decide (NamedOk x.table) && decide (0 < x.rows.length)) → VC Try.prog R17_29 F' K2 2 [] (SeqV Try.prog (.block 5 L17_3.loop) Q) := by
  intro F' b w1 w3 w4 hb
  simp [R17_29, w1, g0, x6, Enc.len_ds]
  refine may17e x hs.rows hs.row tc b _ K2 2 _ ⟨by simp [w1], by simp [w3], by simp [w4], by rw [hxs]; exact g0, g1, by omega⟩ ⟨by simp, by simp, by simp⟩ fun F5 K5 n5 M5 => ?_
  exact hQ _ _ _ _ _ M5 ht (by rw [hb]; simp [Stm.ok, hk])
 simp [R17_28, h1, g0, x1]
 refine CalV.pure (named51 x.table) ?_
 by_cases hn : NamedOk x.table
 ·
  simp [hn, h1, g0, x6, Enc.len_ds]
  generalize hF3 : (Fp 4 _ _ : Fr) = F3
  have := fin F3 (decide (0 < x.rows.length)) (by rw [← hF3]; simp [h1]) (by rw [← hF3]; simp [h3]) (by rw [← hF3]; simp) (by simp [hn])
  simpa using this
 ·
  simp [hn]
  generalize hF3 : (Fp 4 _ _ : Fr) = F3
  have := fin F3 false (by rw [← hF3]; simp [h1]) (by rw [← hF3]; simp [h3]) (by rw [← hF3]; simp) (by simp [hn])
  simpa using this
end Go.Abs
namespace Go.Abs
open Go.Proofs
open Classical
set_option maxRecDepth 100000
theorem len8 {α : Type} : ∀ {l : List α}, l.length = 8 → ∃ a b c d e f g h, l = [a, b, c, d, e, f, g, h]
 | [a, b, c, d, e, f, g, h], _ => ⟨a, b, c, d, e, f, g, h, rfl⟩
theorem len15 {α : Type} : ∀ {l : List α}, l.length = 15 → ∃ a b c d e f g h i j k m n o p, l = [a, b, c, d, e, f, g, h, i, j, k, m, n, o, p]
 | [a, b, c, d, e, f, g, h, i, j, k, m, n, o, p], _ => ⟨a, b, c, d, e, f, g, h, i, j, k, m, n, o, p, rfl⟩
theorem nvQ : NL [.bool false, .bool false, .cst (.slice none 0 0), .cst (.slice none 0 0), .int .i64 0, .int .i64 0, .int .i64 0, .str [], .str [], .str [], .int .i64 0, .cst (.slice none 0 0), .cst (.slice none 0 0), .bool false, .int .i64 0] qryZ.cells := by
 simp [qryZ, exZ, Ex.cells, Qry.cells, nvEx]
theorem may17k6 (x : Stm) (hs : x.sm) (hk : x.kind = 6) (F : Fr) (K : Hp) (Q : QA) (E : Ent17 x F K) (hQ : Fin17 x Q) : VC Try.prog M17 F K 2 [] Q := by
 obtain ⟨f1, f3, f4, f19, k0, k1⟩ := E
 have x1 := x.g1
 rw [hk] at f19 k1
 have xc := x.cc
 have xl := x.cells_len
 have hmy := maybe54 x.cond hs.cond
 have hav : x.cond.av = .agg x.cond.cells 8 := Eq.trans rfl rfl
 rw [hav] at hmy
 obtain ⟨a0, a1, a2, a3, a4, a5, a6, a7, hce⟩ := len8 x.cond.cells_len
 have hpc := x.cond.pureC
 have ho : allOne x.cond.cells = true := by cases x.cond; simp [Ex.cells]
 rw [hce] at xc hmy hpc ho
 simp at hpc ho
 generalize hxs : x.cells = xs at *
 have hg : grab 31 [] xs .nil 8 8 = some [a0, a1, a2, a3, a4, a5, a6, a7] := by simp [xl, xc]
 clear xl
 simp [M17, f19, R17_4, R17_12, R17_15, R17_23, R17_26, R17_39]
 simp [R17_40]
 refine DrwV.of (ce0_ok (P := Try.prog)) ?_
 simp [clearF_get, f1, f3, k0, k1, x1, hg, tcZ, ho, noneAt_cons, noneAt_nil]
 generalize hK2 : Tr.put _ 1 _ = K2
 obtain ⟨tc, g1, ht⟩ : ∃ tc, K2.get 1 = some (.cells 31 [] tc .nil) ∧ Tc17 x tc := ⟨_, by rw [← hK2]; exact (Tr.get_put _ _ _ _).trans (if_pos rfl), by simp, by simp [hpc], by simp only [Stm.cut, hk, Stm.cells, Stm.z]; simp [hce, nvQ]⟩
 have g0 : K2.get 0 = some (.cells 31 [] xs .nil) := by rw [← hK2]; simp [k0]
 clear hK2
 generalize hF2 : (Fp 168 _ _ : Fr) = F2
 have h1 : F2.get 1 = some (.ptr 0 0) := by rw [← hF2]; simp [clearF_get, f1]
 have h3 : F2.get 3 = some (.ptr 1 0) := by rw [← hF2]; simp [clearF_get, f3]
 clear hF2 f1 f3 f4 f19 k0 k1 F
 have fin : ∀ (F' : Fr) (b : Bool), F'.get 1 = some (.ptr 0 0) → F'.get 3 = some (.ptr 1 0) → F'.get 4 = some (.bool b) → b = x.ok → Q .normal F' K2 2 [] := fun F' b w1 w3 w4 hb => hQ _ _ _ _ _ ⟨w1, w3, w4, by rw [hxs]; exact g0, g1, by omega⟩ ht hb
 simp [R17_41, h1, g0, x1]
 refine CalV.pure (named51 x.table) ?_
 by_cases hn : NamedOk x.table
 ·
  simp [hn, h1, g0, hg]
  refine CalV.pure hmy ?_
  simp
  generalize hF3 : (Fp 4 _ _ : Fr) = F3
  have := fin F3 x.cond.maybe (by rw [← hF3]; simp [h1]) (by rw [← hF3]; simp [h3]) (by rw [← hF3]; simp) (by simp [Stm.ok, hk, hn])
  simpa using this
 ·
  simp [hn]
  generalize hF3 : (Fp 4 _ _ : Fr) = F3
  have := fin F3 false (by rw [← hF3]; simp [h1]) (by rw [← hF3]; simp [h3]) (by rw [← hF3]; simp) (by simp [Stm.ok, hk, hn])
  simpa using this
theorem may17k7 (x : Stm) (hs : x.sm) (hk : x.kind = 7) (F : Fr) (K : Hp) (Q : QA) (E : Ent17 x F K) (hQ : Fin17 x Q) : VC Try.prog M17 F K 2 [] Q := by
 obtain ⟨f1, f3, f4, f19, k0, k1⟩ := E
 have x1 := x.g1
 have x7 := x.g7
 rw [hk] at f19 k1
 have xc := x.cc
 have xl := x.cells_len
 have hmy := maybe54 x.cond hs.cond
 have hav : x.cond.av = .agg x.cond.cells 8 := Eq.trans rfl rfl
 rw [hav] at hmy
 obtain ⟨a0, a1, a2, a3, a4, a5, a6, a7, hce⟩ := len8 x.cond.cells_len
 have hpc := x.cond.pureC
 have ho : allOne x.cond.cells = true := by cases x.cond; simp [Ex.cells]
 rw [hce] at xc hmy hpc ho
 simp at hpc ho
 generalize hxs : x.cells = xs at *
 have hg : grab 31 [] xs .nil 8 8 = some [a0, a1, a2, a3, a4, a5, a6, a7] := by simp [xl, xc]
 clear xl
 simp [M17, f19, R17_4, R17_12, R17_15, R17_23, R17_26, R17_39, R17_42]
 simp [R17_43]
 refine DrwV.of (ce0_ok (P := Try.prog)) ?_
 simp [clearF_get, f1, f3, k0, k1, x1, x7, hg, tcZ, ho, noneAt_cons, noneAt_nil]
 generalize hK2 : Tr.put _ 1 _ = K2
 obtain ⟨tc, g1, ht⟩ : ∃ tc, K2.get 1 = some (.cells 31 [] tc .nil) ∧ Tc17 x tc := ⟨_, by rw [← hK2]; exact (Tr.get_put _ _ _ _).trans (if_pos rfl), by simp, by simp [hpc], by simp only [Stm.cut, hk, Stm.cells, Stm.z]; simp [hce, nvQ]⟩
 have g0 : K2.get 0 = some (.cells 31 [] xs .nil) := by rw [← hK2]; simp [k0]
 clear hK2
 generalize hF2 : (Fp 187 _ _ : Fr) = F2
 have h1 : F2.get 1 = some (.ptr 0 0) := by rw [← hF2]; simp [clearF_get, f1]
 have h3 : F2.get 3 = some (.ptr 1 0) := by rw [← hF2]; simp [clearF_get, f3]
 clear hF2 f1 f3 f4 f19 k0 k1 F
 have fin : ∀ (F' : Fr) (b : Bool), F'.get 1 = some (.ptr 0 0) → F'.get 3 = some (.ptr 1 0) → F'.get 4 = some (.bool b) → b = (decide (NamedOk x.table) && decide (1 ≤ x.sets.length ∧ x.sets.length ≤ 16) && x.cond.maybe) → VC Try.prog R17_45 F' K2 2 [] (SeqV Try.prog (.block 9 L17_4.loop) Q) := by
  intro F' b w1 w3 w4 hb
  simp [R17_45, w1, g0, x7, Enc.len_ds]
  refine may17c x hs.sets hs.set tc b _ K2 2 _ ⟨by simp [w1], by simp [w3], by simp [w4], by rw [hxs]; exact g0, g1, by omega⟩ (by simp) (by simp) (by simp) fun F5 K5 n5 M5 => ?_
  exact hQ _ _ _ _ _ M5 ht (by rw [hb]; simp [Stm.ok, hk])
 simp [R17_44, h1, g0, x1]
 refine CalV.pure (named51 x.table) ?_
 by_cases hn : NamedOk x.table
 ·
  simp [hn, h1, g0, x7, Enc.len_ds]
  refine CalV.pure (upTo52 (x.sets.length : Int) 16) ?_
  by_cases hu : 1 ≤ x.sets.length ∧ x.sets.length ≤ 16
  ·
   have hu' : (1 : Int) ≤ (x.sets.length : Int) ∧ (x.sets.length : Int) ≤ 16 := by omega
   simp only [hu', and_self, decide_true]
   simp [h1, g0, hg]
   refine CalV.pure hmy ?_
   simp
   generalize hF3 : (Fp 4 _ _ : Fr) = F3
   have := fin F3 x.cond.maybe (by rw [← hF3]; simp [h1]) (by rw [← hF3]; simp [h3]) (by rw [← hF3]; simp) (by simp [hn, hu])
   simpa using this
  ·
   have hu' : ¬ ((1 : Int) ≤ (x.sets.length : Int) ∧ (x.sets.length : Int) ≤ 16) := by omega
   simp only [hu', decide_false]
   simp
   generalize hF3 : (Fp 4 _ _ : Fr) = F3
   have := fin F3 false (by rw [← hF3]; simp [h1]) (by rw [← hF3]; simp [h3]) (by rw [← hF3]; simp) (by simp [hu])
   simpa using this
 ·
  simp [hn]
  generalize hF3 : (Fp 4 _ _ : Fr) = F3
  have := fin F3 false (by rw [← hF3]; simp [h1]) (by rw [← hF3]; simp [h3]) (by rw [← hF3]; simp) (by simp [hn])
  simpa using this
theorem may17k8 (x : Stm) (hs : x.sm) (hk : x.kind = 8) (F : Fr) (K : Hp) (Q : QA) (E : Ent17 x F K) (hQ : Fin17 x Q) : VC Try.prog M17 F K 2 [] Q := by
 obtain ⟨f1, f3, f4, f19, k0, k1⟩ := E
 rw [hk] at f19 k1
 have xq := x.tq
 have xl := x.cells_len
 have hmy := query55 x.q hs.qc hs.order hs.srcs hs.items hs.item hs.src
 obtain ⟨a0, a1, a2, a3, a4, a5, a6, a7, a8, a9, a10, a11, a12, a13, a14, hce⟩ := len15 x.q.cells_len
 have hpc := x.q.pure
 have ho : allOne x.q.cells = true := by simp [Qry.cells]
 rw [hce] at xq hmy hpc ho
 simp at hpc ho
 generalize hxs : x.cells = xs at *
 have hg : grab 31 [] xs .nil 16 15 = some [a0, a1, a2, a3, a4, a5, a6, a7, a8, a9, a10, a11, a12, a13, a14] := by simp [xl, xq]
 clear xl
 simp [M17, f19, R17_4, R17_12, R17_15, R17_23, R17_26, R17_39, R17_42, R17_50, R17_51, f1, f3, k0, k1, hg, tcZ, ho]
 generalize hK2 : Tr.put _ 1 _ = K2
 obtain ⟨tc, g1, ht⟩ : ∃ tc, K2.get 1 = some (.cells 31 [] tc .nil) ∧ Tc17 x tc := ⟨_, by rw [← hK2]; exact (Tr.get_put _ _ _ _).trans (if_pos rfl), by simp, by simp [hpc], by simp only [Stm.cut, hk, Stm.cells, Stm.z]; simp [hce, exZ, Ex.cells, nvEx]⟩
 have g0 : K2.get 0 = some (.cells 31 [] xs .nil) := by rw [← hK2]; simp [k0]
 clear hK2
 generalize hF2 : (Fp 225 _ _ : Fr) = F2
 have h1 : F2.get 1 = some (.ptr 0 0) := by rw [← hF2]; simp [clearF_get, f1]
 have h3 : F2.get 3 = some (.ptr 1 0) := by rw [← hF2]; simp [clearF_get, f3]
 clear hF2 f1 f3 f4 f19 k0 k1 F
 have fin : ∀ (F' : Fr) (b : Bool), F'.get 1 = some (.ptr 0 0) → F'.get 3 = some (.ptr 1 0) → F'.get 4 = some (.bool b) → b = x.ok → Q .normal F' K2 2 [] := fun F' b w1 w3 w4 hb => hQ _ _ _ _ _ ⟨w1, w3, w4, by rw [hxs]; exact g0, g1, by omega⟩ ht hb
 simp [R17_52, h1, g0, hg]
 refine CalV.pure hmy ?_
 simp
 generalize hF3 : (Fp 4 _ _ : Fr) = F3
 exact fin F3 _ (by rw [← hF3]; simp [h1]) (by rw [← hF3]; simp [h3]) (by rw [← hF3]; simp; rfl) (by simp [Stm.ok, hk])
end Go.Abs
namespace Go.Abs
open Go.Proofs
open Classical
set_option maxRecDepth 100000
theorem tcz (k : Int) (x : Stm) (hk : x.cut = Stm.z k) : Tc17 x (tcZ k) :=
 ⟨by simp [tcZ], by simp [tcZ], by rw [hk]; simp [tcZ, Stm.z, Stm.cells, exZ, qryZ, Ex.cells, Qry.cells, nvEx]⟩
theorem may17k9 (x : Stm) (h1 : ¬ x.kind = 1) (h2 : ¬ x.kind = 2) (h3 : ¬ x.kind = 3) (h4 : ¬ x.kind = 4) (h5 : ¬ x.kind = 5) (h6 : ¬ x.kind = 6) (h7 : ¬ x.kind = 7) (h8 : ¬ x.kind = 8) (F : Fr) (K : Hp) (Q : QA) (E : Ent17 x F K) (hQ : Fin17 x Q) : VC Try.prog M17 F K 2 [] Q := by
 obtain ⟨f1, f3, f4, f19, k0, k1⟩ := E
 have ht := tcz x.kind x (by simp [Stm.cut, h1, h2, h3, h4, h5, h6, h7, h8])
 have ho : x.ok = decide (x.kind = 9 ∨ x.kind = 10 ∨ x.kind = 11) := by simp [Stm.ok, h1, h2, h3, h4, h5, h6, h7, h8]
 have fin : ∀ (F' : Fr) (b : Bool), F'.get 1 = some (.ptr 0 0) → F'.get 3 = some (.ptr 1 0) → F'.get 4 = some (.bool b) → b = decide (x.kind = 9 ∨ x.kind = 10 ∨ x.kind = 11) → Q .normal F' K 2 [] := fun F' b w1 w3 w4 hb => hQ _ _ _ _ _ ⟨w1, w3, w4, k0, k1, by omega⟩ ht (hb.trans ho.symm)
 generalize x.kind = kk at *
 simp [M17, f19, R17_4, R17_12, R17_15, R17_23, R17_26, R17_39, R17_42, R17_50, h1, h2, h3, h4, h5, h6, h7, h8]
 generalize hF2 : (Fp 221 _ _ : Fr) = F2
 have w1 : F2.get 1 = some (.ptr 0 0) := by rw [← hF2]; simp [f1]
 have w3 : F2.get 3 = some (.ptr 1 0) := by rw [← hF2]; simp [f3]
 have w4 : F2.get 4 = some (.bool false) := by rw [← hF2]; simp [f4]
 have w19 : F2.get 19 = some (.int .i64 kk) := by rw [← hF2]; simp [f19]
 clear hF2 f1 f3 f4 f19
 by_cases h9 : kk = 9
 ·
  simp [R17_53, w19, h9, R17_56]
  exact fin _ true (by simp [w1]) (by simp [w3]) (by simp) (by simp [h9])
 ·
  by_cases h10 : kk = 10
  ·
   simp [R17_53, R17_54, w19, h10, R17_56]
   exact fin _ true (by simp [w1]) (by simp [w3]) (by simp) (by simp [h10])
  ·
   by_cases h11 : kk = 11
   ·
    simp [R17_53, R17_54, R17_55, w19, h11, R17_56]
    exact fin _ true (by simp [w1]) (by simp [w3]) (by simp) (by simp [h11])
   ·
    simp [R17_53, R17_54, R17_55, w19, h9, h10, h11]
    exact fin _ false (by simp [w1]) (by simp [w3]) (by simp [w4]) (by simp [h9, h10, h11])
noncomputable def Stm.may (x : Stm) : Bool := x.ok && restB x x.cut
theorem may17 (x : Stm) (hs : x.sm) : FnPure Try.prog 17 [x.av] (.bool x.may) := by
 refine pureV c17 (by simp) (by simp) (by simp [A17]) fun F hF => ?_
 have x0 := x.g0
 have xl := x.cells_len
 have fin : Fin17 x (BlkQ 0 (SeqV Try.prog (.seq R17_57 .ret) (RetQ [rTmp 2] fun v1 H' _ => Frz H'.get v1 (.bool x.may)))) := by
  intro F' K' n' tc b ⟨f1, f3, f4, k0, k1, hn⟩ ⟨htl, hpt, hnl⟩ hb
  cases b with
  | false =>
   simp [R17_57, f4, Stm.may, ← hb]
   exact .bool rfl
  | true =>
   simp [R17_57, f1, f3, f4, k0, k1, xl, htl, Stm.may, ← hb]
   have hr := rest56 x x.cut
   refine CalV.pure (hr.conv ?_ fun D xs hv => ?_) ?_
   · simp [hpt]
   ·
    cases hv with
    | cons _ y0 _ ys h0 hv =>
    cases hv with
    | cons _ y1 _ ys h1 hv =>
    refine .cons _ _ _ _ h0 (.cons _ _ _ _ ?_ hv)
    cases h1 with
    | agg _ l _ a b => exact .agg _ _ _ (hnl.vrs a) (by simp)
   ·
    simp
    exact .bool rfl
 have hcx : x.av = .agg x.cells 31 := Eq.trans rfl rfl
 rw [hcx] at hF
 have body : ∀ (F : Fr) (K : Hp), Ent17 x F K → VC Try.prog M17 F K 2 [] (BlkQ 0 (SeqV Try.prog (.seq R17_57 .ret) (RetQ [rTmp 2] fun v1 H' _ => Frz H'.get v1 (.bool x.may)))) := by
  intro F K E
  by_cases h1 : x.kind = 1
  · exact may17k1 x hs h1 F K _ E fin
  by_cases h2 : x.kind = 2
  · exact may17k2 x hs h2 F K _ E fin
  by_cases h3 : x.kind = 3
  · exact may17k3 x hs h3 F K _ E fin
  by_cases h4 : x.kind = 4
  · exact may17k4 x hs h4 F K _ E fin
  by_cases h5 : x.kind = 5
  · exact may17k5 x hs h5 F K _ E fin
  by_cases h6 : x.kind = 6
  · exact may17k6 x hs h6 F K _ E fin
  by_cases h7 : x.kind = 7
  · exact may17k7 x hs h7 F K _ E fin
  by_cases h8 : x.kind = 8
  · exact may17k8 x hs h8 F K _ E fin
  exact may17k9 x h1 h2 h3 h4 h5 h6 h7 h8 F K _ E fin
 clear fin hs
 have xp := x.pure
 generalize hxs : x.cells = xs at hF x0 xl xp
 have hA : A17.code = B17 := rfl
 simp only [hA, b17]
 simp [R17_0, hF, xl]
 simp [R17_1, R17_2, R17_3, x0]
 generalize hK : Tr.put _ 1 _ = K
 have k0 : K.get 0 = some (.cells 31 [] xs .nil) := by rw [← hK]; simp
 have k1 : K.get 1 = some (.cells 31 [] (tcZ x.kind) .nil) := by rw [← hK]; simp [tcZ]
 clear hK
 refine body _ K ⟨?_, ?_, ?_, ?_, by rw [hxs]; exact k0, k1⟩
 all_goals simp
end Go.Abs
namespace Go.Abs
open Go.Proofs
open Classical
set_option maxRecDepth 100000
theorem tbl47 (d t : Tbl) (b : Nat) (H : Hp) (n : Nat) (hb : H.get b = some (.cells 4 [] (eTbl.cells t) .nil)) (ht : Top H n) : CallR Try.prog 47 [eTbl.av d, .ptr b 0] H n (fun u K k => u = .bool (decide (d.name = t.name)) ∧ K = H ∧ k = n) := by
 refine CallR.forget (by simp) (CallR.of c47 (by simp [A47]) fun F hF => ?_)
 have q : ¬ b = n := by have := ht.lt hb; omega
 simp [A47, B47, R47_0, R47_1, hF, Enc.av, eTbl_c, q, hb]
 rintro c hc rfl
 exact absurd (ht _ (Nat.le_refl _)) hc
theorem ixd50 (d t : Ixd) (b : Nat) (H : Hp) (n : Nat) (hb : H.get b = some (.cells 6 [] (eIxd.cells t) .nil)) (ht : Top H n) : CallR Try.prog 50 [eIxd.av d, .ptr b 0] H n (fun u K k => u = .bool (decide (d.name = t.name)) ∧ K = H ∧ k = n) := by
 refine CallR.forget (by simp) (CallR.of c50 (by simp [A50]) fun F hF => ?_)
 have q : ¬ b = n := by have := ht.lt hb; omega
 simp [A50, B50, R50_0, R50_1, hF, Enc.av, eIxd_c, q, hb]
 rintro c hc rfl
 exact absurd (ht _ (Nat.le_refl _)) hc
theorem conTbl {f : FuncId} {first cap : List AV} {p : Tbl → Bool} {H : Hp} {n : Nat} (l : List Tbl) (hl : l.length ≤ lim) (hp : ∀ x ∈ l, CallR Try.prog f (first ++ ([eTbl.av x] ++ cap)) H n (fun u K k => u = .bool (p x) ∧ K = H ∧ k = n)) :
  CallR Try.prog 46 [eTbl.ds l, .fn (.func f) first cap] H n (fun u K k => u = .bool (l.any p) ∧ K = H ∧ k = n) :=
 con_ok c46 (idx_ok (el := eTbl.av) c86 hl (eTbl.len_ds _) (fun i h => ⟨_, eTbl.ix h, fun F H n h14 => by simp [h14, eTbl.ldN]⟩) hp)
theorem conIxd {f : FuncId} {first cap : List AV} {p : Ixd → Bool} {H : Hp} {n : Nat} (l : List Ixd) (hl : l.length ≤ lim) (hp : ∀ x ∈ l, CallR Try.prog f (first ++ ([eIxd.av x] ++ cap)) H n (fun u K k => u = .bool (p x) ∧ K = H ∧ k = n)) :
  CallR Try.prog 49 [eIxd.ds l, .fn (.func f) first cap] H n (fun u K k => u = .bool (l.any p) ∧ K = H ∧ k = n) :=
 con_ok c49 (idx_ok (el := eIxd.av) c88 hl (eIxd.len_ds _) (fun i h => ⟨_, eIxd.ix h, fun F H n h14 => by simp [h14, eIxd.ldN]⟩) hp)
def PlacesOk (t : Tbl) (l : List Int) : Prop := l ≠ [] ∧ l.length ≤ 16 ∧ ∀ i (h : i < l.length), 0 ≤ l[i] ∧ l[i] < (t.cols.length : Int) ∧ l[i] ∉ l.take i
theorem places48 (t : Tbl) (l : List Int) (hc : t.cols.length ≤ lim) : FnPure Try.prog 48 [eTbl.av t, eInt.ds l] (.bool (decide (PlacesOk t l))) := by
 refine pureV c48 (by simp) (by simp) (by simp [A48]) fun F hF => ?_
 by_cases h0 : l = []
 ·
  have : ¬ PlacesOk t l := fun h => h.1 h0
  simp [A48, B48, R48_0, R48_1, hF, Enc.av, Enc.len_ds, h0, R48_2]
  exact .bool (by subst h0; simp [this])
 by_cases h16 : l.length ≤ 16
 ·
  simp [A48, B48, R48_0, R48_1, hF, Enc.av, Enc.len_ds, h0, show ¬ (16 : Int) < (l.length : Int) by omega, R48_3, eTbl_c]
  generalize hK : Tr.put _ 0 _ = K
  have k0 : K.get 0 = some (.cells 4 [] [.int .u32 t.id, .str t.name, eCol.ds t.cols, .int .u32 t.head] .nil) := by rw [← hK]; simp
  clear hK
  refine LoopV.of (fun q F K' n ms => ∃ i, q = l.length - i ∧ i ≤ l.length ∧ F.get 1 = some (eInt.ds l) ∧ F.get 2 = some (.ptr 0 0) ∧ F.get 15 = some (eInt.ds l) ∧ F.get 16 = some (.int .i64 (l.length : Int)) ∧ F.get 17 = some (.int .i64 (i : Int)) ∧ ms = [] ∧ K' = K ∧ ∀ k (h : k < i) (h2 : k < l.length), 0 ≤ l[k] ∧ l[k] < (t.cols.length : Int) ∧ l[k] ∉ l.take k) l.length ⟨0, by simp, by simp, by simp [hF], by simp, by simp, by simp, by simp, rfl, rfl, fun k h => by omega⟩ ?_
  rintro q F K' n ms ⟨i, rfl, hi, f1, f2, f15, f16, f17, rfl, rfl, hk⟩
  by_cases hlt : i < l.length
  ·
   have hx := eInt.ix (ik := .i64) hlt
   rw [eInt_c] at hx
   have hsl := eInt.slHi (l := l) (i := i) hi
   have no : ∀ P : Prop, (PlacesOk t l → P) → ¬ P → ¬ PlacesOk t l := fun P h1 h2 h3 => h2 (h1 h3)
   simp [L48_0, R48_4, f16, f17, hlt, R48_5, f15, hx, R48_6]
   by_cases hn : l[i] < 0
   ·
    have := no (0 ≤ l[i]) (fun h => (h.2.2 i hlt).1) (by omega)
    simp [hn, R48_7]
    exact .bool (by simp [this])
   ·
    by_cases hb : (t.cols.length : Int) ≤ l[i]
    ·
     have := no (l[i] < (t.cols.length : Int)) (fun h => (h.2.2 i hlt).2.1) (by omega)
     simp [hn, f2, k0, Enc.len_ds, hb, R48_7]
     exact .bool (by simp [this])
    ·
     simp [hn, f2, k0, Enc.len_ds, hb, f1, eSl, oev, hsl]
     refine CalV.pure (contains87 (l.take i) l[i] (by simp; unfold lim; omega)) ?_
     by_cases hm : l[i] ∈ l.take i
     ·
      have := no (l[i] ∉ l.take i) (fun h => (h.2.2 i hlt).2.2) (by simpa using hm)
      simp [hm, R48_7]
      exact .bool (by simp [this])
     ·
      simp [hm, R48_8, f1, f2, f15, f16, f17, wrap_nat i (by omega)]
      refine ⟨l.length - (i + 1), by omega, i + 1, rfl, hlt, rfl, fun k h h2 => ?_⟩
      by_cases e : k = i
      · subst e; exact ⟨by omega, by omega, hm⟩
      · exact hk k (by omega) h2
  ·
   obtain rfl : i = l.length := by omega
   have : PlacesOk t l := ⟨h0, h16, fun j h => hk j h h⟩
   simp [L48_0, R48_4, f16, f17, R48_9]
   exact .bool (by simp [this])
 ·
  have : ¬ PlacesOk t l := fun h => h16 h.2.1
  simp [A48, B48, R48_0, R48_1, hF, Enc.av, Enc.len_ds, h0, show (16 : Int) < (l.length : Int) by omega, R48_2]
  exact .bool (by simp [this])
end Go.Abs
