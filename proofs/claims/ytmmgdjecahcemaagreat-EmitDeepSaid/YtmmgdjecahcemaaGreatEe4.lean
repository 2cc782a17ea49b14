/- A part of the proof. -/
import Derived.Test.YtmmgdjecahcemaaGreatEe3
namespace Go.Abs
open Go.Proofs
set_option maxRecDepth 100000

/-- so many sums to the right -/
def rtT : Nat → Tm
  | 0 => .one
  | k + 1 => .add .one (rtT k)
/-- and to the left -/
def lfT (t : Tm) : Nat → Tm
  | 0 => t
  | k + 1 => .add (lfT t k) .one
theorem rt_sz (k : Nat) : (rtT k).ex.sz = 2 * k + 1 := by
  induction k with
  | zero => exact Tm.sz_one
  | succ k ih => rw [rtT, Tm.sz_add, Tm.sz_one, ih]; omega
theorem rt_rgs (k : Nat) : (rtT k).ex.rgs = k + 1 := by
  induction k with
  | zero => exact Tm.rgs_one
  | succ k ih => rw [rtT, Tm.rgs_add, Tm.rgs_one, ih]; omega
theorem lf_sz (t : Tm) (k : Nat) : (lfT t k).ex.sz = t.ex.sz + 2 * k := by
  induction k with
  | zero => simp [lfT]
  | succ k ih => rw [lfT, Tm.sz_add, Tm.sz_one, ih]; omega
theorem lf_rgs (t : Tm) (k : Nat) : (lfT t k).ex.rgs = if k = 0 then t.ex.rgs else max t.ex.rgs 2 := by
  induction k with
  | zero => simp [lfT]
  | succ k ih =>
    have := rgs_pos t
    rw [lfT, Tm.rgs_add, Tm.rgs_one, ih]
    split <;> simp <;> omega
/-- an expression in memory -/
structure InM (H : Hp) (n : Nat) (t : Tm) (vs : AV) : Prop where
  h0 : H.get 0 = some (.cells 8 [] (Tm.one.cl nilS) .nil)
  h1 : H.get 1 = some (.cells 8 [] (t.cl vs) .nil)
  one : vs.one = true
  frz : Frz (above 2 H) vs (.ds (Ex.cellsL t.args) t.args.length 8)
  top : Top H n
  le : 2 ≤ n
theorem one_frz (h : Hf) : Frz h nilS (.ds (Ex.cellsL Tm.one.args) Tm.one.args.length 8) := .nil 7
/-- a sum more -/
theorem InM.step {H : Hp} {n : Nat} {t : Tm} {vs : AV} (s : InM H n t vs) (t' : Tm) (l : List AV) (_hl : l.length = 16) (ha : t'.args.length = 2) (hf : ∀ h : Hf, FrzL h (Tm.one.cl nilS) Tm.one.ex.cells → FrzL h (t.cl vs) t.ex.cells → FrzL h l (Ex.cellsL t'.args)) :
    InM ((H.put n (some (.cells 16 [] l .nil))).put 1 (some (.cells 8 [] (t'.cl (.sl n 0 2 8)) .nil))) (n + 1) t' (.sl n 0 2 8) := by
  have hle := s.le
  have g : ∀ c, c ≠ 1 → c < n → ((H.put n (some (ABlk.cells 16 [] l .nil))).put 1 (some (ABlk.cells 8 [] (t'.cl (.sl n 0 2 8)) .nil))).get c = H.get c := fun c h1 h2 => by
    have : ¬ c = n := by omega
    simp [h1, this]
  have gn : ((H.put n (some (ABlk.cells 16 [] l .nil))).put 1 (some (ABlk.cells 8 [] (t'.cl (.sl n 0 2 8)) .nil))).get n = some (.cells 16 [] l .nil) := by
    have : ¬ n = 1 := by omega
    simp [this]
  refine ⟨(g 0 (by omega) (by omega)).trans s.h0, by simp, by simp, ?_, fun c hc => ?_, by omega⟩
  · have e : above 2 ((H.put n (some (ABlk.cells 16 [] l .nil))).put 1 (some (ABlk.cells 8 [] (t'.cl (.sl n 0 2 8)) .nil))) n = some (.cells 16 [] l .nil) := by
      unfold above; rw [if_pos hle, gn]
    rw [ha]
    refine .sl _ _ _ _ _ _ _ _ _ _ e (by simp) (hf _ (Tm.one.frz (one_frz _)) (t.frz (s.frz.mono (above_le fun c kk h1 h2 => ?_))))
    have := s.top.lt h2
    exact ⟨h1, (g c (by omega) this).trans h2⟩
  · have q1 : ¬ c = 1 := by omega
    have q2 : ¬ c = n := by omega
    simp [q1, q2, s.top c (by omega)]
theorem two8 (z : List AV) (hz : z.length = 8) (a0 a1 a2 a3 a4 a5 a6 a7 b0 b1 b2 b3 b4 b5 b6 b7 : AV) : ((patch (rep z 2) 0 [a0, a1, a2, a3, a4, a5, a6, a7]).bind fun cs' => patch cs' 8 [b0, b1, b2, b3, b4, b5, b6, b7]) = some [a0, a1, a2, a3, a4, a5, a6, a7, b0, b1, b2, b3, b4, b5, b6, b7] := by
  match z, hz with
  | [z0, z1, z2, z3, z4, z5, z6, z7], _ => rfl
theorem law3 (n m : Int) (ha : FnPure Tryz.prog 4 [] (.bool true)) (h23 : FnPure Tryz.prog 23 [scAv] (.bool true)) : FnPure Tryz.prog 3 [.int .i64 n, .int .i64 m] (.bool true) := by
  refine pureV c3 (by simp) (by simp) (by simp [A3]) fun F hF => ?_
  by_cases c1 : n < 0
  · simp [A3, B3, R3_0, R3_1, R3_2, hF, c1]
    refine CalV.pure ha ?_
    simp
    exact .pure _ (by simp)
  by_cases c2 : 5000 < n
  · simp [A3, B3, R3_0, R3_1, R3_2, hF, c1, c2]
    refine CalV.pure ha ?_
    simp
    exact .pure _ (by simp)
  by_cases c3 : m < 0
  · simp [A3, B3, R3_0, R3_1, R3_2, hF, c1, c2, c3]
    refine CalV.pure ha ?_
    simp
    exact .pure _ (by simp)
  by_cases c4 : 500 < m
  · simp [A3, B3, R3_0, R3_1, R3_2, hF, c1, c2, c3, c4]
    refine CalV.pure ha ?_
    simp
    exact .pure _ (by simp)
  obtain ⟨N, rfl⟩ : ∃ N : Nat, n = (N : Int) := ⟨n.toNat, by omega⟩
  obtain ⟨M, rfl⟩ : ∃ M : Nat, m = (M : Int) := ⟨m.toNat, by omega⟩
  have hN : N ≤ 5000 := by omega
  have hM : M ≤ 500 := by omega
  simp [A3, B3, R3_0, R3_1, R3_3, R3_4, R3_5, hF, c1, c2, c3, c4]
  generalize hH1 : Tr.put _ 1 _ = H1
  have s1 : InM H1 2 (rtT 0) nilS := by
    refine ⟨by rw [← hH1]; simp [Tm.cl, Tm.op, Tm.kn], by rw [← hH1]; simp [rtT, Tm.cl, Tm.op, Tm.kn], by simp, one_frz _, fun c hc => ?_, by omega⟩
    have q1 : ¬ c = 1 := by omega
    have q2 : ¬ c = 0 := by omega
    rw [← hH1]; simp [q1, q2]
  clear hH1
  refine LoopV.of (fun q F K k ms => ∃ (i : Nat) (vs : AV), q = M - i ∧ i ≤ M ∧ F.get 0 = some (.int .i64 (N : Int)) ∧ F.get 1 = some (.int .i64 (M : Int)) ∧ F.get 5 = some (.ptr 0 0) ∧ F.get 6 = some (.ptr 1 0) ∧ F.get 7 = some (.int .i64 (i : Int)) ∧ InM K k (rtT i) vs ∧ ms = []) M ⟨0, nilS, by simp, by simp, by simp [hF], by simp [hF], by simp, by simp, by simp, s1, rfl⟩ ?_
  clear hF F s1 H1
  rintro q F K k ms ⟨i, vs, rfl, hi, f0, f1, f5, f6, f7, s, rfl⟩
  have k0 := s.h0
  have k1 := s.h1
  simp only [Tm.cl] at k0 k1
  by_cases hlt : i < M
  · have hs := s.step (rtT (i + 1)) (Tm.one.cl nilS ++ (rtT i).cl vs) (by simp [Tm.cl]) (by simp [rtT, Tm.args]) (fun h a b => by simpa [rtT, Tm.args, Ex.cellsL] using a.append b)
    simp only [Tm.cl, List.cons_append, List.nil_append] at hs
    have hle := s.le
    have q0 : ¬ k = 0 := by omega
    have q1 : ¬ k = 1 := by omega
    have q0' : ¬ 0 = k := by omega
    have q1' : ¬ 1 = k := by omega
    simp [L3_0, R3_6, R3_7, R3_8, f0, f1, f5, f6, f7, hlt, k0, k1, q1', wrap_nat i (by omega), two8]
    have e1 : (rtT (i + 1)).op = 8 := rfl
    have e2 : (rtT (i + 1)).kn = 0 := rfl
    simp only [e1, e2] at hs
    exact ⟨_, by omega, i + 1, rfl, by omega, by simp, .sl k 0 2 8, hs⟩
  have hie : i = M := by omega
  subst hie
  simp [L3_0, R3_6, R3_9, f1, f7]
  refine LoopV.of (fun q F K k ms => ∃ (j : Nat) (vs : AV), q = N - j ∧ j ≤ N ∧ F.get 0 = some (.int .i64 (N : Int)) ∧ F.get 1 = some (.int .i64 (i : Int)) ∧ F.get 5 = some (.ptr 0 0) ∧ F.get 6 = some (.ptr 1 0) ∧ F.get 8 = some (.int .i64 (j : Int)) ∧ InM K k (lfT (rtT i) j) vs ∧ ms = []) N ⟨0, vs, by simp, by simp, by simp [f0], by simp [f1], by simp [f5], by simp [f6], by simp, s, rfl⟩ ?_
  clear f0 f1 f5 f6 f7 F s k0 k1 K k vs hlt
  rintro q F K k ms ⟨j, vs, rfl, hj, f0, f1, f5, f6, f8, s, rfl⟩
  have k0 := s.h0
  have k1 := s.h1
  simp only [Tm.cl] at k0 k1
  by_cases hlt : j < N
  · have hs := s.step (lfT (rtT i) (j + 1)) ((lfT (rtT i) j).cl vs ++ Tm.one.cl nilS) (by simp [Tm.cl]) (by simp [lfT, Tm.args]) (fun h a b => by simpa [lfT, Tm.args, Ex.cellsL] using b.append a)
    simp only [Tm.cl, List.cons_append, List.nil_append] at hs
    have hle := s.le
    have q0 : ¬ k = 0 := by omega
    have q1 : ¬ k = 1 := by omega
    have q0' : ¬ 0 = k := by omega
    have q1' : ¬ 1 = k := by omega
    simp [L3_1, R3_10, R3_11, R3_12, f0, f1, f5, f6, f8, hlt, k0, k1, q1', wrap_nat j (by omega), two8]
    have e1 : (lfT (rtT i) (j + 1)).op = 8 := rfl
    have e2 : (lfT (rtT i) (j + 1)).kn = 0 := rfl
    simp only [e1, e2] at hs
    exact ⟨_, by omega, j + 1, rfl, by omega, by simp, .sl k 0 2 8, hs⟩
  have hje : j = N := by omega
  subst hje
  simp [L3_1, R3_10, R3_13, R3_14, f0, f6, f8, k1]
  generalize hH5 : Tr.put _ (k + 1) _ = H5
  have hle := s.le
  have gk : H5.get k = some (.cells 9 [] ((lfT (rtT i) j).cl vs ++ [.str []]) .nil) := by rw [← hH5]; simp [Tm.cl]
  have gl : ∀ c, c < k → H5.get c = K.get c := by
    intro c hc
    have q1 : ¬ c = k := by omega
    have q2 : ¬ c = k + 1 := by omega
    rw [← hH5]; simp [q1, q2]
  clear hH5
  have hsz : (lfT (rtT i) j).ex.sz = 2 * i + 1 + 2 * j := by rw [lf_sz, rt_sz]
  have hrg := lf_rgs (rtT i) j
  rw [rt_rgs] at hrg
  have zv : Frz H5.get vs (.ds (Ex.cellsL (lfT (rtT i) j).args) (lfT (rtT i) j).args.length 8) := s.frz.mono fun c kk h => by
    have h2 := above_get c kk h
    exact (gl c (s.top.lt h2)).trans h2
  generalize ht : lfT (rtT i) j = t at hsz hrg zv gk ⊢
  have hlim : t.ex.sz ≤ lim := by unfold lim; omega
  have hm : FnPure Tryz.prog 63 [t.ex.av] (.bool true) := by
    have := may53 t.ex hlim
    rwa [may_tm] at this
  have hb : FnPure Tryz.prog 10 [scAv, .agg (stC t.ex) 31] (.tup [.agg (bndC t) 25, .int .i64 0]) := bind10 t h23 (may24 t hm)
  have hz : FrzL H5.get [.agg [nilS, nilS] 2, .agg [.int .i64 8, .str [], .str [], nilS, nilS, .bool false, nilS, nilS, .int .i64 0, .int .i64 0, .int .i64 0, .str [], .str [], .str [], .int .i64 0, nilS, .bool false, .bool false, .sl k 0 1 9, nilS, .int .i64 0, .int .i64 0, .int .i64 0, .str [], .str [], .str [], .int .i64 0, nilS, nilS, .bool false, .int .i64 0] 31, nilS] [scAv, .agg (stC t.ex) 31, nilS] := by
    have zi : Frz H5.get (.sl k 0 1 9) (.ds (t.ex.cells ++ [.str []]) 1 9) := .sl _ _ _ _ _ _ _ _ _ _ gk (by simp [Tm.cl]) ((t.frz zv).append (.cons _ _ _ _ (.pure _ (by simp)) .nil))
    have z8 : Frz H5.get nilS (.ds [] 0 8) := .nil 7
    refine .cons _ _ _ _ (.pure _ (by simp)) (.cons _ _ _ _ (.agg _ _ _ ?_) (.cons _ _ _ _ (.pure _ (by simp)) .nil))
    simp only [stC, qC, List.cons_append, List.nil_append]
    repeat (refine .cons _ _ _ _ (by first | assumption | exact .pure _ (by simp)) ?_)
    exact .nil
  refine CalV.of (CallR.shut (emit5 t hlim hb) hz) ?_
  rintro u K' k' ⟨hG, rfl, rfl⟩
  have W1 : IntKind.i64.wrap ((j : Int) + (i : Int)) = (j : Int) + (i : Int) := wrap_sm _ (by omega) (by omega)
  have W2 : IntKind.i64.wrap (2 * ((j : Int) + (i : Int))) = 2 * ((j : Int) + (i : Int)) := wrap_sm _ (by omega) (by omega)
  have W3 : IntKind.i64.wrap (9 + 2 * ((j : Int) + (i : Int))) = 9 + 2 * ((j : Int) + (i : Int)) := wrap_sm _ (by omega) (by omega)
  have W4 : IntKind.i64.wrap (9 + 2 * ((j : Int) + (i : Int)) + 1) = 9 + 2 * ((j : Int) + (i : Int)) + 1 := wrap_sm _ (by omega) (by omega)
  have W5 : IntKind.i64.wrap (18 + (i : Int)) = 18 + (i : Int) := wrap_sm _ (by omega) (by omega)
  have W6 : IntKind.i64.wrap (18 + (i : Int) + 1) = 18 + (i : Int) + 1 := wrap_sm _ (by omega) (by omega)
  by_cases hfit : 8 + (t.ex.sz + 1) ≤ 8192 ∧ 18 + t.ex.rgs ≤ 256
  · simp only [EmP, hfit, and_self, if_true] at hG
    obtain ⟨c, rfl, hc⟩ := hG
    have p1 : (9 + 2 * ((j : Int) + (i : Int)) + 1) ≤ 8192 := by omega
    have p2 : (18 + (i : Int) + 1) ≤ 256 := by split at hrg <;> omega
    simp [Cod.av, Cod.cells, R3_15, f0, f1, W1, W2, W3, W4, W5, W6, p1, p2, R3_16, R3_18]
    refine CalV.pure (chk5 c) ?_
    simp [hc]
    refine CalV.pure ha ?_
    simp
    exact .pure _ (by simp)
  · simp only [EmP, hfit, if_false] at hG
    subst hG
    by_cases p1 : (9 + 2 * ((j : Int) + (i : Int)) + 1) ≤ 8192
    · have p2 : ¬ (18 + (i : Int) + 1) ≤ 256 := by
        intro h
        apply hfit
        split at hrg <;> omega
      simp [R3_15, f0, f1, W1, W2, W3, W4, W5, W6, p1, p2, R3_16, R3_17]
      refine CalV.pure ha ?_
      simp
      exact .pure _ (by simp)
    · simp [R3_15, f0, f1, W1, W2, W3, W4, p1, R3_16, R3_17]
      refine CalV.pure ha ?_
      simp
      exact .pure _ (by simp)
end Go.Abs
