/- A part of the proof. -/
import Derived.Test.YtmmgdjecahcemaaGreatEd2
namespace Go.Abs
open Go.Proofs
set_option maxRecDepth 100000

/-- sums of ones -/
inductive Tm where
  | one
  | add (a b : Tm)
def Tm.ex : Tm → Ex
  | .one => .mk 1 ⟨1, 1, []⟩ [] [] 0 []
  | .add a b => .mk 8 ⟨0, 0, []⟩ [] [] 0 [a.ex, b.ex]

def Tm.op : Tm → Int
  | .one => 1
  | .add _ _ => 8
def Tm.kn : Tm → Int
  | .one => 1
  | .add _ _ => 0
def Tm.args : Tm → List Ex
  | .one => []
  | .add a b => [a.ex, b.ex]
/-- its cells, the parts being these -/
def Tm.cl (t : Tm) (vs : AV) : List AV := [.int .i64 t.op, .int .i64 t.kn, .int .i64 t.kn, .str [], .str [], .str [], .int .i64 0, vs]
theorem Tm.cells (t : Tm) : t.ex.cells = t.cl (.ds (Ex.cellsL t.args) t.args.length 8) := by
  cases t <;> simp [Tm.ex, Tm.cl, Tm.op, Tm.kn, Tm.args, Ex.cells]
theorem Tm.frz {h : Hf} (t : Tm) {vs : AV} (hz : Frz h vs (.ds (Ex.cellsL t.args) t.args.length 8)) : FrzL h (t.cl vs) t.ex.cells := by
  rw [Tm.cells]
  exact .cons _ _ _ _ (.pure _ (by simp)) (.cons _ _ _ _ (.pure _ (by simp)) (.cons _ _ _ _ (.pure _ (by simp)) (.cons _ _ _ _ (.pure _ (by simp)) (.cons _ _ _ _ (.pure _ (by simp)) (.cons _ _ _ _ (.pure _ (by simp)) (.cons _ _ _ _ (.pure _ (by simp)) (.cons _ _ _ _ hz .nil)))))))
/-- what the walk leans on -/
def WkH (H : Hp) (s b k w bp : Nat) : Prop := H.get b = some (.cells 1 [] [.ptr bp 0] .nil) ∧ H.get w = some (.cells 1 [] [.fn (.func 99) [] [.ptr s 0, .ptr b 0, .ptr k 0, .ptr w 0]] .nil)
theorem walk99 : ∀ (t : Tm) (H : Hp) (n s b k w bp : Nat), Top H n → WkH H s b k w bp → bp < n → 
    CallR Tryz.prog 99 [t.ex.av, .ptr s 0, .ptr b 0, .ptr k 0, .ptr w 0] H n (fun v H' n' => ∃ vs, v = .tup [.agg (t.cl vs) 8, .int .i64 1] ∧ vs.one = true ∧ Frz (above n H') vs (.ds (Ex.cellsL t.args) t.args.length 8) ∧ Grow H n H' n')
  | .one, H, n, s, b, k, w, bp, ht, hw, hb => by
    refine CallR.of c99 (by simp [A99]) fun F hF => ?_
    simp [A99, B99, R99_0, R99_1, R99_7, R99_8, hF, Tm.ex, Ex.av, Ex.cells]
    refine DrwV.of (ce0_ok (P := Tryz.prog)) ?_
    simp [clearF_get]
    refine ⟨.ds (Ex.cellsL []) 0 8, by simp [Tm.cl, Tm.op, Tm.kn], by simp, .pure _ (by simp [Ex.cellsL]), by omega, fun b hb => by simp [neC hb], fun b hb => ?_⟩
    have h1 : ¬ b = n := by omega
    have h2 : ¬ b = n + 1 := by omega
    simp [h1, h2, ht b (by omega)]
  | .add x y, H, n, s, b, k, w, bp, ht, hw, hb => by
    obtain ⟨hb1, hw1⟩ := hw
    have hbn := ht.lt hb1
    have hwn := ht.lt hw1
    have x0 : cIxa 8 (.ds (Ex.cellsL [x.ex, y.ex]) 2 8) (.int .i64 0) = .val (.dp (x.ex.cells ++ Ex.cellsL [y.ex])) := by
      have := ixa_ex (l := [x.ex, y.ex]) (i := 0) (k := .i64) (by simp)
      simpa using this
    have x1 : cIxa 8 (.ds (Ex.cellsL [x.ex, y.ex]) 2 8) (.int .i64 1) = .val (.dp (y.ex.cells ++ Ex.cellsL [])) := by
      have := ixa_ex (l := [x.ex, y.ex]) (i := 1) (k := .i64) (by simp)
      simpa using this
    refine CallR.of c99 (by simp [A99]) fun F hF => ?_
    simp [A99, B99, R99_0, R99_1, R99_7, R99_9, R99_10, R99_11, hF, Tm.ex, Ex.av, Ex.cells]
    refine LoopV.ofU 2 (LoopU.step ?_)
    simp [L99_0, R99_12, R99_13, R99_14, hF, x0, hw1, neC hwn]
    generalize hH1 : Tr.put _ (n + 1 + 1 + 1) _ = H1
    have g1 : Grow H n H1 (n + 1 + 1 + 1 + 1) := by rw [← hH1]; ((repeat (refine Grow.upd ?_ _ (by omega) (by omega))); (first | exact Grow.le (Grow.refl (by assumption)) (by omega) | exact Grow.le (by assumption) (by omega)))
    have hb2 := (g1.2.1 b hbn).trans hb1
    have hw2 := (g1.2.1 w hwn).trans hw1
    have ho2 : H1.get (n + 1 + 1) = some (.cells 8 [] [.int .i64 8, .int .i64 0, .int .i64 0, .str [], .str [], .str [], .int .i64 0, .cst (.slice none 0 0)] .nil) := by rw [← hH1]; simp
    have he2 : H1.get n = some (.cells 8 [] [.int .i64 8, .int .i64 0, .int .i64 0, .str [], .str [], .str [], .int .i64 0, .ds (Ex.cellsL [x.ex, y.ex]) 2 8] .nil) := by rw [← hH1]; simp
    have hr2 : H1.get (n + 1) = some (.cells 8 [] [.int .i64 0, .int .i64 0, .int .i64 0, .str [], .str [], .str [], .int .i64 0, .cst (.slice none 0 0)] .nil) := by rw [← hH1]; simp
    clear hH1
    refine CalV.of (walk99 x H1 _ s b k w bp g1.2.2 ⟨hb2, hw2⟩ (by omega)) ?_
    rintro v K n1 ⟨vx, rfl, ov, hz, g2⟩
    have hb3 := (g2.2.1 b (by omega)).trans hb2
    have hw3 := (g2.2.1 w (by omega)).trans hw2
    have ho3 := (g2.2.1 _ (by omega)).trans ho2
    have he3 := (g2.2.1 _ (by omega)).trans he2
    have hr3 := (g2.2.1 _ (by omega)).trans hr2
    have hn1 := g2.1
    obtain ⟨o, ho⟩ : ∃ o, o = n + 1 + 1 := ⟨_, rfl⟩
    rw [← ho] at ho3 ⊢
    have k1 := neC (show o < n1 by omega)
    have k2 := neD (show o < n1 by omega)
    have k3 := neC (show n < n1 by omega)
    have k9 := neC (show n + 1 < n1 by omega)
    have k10 : (n + 1 = o) = False := by simp only [eq_iff_iff, iff_false]; omega
    have k4 := neC (show b < n1 by omega)
    have k5 := neC (show w < n1 by omega)
    have k6 := neC (show b < o by omega)
    have k7 := neC (show w < o by omega)
    have k8 := neC (show n < o by omega)
    simp [Tm.cl, ov, R99_15, ho3, k1]
    rw [cApp_n (new := x.cl vx) (k := 1) (sliceCells_one (by simp [Tm.cl])) (by simp) (by omega) (by omega) (by unfold big; omega) (by omega) (by simp [Tm.cl, ov])]
    simp
    rw [cApp_n (new := [.int .i64 1]) (k := 1) (sliceCells_one (by simp)) (by simp) (by omega) (by omega) (by unfold big; omega) (by omega) (by simp)]
    simp [ho3, R99_16, k1]
    refine LoopU.step ?_
    simp [x1, hw3, k5, k7, hF]
    generalize hH3 : Tr.put _ (n1 + 1 + 1 + 1 + 1 + 1) _ = H3
    have g12 := g1.trans g2
    have g3 : Grow H n H3 (n1 + 1 + 1 + 1 + 1 + 1 + 1) := by rw [← hH3]; ((repeat (refine Grow.upd ?_ _ (by omega) (by omega))); (first | exact Grow.le (Grow.refl (by assumption)) (by omega) | exact Grow.le (by assumption) (by omega)))
    have hb4 := (g3.2.1 b hbn).trans hb1
    have hw4 := (g3.2.1 w hwn).trans hw1
    have ho4 : H3.get o = some (.cells 8 [] [.int .i64 8, .int .i64 0, .int .i64 0, .str [], .str [], .str [], .int .i64 0, .sl (n1 + 1 + 1) 0 1 8] .nil) := by rw [← hH3]; simp [k1]
    have he4 : H3.get n = some (.cells 8 [] [.int .i64 8, .int .i64 0, .int .i64 0, .str [], .str [], .str [], .int .i64 0, .ds (Ex.cellsL [x.ex, y.ex]) 2 8] .nil) := by rw [← hH3]; simp [k3, k8, he3]
    have hr4 : H3.get (n + 1) = some (.cells 8 [] [.int .i64 0, .int .i64 0, .int .i64 0, .str [], .str [], .str [], .int .i64 0, .cst (.slice none 0 0)] .nil) := by
      rw [← hH3]
      have q := k9
      obtain ⟨r, hr⟩ : ∃ r, r = n + 1 := ⟨_, rfl⟩
      rw [← hr] at q k10 hr3 ⊢
      simp [q, k10, hr3]
    have ha4 : H3.get (n1 + 1 + 1) = some (.cells 8 [] (x.cl vx) .nil) := by rw [← hH3]; simp [k2]
    have hl4 : H3.get (n1 + 1 + 1 + 1 + 1) = some (.cells 1 [] [.int .i64 1] .nil) := by rw [← hH3]; simp [k2]
    have hx4 : ∀ c k, n + 1 + 1 + 1 + 1 ≤ c → K.get c = some k → H3.get c = some k := by
      intro c kk h1 h2
      have hc := g2.2.2.lt h2
      have q1 : ¬ c = o := by omega
      rw [← hH3]; simp [q1, neC hc, h2]
    clear hH3
    refine CalV.of (walk99 y H3 _ s b k w bp g3.2.2 ⟨hb4, hw4⟩ (by omega)) ?_
    rintro v K2 n2 ⟨vy, rfl, oy, hzy, g4⟩
    obtain ⟨a1, ha1⟩ : ∃ a, a = n1 + 1 + 1 := ⟨_, rfl⟩
    obtain ⟨l1, hl1⟩ : ∃ a, a = a1 + 1 + 1 := ⟨_, rfl⟩
    have hn2 := g4.1
    have hb5 := (g4.2.1 b (by omega)).trans hb4
    have hw5 := (g4.2.1 w (by omega)).trans hw4
    have ho5 := (g4.2.1 _ (by omega)).trans ho4
    have he5 := (g4.2.1 _ (by omega)).trans he4
    have hr5 := (g4.2.1 _ (by omega)).trans hr4
    have ha5 := (g4.2.1 _ (by omega)).trans ha4
    have hl5 := (g4.2.1 _ (by omega)).trans hl4
    rw [← ha1] at ha5 hl5 ho5 ⊢
    rw [← hl1] at hl5 ⊢
    have j1 := neC (show o < n2 by omega)
    have j2 := neD (show o < n2 by omega)
    have j3 := neC (show n < n2 by omega)
    have j4 := neC (show a1 < n2 by omega)
    have j5 := neD (show a1 < n2 by omega)
    have j6 := neC (show l1 < n2 by omega)
    have j7 := neD (show l1 < n2 by omega)
    have j8 := neC (show a1 < l1 by omega)
    have j9 := neD (show a1 < l1 by omega)
    have i1 := neC (show o < a1 by omega)
    have i2 := neC (show o < l1 by omega)
    have i3 := neC (show n < a1 by omega)
    have i4 := neC (show n < l1 by omega)
    have i5 := neD (show o < l1 by omega)
    simp [Tm.cl, oy, ho5, j1]
    rw [cApp_o (new := y.cl vy) (k := 1) (b := a1) (u := 8) (z := []) (bs := x.cl vx) (t := .nil) (by simp [ha5, j4]) (by omega) (sliceCells_one (by simp [Tm.cl])) (by simp) (by omega) (by omega) (by unfold big; omega) (by omega) (by simp [Tm.cl, oy])]
    simp
    rw [cApp_o (new := [.int .i64 1]) (k := 1) (b := l1) (u := 1) (z := []) (bs := [.int .i64 1]) (t := .nil) (by simp [hl5, j6, j9]) (by omega) (sliceCells_one (by simp)) (by simp) (by omega) (by omega) (by unfold big; omega) (by omega) (by simp)]
    simp [ho5, j1, i1, i2]
    refine LoopU.step ?_
    simp
    obtain ⟨r, hr⟩ : ∃ r, r = n + 1 := ⟨_, rfl⟩
    rw [← hr] at hr5 ⊢
    have r1 := neC (show r < n2 by omega)
    have r2 := neC (show r < o by omega)
    have r3 := neC (show r < a1 by omega)
    have r4 := neC (show r < l1 by omega)
    have r5 := neD (show r < o by omega)
    generalize hH5 : Tr.put _ o _ = H5
    have g34 := g3.trans g4
    have g5 : Grow H n H5 (n2 + 1 + 1 + 1 + 1 + 1) := by rw [← hH5]; ((repeat (refine Grow.upd ?_ _ (by omega) (by omega))); (first | exact Grow.le (Grow.refl (by assumption)) (by omega) | exact Grow.le (by assumption) (by omega)))
    have hb6 := (g5.2.1 b hbn).trans hb1
    have ho6 : H5.get o = some (.cells 8 [] [.int .i64 8, .int .i64 0, .int .i64 0, .str [], .str [], .str [], .int .i64 0, .sl (n2 + 1 + 1) 0 2 8] .nil) := by rw [← hH5]; simp
    have he6 : H5.get n = some (.cells 8 [] [.int .i64 8, .int .i64 0, .int .i64 0, .str [], .str [], .str [], .int .i64 0, .ds (Ex.cellsL [x.ex, y.ex]) 2 8] .nil) := by rw [← hH5]; simp [j3, i3, i4, k8, he5]
    have hr6 : H5.get r = some (.cells 8 [] [.int .i64 0, .int .i64 0, .int .i64 0, .str [], .str [], .str [], .int .i64 0, .cst (.slice none 0 0)] .nil) := by rw [← hH5]; simp [r1, r2, r3, r4, hr5]
    have ha6 : H5.get (n2 + 1 + 1) = some (.cells 16 [] (x.cl vx) (Ov.putAll (y.cl vy) 8 .nil)) := by rw [← hH5]; simp [j2, j7]
    have hl6 : H5.get (n2 + 1 + 1 + 1 + 1) = some (.cells 2 [] [.int .i64 1] (Ov.putAll [.int .i64 1] 1 .nil)) := by rw [← hH5]; simp [j2]
    have hy6 : ∀ c kk, K2.get c = some kk → c ≠ o → c ≠ a1 → c ≠ l1 → H5.get c = some kk := by
      intro c kk h2 q1 q2 q3
      have hc := g4.2.2.lt h2
      rw [← hH5]; simp [q1, q2, q3, neC hc, h2]
    clear hH5
    simp only [R99_17, R99_18, R99_19]
    generalize hn3 : n2 + 1 + 1 + 1 + 1 + 1 = n3 at g5 ⊢
    have q1 := neC (show o < n3 by omega)
    have q2 := neC (show b < n3 by omega)
    have q3 := neC (show r < n3 by omega)
    have q4 := neC (show n < n3 by omega)
    simp [he6]
    refine CalV.pure (wanted_pure 8) ?_
    simp [wantE, Want.av]
    obtain ⟨l2, hl2⟩ : ∃ l, l = n2 + 1 + 1 + 1 + 1 := ⟨_, rfl⟩
    obtain ⟨a2, ha2⟩ : ∃ l, l = n2 + 1 + 1 := ⟨_, rfl⟩
    rw [← hl2] at hl6 ⊢
    rw [← ha2] at ha6 ho6 ⊢
    generalize hH6 : Tr.put _ n3 (some (ABlk.cells 5 [] [.int .i64 2, .int .i64 1, .int .i64 1, .bool false, .bool false] .nil)) = H6
    have g6 : Grow H n H6 (n3 + 1) := by rw [← hH6]; ((repeat (refine Grow.upd ?_ _ (by omega) (by omega))); (first | exact Grow.le (Grow.refl (by assumption)) (by omega) | exact Grow.le (by assumption) (by omega)))
    have hk6 : ∀ c, c < n3 → H6.get c = H5.get c := by
      intro c hc
      have : ¬ c = n3 := by omega
      rw [← hH6]; simp [this]
    have hw6 : H6.get n3 = some (.cells 5 [] [.int .i64 2, .int .i64 1, .int .i64 1, .bool false, .bool false] .nil) := by rw [← hH6]; simp
    clear hH6
    have hb7 := (hk6 b (by omega)).trans hb6
    have ho7 := (hk6 o (by omega)).trans ho6
    have hr7 := (hk6 r (by omega)).trans hr6
    have ha7 := (hk6 a2 (by omega)).trans ha6
    have hl7 := (hk6 l2 (by omega)).trans hl6
    have ol : OwnB (.cells 2 [] [.int .i64 1] (Ov.putAll [.int .i64 1] 1 .nil)) (intsC [1, 1]) := OwnB.app (u := 1) (z := []) (bs := [.int .i64 1]) (l := [.int .i64 1]) (new := [.int .i64 1]) (t := .nil) (OwnB.list rfl) (by simp)
    have oa : OwnB (.cells 16 [] (x.cl vx) (Ov.putAll (y.cl vy) 8 .nil)) (x.cl vx ++ y.cl vy) := OwnB.app (u := 8) (z := []) (bs := x.cl vx) (l := x.cl vx) (new := y.cl vy) (t := .nil) (OwnB.list (by simp [Tm.cl])) (by simp [Tm.cl])
    have zl : Frz H6.get (.sl l2 0 2 1) (.ds (intsC [1, 1]) 2 1) := OwnS.frz (n := n3 + 1) ⟨by simp, .inr ⟨l2, _, rfl, by omega, hl7, ol⟩⟩ (FrzL.pure (by simp))
    have ft := fits56 ⟨2, 1, 1, false, false⟩ [1, 1] (by simp [lim]) (by simp)
    simp [Want.fits] at ft
    refine DrwV.of (ceL_ok (l := [⟨102, [Want.av ⟨2, 1, 1, false, false⟩, .sl l2 0 2 1], H6, n3 + 1, .bool true, H6, n3 + 1⟩, ⟨29, [.ptr bp 0, .int .i64 203, .bool false], H6, n3 + 1, .tup [], H6, n3 + 1⟩]) ?_) ?_
    · simp only [List.mem_cons, List.not_mem_nil, or_false]
      rintro c (rfl | rfl)
      · exact ft.callFOk (by simp) _ (.cons _ _ _ _ (.pure _ (by simp)) (.cons _ _ _ _ zl .nil))
      · exact fail29 _ _ _ _ (by simp [RLt]; omega)
    have e2 : ∀ v c1 c2, (ceL [⟨102, v, H6, n3 + 1, .bool true, H6, n3 + 1⟩, ⟨29, [.ptr bp 0, .int .i64 203, .bool false], H6, n3 + 1, .tup [], H6, n3 + 1⟩]).call 29 c1 H6 c2 = (ceL [⟨29, [.ptr bp 0, .int .i64 203, .bool false], H6, n3 + 1, .tup [], H6, n3 + 1⟩]).call 29 c1 H6 c2 := fun v c1 c2 => ceL_tl (by decide)
    simp [clearF_get, hF, hw6, hb7, Want.av, ceL_hd, e2]
    refine DrwV.of (ce0_ok (P := Tryz.prog)) ?_
    simp [clearF_get, ho7, hr7, hw6, neD (show r < n3 by omega)]
    have zx : FrzL (above o H6) (x.cl vx) x.ex.cells := x.frz (hz.mono (above_le fun c kk h1 h2 => by
      have h3 := hx4 c kk h1 h2
      have hc := g2.2.2.lt h2
      have h4 := g4.mono g3.2.2 c kk h3
      have h5 := hy6 c kk h4 (by omega) (by omega) (by omega)
      exact ⟨by omega, (hk6 c (by omega)).trans h5⟩))
    have zy : FrzL (above o H6) (y.cl vy) y.ex.cells := y.frz (hzy.mono (above_le fun c kk h1 h2 => by
      have hc := g4.2.2.lt h2
      have h5 := hy6 c kk h2 (by omega) (by omega) (by omega)
      exact ⟨by omega, (hk6 c (by omega)).trans h5⟩))
    have zz := zx.append zy
    obtain ⟨u, z, bs, tt, e1, e3⟩ := oa.grab (o := 0) (c := 2 * 8) (by simp [Tm.cl])
    refine ⟨.sl a2 0 2 8, by simp [Tm.op, Tm.kn], by simp, ?_, by ((repeat (refine Grow.upd ?_ _ (by omega) (by omega))); (first | exact Grow.le (Grow.refl (by assumption)) (by omega) | exact Grow.le (by assumption) (by omega)))⟩
    have ha : ¬ a2 = r := by omega
    have hna : n ≤ a2 := by omega
    have e4 : ((x.cl vx ++ y.cl vy).drop 0).take (2 * 8) = x.cl vx ++ y.cl vy := by simp [Tm.cl]
    rw [e4] at e3
    simp only [Tm.args, Ex.cellsL, List.append_nil, List.length_cons, List.length_nil, Nat.zero_add]
    refine .sl _ _ _ _ _ _ _ _ _ _ ?_ e3 (zz.mono (above_le fun c kk h1 h2 => ?_))
    · unfold above
      rw [if_pos hna, ← e1]
      simp [ha, ha7]
    · have hc : ¬ c = r := by omega
      exact ⟨by omega, by simp [hc, h2]⟩
end Go.Abs
