/- A part of the proof. -/
import Derived.Test.YtmmgdjecahcemaaGreatEd9
namespace Go.Abs
open Go.Proofs
set_option maxRecDepth 100000

section
variable {H : Hp} {n eb lb : Nat} {R : Int} {l : List Ins} {js : List Nat} {v w : AV}
theorem Emt.reg (s : Emt H n eb lb R l js v w) (R' : Int) : Emt (H.put eb (some (.cells 4 [] (ebC R' v) .nil))) n eb lb R' l js v w ∧ Frm H n eb lb v w (H.put eb (some (.cells 4 [] (ebC R' v) .nil))) := by
  have he := s.ht.lt s.he
  have hne := s.ne
  have g : ∀ c, c ≠ eb → (H.put eb (some (ABlk.cells 4 [] (ebC R' v) .nil))).get c = H.get c := fun c hc => by simp [hc]
  refine ⟨⟨by simp, ?_, (g _ (fun e => hne e.symm)).trans s.hlb, s.hw.frame (Nat.le_refl _) fun c hc => g _ (s.w_lt hc).2.1, fun c hc => (g _ (by omega)).trans (s.ht c hc)⟩, fun c _ h2 _ _ _ => g c h2⟩
  rcases s.hv with h | ⟨b, h1, h2, h3⟩
  · exact .inl h
  · exact .inr ⟨b, h1, (g _ (fun e => (s.v_lt (by rw [h1]; rfl)).2.1 e)).trans h2, h3⟩
end
section
variable {H : Hp} {n eb lb : Nat} {R : Int} {l : List Ins} {js : List Nat} {v w : AV}
theorem Emt.congr (s : Emt H n eb lb R l js v w) {H' : Hp} (h : ∀ c, H'.get c = H.get c) : Emt H' n eb lb R l js v w := by
  refine ⟨(h _).trans s.he, ?_, (h _).trans s.hlb, s.hw.frame (Nat.le_refl _) fun c _ => h c, fun c hc => (h c).trans (s.ht c hc)⟩
  rcases s.hv with h' | ⟨b, h1, h2, h3⟩
  · exact .inl h'
  · exact .inr ⟨b, h1, (h b).trans h2, h3⟩
theorem put2 (H : Hp) (n : Nat) (a b : Option ABlk) (c : Nat) : ((H.put n a).put n b).get c = (H.put n b).get c := by
  simp only [Tr.get_put]; split <;> rfl
theorem Emt.box2 (s : Emt H n eb lb R l js v w) (a b : ABlk) : Emt ((H.put n (some a)).put n (some b)) (n + 1) eb lb R l js v w := (s.box b).congr (put2 H n _ _)
theorem Emt.upd (s : Emt H n eb lb R l js v w) {c0 : Nat} (k : ABlk) (h1 : c0 < n) (h2 : c0 ≠ eb) (h3 : c0 ≠ lb) (h4 : blk v ≠ some c0) (h5 : blk w ≠ some c0) : Emt (H.put c0 (some k)) n eb lb R l js v w := by
  have g : ∀ c, c ≠ c0 → (H.put c0 (some k)).get c = H.get c := fun c hc => by simp [hc]
  refine ⟨(g _ (fun e => h2 e.symm)).trans s.he, ?_, (g _ (fun e => h3 e.symm)).trans s.hlb, s.hw.frame (Nat.le_refl _) fun c hc => g _ (fun e => h5 (e ▸ hc)), fun c hc => (g _ (by omega)).trans (s.ht c hc)⟩
  rcases s.hv with h' | ⟨b, q1, q2, q3⟩
  · exact .inl h'
  · exact .inr ⟨b, q1, (g b (fun e => h4 (by rw [q1, e]; rfl))).trans q2, q3⟩
end
theorem Frm.box {H H' : Hp} {n eb lb : Nat} {v w : AV} {k : ABlk} (h : Frm (H.put n (some k)) (n + 1) eb lb v w H') : Frm H n eb lb v w H' := fun c h1 h2 h3 h4 h5 => by
  have : ¬ c = n := by omega
  rw [h c (by omega) h2 h3 h4 h5]; simp [this]
theorem Frm.trans {H H1 H2 : Hp} {n eb lb : Nat} {v w : AV} (h : Frm H n eb lb v w H1) (k : Frm H1 n eb lb v w H2) : Frm H n eb lb v w H2 := fun c h1 h2 h3 h4 h5 => (k c h1 h2 h3 h4 h5).trans (h c h1 h2 h3 h4 h5)
theorem Frm.step {H H1 H2 : Hp} {n n1 eb lb : Nat} {v w v1 w1 : AV} (h : Frm H n eb lb v w H1) (k : Frm H1 n1 eb lb v1 w1 H2) (hn : n ≤ n1) (hv : ∀ c, blk v1 = some c → blk v = some c ∨ n ≤ c) (hw : ∀ c, blk w1 = some c → blk w = some c ∨ n ≤ c) : Frm H n eb lb v w H2 := fun c h1 h2 h3 h4 h5 => by
  rw [k c (by omega) h2 h3 (fun e => (hv c e).elim (fun e => h4 e) (fun e => by omega)) (fun e => (hw c e).elim (fun e => h5 e) (fun e => by omega))]
  exact h c h1 h2 h3 h4 h5
/-- an instruction that may be, where there are so many registers and places -/
def Gi (r T : Nat) (i : Ins) : Prop := ((i.op = 5 ∧ i.v.may = true) ∨ (i.op = 6 ∧ i.ex = 8)) ∧ (0 ≤ i.a ∧ i.a < r) ∧ (0 ≤ i.b ∧ i.b < r) ∧ (0 ≤ i.c ∧ i.c < r) ∧ 0 ≤ i.j ∧ i.j ≤ T
theorem Gi.mono {r r' T T' : Nat} {i : Ins} (h : Gi r T i) (hr : r ≤ r') (hT : T ≤ T') : Gi r' T' i := by
  obtain ⟨a, b, c, d, e⟩ := h
  exact ⟨a, by omega, by omega, by omega, by omega⟩
/-- what an expression's program is -/
structure ExP (t : Tm) (to : Nat) (H : Hp) (n eb lb : Nat) (R : Nat) (l : List Ins) (js : List Nat) (v w : AV) (K : Hp) (k : Nat) (c : List Ins) (d : List Nat) (v' w' : AV) : Prop where
  s : Emt K k eb lb ((max R (to + t.ex.rgs) : Nat) : Int) (l ++ c) (js ++ d) v' w'
  f : Frm H n eb lb v w K
  nv : ∀ c, blk v' = some c → n ≤ c
  nw : ∀ c, blk w' = some c → blk w = some c ∨ n ≤ c
  nk : n ≤ k
  len : c.length = t.ex.sz
  ok : ∀ i ∈ c, Gi (to + t.ex.rgs) 0 i
  lab : ∀ j ∈ d, j < l.length + c.length
  dl : d.length ≤ c.length
theorem Tm.sz_one : Tm.one.ex.sz = 1 := by simp [Tm.ex, Ex.sz, Ex.szL]
theorem Tm.rgs_one : Tm.one.ex.rgs = 1 := by simp [Tm.ex, Ex.rgs, Ex.rgsL]
theorem Tm.sz_add (a b : Tm) : (Tm.add a b).ex.sz = 1 + (a.ex.sz + b.ex.sz) := by simp [Tm.ex, Ex.sz, Ex.szL]
theorem Tm.rgs_add (a b : Tm) : (Tm.add a b).ex.rgs = max (max 1 a.ex.rgs) (b.ex.rgs + 1) := by simp [Tm.ex, Ex.rgs, Ex.rgsL]
theorem rgs_pos (t : Tm) : 1 ≤ t.ex.rgs := by
  cases t with
  | one => rw [Tm.rgs_one]; omega
  | add a b => rw [Tm.rgs_add]; omega
theorem expr38 : ∀ (t : Tm) (to : Nat) (H : Hp) (n eb lb R : Nat) (l : List Ins) (js : List Nat) (v w : AV), Emt H n eb lb (R : Int) l js v w → to + t.ex.rgs ≤ 256 → l.length + t.ex.sz ≤ 8192 → js.length ≤ l.length → R ≤ 256 →
    CallR Tryz.prog 38 [.ptr eb 0, t.ex.av, .int .i64 (to : Int), .ptr lb 0] H n (fun u K k => u = .tup [] ∧ ∃ c d v' w', ExP t to H n eb lb R l js v w K k c d v' w')
  | .one, to, H, n, eb, lb, R, l, js, v, w, s, ht, hl, hj, hR => by
    rw [Tm.rgs_one] at ht
    rw [Tm.sz_one] at hl
    have w1 : IntKind.i64.wrap ((to : Int) + 1) = ((to + 1 : Nat) : Int) := by
      simp [IntKind.wrap, IntKind.signed, IntKind.bits]; omega
    have hmx := maxN R (to + 1)
    have he := s.ht.lt s.he
    refine CallR.of c38 (by simp [A38]) fun F hF => ?_
    have hav : Tm.one.ex.av = .agg (Tm.one.ex.cells) 8 := rfl
    have he1 := s.he
    simp only [ebC] at he1
    simp only [Int.natCast_add, Int.natCast_one] at w1 hmx
    simp [A38, B38, R38_0, R38_1, hF, hav, he1, w1, neC he, eMnx, hmx]
    obtain ⟨s2, f2⟩ := (s.box (.cells 8 [] Tm.one.ex.cells .nil)).reg ((max R (to + 1) : Nat) : Int)
    have f3 := f2.box
    simp only [ebC] at s2 f3
    have hbx : (H.put n (some (ABlk.cells 8 [] Tm.one.ex.cells .nil))).get n = some (.cells 8 [] Tm.one.ex.cells .nil) := by simp
    generalize H.put n (some (ABlk.cells 8 [] Tm.one.ex.cells .nil)) = H1 at s2 f3 hbx ⊢
    have hb2 : (H1.put eb (some (ABlk.cells 4 [] [.int .i64 ((max R (to + 1) : Nat) : Int), .int .i64 0, v, nilS] .nil))).get n = some (.cells 8 [] (Tm.one.cl (.ds (Ex.cellsL Tm.one.args) Tm.one.args.length 8)) .nil) := by
      rw [← Tm.cells]
      have : ¬ n = eb := by omega
      simp only [Tr.get_put, this, if_false, hbx]
    generalize H1.put eb (some (ABlk.cells 4 [] [.int .i64 ((max R (to + 1) : Nat) : Int), .int .i64 0, v, nilS] .nil)) = H2 at s2 f3 hb2 ⊢
    simp only [Tm.cl, Tm.op, Tm.kn] at hb2
    simp [R38_2, R38_3, R38_4, hF, hb2]
    let i : Ins := ⟨5, to, 0, 0, 0, 0, 0, 0, 0, 0, false, false, ⟨1, 1, []⟩⟩
    obtain ⟨s4, f4⟩ := s2.put i
    refine CalV.of (put15 i l _ v H2 (n + 1) eb s2.he s2.hv s2.ht (by omega)).callR ?_
    rintro u K k ⟨rfl, rfl, rfl⟩
    simp
    refine ⟨[i], [], _, w, ⟨by simpa [Tm.rgs_one] using s4, f3.trans fun c h1 h2 h3 h4 h5 => f4 c (by omega) h2 h3 h4 h5, fun c hc => by simp at hc; omega, fun c hc => .inl hc, by omega, by simp [Tm.sz_one], ?_, by simp, by simp⟩⟩
    intro x hx
    simp at hx
    subst hx
    rw [Tm.rgs_one]
    refine ⟨.inl ⟨rfl, by simp [i, Val.may]⟩, ?_, ?_, ?_, ?_⟩ <;> simp [i] <;> omega
  | .add a b, to, H, n, eb, lb, R, l, js, v, w, s, ht, hl, hj, hR => by
    rw [Tm.rgs_add] at ht
    rw [Tm.sz_add] at hl
    have ra := rgs_pos a
    have rb := rgs_pos b
    have wr : IntKind.i64.wrap ((to : Int) + 1) = ((to + 1 : Nat) : Int) := by
      simp [IntKind.wrap, IntKind.signed, IntKind.bits]; omega
    have w0 : IntKind.i64.wrap (to : Int) = (to : Int) := by
      simp [IntKind.wrap, IntKind.signed, IntKind.bits]; omega
    have hmx := maxN R (to + 1)
    have he := s.ht.lt s.he
    have hlb := s.ht.lt s.hlb
    have x0 : cIxa 8 (.ds (Ex.cellsL [a.ex, b.ex]) 2 8) (.int .i64 0) = .val (.dp (a.ex.cells ++ Ex.cellsL [b.ex])) := by
      have := ixa_ex (l := [a.ex, b.ex]) (i := 0) (k := .i64) (by simp)
      simpa using this
    have x1 : cIxa 8 (.ds (Ex.cellsL [a.ex, b.ex]) 2 8) (.int .i64 1) = .val (.dp (b.ex.cells ++ Ex.cellsL [])) := by
      have := ixa_ex (l := [a.ex, b.ex]) (i := 1) (k := .i64) (by simp)
      simpa using this
    refine CallR.of c38 (by simp [A38]) fun F hF => ?_
    have hav : (Tm.add a b).ex.av = .agg ((Tm.add a b).ex.cells) 8 := rfl
    have he1 := s.he
    simp only [ebC] at he1
    simp only [Int.natCast_add, Int.natCast_one] at wr hmx
    simp [A38, B38, R38_0, R38_1, hF, hav, he1, wr, neC he, eMnx, hmx]
    obtain ⟨s2, f2⟩ := (s.box (.cells 8 [] (Tm.add a b).ex.cells .nil)).reg ((max R (to + 1) : Nat) : Int)
    have f3 := f2.box
    simp only [ebC] at s2 f3
    have hbx : (H.put n (some (ABlk.cells 8 [] (Tm.add a b).ex.cells .nil))).get n = some (.cells 8 [] (Tm.add a b).ex.cells .nil) := by simp
    generalize H.put n (some (ABlk.cells 8 [] (Tm.add a b).ex.cells .nil)) = H1 at s2 f3 hbx ⊢
    have hb2 : (H1.put eb (some (ABlk.cells 4 [] [.int .i64 ((max R (to + 1) : Nat) : Int), .int .i64 0, v, nilS] .nil))).get n = some (.cells 8 [] ((Tm.add a b).cl (.ds (Ex.cellsL [a.ex, b.ex]) 2 8)) .nil) := by
      rw [show (.ds (Ex.cellsL [a.ex, b.ex]) 2 8 : AV) = .ds (Ex.cellsL (Tm.add a b).args) (Tm.add a b).args.length 8 from rfl, ← Tm.cells]
      have : ¬ n = eb := by omega
      simp only [Tr.get_put, this, if_false, hbx]
    generalize H1.put eb (some (ABlk.cells 4 [] [.int .i64 ((max R (to + 1) : Nat) : Int), .int .i64 0, v, nilS] .nil)) = H2 at s2 f3 hb2 ⊢
    simp only [Tm.cl, Tm.op, Tm.kn] at hb2
    simp [R38_2, R38_3, R38_5, R38_11, R38_12, hF, hb2]
    obtain ⟨R2, hR2⟩ : ∃ r, r = max R (to + 1) := ⟨_, rfl⟩
    rw [← hR2] at s2
    let i0 : Ins := ⟨6, to, to, 0, 0, 0, 8, 0, 0, 0, false, false, ⟨0, 0, []⟩⟩
    let i1 : Ins := ⟨6, to, to, to + 1, 0, 0, 8, 0, 0, 0, false, false, ⟨0, 0, []⟩⟩
    have s3 := s2.box2 (.cells 15 [] [.int .i64 0, .int .i64 0, .int .i64 0, .int .i64 0, .int .i64 0, .int .i64 0, .int .i64 0, .int .u32 0, .int .i64 0, .int .i64 0, .bool false, .bool false, .int .i64 0, .int .i64 0, .str []] .nil) (.cells 15 [] i0.cells .nil)
    have hi3 : ((H2.put (n + 1) (some (ABlk.cells 15 [] [.int .i64 0, .int .i64 0, .int .i64 0, .int .i64 0, .int .i64 0, .int .i64 0, .int .i64 0, .int .u32 0, .int .i64 0, .int .i64 0, .bool false, .bool false, .int .i64 0, .int .i64 0, .str []] .nil))).put (n + 1) (some (ABlk.cells 15 [] i0.cells .nil))).get (n + 1) = some (.cells 15 [] i0.cells .nil) := by simp
    have g3 : ∀ c, c < n + 1 → ((H2.put (n + 1) (some (ABlk.cells 15 [] [.int .i64 0, .int .i64 0, .int .i64 0, .int .i64 0, .int .i64 0, .int .i64 0, .int .i64 0, .int .u32 0, .int .i64 0, .int .i64 0, .bool false, .bool false, .int .i64 0, .int .i64 0, .str []] .nil))).put (n + 1) (some (ABlk.cells 15 [] i0.cells .nil))).get c = H2.get c := fun c hc => by
      have : ¬ c = n + 1 := by omega
      simp [this]
    simp only [Ins.cells, i0] at s3 hi3 g3
    generalize Tr.put _ (n + 1) (some (ABlk.cells 15 [] [AV.int IntKind.i64 6, AV.int IntKind.i64 (to : Int), AV.int IntKind.i64 (to : Int), AV.int IntKind.i64 0, AV.int IntKind.i64 0, AV.int IntKind.i64 0, AV.int IntKind.i64 8, AV.int IntKind.u32 0, AV.int IntKind.i64 0, AV.int IntKind.i64 0, AV.bool false, AV.bool false, AV.int IntKind.i64 0, AV.int IntKind.i64 0, AV.str []] Ov.nil)) = H3 at s3 hi3 g3 ⊢
    refine LoopV.ofU 2 (LoopU.step ?_)
    simp [L38_1, R38_13, R38_14, R38_15, hF, x0, w0]
    have s4 := s3.box2 (ABlk.cells 8 [] [.int .i64 0, .int .i64 0, .int .i64 0, .str [], .str [], .str [], .int .i64 0, nilS] .nil) (.cells 8 [] a.ex.cells .nil)
    have g4 : ∀ c, c < n + 1 + 1 → ((H3.put (n + 1 + 1) (some (ABlk.cells 8 [] [.int .i64 0, .int .i64 0, .int .i64 0, .str [], .str [], .str [], .int .i64 0, nilS] .nil))).put (n + 1 + 1) (some (ABlk.cells 8 [] a.ex.cells .nil))).get c = H3.get c := fun c hc => by
      have : ¬ c = n + 1 + 1 := by omega
      simp [this]
    generalize Tr.put _ (n + 1 + 1) (some (ABlk.cells 8 [] a.ex.cells .nil)) = H4 at s4 g4 ⊢
    have vl : ∀ c, blk v = some c → c < n := fun c h => (s.v_lt h).1
    have wl : ∀ c, blk w = some c → c < n := fun c h => (s.w_lt h).1
    have i4 := (g4 (n + 1) (by omega)).trans hi3
    have b4 := (g4 n (by omega)).trans ((g3 n (by omega)).trans hb2)
    refine CalV.of (expr38 a to H4 _ eb lb R2 l js v w s4 (by omega) (by omega) hj (by omega)) ?_
    rintro u K k ⟨rfl, c1, d1, v1, w1, p1⟩
    have nk1 := p1.nk
    have i5 := (p1.f (n + 1) (by omega) (by omega) (by omega) (fun h => by have := vl _ h; omega) (fun h => by have := wl _ h; omega)).trans i4
    have b5 := (p1.f n (by omega) (by omega) (by omega) (fun h => by have := vl _ h; omega) (fun h => by have := wl _ h; omega)).trans b4
    simp [R38_16]
    refine LoopU.step ?_
    have s5 := p1.s.box2 (ABlk.cells 8 [] [.int .i64 0, .int .i64 0, .int .i64 0, .str [], .str [], .str [], .int .i64 0, nilS] .nil) (.cells 8 [] b.ex.cells .nil)
    have g5 : ∀ c, c < k → ((K.put k (some (ABlk.cells 8 [] [.int .i64 0, .int .i64 0, .int .i64 0, .str [], .str [], .str [], .int .i64 0, nilS] .nil))).put k (some (ABlk.cells 8 [] b.ex.cells .nil))).get c = K.get c := fun c hc => by
      have : ¬ c = k := by omega
      simp [this]
    simp [x1, hF, wr]
    generalize Tr.put _ k (some (ABlk.cells 8 [] b.ex.cells .nil)) = H5 at s5 g5 ⊢
    have e2 := expr38 b (to + 1) H5 _ eb lb (max R2 (to + a.ex.rgs)) (l ++ c1) (js ++ d1) v1 w1 s5 (by omega) (by have := p1.len; simp; omega) (by have := p1.dl; simp; omega) (by omega)
    simp only [Int.natCast_add, Int.natCast_one] at e2
    refine CalV.of e2 ?_
    rintro u K2 k2 ⟨rfl, c2, d2, v2, w2, p2⟩
    have nk2 := p2.nk
    have v1n : blk v1 ≠ some (n + 1) := fun h => by have := p1.nv _ h; omega
    have w1n : blk w1 ≠ some (n + 1) := fun h => (p1.nw _ h).elim (fun h => by have := wl _ h; omega) (fun h => by omega)
    have v1m : blk v1 ≠ some n := fun h => by have := p1.nv _ h; omega
    have w1m : blk w1 ≠ some n := fun h => (p1.nw _ h).elim (fun h => by have := wl _ h; omega) (fun h => by omega)
    have i6 := (p2.f (n + 1) (by omega) (by omega) (by omega) v1n w1n).trans ((g5 (n + 1) (by omega)).trans i5)
    have b6 := (p2.f n (by omega) (by omega) (by omega) v1m w1m).trans ((g5 n (by omega)).trans b5)
    simp
    refine LoopU.step ?_
    have v2n : blk v2 ≠ some (n + 1) := fun h => by have := p2.nv _ h; omega
    have w2n : blk w2 ≠ some (n + 1) := fun h => (p2.nw _ h).elim (fun h => absurd h w1n) (fun h => by omega)
    have s7 := p2.s.upd (c0 := n + 1) (.cells 15 [] i1.cells .nil) (by omega) (by omega) (by omega) v2n w2n
    have i7 : (K2.put (n + 1) (some (ABlk.cells 15 [] i1.cells .nil))).get (n + 1) = some (.cells 15 [] i1.cells .nil) := by simp
    have g7 : ∀ c, c ≠ n + 1 → (K2.put (n + 1) (some (ABlk.cells 15 [] i1.cells .nil))).get c = K2.get c := fun c hc => by simp [hc]
    simp [R38_17, R38_18, R38_19, hF, i6, b6, wr]
    simp only [Ins.cells, i1] at s7 i7 g7
    generalize Tr.put K2 (n + 1) _ = H7 at s7 i7 g7 ⊢
    have la := p1.len
    have lb2 := p2.len
    have da := p1.dl
    have db := p2.dl
    have hjj := jump39 i1 s7 (by simp; omega) (by simp; omega)
    rw [Ins.av_eq] at hjj
    simp only [Ins.cells, i1] at hjj
    refine CalV.of hjj ?_
    rintro u K3 k3 ⟨rfl, v3, w3, s8, f8, nv8, nw8, nk8⟩
    simp
    have eR : max R (to + max (max 1 a.ex.rgs) (b.ex.rgs + 1)) = max (max R2 (to + a.ex.rgs)) (to + 1 + b.ex.rgs) := by omega
    refine ⟨c1 ++ c2 ++ [i1], d1 ++ d2 ++ [(l ++ c1 ++ c2).length], v3, w3, ⟨?_, ?_, fun c h => by have := nv8 c h; omega, fun c h => .inr (by have := nw8 c h; omega), by omega, ?_, ?_, ?_, ?_⟩⟩
    · rw [Tm.rgs_add, eR]
      simpa [List.append_assoc] using s8
    · intro c h1 h2 h3 h4 h5
      have q1 : blk v1 ≠ some c := fun h => by have := p1.nv _ h; omega
      have q2 : blk w1 ≠ some c := fun h => (p1.nw _ h).elim (fun h => h5 h) (fun h => by omega)
      have q3 : blk v2 ≠ some c := fun h => by have := p2.nv _ h; omega
      have q4 : blk w2 ≠ some c := fun h => (p2.nw _ h).elim (fun h => q2 h) (fun h => by omega)
      rw [f8 c (by omega) h2 h3 q3 q4, g7 c (by omega), p2.f c (by omega) h2 h3 q1 q2, g5 c (by omega), p1.f c (by omega) h2 h3 h4 h5, g4 c (by omega), g3 c (by omega), f3 c h1 h2 h3 h4 h5]
    · rw [Tm.sz_add]; simp; omega
    · rw [Tm.rgs_add]
      intro x hx
      simp only [List.mem_append, List.mem_singleton] at hx
      rcases hx with (hx | hx) | rfl
      · exact (p1.ok x hx).mono (by omega) (by omega)
      · exact (p2.ok x hx).mono (by omega) (by omega)
      · refine ⟨.inr ⟨rfl, rfl⟩, ?_, ?_, ?_, ?_⟩ <;> simp [i1] <;> omega
    · intro x hx
      simp only [List.mem_append, List.mem_singleton] at hx
      simp
      rcases hx with (hx | hx) | rfl
      · have := p1.lab x hx; omega
      · have := p2.lab x hx; simp at this; omega
      · simp <;> omega
    · simp; omega
end Go.Abs
