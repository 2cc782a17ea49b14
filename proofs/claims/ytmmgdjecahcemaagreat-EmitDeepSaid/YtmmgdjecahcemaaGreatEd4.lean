/- A part of the proof. -/
import Derived.Test.YtmmgdjecahcemaaGreatEd3
import Derived.Test.YtmmgdjecahcemaaGreatAbs6
namespace Go.Abs
open Go.Proofs
set_option maxRecDepth 100000

abbrev nilS : AV := .cst (.slice none 0 0)
theorem kinds98 : FnPure Tryz.prog 98 [.agg [nilS, nilS] 2] nilS := by
  refine pureV c98 (by simp) (by simp) (by simp [A98]) fun F hF => ?_
  simp [A98, B98, R98_0, R98_1, R98_2, hF]
  refine LoopV.ofU 0 (LoopU.step ?_)
  simp [L98_1, R98_3, R98_11]
  exact .pure _ (by simp)
theorem expr81 (t : Tm) (H : Hp) (n bp : Nat) (ht : Top H n) (hb : bp < n) : CallR Tryz.prog 81 [.ptr bp 0, .agg [nilS, nilS] 2, t.ex.av] H n (fun v H' n' => ∃ vs, v = .tup [.agg (t.cl vs) 8, .int .i64 1] ∧ vs.one = true ∧ Frz (above n H') vs (.ds (Ex.cellsL t.args) t.args.length 8) ∧ Grow H n H' n') := by
  refine CallR.of c81 (by simp [A81]) fun F hF => ?_
  simp [A81, B81, R81_0, R81_1, R81_2, R81_3, R81_4, hF, Ex.av]
  refine CalV.pure kinds98 ?_
  simp
  generalize hH1 : Tr.put _ (n + 1 + 1 + 1 + 1 + 1) _ = H1
  have g1 : Grow H n H1 (n + 1 + 1 + 1 + 1 + 1 + 1) := by rw [← hH1]; ((repeat (refine Grow.upd ?_ _ (by omega) (by omega))); (first | exact Grow.le (Grow.refl (by assumption)) (by omega) | exact Grow.le (by assumption) (by omega)))
  have h1 : H1.get n = some (.cells 1 [] [.ptr bp 0] .nil) := by rw [← hH1]; simp
  have h2 : H1.get (n + 1 + 1 + 1 + 1 + 1) = some (.cells 1 [] [.fn (.func 99) [] [.ptr (n + 1) 0, .ptr n 0, .ptr (n + 1 + 1 + 1 + 1) 0, .ptr (n + 1 + 1 + 1 + 1 + 1) 0]] .nil) := by rw [← hH1]; simp
  have h3 : H1.get (n + 1 + 1 + 1) = some (.cells 8 [] [.int .i64 0, .int .i64 0, .int .i64 0, .str [], .str [], .str [], .int .i64 0, nilS] .nil) := by rw [← hH1]; simp
  clear hH1
  refine CalV.of (walk99 t H1 _ (n + 1) n (n + 1 + 1 + 1 + 1) (n + 1 + 1 + 1 + 1 + 1) bp g1.2.2 ⟨h1, h2⟩ (by omega)) ?_
  rintro v K n1 ⟨vx, rfl, ov, hz, g2⟩
  have h4 := (g2.2.1 _ (by omega)).trans h3
  obtain ⟨r, hr⟩ : ∃ r, r = n + 1 + 1 + 1 := ⟨_, rfl⟩
  rw [← hr] at h4 hz g2 ⊢
  have h6 := g2.1
  have g12 := g1.trans (hr ▸ g2)
  simp [h4, Tm.cl, ov]
  refine ⟨hz.mono (above_le fun c kk q1 q2 => ?_), by ((repeat (refine Grow.upd ?_ _ (by omega) (by omega))); (first | exact Grow.le (Grow.refl (by assumption)) (by omega) | exact Grow.le (by assumption) (by omega)))⟩
  have hc : ¬ c = r := by omega
  exact ⟨by omega, by simp [hc, q2]⟩
end Go.Abs
