/- A part of the proof. -/
import Derived.Test.YtmmgdjecahcemaaGreatEe2
import Derived.Test.YtmmgdjecahcemaaGreatEk3
namespace Go.Abs
open Go.Proofs
set_option maxRecDepth 100000

/-- a function that reads what lies in memory, and what it makes; behind it all is shut -/
theorem CallR.shut {P : Program} {g : FuncId} {args args' : List AV} {G : AV → Prop} {H : Hp} {n : Nat} (h : CallR P g args' .nil 0 (fun v1 H' _ => ∃ v, G v ∧ Frz H'.get v1 v)) (hz : FrzL H.get args args') : CallR P g args H n (fun u K k => G u ∧ K = .nil ∧ k = n) := by
  refine ⟨h.1, fun φ D w xs hr hv hf RR hR => ?_⟩
  refine h.2 PhN (Go.Abs.shut φ D H.get w) w xs (rel_none (shut_dat hr.dat)) (hz.vrs hr hv) (fun _ _ => rfl) RR fun v1 H' n' φ' D' w' x ⟨v, hG, hfz⟩ e r hx => ?_
  refine hR v .nil n φ (Go.Abs.shut φ' D' H'.get w') w' x ⟨hG, rfl, rfl⟩ ⟨Nat.le_refl _, fun _ _ h => h, fun _ a b => absurd a b, fun c x hc => shut_le c x (e.dat c x (shut_le c x hc)), e.size, fun c hc _ => e.keep c hc fun b p hb => by simp at hb, fun b p hb => by simp at hb, fun c hc => ?_, fun b hb => by simp at hb, e.os, e.out⟩ ⟨fun b k hb => by simp at hb, fun b c p q hb => by simp at hb, fun b p hb => by simp at hb, shut_dat r.dat⟩ (hfz.isPure.out (hfz.vr r hx))
  have key : D' c ≠ none ∨ w.heap.size ≤ c := by
    unfold Go.Abs.shut at hc
    split at hc
    · rename_i y hy; exact .inl (by rw [hy]; simp)
    · split at hc
      · rename_i hex
        obtain ⟨b, p, hb, hp, rfl⟩ := hex
        rcases e.live b p hb hp with h | ⟨b0, p0, hh, _⟩
        · exact .inr h
        · simp at hh
      · exact absurd rfl hc
  rcases key with h1 | h1
  · rcases e.dnew c h1 with h2 | h2 | ⟨b0, p0, hh, _⟩
    · unfold Go.Abs.shut at h2
      split at h2
      · rename_i y hy; exact .inl (by rw [hy]; simp)
      · split at h2
        · rename_i hex
          obtain ⟨b, p, hb, hp, hp1⟩ := hex
          exact .inr (.inr ⟨b, p, hb, hp, hp1⟩)
        · exact absurd rfl h2
    · exact .inr (.inl h2)
    · simp at hh
  · exact .inr (.inl h1)
/-- what Emit answers -/
def EmP (t : Tm) (v : AV) : Prop := if 8 + (t.ex.sz + 1) ≤ 8192 ∧ 18 + t.ex.rgs ≤ 256 then ∃ c : Cod, v = .tup [c.av, .int .i64 0] ∧ c.chk = 0 else v = .tup [.agg [.int .i64 0, .int .i64 0, nilS] 3, .int .i64 3]
theorem here16e (H : Hp) (n eb lb : Nat) (hl : H.get lb = some (.cells 1 [] [nilS] .nil)) : CallR Tryz.prog 16 [.ptr eb 0, .ptr lb 0] H n (fun u K k => u = .tup [] ∧ (∀ c, K.get c = H.get c) ∧ k = n) := by
  refine CallR.of c16 (by simp [A16]) fun F hF => ?_
  simp [A16, B16, R16_0, hF, hl]
  refine LoopV.ofU 0 (LoopU.step ?_)
  simp [L16_0, R16_1, R16_5, hF, hl]
theorem OwnS.isOne {H : Hp} {n : Nat} {v : AV} {l : List AV} {len sz : Nat} (h : OwnS H n v l len sz) : v.one = true := by
  obtain ⟨_, ⟨rfl, _⟩ | ⟨b, k, rfl, _⟩⟩ := h <;> simp
theorem Gi.cod {r T : Nat} {x : Ins} (h : Gi r T x) (c : Cod) (h1 : c.regs = (r : Int)) (h2 : T ≤ c.l.length) : c.ok x = true := by
  obtain ⟨a, b, d, e, f⟩ := h
  rcases a with ⟨a1, a2⟩ | ⟨a1, a2⟩
  · simp [Cod.ok, a1, a2, Cod.reg, h1]; omega
  · simp [Cod.ok, a1, a2, Cod.reg, Cod.target, h1]; omega
theorem emit5 (t : Tm) (hz : t.ex.sz ≤ lim) (hb : FnPure Tryz.prog 10 [scAv, .agg (stC t.ex) 31] (.tup [.agg (bndC t) 25, .int .i64 0])) : CallR Tryz.prog 5 [scAv, .agg (stC t.ex) 31, nilS] .nil 0 (fun v1 H' _ => ∃ v, EmP t v ∧ Frz H'.get v1 v) := by
  have h9 := right9 t hb
  have h11 := counted11 t hz
  have hr := Ex.rgs_le _ _ (Nat.le_refl t.ex.sz)
  refine CallR.of c5 (by simp [A5]) fun F hF => ?_
  simp [A5, B5, R5_0, R5_1, hF, scAv, stC, qC]
  refine CalV.pure h9 ?_
  simp [R5_2, R5_4]
  refine CalV.pure hb ?_
  simp [bndC, bdC, R5_5, hF]
  refine CalV.pure h11 ?_
  simp [R5_6]
  by_cases c1 : 8 + (t.ex.sz + 1) ≤ 8192
  · have d1 : ¬ (8192 : Int) < 8 + ((t.ex.sz : Int) + 1) := by omega
    by_cases c2x : 18 + t.ex.rgs ≤ 256
    · have d2 : ¬ (256 : Int) < 18 + (t.ex.rgs : Int) := by omega
      simp [d1, d2, R5_8, R5_9, R5_11, R5_12, R5_13, R5_14, R5_15, R5_16, hF]
      refine LoopV.ofU 0 (LoopU.step ?_)
      simp [L5_0, R5_17, R5_30]
      refine CalV.same (cond13 _ _ _ _) ?_
      simp [R5_31, R5_32, R5_33]
      generalize hH1 : Tr.put _ 5 _ = H1
      have a1 : H1.get 1 = some (.cells 31 [] (stC t.ex) .nil) := by rw [← hH1]; simp [stC, qC]
      have a2 : H1.get 2 = some (.cells 3 [] [.int .i64 0, .int .i64 0, nilS] .nil) := by rw [← hH1]; simp
      have a3 : H1.get 3 = some (.cells 25 [] (bndC t) .nil) := by rw [← hH1]; simp [bndC, bdC]
      have a4 : H1.get 4 = some (.cells 4 [] (ebC 0 nilS) .nil) := by rw [← hH1]; simp [ebC]
      have a5 : H1.get 5 = some (.cells 1 [] [nilS] .nil) := by rw [← hH1]; simp
      have t6 : Top H1 6 := by
        intro b hb
        have q0 : ¬ b = 0 := by omega
        have q1 : ¬ b = 1 := by omega
        have q2 : ¬ b = 2 := by omega
        have q3 : ¬ b = 3 := by omega
        have q4 : ¬ b = 4 := by omega
        have q5 : ¬ b = 5 := by omega
        rw [← hH1]; simp [q0, q1, q2, q3, q4, q5]
      clear hH1
      refine CalV.of (vals14 t H1 6 4 a4 t6 (by omega) (by omega)) ?_
      rintro u K k ⟨rfl, l, v, hl, hG, e4, ho, hk, hv, hn, tk⟩
      have b1 := (hk 1 (by omega) (by omega)).trans a1
      have b2 := (hk 2 (by omega) (by omega)).trans a2
      have b3 := (hk 3 (by omega) (by omega)).trans a3
      have b5 := (hk 5 (by omega) (by omega)).trans a5
      simp [R5_34, b3, bndC, bdC]
      let i8 : Ins := ⟨8, 0, 0, 0, 1, 0, 0, 0, 0, 0, false, false, ⟨0, 0, []⟩⟩
      let i11 : Ins := ⟨11, 0, 0, 0, 0, 0, 0, 0, 0, 0, false, false, ⟨0, 0, []⟩⟩
      have p8 := put15g i8 l _ v K k 4 e4 ho (fun c hc => by have := hv c hc; omega) tk (by omega)
      rw [Ins.av_eq] at p8
      simp only [Ins.cells, i8] at p8
      refine CalV.of p8 ?_
      rintro u K2 k2 ⟨rfl, v2, f4, ho2, hv2, hk2, hn2, tk2⟩
      have vn : ∀ c, c < 6 → blk v ≠ some c := fun c hc h => by have := hv c h; omega
      have c2 := (hk2 2 (by omega) (by omega) (vn 2 (by omega))).trans b2
      have c5 := (hk2 5 (by omega) (by omega) (vn 5 (by omega))).trans b5
      have wm : IntKind.i64.wrap (-1) = -1 := by simp [IntKind.wrap, IntKind.signed, IntKind.bits]
      simp [R5_37, hF, wm]
      refine LoopV.ofU 0 (LoopU.step ?_)
      simp [L5_1, R5_38, R5_43]
      refine CalV.of (here16e K2 k2 4 5 c5) ?_
      rintro u K3 k3 ⟨rfl, hk3, rfl⟩
      simp [R5_44]
      have tk3 : Top K3 k3 := fun c hc => (hk3 c).trans (tk2 c hc)
      have p11 := put15g i11 (l ++ [i8]) _ v2 K3 k3 4 ((hk3 4).trans f4) (by simpa using ho2.frame (Nat.le_refl _) fun c _ => hk3 c) (fun c hc => by have := hv2 c hc; omega) tk3 (by simp; omega)
      rw [Ins.av_eq] at p11
      simp only [Ins.cells, i11] at p11
      refine CalV.of p11 ?_
      rintro u K4 k4 ⟨rfl, v3, g4, ho3, hv3, hk4, hn4, tk4⟩
      have d2' := (hk4 2 (by omega) (by omega) (fun h => by have := hv2 2 h; omega)).trans ((hk3 2).trans c2)
      simp only [ebC] at g4
      simp [R5_45, g4, d2']
      have on := ho3.isOne
      simp [on]
      let cc : Cod := ⟨(t.ex.rgs : Int), 0, l ++ [i8] ++ [i11]⟩
      have hlen : (l ++ [i8] ++ [i11]).length = l.length + 2 := by simp
      have rp := rgs_pos t
      refine ⟨.tup [cc.av, .int .i64 0], ?_, ?_⟩
      · simp only [EmP, c1, c2x, and_self, if_true]
        refine ⟨cc, rfl, ?_⟩
        have sh : cc.shape = true := by simp [Cod.shape, cc]; omega
        have al : cc.l.all cc.ok = true := by
          rw [List.all_eq_true]
          intro x hx
          simp only [cc, List.mem_append, List.mem_singleton] at hx
          rcases hx with (hx | rfl) | rfl
          · exact (hG x hx).cod cc rfl (by simp [cc]; omega)
          · simp [Cod.ok, Cod.rgs, cc, i8]; omega
          · simp [Cod.ok, i11]
        simp [Cod.chk, sh, al]
      · refine .tup _ _ (.cons _ _ _ _ (.agg _ _ _ (.cons _ _ _ _ (.pure _ (by simp)) (.cons _ _ _ _ (.pure _ (by simp)) (.cons _ _ _ _ ?_ .nil)))) (.cons _ _ _ _ (.pure _ (by simp)) .nil))
        have ho4 : OwnS (K4.put 2 (some (ABlk.cells 3 [] [.int .i64 (t.ex.rgs : Int), .int .i64 0, v3] .nil))) k4 v3 (insC (l ++ [i8] ++ [i11])) (l ++ [i8] ++ [i11]).length 15 := by
          have := ho3.frame (H' := K4.put 2 (some (ABlk.cells 3 [] [.int .i64 (t.ex.rgs : Int), .int .i64 0, v3] .nil))) (Nat.le_refl _) (fun c hc => by
            have q : ¬ c = 2 := by have := hv3 c hc; omega
            simp [q])
          simpa using this
        exact ho4.frz (FrzL.pure (insC_pure _))
    · have d2 : (256 : Int) < 18 + (t.ex.rgs : Int) := by omega
      simp [d1, d2, R5_7]
      exact ⟨_, by simp [EmP, c1, c2x], .pure _ (by simp)⟩
  · have d1 : (8192 : Int) < 8 + ((t.ex.sz : Int) + 1) := by omega
    simp [d1, R5_7]
    exact ⟨_, by simp [EmP, c1], .pure _ (by simp)⟩
end Go.Abs
