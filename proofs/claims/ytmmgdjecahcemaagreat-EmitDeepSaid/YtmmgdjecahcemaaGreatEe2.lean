/- A part of the proof. -/
import Derived.Test.YtmmgdjecahcemaaGreatEe1
namespace Go.Abs
open Go.Proofs
set_option maxRecDepth 100000

/-- a cell changed -/
theorem OwnB.st {u : Nat} {z bs : List AV} {t : Ov AV} {l : List AV} (h : OwnB (.cells u z bs t) l) {i : Nat} (hi : i < l.length) (v : AV) : OwnB (stBlk u z bs t [v] i) (l.set i v) := by
  obtain ⟨u', z', bs', t', e, hu, hg, hl⟩ := h
  injection e with e1 e2 e3 e4
  subst e1 e2 e3 e4
  have key : ∀ t2, (∀ j, t2.get j = if i ≤ j ∧ j < i + 1 then [v][j - i]? else t.get j) → t2 ≠ .nil → OwnB (.cells u z bs t2) (l.set i v) := by
    intro t2 h2 hne
    refine ⟨u, z, bs, t2, rfl, by simp [hu], fun j => ?_, fun e => absurd e hne⟩
    have hj := hg j
    rw [getc_eq] at hj ⊢
    rw [List.getElem?_set, h2]
    by_cases e : i = j
    · subst e
      rw [if_pos (by omega), if_pos (by omega), if_pos rfl, if_pos hi]
      simp
    · rw [if_neg e]
      by_cases hju : j < u
      · rw [if_pos hju] at hj ⊢
        rw [if_neg (by omega)]
        exact hj
      · rw [if_neg hju] at hj ⊢
        exact hj
  have hput : ∀ t : Ov AV, (Ov.putAll [v] i t) ≠ .nil := by
    intro t e
    have := Ov.get_putAll [v] i t i
    rw [e, if_pos (by simp)] at this
    simp at this
  have hgen : OwnB (.cells u z bs (Ov.putAll [v] i t)) (l.set i v) := key _ (fun j => Ov.get_putAll [v] i t j) (hput t)
  unfold stBlk
  split
  · split
    · split
      · split
        · rename_i bs' hp
          have hb := hl rfl rfl
          obtain ⟨p1, _, p3⟩ := patch_spec hp
          have : bs' = l.set i v := by
            apply List.ext_getElem?
            intro j
            rw [p3, List.getElem?_set]
            have hj := hg j
            rw [getc_list'] at hj
            by_cases e : i = j
            · subst e; rw [if_pos (by simp), if_pos rfl, if_pos hi]; simp
            · rw [if_neg (by simp; omega), if_neg e]
              rw [← hj]
              split
              · rfl
              · rw [List.getElem?_eq_none (by omega)]
          rw [this]
          exact .list (by simp [hu])
        · exact hgen
      · exact hgen
    · exact hgen
  · exact hgen
  · exact hgen
theorem own_ld {H : Hp} {b i : Nat} {k : ABlk} {L : List AV} (hb : H.get b = some k) (ho : OwnB k L) (hi : i < L.length) : cLoad1 (.ptr b i) H = .val L[i] := by
  obtain ⟨u, z, bs, t, rfl, h3, h4, _⟩ := ho
  have := h4 i
  rw [List.getElem?_eq_getElem hi] at this
  simp [hb, this]
theorem own_st {H : Hp} {b i : Nat} {k : ABlk} {L : List AV} (hb : H.get b = some k) (ho : OwnB k L) (hi : i < L.length) (a : Int) : ∃ y, cStore 1 (.ptr b i) (.int .i64 a) H = .upd (.tup []) b y ∧ OwnB y (L.set i (.int .i64 a)) := by
  have ho' := ho
  obtain ⟨u, z, bs, t, rfl, h3, h4, _⟩ := ho
  refine ⟨stBlk u z bs t [.int .i64 a] i, ?_, ho'.st hi _⟩
  have hu : i + 1 ≤ u := by omega
  simp [cStore, hb, hu, AV.len, AV.cells]
/-- an instruction with another jump -/
def Ins.at (x : Ins) (j : Int) : Ins := { x with j := j }
theorem insC_set (l : List Ins) (i : Nat) (hi : i < l.length) (j : Int) : (insC l).set (i * 15 + 5) (.int .i64 j) = insC (l.set i (l[i].at j)) := by
  induction l generalizing i with
  | nil => simp at hi
  | cons x r ih =>
    cases i with
    | zero => simp [insC, Ins.cells, Ins.at]
    | succ i =>
      have e : (i + 1) * 15 + 5 = x.cells.length + (i * 15 + 5) := by simp; omega
      rw [insC, e, List.set_append_right _ _ (by omega), Nat.add_sub_cancel_left, ih i (by simpa using hi)]
      simp [insC]
theorem ixs {b len sz i : Nat} (h : i < len) : cIxa sz (.sl b 0 len sz) (.int .i64 (i : Int)) = .val (.ptr b (i * sz)) := by
  have := cIxa_sl (b := b) (o := 0) (sz := sz) (k := .i64) h
  simpa using this
theorem here16 {H : Hp} {n eb lb : Nat} {R : Int} {l : List Ins} {js : List Nat} {v w : AV} (r : Nat) (s : Emt H n eb lb R l js v w) (hj : ∀ j ∈ js, j < l.length) (hl : l.length ≤ 8192) (hjl : js.length ≤ 8192) (hok : ∀ x ∈ l, Gi r 0 x) :
    CallR Tryz.prog 16 [.ptr eb 0, .ptr lb 0] H n (fun u K k => u = .tup [] ∧ ∃ l', l'.length = l.length ∧ (∀ x ∈ l', Gi r l.length x) ∧ K.get eb = some (.cells 4 [] (ebC R v) .nil) ∧ OwnS K n v (insC l') l'.length 15 ∧ (∀ c, c ≠ lb → blk v ≠ some c → K.get c = H.get c) ∧ k = n ∧ Top K n) := by
  have hown : OwnS H n v (insC l) l.length 15 := by
    rcases s.hv with ⟨rfl, rfl⟩ | ⟨b, rfl, hb, h0⟩
    · exact ⟨by simp [insC], .inl ⟨rfl, rfl⟩⟩
    · exact ⟨by simp, .inr ⟨b, _, rfl, s.ht.lt hb, hb, OwnB.list (by simp)⟩⟩
  have he := s.he
  have hlb := s.hlb
  have hne := s.ne
  simp only [ebC] at he
  refine CallR.of c16 (by simp [A16]) fun F hF => ?_
  have hwl : cLenL w = .val (.int .i64 (js.length : Int)) := by
    obtain ⟨h0, ⟨rfl, h1⟩ | ⟨b, k, rfl, _, _, _⟩⟩ := s.hw
    · rw [h1]; simp
    · simp
  simp [A16, B16, R16_0, hF, hlb, hwl]
  refine LoopV.of (fun q F K n' ms => ∃ (i : Nat) (l' : List Ins), q = js.length - i ∧ i ≤ js.length ∧ F.get 0 = some (.ptr eb 0) ∧ F.get 1 = some (.ptr lb 0) ∧ F.get 9 = some w ∧ F.get 10 = some (.int .i64 (js.length : Int)) ∧ F.get 11 = some (.int .i64 (i : Int)) ∧ l'.length = l.length ∧ (∀ x ∈ l', Gi r l.length x) ∧ OwnS K n v (insC l') l.length 15 ∧ (∀ c, blk v ≠ some c → K.get c = H.get c) ∧ n' = n ∧ ms = []) js.length ⟨0, l, by simp, by simp, by simp [hF], by simp [hF], by simp, by simp, by simp, rfl, fun x hx => (hok x hx).mono (Nat.le_refl _) (by omega), hown, fun _ _ => rfl, rfl, rfl⟩ ?_
  clear hF F
  rintro q F K n' ms ⟨i, l', rfl, hi, f0, f1, f9, f10, f11, hll, hG, ho, hk, rfl, rfl⟩
  have hvb : ∀ c, blk v = some c → c < n' ∧ c ≠ eb ∧ c ≠ lb := fun c h => s.v_lt h
  by_cases hlt : i < js.length
  · obtain ⟨h0, ⟨rfl, h1⟩ | ⟨wb, wk, rfl, hwb, hwk, how⟩⟩ := s.hw
    · omega
    have hwlt := s.w_lt (c := wb) rfl
    have hwk2 := (hk wb hwlt.2.2.1).trans hwk
    have hld := own_ld (i := i) hwk2 how (by simpa using hlt)
    have hji : (natsC js)[i]'(by simpa using hlt) = .int .i64 ((js[i] : Nat) : Int) := by simp [natsC]
    rw [hji] at hld
    have hjl := hj js[i] (List.getElem_mem hlt)
    have hx := ixs (b := wb) (sz := 1) hlt
    rcases ho with ⟨o0, ⟨rfl, o1⟩ | ⟨vb, vk, rfl, hvb1, hvk, hvo⟩⟩
    · omega
    have hve := hvb vb rfl
    have heK := (hk eb (fun e => (hvb eb e).2.1 rfl)).trans he
    have hv2 := ixs (b := vb) (sz := 15) hjl
    obtain ⟨y, hy1, hy2⟩ := own_st (i := js[i] * 15 + 5) hvk hvo (by simp; omega) (l.length : Int)
    rw [insC_set l' js[i] (by omega)] at hy2
    simp only [Nat.mul_one] at hx
    simp [L16_0, R16_1, R16_2, R16_3, f9, f10, f11, hlt, hx, hld]
    refine DrwV.of (ce0_ok (P := Tryz.prog)) ?_
    simp [clearF_get, f0, heK, hv2, hy1]
    simp [R16_4, clearF_get, f0, f1, f9, f10, f11, wrap_nat i (by omega)]
    refine ⟨_, by omega, i + 1, rfl, by omega, by simp, l'.set js[i] (l'[js[i]].at (l.length : Int)), by simpa using hll, fun x hx => ?_, ⟨by simp [hll], .inr ⟨vb, y, by simp, hvb1, by simp, hy2⟩⟩, fun c hc => ?_⟩
    · rcases List.mem_or_eq_of_mem_set hx with h | h
      · exact hG x h
      · subst h
        obtain ⟨a, b, c, d, e⟩ := hG _ (List.getElem_mem (show js[i] < l'.length by omega))
        exact ⟨a, b, c, d, by simp [Ins.at], by simp [Ins.at]⟩
    · have q : ¬ c = vb := fun e => hc (by rw [e])
      simp only [q, if_false]
      exact hk c (by simpa using hc)
  · have hie : i = js.length := by omega
    have hlK := (hk lb (fun e => (hvb lb e).2.2 rfl)).trans hlb
    have heK := (hk eb (fun e => (hvb eb e).2.1 rfl)).trans he
    simp [L16_0, R16_1, R16_5, f1, f10, f11, hie, hlK]
    have q : ∀ c, c ≠ lb → (K.put lb (some (ABlk.cells 1 [] [nilS] .nil))).get c = K.get c := fun c hc => by simp [hc]
    refine ⟨l', hll, hG, by rw [if_neg hne]; exact heK, ?_, fun c h1 h2 => by rw [if_neg h1]; exact hk c h2, fun c hc => ?_⟩
    · rw [hll]
      exact ho.frame (Nat.le_refl _) fun c hc => q c (hvb c hc).2.2
    · rw [q c (by have := s.ht.lt hlb; omega), hk c (fun e => by have := (hvb c e).1; omega)]
      exact s.ht c hc
theorem vals14 (t : Tm) (H : Hp) (n eb : Nat) (he : H.get eb = some (.cells 4 [] (ebC 0 nilS) .nil)) (ht : Top H n) (hr : t.ex.rgs ≤ 256) (hl : t.ex.sz ≤ 8192) :
    CallR Tryz.prog 14 [.ptr eb 0, .ds t.ex.cells 1 8] H n (fun u K k => u = .tup [] ∧ ∃ l' v', l'.length = t.ex.sz ∧ (∀ x ∈ l', Gi t.ex.rgs t.ex.sz x) ∧ K.get eb = some (.cells 4 [] (ebC (t.ex.rgs : Int) v') .nil) ∧ OwnS K k v' (insC l') l'.length 15 ∧ (∀ c, c < n → c ≠ eb → K.get c = H.get c) ∧ (∀ c, blk v' = some c → n ≤ c) ∧ n ≤ k ∧ Top K k) := by
  have hen := ht.lt he
  have hx : cIxa 8 (.ds t.ex.cells 1 8) (.int .i64 0) = .val (.dp t.ex.cells) := by
    have := ixa_ex (l := [t.ex]) (i := 0) (k := .i64) (by simp)
    simpa [Ex.cellsL] using this
  have hld : ∀ H, cLoadN 8 (.dp t.ex.cells) H = .val t.ex.av := fun H => by
    have := ld_ex t.ex [] H
    simpa using this
  refine CallR.of c14 (by simp [A14]) fun F hF => ?_
  simp [A14, B14, R14_0, hF]
  refine LoopV.ofU 1 (LoopU.step ?_)
  simp [L14_0, R14_1, R14_2, R14_3, R14_4, hF, hx, hld]
  generalize hH1 : Tr.put _ (n + 1) _ = H1
  have g1 : ∀ c, c < n → H1.get c = H.get c := by
    intro c hc
    have q1 : ¬ c = n := by omega
    have q2 : ¬ c = n + 1 := by omega
    rw [← hH1]; simp [q1, q2]
  have hl1 : H1.get (n + 1) = some (.cells 1 [] [nilS] .nil) := by rw [← hH1]; simp
  have t1 : Top H1 (n + 1 + 1) := by
    intro c hc
    have q1 : ¬ c = n := by omega
    have q2 : ¬ c = n + 1 := by omega
    rw [← hH1]; simp [q1, q2, ht c (by omega)]
  clear hH1
  have s : Emt H1 (n + 1 + 1) eb (n + 1) ((0 : Nat) : Int) [] [] nilS nilS := ⟨(g1 _ hen).trans he, .inl ⟨rfl, rfl⟩, hl1, ⟨by simp [natsC], .inl ⟨rfl, rfl⟩⟩, t1⟩
  have e1 := expr38 t 0 H1 _ eb (n + 1) 0 [] [] nilS nilS s (by omega) (by simpa using hl) (by simp) (by omega)
  rw [show t.ex.av = .agg t.ex.cells 8 from rfl] at e1
  refine CalV.of e1 ?_
  rintro u K k ⟨rfl, c, d, v1, w1, p⟩
  have nk := p.nk
  have pl := p.len
  have pd := p.dl
  have lab := p.lab
  simp only [List.length_nil, Nat.zero_add] at lab
  have s1 := p.s
  simp only [List.nil_append, Nat.zero_add, Nat.zero_max] at s1
  simp [R14_5, hF]
  have h1 := here16 t.ex.rgs s1 lab (by omega) (by omega) (fun x hx => by simpa using p.ok x hx)
  refine CalV.of h1 ?_
  rintro u K2 k2 ⟨rfl, l', q1, q2, q3, q4, q5, rfl, q7⟩
  simp [R14_6]
  refine LoopU.step ?_
  simp
  refine ⟨l', by omega, fun x hx => by rw [← pl]; exact q2 x hx, v1, q3, q4, fun c hc h => ?_, fun c hc => ?_, by omega, q7⟩
  · have q0 : blk v1 ≠ some c := fun e => by have := p.nv c e; omega
    rw [q5 c (by omega) q0, p.f c (by omega) h (by omega) (by simp) (by simp), g1 c hc]
  · have := p.nv c hc; omega
theorem cond13 (H : Hp) (n : Nat) (p q : AV) : CallR Tryz.prog 13 [p, nilS, q] H n (fun v K k => v = .tup [] ∧ K = H ∧ k = n) := by
  refine CallR.of c13 (by simp [A13]) fun F hF => ?_
  simp [A13, B13, R13_0, hF]
  refine LoopV.ofU 0 (LoopU.step ?_)
  simp [L13_0, R13_1]
/-- an instruction more, of whatever block -/
theorem put15g (i : Ins) (l : List Ins) (R : Int) (v : AV) (H : Hp) (n eb : Nat) (he : H.get eb = some (.cells 4 [] (ebC R v) .nil)) (hv : OwnS H n v (insC l) l.length 15) (hb : ∀ c, blk v = some c → c ≠ eb) (ht : Top H n) (hl : l.length ≤ 8192) :
    CallR Tryz.prog 15 [.ptr eb 0, i.av] H n (fun u K k => u = .int .i64 (l.length : Int) ∧ ∃ v', K.get eb = some (.cells 4 [] (ebC R v') .nil) ∧ OwnS K k v' (insC (l ++ [i])) (l.length + 1) 15 ∧ (∀ c, blk v' = some c → n ≤ c) ∧ (∀ c, c < n → c ≠ eb → blk v ≠ some c → K.get c = H.get c) ∧ n ≤ k ∧ Top K k) := by
  have hen := ht.lt he
  have z := ht.none
  have e1 := neC hen
  refine CallR.of c15 (by simp [A15]) fun F hF => ?_
  simp [A15, B15, R15_0, R15_1, hF, Ins.av, Ins.cells]
  refine DrwV.of (ce0_ok (P := Tryz.prog)) ?_
  simp [ebC] at he
  simp [clearF_get, hF, noneAt_cons, noneAt_nil, he, e1, z]
  generalize hH1 : Tr.put _ (n + 1) _ = H1
  have g1 : ∀ c, c < n → H1.get c = H.get c := by
    intro c hc
    have q1 : ¬ c = n := by omega
    have q2 : ¬ c = n + 1 := by omega
    rw [← hH1]; simp [q1, q2]
  have hi1 : H1.get (n + 1) = some (.cells 15 [] i.cells .nil) := by rw [← hH1]; simp [Ins.cells]
  have t1 : Top H1 (n + 1 + 1) := by
    intro c hc
    have q1 : ¬ c = n := by omega
    have q2 : ¬ c = n + 1 := by omega
    rw [← hH1]; simp [q1, q2, ht c (by omega)]
  clear hH1
  have vb : ∀ c, blk v = some c → c < n := by
    intro c hc
    obtain ⟨_, ⟨rfl, _⟩ | ⟨b, k, rfl, q, _⟩⟩ := hv
    · cases hc
    · simp at hc; omega
  have hv1 : OwnS H1 (n + 1 + 1) v (insC l) l.length 15 := hv.frame (by omega) fun c hc => g1 c (vb c hc)
  refine OwnS.appK (k := 1) (new := i.cells) hv1 (sliceCells_one hi1) (by simp) (by simp) (by omega) (by omega) (by unfold big; omega) (by omega) (by simp [Ins.cells]) fun H4 o4 k4 => ?_
  have g4 : ∀ c, c ≠ n + 1 + 1 → blk v ≠ some c → H4.get c = H1.get c := fun c h1 h2 => k4 c h1 (fun e => h2 (by rw [e]; rfl))
  have e4 := (g4 eb (by omega) (fun e => hb eb e rfl)).trans ((g1 eb hen).trans he)
  simp [clearF_get, hF, e4, R15_2, ebC]
  refine ⟨by simp [IntKind.wrap, IntKind.signed, IntKind.bits]; omega, ?_⟩
  have kk : ∀ c, c ≠ eb → (H4.put eb (some (ABlk.cells 4 [] [.int .i64 R, .int .i64 0, .sl (n + 1 + 1) 0 (l.length + 1) 15, nilS] .nil))).get c = H4.get c := fun c hc => by simp [hc]
  refine ⟨?_, by omega, fun c h1 h2 h3 => ?_, by omega, fun c hc => ?_⟩
  · rw [insC_append, ins_one]
    exact o4.frame (Nat.le_refl _) fun c hc => kk c (by simp at hc; omega)
  · rw [if_neg h2, g4 c (by omega) h3, g1 c h1]
  · rw [kk c (by omega), g4 c (by omega) (fun e => by have := vb c e; omega)]
    exact t1 c (by omega)
end Go.Abs
