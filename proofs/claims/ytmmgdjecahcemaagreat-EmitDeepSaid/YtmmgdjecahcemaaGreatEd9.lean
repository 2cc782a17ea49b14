/- A part of the proof. -/
import Derived.Test.YtmmgdjecahcemaaGreatEd8
namespace Go.Abs
open Go.Proofs
set_option maxRecDepth 100000

theorem Ins.av_eq (i : Ins) : i.av = .agg i.cells 15 := Eq.trans rfl rfl
def blk (v : AV) : Option Nat := match v with
  | .sl b _ _ _ => some b
  | _ => none
@[simp] theorem blk_nil : blk nilS = none := rfl
@[simp] theorem blk_sl (b o l s : Nat) : blk (.sl b o l s) = some b := rfl
def natsC (js : List Nat) : List AV := js.map fun (j : Nat) => .int .i64 (j : Int)
@[simp] theorem natsC_len (js : List Nat) : (natsC js).length = js.length := by simp [natsC]
theorem OwnB.uniq {u : Nat} {l l' : List AV} (h : OwnB (.cells u [] l .nil) l') (hu : u = l.length) : l' = l := by
  obtain ⟨u', z, bs, t, e, h1, h2, _⟩ := h
  injection e with e1 e2 e3 e4
  subst e1 e2 e3 e4
  apply List.ext_getElem?
  intro i
  rw [← h2 i, getc_list']
  split
  · rfl
  · rw [List.getElem?_eq_none (by omega)]
theorem nats_not {js : List Nat} {l : List AV} {x : AV} (hx : x ∈ l) (hn : ∀ i, x ≠ .int .i64 i) : natsC js ≠ l := by
  rintro rfl
  simp only [natsC, List.mem_map] at hx
  obtain ⟨j, _, rfl⟩ := hx
  exact hn _ rfl
/-- the emitter and a label -/
structure Emt (H : Hp) (n eb lb : Nat) (R : Int) (l : List Ins) (js : List Nat) (v w : AV) : Prop where
  he : H.get eb = some (.cells 4 [] (ebC R v) .nil)
  hv : VS H v l
  hlb : H.get lb = some (.cells 1 [] [w] .nil)
  hw : OwnS H n w (natsC js) js.length 1
  ht : Top H n
section
variable {H : Hp} {n eb lb : Nat} {R : Int} {l : List Ins} {js : List Nat} {v w : AV}
theorem Emt.ne (s : Emt H n eb lb R l js v w) : eb ≠ lb := by
  rintro rfl
  have := s.he.symm.trans s.hlb
  injection this with this
  injection this with this
  omega
theorem Emt.v_lt (s : Emt H n eb lb R l js v w) {c : Nat} (h : blk v = some c) : c < n ∧ c ≠ eb ∧ c ≠ lb := by
  rcases s.hv with ⟨rfl, _⟩ | ⟨b, rfl, hb, h0⟩
  · cases h
  · simp at h
    subst h
    refine ⟨s.ht.lt hb, ?_, ?_⟩
    · rintro rfl
      have := hb.symm.trans s.he
      injection this with this
      injection this with this
      omega
    · rintro rfl
      have := hb.symm.trans s.hlb
      injection this with this
      injection this with this
      omega
theorem Emt.w_lt (s : Emt H n eb lb R l js v w) {c : Nat} (h : blk w = some c) : c < n ∧ c ≠ eb ∧ blk v ≠ some c ∧ c ≠ lb := by
  obtain ⟨h0, ⟨rfl, _⟩ | ⟨b, k, rfl, hb, hk, ho⟩⟩ := s.hw
  · cases h
  · simp at h
    subst h
    refine ⟨hb, ?_, ?_, ?_⟩
    · rintro rfl
      rw [s.he] at hk
      injection hk with hk
      subst hk
      exact nats_not (x := nilS) (by simp [ebC]) (fun i h => by cases h) (ho.uniq (by simp [ebC]))
    · intro hvb
      rcases s.hv with ⟨rfl, _⟩ | ⟨b', rfl, hb', h1⟩
      · cases hvb
      · simp at hvb
        subst hvb
        rw [hb'] at hk
        injection hk with hk
        subst hk
        match l, h1 with
        | x :: r, _ => exact nats_not (x := .str x.v.s) (by simp [insC, Ins.cells]) (fun i h => by cases h) (ho.uniq (by simp))
    · intro e
      subst e
      rw [s.hlb] at hk
      injection hk with hk
      subst hk
      exact nats_not (x := .sl b 0 js.length 1) (by simp) (fun i h => by cases h) (ho.uniq (by simp))
end
/-- what is left alone -/
def Frm (H : Hp) (n eb lb : Nat) (v w : AV) (H' : Hp) : Prop := ∀ c, c < n → c ≠ eb → c ≠ lb → blk v ≠ some c → blk w ≠ some c → H'.get c = H.get c
theorem delV_get (H : Hp) (v : AV) (c : Nat) : (delV H v).get c = if blk v = some c then none else H.get c := by
  unfold delV
  split
  · rename_i b o l s
    simp [eq_comm]
  · rename_i h
    have : blk v = none := by
      unfold blk
      split
      · rename_i b o l s; exact absurd rfl (h b o l s)
      · rfl
    rw [this]
    simp
theorem putH_get (H : Hp) (n eb : Nat) (R : Int) (l : List Ins) (i : Ins) (v : AV) (c : Nat) : (putH H n eb R l i v).get c = if c = n + 2 then some (.cells ((l.length + 1) * 15) [] (insC (l ++ [i])) .nil) else if c = eb then some (.cells 4 [] (ebC R (.sl (n + 2) 0 (l.length + 1) 15)) .nil) else if blk v = some c then none else H.get c := by
  rw [← delV_get]; simp [putH]
theorem OwnS.frame {H H' : Hp} {n n' : Nat} {w : AV} {l : List AV} {len sz : Nat} (h : OwnS H n w l len sz) (hn : n ≤ n') (hk : ∀ c, blk w = some c → H'.get c = H.get c) : OwnS H' n' w l len sz := by
  obtain ⟨h0, ⟨rfl, h1⟩ | ⟨b, k, rfl, hb, hbk, ho⟩⟩ := h
  · exact ⟨h0, .inl ⟨rfl, h1⟩⟩
  · exact ⟨h0, .inr ⟨b, k, rfl, by omega, (hk b rfl).trans hbk, ho⟩⟩
section
variable {H : Hp} {n eb lb : Nat} {R : Int} {l : List Ins} {js : List Nat} {v w : AV}
theorem Emt.put (s : Emt H n eb lb R l js v w) (i : Ins) : Emt (putH H n eb R l i v) (n + 3) eb lb R (l ++ [i]) js (.sl (n + 2) 0 (l.length + 1) 15) w ∧ Frm H n eb lb v w (putH H n eb R l i v) := by
  have he := s.ht.lt s.he
  have hl := s.ht.lt s.hlb
  have hne := s.ne
  refine ⟨⟨?_, .inr ⟨n + 2, by simp, ?_, by simp⟩, ?_, s.hw.frame (by omega) fun c hc => ?_, fun c hc => ?_⟩, fun c h1 h2 h3 h4 h5 => ?_⟩
  · rw [putH_get, if_neg (by omega), if_pos rfl]
  · rw [putH_get, if_pos rfl]; simp
  · rw [putH_get, if_neg (by omega), if_neg (fun e => hne e.symm), if_neg (fun e => (s.v_lt e).2.2 rfl)]
    exact s.hlb
  · obtain ⟨h1, h2, h3, h4⟩ := s.w_lt hc
    rw [putH_get, if_neg (by omega), if_neg h2, if_neg h3]
  · rw [putH_get, if_neg (by omega), if_neg (by omega)]
    split
    · rfl
    · exact s.ht c (by omega)
  · rw [putH_get, if_neg (by omega), if_neg h2, if_neg h4]
/-- a block more changes nothing -/
theorem Emt.box (s : Emt H n eb lb R l js v w) (k : ABlk) : Emt (H.put n (some k)) (n + 1) eb lb R l js v w := by
  have he := s.ht.lt s.he
  have hl := s.ht.lt s.hlb
  have g : ∀ c, c < n → (H.put n (some k)).get c = H.get c := fun c hc => by
    have : ¬ c = n := by omega
    simp [this]
  refine ⟨(g _ he).trans s.he, ?_, (g _ hl).trans s.hlb, s.hw.frame (by omega) fun c hc => g _ (s.w_lt hc).1, fun c hc => ?_⟩
  · rcases s.hv with h | ⟨b, h1, h2, h3⟩
    · exact .inl h
    · exact .inr ⟨b, h1, (g _ (s.ht.lt h2)).trans h2, h3⟩
  · have : ¬ c = n := by omega
    simp [this, s.ht c (by omega)]
theorem OwnS.appK {ce : Ce} {Hs : List Hp} {F : Fr} {m : List Dm} {Q : QA} {v x : AV} {l new : List AV} {len sz by_ k : Nat} {pd : Pd} {r : List (Option RO)} (h : OwnS H n v l len sz) (hx : sliceCells H sz x = some new) (hk : sliceLen x = some k) (hn : new.length = k * sz)
    (hs : 0 < sz) (hk0 : 0 < k) (hbig : len + k ≤ big) (hby : by_ ≤ 4096) (h1 : allOne new = true)
    (hgo : ∀ H', OwnS H' (n + 1) (.sl n 0 (len + k) sz) (l ++ new) (len + k) sz → (∀ c, c ≠ n → v ≠ .sl c 0 len sz → H'.get c = H.get c) → Ev ((mkR r).f ce (pd.f (.sl n 0 (len + k) sz) F) H' (H' :: Hs) (n + 1) m) Q) : EvI (Go.Abs.cApp sz by_ n v x H) pd r ce F H Hs n m Q := by
  obtain ⟨H', e, h1, h2⟩ := h.cApp hx hk hn hs hk0 hbig hby h1
  unfold EvI
  rw [e]
  exact hgo H' h1 fun c hc => h2 c hc
/-- the label's block anew -/
theorem jump39 (i : Ins) (s : Emt H n eb lb R l js v w) (hl : l.length ≤ 8192) (hj : js.length ≤ 8192) : CallR Tryz.prog 39 [.ptr eb 0, i.av, .ptr lb 0] H n (fun u K k => u = .tup [] ∧ ∃ v' w', Emt K k eb lb R (l ++ [i]) (js ++ [l.length]) v' w' ∧ Frm H n eb lb v w K ∧ (∀ c, blk v' = some c → n ≤ c) ∧ (∀ c, blk w' = some c → n ≤ c) ∧ n ≤ k) := by
  have s1 := s.box (.cells 15 [] i.cells .nil)
  obtain ⟨s2, f2⟩ := s1.put i
  have hp := put15 i l R v _ _ eb s1.he s1.hv s1.ht hl
  generalize hH1 : H.put n (some (.cells 15 [] i.cells .nil)) = H1 at s1 s2 f2 hp
  generalize hH2 : putH H1 (n + 1) eb R l i v = H2 at s2 f2 hp
  have hen := s.ht.lt s.he
  have hln := s.ht.lt s.hlb
  have hb1 : H1.get n = some (.cells 15 [] i.cells .nil) := by rw [← hH1]; simp
  refine CallR.of c39 (by simp [A39]) fun F hF => ?_
  simp [A39, B39, R39_0, R39_1, hF]
  refine DrwV.of (ceL_ok (l := [⟨15, [.ptr eb 0, i.av], H1, n + 1, .int .i64 (l.length : Int), H2, n + 1 + 3⟩]) ?_) ?_
  · simp only [List.mem_cons, List.not_mem_nil, or_false]
    rintro c rfl
    exact hp
  have e0 : Tr.put H n (some (ABlk.cells i.av.len [] i.av.cells .nil)) = H1 := hH1
  rw [e0]
  simp only [Ins.av_eq]
  simp [clearF_get, hF, hb1, ceL_hd, s1.hlb, s2.hlb, noneAt_cons, noneAt_nil, s1.ht.none, s2.ht.none]
  have s3 := s2.box (.cells 1 [] [.int .i64 (l.length : Int)] .nil)
  generalize hH3 : Tr.put H2 (n + 1 + 3) (some (ABlk.cells 1 [] [AV.int IntKind.i64 (l.length : Int)] Ov.nil)) = H3 at s3 ⊢
  have hw3 : H3.get (n + 1 + 3) = some (.cells 1 [] [.int .i64 (l.length : Int)] .nil) := by rw [← hH3]; simp
  have f3 : ∀ c, c < n + 1 + 3 → H3.get c = H2.get c := by
    intro c hc
    have : ¬ c = n + 1 + 3 := by omega
    rw [← hH3]; simp only [Tr.get_put, this, if_false]
  have f1 : ∀ c, c < n → H1.get c = H.get c := by
    intro c hc
    have : ¬ c = n := by omega
    rw [← hH1]; simp [this]
  clear hH1 hH2 hH3 e0
  generalize hm : n + 1 + 3 + 1 = m at s3 ⊢
  refine OwnS.appK (k := 1) (new := [.int .i64 (l.length : Int)]) s3.hw (sliceCells_one hw3) (by simp) (by simp) (by omega) (by omega) (by unfold big; omega) (by omega) (by simp) fun H4 o4 k4 => ?_
  have g4 : ∀ c, c ≠ m → blk w ≠ some c → H4.get c = H3.get c := fun c h1 h2 => k4 c h1 (fun e => h2 (by rw [e]; rfl))
  have l4 := (g4 lb (by omega) (fun e => (s3.w_lt e).2.2.2 rfl)).trans s3.hlb
  simp [clearF_get, hF, l4]
  have hne := s.ne
  have kk : ∀ c, c ≠ lb → (H4.put lb (some (ABlk.cells 1 [] [AV.sl m 0 (js.length + 1) 1] .nil))).get c = H4.get c := fun c hc => by simp [hc]
  have e4 := (g4 eb (by omega) (fun e => (s3.w_lt e).2.1 rfl)).trans s3.he
  have nj : natsC (js ++ [l.length]) = natsC js ++ [.int .i64 (l.length : Int)] := by simp [natsC]
  refine ⟨.sl (n + 1 + 2) 0 (l.length + 1) 15, .sl m 0 (js.length + 1) 1, ⟨(kk eb hne).trans e4, ?_, by simp, ?_, fun c hc => ?_⟩, fun c h1 h2 h3 h4 h5 => ?_, fun c hc => ?_, fun c hc => ?_, by omega⟩
  · rcases s3.hv with ⟨h, _⟩ | ⟨b, h1, h2, h3⟩
    · cases h
    · have hb : n + 1 + 2 = b := by injection h1
      subst hb
      refine .inr ⟨n + 1 + 2, by simp, ?_, h3⟩
      rw [kk _ (by omega), g4 _ (by omega) (fun e => (s3.w_lt e).2.2.1 rfl)]
      exact h2
  · have o5 := o4.frame (H' := H4.put lb (some (ABlk.cells 1 [] [AV.sl m 0 (js.length + 1) 1] .nil))) (Nat.le_refl _) (fun c hc => by
      simp at hc
      subst hc
      exact kk _ (by omega))
    simpa [nj] using o5
  · rw [kk _ (by omega), g4 _ (by omega) (fun e => by have := (s3.w_lt e).1; omega)]
    exact s3.ht c (by omega)
  · rw [kk _ h3, g4 _ (by omega) h5, f3 _ (by omega), f2 c (by omega) h2 h3 h4 h5, f1 c h1]
  · simp at hc; omega
  · simp at hc; omega
end
end Go.Abs
