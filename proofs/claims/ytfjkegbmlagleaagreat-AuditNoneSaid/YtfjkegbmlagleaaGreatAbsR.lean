/- The abstract machine: what it stands for; new blocks, stored ones, blocks that are taken over. -/
import Derived.Test.YtfjkegbmlagleaaGreatAbsC
namespace Go.Abs

/-- of an abstract block: the concrete one, its first cell there, how many cells the concrete one has -/
abbrev Ph := Nat → Option (Nat × Nat × Nat)
/-- immutable concrete blocks -/
abbrev Da := Nat → Option (Array Value)
abbrev Hf := Nat → Option ABlk
abbrev Ff := Nat → Option AV

mutual
inductive VR (φ : Ph) (D : Da) : AV → Value → Prop
  | int (k n) : VR φ D (.int k n) (.int k n)
  | bool (b) : VR φ D (.bool b) (.bool b)
  | str (s : ByteArray) (l : List Nat) : s.data.toList.map UInt8.toNat = l → VR φ D (.str l) (.string s)
  | ptr (b o cb co cz) : φ b = some (cb, co, cz) → VR φ D (.ptr b o) (.pointer (some ⟨cb, co + o, none⟩))
  | sl (b o len sz cb co cz cap ad) : φ b = some (cb, co, cz) → len ≤ cap → (0 < cap → ad = ⟨cb, co + o, none⟩ ∧ co + o + cap * sz ≤ cz) →
      VR φ D (.sl b o len sz) (.slice (some ad) len cap)
  | agg (cs l n) : VRs φ D cs l → cs.length = n → VR φ D (.agg cs n) (.agg ⟨l⟩)
  | tup (cs l) : VRs φ D cs l → VR φ D (.tup cs) (.tuple ⟨l⟩)
  | ifc (t v x) : VR φ D v x → VR φ D (.ifc t v) (.iface t x)
  | fn (f a b x y) : VRs φ D a x → VRs φ D b y → VR φ D (.fn f a b) (.func f ⟨x⟩ ⟨y⟩)
  | map (b cb co cz) : φ b = some (cb, co, cz) → VR φ D (.map b) (.map (some cb))
  | ds (cs len sz cap cb co cells l) : D cb = some cells → l = (cells.toList.drop co).take (len * sz) → cs.length = len * sz → VRs φ D cs l → len ≤ cap →
      VR φ D (.ds cs len sz) (.slice (some ⟨cb, co, none⟩) len cap)
  | ds0 (sz cap ad) : VR φ D (.ds [] 0 sz) (.slice (some ad) 0 cap)
  | dsn (sz) : VR φ D (.ds [] 0 sz) (.slice none 0 0)
  | dp (cs cb co cells l) : D cb = some cells → l = (cells.toList.drop co).take cs.length → VRs φ D cs l → VR φ D (.dp cs) (.pointer (some ⟨cb, co, none⟩))
  | yld (b cb co cz) : φ b = some (cb, co, cz) → VR φ D (.yld b) (.func (.yield cb) #[] #[])
  | cst (v) : atom v = true → VR φ D (.cst v) v
inductive VRs (φ : Ph) (D : Da) : List AV → List Value → Prop
  | nil : VRs φ D [] []
  | cons (v x vs xs) : VR φ D v x → VRs φ D vs xs → VRs φ D (v :: vs) (x :: xs)
end

section
variable {φ φ' : Ph} {D D' : Da}
mutual
theorem VR.mono (hφ : ∀ b x, φ b = some x → φ' b = some x) (hD : ∀ c x, D c = some x → D' c = some x) : ∀ {v x}, VR φ D v x → VR φ' D' v x
  | _, _, .int _ _ => .int _ _
  | _, _, .bool _ => .bool _
  | _, _, .str _ _ h => .str _ _ h
  | _, _, .ptr _ _ _ _ _ h => .ptr _ _ _ _ _ (hφ _ _ h)
  | _, _, .sl _ _ _ _ _ _ _ _ _ h a b => .sl _ _ _ _ _ _ _ _ _ (hφ _ _ h) a b
  | _, _, .agg _ _ _ h e => .agg _ _ _ (VRs.mono hφ hD h) e
  | _, _, .tup _ _ h => .tup _ _ (VRs.mono hφ hD h)
  | _, _, .ifc _ _ _ h => .ifc _ _ _ (VR.mono hφ hD h)
  | _, _, .fn _ _ _ _ _ h k => .fn _ _ _ _ _ (VRs.mono hφ hD h) (VRs.mono hφ hD k)
  | _, _, .map _ _ _ _ h => .map _ _ _ _ (hφ _ _ h)
  | _, _, .ds _ _ _ _ _ _ _ _ h a b c d => .ds _ _ _ _ _ _ _ _ (hD _ _ h) a b (VRs.mono hφ hD c) d
  | _, _, .ds0 _ _ _ => .ds0 _ _ _
  | _, _, .dsn _ => .dsn _
  | _, _, .dp _ _ _ _ _ h a b => .dp _ _ _ _ _ (hD _ _ h) a (VRs.mono hφ hD b)
  | _, _, .yld _ _ _ _ h => .yld _ _ _ _ (hφ _ _ h)
  | _, _, .cst _ h => .cst _ h
theorem VRs.mono (hφ : ∀ b x, φ b = some x → φ' b = some x) (hD : ∀ c x, D c = some x → D' c = some x) : ∀ {v x}, VRs φ D v x → VRs φ' D' v x
  | _, _, .nil => .nil
  | _, _, .cons _ _ _ _ h k => .cons _ _ _ _ (VR.mono hφ hD h) (VRs.mono hφ hD k)
end

theorem VRs.length : ∀ {vs xs}, VRs φ D vs xs → vs.length = xs.length
  | _, _, .nil => rfl
  | _, _, .cons _ _ _ _ _ k => by simp [VRs.length k]
theorem VRs.get {vs : List AV} {xs : List Value} (h : VRs φ D vs xs) : ∀ {i : Nat} {v : AV}, vs[i]? = some v → ∃ x, xs[i]? = some x ∧ VR φ D v x := by
  induction vs generalizing xs with
  | nil => intro i v hv; simp at hv
  | cons a r ih =>
    cases h with
    | cons _ x _ xs h1 h2 =>
      intro i v hv
      cases i with
      | zero => simp at hv; subst hv; exact ⟨x, rfl, h1⟩
      | succ i => simp at hv; simpa using ih h2 hv
theorem VRs.of_get : ∀ {vs : List AV} {xs : List Value}, vs.length = xs.length → (∀ (i : Nat) (v : AV), vs[i]? = some v → ∃ x, xs[i]? = some x ∧ VR φ D v x) → VRs φ D vs xs
  | [], [], _, _ => .nil
  | [], _ :: _, h, _ => by simp at h
  | _ :: _, [], h, _ => by simp at h
  | v :: vs, x :: xs, h, hg => by
    obtain ⟨y, hy, hv⟩ := hg 0 v rfl
    simp at hy; subst hy
    exact .cons _ _ _ _ hv (VRs.of_get (by simpa using h) fun i u hu => hg (i + 1) u (by simpa using hu))
theorem VRs.append {a b x y} (h : VRs φ D a x) (k : VRs φ D b y) : VRs φ D (a ++ b) (x ++ y) := by
  induction a generalizing x with
  | nil => cases h; simpa using k
  | cons v r ih => cases h with
    | cons _ u _ us h1 h2 => exact .cons _ _ _ _ h1 (ih h2)
theorem VRs.drop {a x} (n : Nat) (h : VRs φ D a x) : VRs φ D (a.drop n) (x.drop n) := by
  induction n generalizing a x with
  | zero => simpa using h
  | succ n ih => cases h with
    | nil => exact .nil
    | cons _ _ _ _ _ h2 => simpa using ih h2
theorem VRs.take {a x} (n : Nat) (h : VRs φ D a x) : VRs φ D (a.take n) (x.take n) := by
  induction n generalizing a x with
  | zero => simpa using VRs.nil
  | succ n ih => cases h with
    | nil => exact .nil
    | cons _ _ _ _ h1 h2 => simpa using VRs.cons _ _ _ _ h1 (ih h2)
def isOne : Value → Bool
  | .agg _ | .tuple _ => false
  | _ => true
theorem atom_one {x : Value} (h : atom x = true) : isOne x = true := by
  cases x <;> simp_all [atom, isOne]
theorem cells_one {x : Value} (h : isOne x = true) : x.cells.toList = [x] := by
  cases x <;> simp_all [isOne, Value.cells]
theorem VR.cells {v x} (h : VR φ D v x) : VRs φ D v.cells x.cells.toList := by
  cases h with
  | agg _ _ _ h _ => exact h
  | cst _ hv => rw [cells_one (atom_one hv)]; exact .cons _ _ _ _ (.cst _ hv) .nil
  | ds0 => exact .cons _ _ _ _ (.ds0 _ _ _) .nil
  | dsn => exact .cons _ _ _ _ (.dsn _) .nil
  | _ => exact .cons _ _ _ _ (by constructor <;> assumption) .nil
theorem VR.len {v x} (h : VR φ D v x) : v.len = v.cells.length := by
  cases h with
  | agg _ _ _ _ h => exact h.symm
  | _ => rfl
theorem VR.one {v x} (h : VR φ D v x) (ho : v.one = true) : isOne x = true := by
  cases h with
  | cst _ hv => exact atom_one hv
  | agg => simp [AV.one] at ho
  | tup => simp [AV.one] at ho
  | _ => rfl
end

/-! ### blocks -/
def jumpCode : AOut → Option Code
  | .normal => none
  | .exit i => some (.exit i)
  | .ret => some .ret

def FR (φ : Ph) (D : Da) (F : Ff) (tmps : Array Value) : Prop := ∀ t v, F t = some v → ∃ x, tmps[t]? = some x ∧ VR φ D v x

inductive EsR (φ : Ph) (D : Da) : List (AV × AV × Nat) → List MapEntry → Prop
  | nil : EsR φ D [] []
  | cons (k v b x y es l) : VR φ D k x → VR φ D v y → EsR φ D es l → EsR φ D ((k, v, b) :: es) (⟨x, y, b⟩ :: l)

/-- none of the first k cells is marked -/
def Nfr (k : Nat) (fr : Nat × Nat) : Prop := fr.1 = fr.2 ∨ k ≤ fr.1
theorem Nfr.at {k : Nat} {fr : Nat × Nat} (h : Nfr k fr) : ∀ i, i < k → ¬ (fr.1 ≤ i ∧ i < fr.2) := by
  intro i hi h2; unfold Nfr at h; omega

def BlkR (φ : Ph) (D : Da) (w : World) (p : Nat × Nat × Nat) : ABlk → Prop
  | .cells u z bs t => ∃ c e fr, w.heap[p.1]? = some (.cells c e fr) ∧ c.size = p.2.2 ∧ Nfr c.size fr ∧
      (∀ i v, getc u z bs t i = some v → ∃ x, c[p.2.1 + i]? = some x ∧ VR φ D v x) ∧ (t = .nil → z = [] → bs.length = u) ∧ p.2.1 + u ≤ p.2.2
  | .map es clk => ∃ ces, w.heap[p.1]? = some (.map ces clk) ∧ EsR φ D es ces.toList
  | .loop st j nt F ps a b => ∃ (r : Loop), w.heap[p.1]? = some (.loop r) ∧ r.state = st ∧ r.pending = jumpCode j ∧ r.tmps.size = nt ∧ FR φ D F.get r.tmps ∧ r.params.toList = ps ∧ r.assign = a ∧ r.body = b
  | .defd => w.heap[p.1]? = some (.deferred (some []))
  | .iter m since seen last => p.2.1 = 0 ∧ ∃ cm : Option Nat, w.heap[p.1]? = some (.mapIter cm since ⟨seen⟩ last) ∧ (match m with
      | none => cm = none
      | some b => ∃ cb co cz, φ b = some (cb, co, cz) ∧ cm = some cb)

theorem FR.mono {φ φ' D D' F tmps} (hφ : ∀ b x, φ b = some x → φ' b = some x) (hD : ∀ c x, D c = some x → D' c = some x) (h : FR φ D F tmps) : FR φ' D' F tmps :=
  fun t v hv => let ⟨x, a, b⟩ := h t v hv; ⟨x, a, b.mono hφ hD⟩
theorem EsR.mono {φ φ' D D'} (hφ : ∀ b x, φ b = some x → φ' b = some x) (hD : ∀ c x, D c = some x → D' c = some x) : ∀ {es l}, EsR φ D es l → EsR φ' D' es l
  | _, _, .nil => .nil
  | _, _, .cons _ _ _ _ _ _ _ h k r => .cons _ _ _ _ _ _ _ (h.mono hφ hD) (k.mono hφ hD) (EsR.mono hφ hD r)
theorem BlkR.mono {φ φ' D D' w w' p k} (hφ : ∀ b x, φ b = some x → φ' b = some x) (hD : ∀ c x, D c = some x → D' c = some x)
    (hw : w'.heap[p.1]? = w.heap[p.1]?) (h : BlkR φ D w p k) : BlkR φ' D' w' p k := by
  cases k with
  | cells u z bs t =>
    obtain ⟨c, e, fr, h1, h2, h3, h4, h5⟩ := h
    exact ⟨c, e, fr, hw.trans h1, h2, h3, fun i v hv => let ⟨x, a, b⟩ := h4 i v hv; ⟨x, a, b.mono hφ hD⟩, h5⟩
  | map es clk => obtain ⟨ces, h1, h2⟩ := h; exact ⟨ces, hw.trans h1, h2.mono hφ hD⟩
  | loop st j nt F ps a b =>
    obtain ⟨r, h1, h2, h3, h4, h5, h6⟩ := h
    exact ⟨r, hw.trans h1, h2, h3, h4, h5.mono hφ hD, h6⟩
  | defd => exact hw.trans h
  | iter m since seen last =>
    obtain ⟨h0, cm, h1, h2⟩ := h
    refine ⟨h0, cm, hw.trans h1, ?_⟩
    cases m with
    | none => exact h2
    | some b => obtain ⟨cb, co, cz, h3, h4⟩ := h2; exact ⟨cb, co, cz, hφ _ _ h3, h4⟩

structure Rel (φ : Ph) (D : Da) (h : Hf) (w : World) : Prop where
  blk : ∀ b k, h b = some k → ∃ p, φ b = some p ∧ p.1 < w.heap.size ∧ BlkR φ D w p k
  inj : ∀ b c p q, h b ≠ none → h c ≠ none → φ b = some p → φ c = some q → p.1 = q.1 → b = c
  sep : ∀ b p, h b ≠ none → φ b = some p → D p.1 = none
  dat : ∀ c x, D c = some x → ∃ e fr, w.heap[c]? = some (.cells x e fr)

/-- from one moment to a later one -/
structure Ext (φ : Ph) (D : Da) (h : Hf) (w : World) (n : Nat) (φ' : Ph) (D' : Da) (h' : Hf) (w' : World) (n' : Nat) : Prop where
  le : n ≤ n'
  phi : ∀ b x, φ b = some x → φ' b = some x
  new : ∀ b, φ b = none → φ' b ≠ none → n ≤ b ∧ b < n'
  dat : ∀ c x, D c = some x → D' c = some x
  size : w.heap.size ≤ w'.heap.size
  keep : ∀ c, c < w.heap.size → (∀ b p, h b ≠ none → φ b = some p → p.1 ≠ c) → w'.heap[c]? = w.heap[c]?
  live : ∀ b p, h' b ≠ none → φ' b = some p → w.heap.size ≤ p.1 ∨ ∃ b0 p0, h b0 ≠ none ∧ φ b0 = some p0 ∧ p0.1 = p.1
  dnew : ∀ c, D' c ≠ none → D c ≠ none ∨ w.heap.size ≤ c ∨ ∃ b0 p0, h b0 ≠ none ∧ φ b0 = some p0 ∧ p0.1 = c
  hid : ∀ b, h' b ≠ none → h b ≠ none ∨ (n ≤ b ∧ b < n')
  os : w'.os = w.os
  out : w'.output = w.output

def Fresh (φ : Ph) (n n' : Nat) : Prop := ∀ b, n ≤ b → b < n' → φ b = none

theorem Ext.refl (φ : Ph) (D : Da) (h : Hf) (w : World) (n : Nat) : Ext φ D h w n φ D h w n :=
  ⟨Nat.le_refl _, fun _ _ h => h, fun _ h k => absurd h k, fun _ _ h => h, Nat.le_refl _, fun _ _ _ => rfl, fun _ _ a b => .inr ⟨_, _, a, b, rfl⟩, fun _ h => .inl h, fun _ h => .inl h, rfl, rfl⟩

theorem Ext.trans {φ D h w n φ1 D1 h1 w1 n1 φ2 D2 h2 w2 n2} (a : Ext φ D h w n φ1 D1 h1 w1 n1) (b : Ext φ1 D1 h1 w1 n1 φ2 D2 h2 w2 n2) : Ext φ D h w n φ2 D2 h2 w2 n2 where
  le := Nat.le_trans a.le b.le
  phi := fun c x hx => b.phi _ _ (a.phi _ _ hx)
  new := fun c h0 h2 => by
    have ha := a.le
    have hb := b.le
    cases h1 : φ1 c with
    | none => have := b.new c h1 h2; omega
    | some x => have := a.new c h0 (by simp [h1]); omega
  dat := fun c x hx => b.dat _ _ (a.dat _ _ hx)
  size := Nat.le_trans a.size b.size
  keep := fun c hc hn => by
    have hc1 := Nat.lt_of_lt_of_le hc a.size
    rw [b.keep c hc1 fun d p hd hp e => ?_, a.keep c hc hn]
    rcases a.live d p hd hp with h | ⟨b0, p0, x, y, z⟩
    · omega
    · exact hn b0 p0 x y (z.trans e)
  live := fun c p hc hp => by
    have ha := a.size
    rcases b.live c p hc hp with h | ⟨b0, p0, x, y, z⟩
    · exact .inl (by omega)
    · rcases a.live b0 p0 x y with h | ⟨b1, p1, x1, y1, z1⟩
      · exact .inl (by omega)
      · exact .inr ⟨b1, p1, x1, y1, z1.trans z⟩
  dnew := fun c hc => by
    have ha := a.size
    rcases b.dnew c hc with h | h | ⟨b0, p0, x, y, z⟩
    · exact a.dnew c h
    · exact .inr (.inl (by omega))
    · rcases a.live b0 p0 x y with h | ⟨b1, p1, x1, y1, z1⟩
      · exact .inr (.inl (by omega))
      · exact .inr (.inr ⟨b1, p1, x1, y1, z1.trans z⟩)
  hid := fun c hc => by
    have ha := a.le
    have hb := b.le
    rcases b.hid c hc with h | h
    · rcases a.hid c h with h | h
      · exact .inl h
      · exact .inr (by omega)
    · exact .inr (by omega)
  os := b.os.trans a.os
  out := b.out.trans a.out

theorem Fresh.left {φ n n1 n2} (h : Fresh φ n n2) (h2 : n1 ≤ n2) : Fresh φ n n1 := fun b x y => h b x (by omega)
theorem Fresh.step {φ D h w n φ1 D1 h1 w1 n1 n2} (hf : Fresh φ n n2) (e : Ext φ D h w n φ1 D1 h1 w1 n1) : Fresh φ1 n1 n2 := by
  intro b x y
  cases hb : φ1 b with
  | none => rfl
  | some p =>
    have h0 := hf b (by have := e.le; omega) y
    have := e.new b h0 (by simp [hb])
    omega

/-! ### heaps, as functions -/
def Hf.set (h : Hf) (b : Nat) (k : Option ABlk) : Hf := fun c => if c = b then k else h c
def Ph.set (φ : Ph) (b : Nat) (p : Nat × Nat × Nat) : Ph := fun c => if c = b then some p else φ c
def World.newObj (w : World) (o : Obj) : World := { w with heap := w.heap.push o }
def World.putObj (w : World) (c : Nat) (o : Obj) : World := { w with heap := w.heap.setIfInBounds c o }

theorem Ph.set_mono {φ : Ph} {n : Nat} {p} (hn : φ n = none) : ∀ b x, φ b = some x → (φ.set n p) b = some x := by
  intro b x hx
  unfold Ph.set
  split
  · subst b; simp [hn] at hx
  · exact hx

/-- A NEW BLOCK. -/
theorem rel_new {φ D h w n} (hr : Rel φ D h w) (hf : Fresh φ n (n + 1)) (o : Obj) (cz : Nat) (k : ABlk)
    (hk : BlkR (φ.set n (w.heap.size, 0, cz)) D (World.newObj w o) (w.heap.size, 0, cz) k) :
    Rel (φ.set n (w.heap.size, 0, cz)) D (h.set n (some k)) (World.newObj w o) ∧
      Ext φ D h w n (φ.set n (w.heap.size, 0, cz)) D (h.set n (some k)) (World.newObj w o) (n + 1) := by
  have hn : φ n = none := hf n (Nat.le_refl _) (by omega)
  have hm := Ph.set_mono (p := (w.heap.size, 0, cz)) hn
  have hhn : h n = none := by
    cases hx : h n with
    | none => rfl
    | some k => obtain ⟨p, hp, _⟩ := hr.blk n k hx; simp [hn] at hp
  have hold : ∀ c, c < w.heap.size → (World.newObj w o).heap[c]? = w.heap[c]? := by
    intro c hc
    simp [World.newObj, Array.getElem?_push, Nat.ne_of_lt hc]
  have hlt : ∀ b p, h b ≠ none → φ b = some p → p.1 < w.heap.size := by
    intro b p hb hp
    cases hx : h b with
    | none => exact absurd hx hb
    | some k => obtain ⟨q, hq, hl, _⟩ := hr.blk b k hx; rw [hp] at hq; injection hq with hq; subst hq; exact hl
  have hdl : ∀ c x, D c = some x → c < w.heap.size := by
    intro c x hx
    obtain ⟨e, fr, hh⟩ := hr.dat c x hx
    exact (Array.getElem?_eq_some_iff.1 hh).1
  refine ⟨⟨?_, ?_, ?_, ?_⟩, ⟨by omega, hm, ?_, fun _ _ h => h, ?_, ?_, ?_, fun _ h => .inl h, ?_, rfl, rfl⟩⟩
  · intro b k' hb
    unfold Hf.set at hb
    split at hb
    · subst b; injection hb with hb; subst hb
      exact ⟨_, by simp [Ph.set], by simp [World.newObj], hk⟩
    · obtain ⟨p, hp, hl, hb'⟩ := hr.blk b k' hb
      exact ⟨p, hm _ _ hp, by simp [World.newObj]; omega, hb'.mono hm (fun _ _ h => h) (hold _ hl)⟩
  · intro b c p q hb hc hp hq e
    unfold Hf.set at hb hc
    unfold Ph.set at hp hq
    by_cases e1 : b = n <;> by_cases e2 : c = n <;> simp [e1, e2] at hb hc hp hq ⊢
    · have := hlt c q hc hq; rw [← hp] at e; simp at e; omega
    · have := hlt b p hb hp; rw [← hq] at e; simp at e; omega
    · exact hr.inj b c p q hb hc hp hq e
  · intro b p hb hp
    unfold Hf.set at hb
    unfold Ph.set at hp
    by_cases e1 : b = n <;> simp [e1] at hb hp
    · rw [← hp]
      cases hx : D w.heap.size with
      | none => rfl
      | some x => have := hdl _ _ hx; omega
    · exact hr.sep b p hb hp
  · intro c x hx
    obtain ⟨e, fr, hh⟩ := hr.dat c x hx
    exact ⟨e, fr, (hold c (hdl c x hx)).trans hh⟩
  · intro b h0 h1
    unfold Ph.set at h1
    by_cases e1 : b = n
    · omega
    · simp [e1, h0] at h1
  · simp [World.newObj]
  · exact fun c hc _ => hold c hc
  · intro b p hb hp
    unfold Hf.set at hb
    unfold Ph.set at hp
    by_cases e1 : b = n <;> simp [e1] at hb hp
    · exact .inl (by simp [← hp])
    · exact .inr ⟨b, p, hb, hp, rfl⟩
  · intro b hb
    unfold Hf.set at hb
    by_cases e1 : b = n
    · exact .inr (by omega)
    · simp [e1] at hb; exact .inl hb

theorem Rel.block {φ D h w b k} (hr : Rel φ D h w) (hb : h b = some k) {p} (hp : φ b = some p) : p.1 < w.heap.size ∧ BlkR φ D w p k := by
  obtain ⟨q, hq, hl, hk⟩ := hr.blk b k hb
  rw [hp] at hq; injection hq with hq; subst hq
  exact ⟨hl, hk⟩

/-- A BLOCK THAT TURNS. -/
theorem rel_upd {φ D h w n b k p} (hr : Rel φ D h w) (hb : h b ≠ none) (hp : φ b = some p) (w' : World)
    (hw : ∀ c, c ≠ p.1 → w'.heap[c]? = w.heap[c]?) (hs : w'.heap.size = w.heap.size) (hos : w'.os = w.os) (hout : w'.output = w.output)
    (hk : BlkR φ D w' p k) : Rel φ D (h.set b (some k)) w' ∧ Ext φ D h w n φ D (h.set b (some k)) w' n := by
  have hlive : ∀ c, (h.set b (some k)) c ≠ none ↔ h c ≠ none := by
    intro c; unfold Hf.set; by_cases e : c = b <;> simp [e, hb]
  refine ⟨⟨?_, ?_, ?_, ?_⟩, ⟨Nat.le_refl _, fun _ _ h => h, fun _ a c => absurd a c, fun _ _ h => h, by omega, ?_, ?_, fun _ h => .inl h, ?_, hos, hout⟩⟩
  · intro c k' hc
    unfold Hf.set at hc
    by_cases e : c = b
    · simp [e] at hc; subst hc; subst e
      refine ⟨p, hp, ?_, hk⟩
      cases hx : h c with
      | none => exact absurd hx hb
      | some k0 => rw [hs]; exact (hr.block hx hp).1
    · simp [e] at hc
      obtain ⟨q, hq, hl, hk'⟩ := hr.blk c k' hc
      exact ⟨q, hq, by omega, hk'.mono (fun _ _ h => h) (fun _ _ h => h) (hw _ fun e' => e (hr.inj c b q p (by simp [hc]) hb hq hp e'))⟩
  · intro c d q r hc hd; exact hr.inj c d q r ((hlive c).1 hc) ((hlive d).1 hd)
  · intro c q hc; exact hr.sep c q ((hlive c).1 hc)
  · intro c x hx
    obtain ⟨e, fr, hh⟩ := hr.dat c x hx
    refine ⟨e, fr, (hw c fun e' => ?_).trans hh⟩
    have := hr.sep b p hb hp
    rw [← e', hx] at this; cases this
  · intro c _ hn; exact hw c fun e => hn b p hb hp e.symm
  · intro c q hc hq; exact .inr ⟨c, q, (hlive c).1 hc, hq, rfl⟩
  · intro c hc; exact .inl ((hlive c).1 hc)

/-- A BLOCK IS TAKEN OVER under a new number: a cut of it, in place. -/
theorem rel_take {φ D h w n b k p q} (hr : Rel φ D h w) (hf : Fresh φ n (n + 1)) (hb : h b ≠ none) (hp : φ b = some p) (hq : q.1 = p.1) (w' : World)
    (hw : ∀ c, c ≠ p.1 → w'.heap[c]? = w.heap[c]?) (hs : w'.heap.size = w.heap.size) (hos : w'.os = w.os) (hout : w'.output = w.output)
    (hk : BlkR (φ.set n q) D w' q k) :
    Rel (φ.set n q) D ((h.set b none).set n (some k)) w' ∧ Ext φ D h w n (φ.set n q) D ((h.set b none).set n (some k)) w' (n + 1) := by
  have hn : φ n = none := hf n (Nat.le_refl _) (by omega)
  have hm := Ph.set_mono (p := q) hn
  have hhn : h n = none := by
    cases hx : h n with
    | none => rfl
    | some k => obtain ⟨p, hp, _⟩ := hr.blk n k hx; simp [hn] at hp
  have hbn : b ≠ n := fun e => by rw [e] at hb; exact hb hhn
  have hget : ∀ c, ((h.set b none).set n (some k)) c = if c = n then some k else if c = b then none else h c := fun c => rfl
  refine ⟨⟨?_, ?_, ?_, ?_⟩, ⟨by omega, hm, ?_, fun _ _ h => h, by omega, ?_, ?_, fun _ h => .inl h, ?_, hos, hout⟩⟩
  · intro c k' hc
    rw [hget] at hc
    by_cases e : c = n
    · simp [e] at hc; subst hc; subst e
      refine ⟨q, by simp [Ph.set], ?_, hk⟩
      cases hx : h b with
      | none => exact absurd hx hb
      | some k0 => rw [hs, hq]; exact (hr.block hx hp).1
    · by_cases e2 : c = b
      · simp [e2] at hc; omega
      · simp [e, e2] at hc
        obtain ⟨r, hr', hl, hk'⟩ := hr.blk c k' hc
        exact ⟨r, hm _ _ hr', by omega, hk'.mono hm (fun _ _ h => h) (hw _ fun e' => e2 (hr.inj c b r p (by simp [hc]) hb hr' hp e'))⟩
  · intro c d r s hc hd hr' hs' e
    rw [hget] at hc hd
    unfold Ph.set at hr' hs'
    by_cases e1 : c = n <;> by_cases e2 : d = n <;> simp [e1, e2] at hc hd hr' hs' ⊢
    · subst hr'
      have := hr.inj b d p s hb hd.2 hp hs' (by rw [← hq]; exact e)
      omega
    · subst hs'
      have := hr.inj b c p r hb hc.2 hp hr' (by rw [← hq]; exact e.symm)
      omega
    · exact hr.inj c d r s hc.2 hd.2 hr' hs' e
  · intro c r hc hr'
    rw [hget] at hc
    unfold Ph.set at hr'
    by_cases e1 : c = n <;> simp [e1] at hc hr'
    · subst hr'; rw [hq]; exact hr.sep b p hb hp
    · exact hr.sep c r hc.2 hr'
  · intro c x hx
    obtain ⟨e, fr, hh⟩ := hr.dat c x hx
    refine ⟨e, fr, (hw c fun e' => ?_).trans hh⟩
    have := hr.sep b p hb hp
    rw [← e', hx] at this; cases this
  · intro c h0 h1
    unfold Ph.set at h1
    by_cases e1 : c = n
    · omega
    · simp [e1, h0] at h1
  · intro c _ hn'; exact hw c fun e => hn' b p hb hp e.symm
  · intro c r hc hr'
    rw [hget] at hc
    unfold Ph.set at hr'
    by_cases e1 : c = n <;> simp [e1] at hc hr'
    · subst hr'; exact .inr ⟨b, p, hb, hp, hq.symm⟩
    · exact .inr ⟨c, r, hc.2, hr', rfl⟩
  · intro c hc
    rw [hget] at hc
    by_cases e1 : c = n
    · exact .inr (by omega)
    · simp [e1] at hc; exact .inl hc.2

/-- A BLOCK IS FORGOTTEN. -/
theorem rel_kill {φ D h w n b} (hr : Rel φ D h w) : Rel φ D (h.set b none) w ∧ Ext φ D h w n φ D (h.set b none) w n := by
  have hl : ∀ c, (h.set b none) c ≠ none → h c ≠ none := by
    intro c; unfold Hf.set; by_cases e : c = b <;> simp [e]
  refine ⟨⟨?_, fun c d q r hc hd => hr.inj c d q r (hl c hc) (hl d hd), fun c q hc => hr.sep c q (hl c hc), hr.dat⟩,
    ⟨Nat.le_refl _, fun _ _ h => h, fun _ a c => absurd a c, fun _ _ h => h, Nat.le_refl _, fun _ _ _ => rfl, fun c q hc hq => .inr ⟨c, q, hl c hc, hq, rfl⟩, fun _ h => .inl h, fun c hc => .inl (hl c hc), rfl, rfl⟩⟩
  intro c k hc
  unfold Hf.set at hc
  by_cases e : c = b
  · simp [e] at hc
  · simp [e] at hc; exact hr.blk c k hc

/-- the same heap by another name -/
theorem Rel.congr {φ D h h' w} (hr : Rel φ D h w) (e : ∀ b, h' b = h b) : Rel φ D h' w := by
  have : h' = h := funext e
  rw [this]; exact hr
end Go.Abs
