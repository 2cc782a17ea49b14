/- What is read as data: its values. -/
import Derived.Test.YtfjkegbmlagleaaGreatAbsOw
import Derived.ChangeArms
import Derived.Carry
import Derived.OpenShut
import Derived.ProofKit
import Derived.JoinedCond
import Derived.WalkKit
namespace Go.Abs
open Go.RowKit Go.ChangeShapes

/-- every block of cells, as it is -/
def DofW (w : World) : Da := fun c => match w.heap[c]? with
  | some (.cells x _ _) => some x
  | _ => none
theorem dofW_dat (w : World) : Dat (DofW w) w := by
  intro c x h
  unfold DofW at h
  split at h
  · rename_i y e fr hy; injection h with h; subst h; exact ⟨e, fr, hy⟩
  · cases h
inductive All2 {α β : Type} (R : α → β → Prop) : List α → List β → Prop
  | nil : All2 R [] []
  | cons {a b l m} : R a b → All2 R l m → All2 R (a :: l) (b :: m)
theorem All2.append {α β : Type} {R : α → β → Prop} {a b c d} (h : All2 R a b) (k : All2 R c d) : All2 R (a ++ c) (b ++ d) := by
  induction h with
  | nil => exact k
  | cons h1 _ ih => exact .cons h1 ih
section
variable {H : Type} {enc : TypeId × Value → H} {P : Program} {w : World} {base : Nat} {spare : Nat → Bool} {held : Bool}

theorem mapM_get {α : Type} {f : Nat → Option α} : ∀ {k : Nat} {l : List α}, (List.range k).mapM f = some l → l.length = k ∧ ∀ i, i < k → f i = l[i]? := by
  intro k l h
  exact ⟨by simpa using mapM_some_length h, fun i hi => mapM_some_get h i i (by simp [hi])⟩

theorem cells_chunk {cb co i s : Nat} {x : Array Value} {e : TypeId} {fr : Nat × Nat} {cs : List Value} (hx : w.heap[cb]? = some (.cells x e fr)) (h : w.cells? base ((⟨cb, co, none⟩ : Addr).add i) s = some cs) : cs = (x.toList.drop (co + i)).take s ∧ cs.length = s := by
  unfold World.cells? at h
  split at h
  · obtain ⟨hl, hg⟩ := mapM_get h
    refine ⟨?_, hl⟩
    apply List.ext_getElem?
    intro j
    by_cases hj : j < s
    · rw [← hg j hj, List.getElem?_take, if_pos hj, List.getElem?_drop]
      have ha : ((⟨cb, co, none⟩ : Addr).add i).add j = ⟨cb, co + i + j, none⟩ := by
        unfold Addr.add
        by_cases h1 : i = 0 <;> by_cases h2 : j = 0 <;> simp [h1, h2]
      rw [ha]
      simp [World.cell?, hx]
    · rw [List.getElem?_eq_none (by omega), List.getElem?_eq_none (by simp; omega)]
  · cases h

theorem flatMap_len {α : Type} {av : α → List AV} {s : Nat} (hav : ∀ a, (av a).length = s) (l : List α) : (l.flatMap av).length = l.length * s := by
  induction l with
  | nil => simp
  | cons a r ih => rw [List.flatMap_cons, List.length_append, ih, hav, List.length_cons, Nat.add_mul]; omega
/-- A SLICE, READ: its elements' values. -/
theorem read_slice {α : Type} {av : α → List AV} {R : α → DataW H → Prop} {t e : TypeId} {s fuel : Nat} {cs : List Value} {x : DataW H × List MemPlace} (ht : P.underlying t = some (.slice e)) (hs : P.cellsOf e = s) (h0 : 0 < s) (hav : ∀ a, (av a).length = s)
    (hel : ∀ n cs y, n < fuel → DataW.trod enc P w base spare held n e cs = some y → ∃ a, VRs PhN (DofW w) (av a) cs ∧ R a y.1)
    (h : DataW.trod enc P w base spare held fuel t cs = some x) : ∃ v l, cs = [v] ∧ VR PhN (DofW w) (.ds (l.flatMap av) l.length s) v ∧ ((l = [] ∧ x.1 = .nil) ∨ ∃ ds rest, x.1 = .slice ds rest ∧ All2 R l ds) := by
  rcases DataW.trod_slice ht h with ⟨rfl, rfl⟩ | ⟨a, len, cap, elems, rest, n, rfl, rfl, rfl, _, hle, _, hlen, hg, _, _⟩
  · exact ⟨_, [], rfl, .dsn _, .inl ⟨rfl, rfl⟩⟩
  · refine ⟨.slice (some a) len cap, ?_⟩
    by_cases hl0 : len = 0
    · subst hl0
      have : elems = [] := List.length_eq_zero_iff.1 hlen
      subst this
      exact ⟨[], rfl, .ds0 _ _ _, .inr ⟨_, _, rfl, .nil⟩⟩
    · rw [hs] at hg
      -- the block
      have h00 := hg 0 (by omega)
      have hlt0 : 0 < elems.length := by omega
      rw [List.getElem?_eq_getElem hlt0, Option.bind_eq_some_iff] at h00
      obtain ⟨cs0, hc0, _⟩ := h00
      obtain ⟨cb, co, sp⟩ := a
      have hsp : sp = none ∧ ∃ x e fr, w.heap[cb]? = some (.cells x e fr) := by
        unfold World.cells? at hc0
        split at hc0
        · obtain ⟨hl, hg'⟩ := mapM_get hc0
          have := hg' 0 h0
          rw [List.getElem?_eq_getElem (by omega)] at this
          simp only [Nat.zero_mul, Addr.add, if_true, World.cell?] at this
          split at this
          · rename_i x e fr hx
            cases sp with
            | none => exact ⟨rfl, x, e, fr, hx⟩
            | some _ => simp at this
          · cases this
        · cases hc0
      obtain ⟨rfl, xs, ee, fr, hx⟩ := hsp
      have hD : DofW w cb = some xs := by simp [DofW, hx]
      have key : ∀ k, k ≤ len → ∃ l : List α, l.length = k ∧ VRs PhN (DofW w) (l.flatMap av) ((xs.toList.drop co).take (k * s)) ∧ All2 R l ((elems.map (·.1)).take k) := by
        intro k
        induction k with
        | zero => intro _; exact ⟨[], rfl, by simpa using VRs.nil, by simpa using All2.nil⟩
        | succ k ih =>
          intro hk
          obtain ⟨l, h1, h2, h3⟩ := ih (by omega)
          have hk' : k < elems.length := by omega
          have := hg k (by omega)
          rw [List.getElem?_eq_getElem hk', Option.bind_eq_some_iff] at this
          obtain ⟨ck, hck, htk⟩ := this
          obtain ⟨b, hb1, hb2⟩ := hel n ck _ (Nat.lt_succ_self n) htk
          obtain ⟨hcc, hcl⟩ := cells_chunk hx hck
          refine ⟨l ++ [b], by simp [h1], ?_, ?_⟩
          · rw [List.flatMap_append, show (k + 1) * s = k * s + s by rw [Nat.add_mul]; simp, List.take_add, List.drop_drop]
            refine h2.append ?_
            rw [← hcc]
            simpa using hb1
          · rw [List.take_succ_eq_append_getElem (by simpa using hk')]
            exact All2.append h3 (.cons (by simpa using hb2) .nil)
      obtain ⟨l, h1, h2, h3⟩ := key len (Nat.le_refl _)
      refine ⟨l, rfl, ?_, .inr ⟨_, _, rfl, ?_⟩⟩
      · rw [h1]
        refine .ds _ _ _ _ _ _ _ _ hD rfl ?_ h2 hle
        rw [flatMap_len hav, h1]
      · rw [List.take_of_length_le (by simp; omega)] at h3
        exact h3
end

/-- a struct, read by its cells -/
theorem read_agg {φ : Ph} {D : Da} {cs : List AV} {n : Nat} {v : Value} (hl : cs.length = n) (h2 : n ≠ 1) (h : VRs φ D cs v.cells.toList) : VR φ D (.agg cs n) v := by
  cases v with
  | agg xs => obtain ⟨l⟩ := xs; exact .agg _ _ _ h hl
  | _ => have := h.length; simp [Value.cells] at this; omega
/-! ### a law: the end of its proof -/
theorem kept_of {w w' : World} {may : MemPlace → Prop} (hos : w'.os = w.os) (hout : w'.output = w.output) (hk : ∀ c, c < w.heap.size → w'.heap[c]? = w.heap[c]?) : w.keptBut w' may := by
  refine ⟨hos, hout, fun i hi => ?_⟩
  rw [hk i hi]
  cases w.heap[i]? with
  | none => trivial
  | some o => cases o <;> simp
theorem same_of {w w' : World} (hk : ∀ c, c < w.heap.size → w'.heap[c]? = w.heap[c]?) {p : MemPlace} (hp : p.block < w.heap.size) : w.sameAt w' p := by
  cases p with
  | cell b o => exact World.cell?_of_block (w := w) (hk b hp)
  | map b => exact hk b hp
theorem trod_stays {H : Type} {enc : TypeId × Value → H} {P : Program} {t : TypeId} (hl : laidOutB P = true) (hr : P.readableRec t = true) (hrow : t < P.types.size) {w w' : World} {v : Value} {d : DataW H} {ps : List MemPlace}
    (h : DataW.Trod enc P w 0 (fun _ => true) true t v d ps) (hk : ∀ c, c < w.heap.size → w'.heap[c]? = w.heap[c]?) (hlt : ∀ x ∈ ps, x.block < w.heap.size) :
    DataW.Trod enc P w' 0 (fun b => decide (b < w.heap.size)) true t v d ps :=
  WideElems.Trod_stays hl hr hrow h (fun x hx => same_of hk (hlt x hx)) (fun x hx => by simpa using hlt x hx)
theorem trodAll_stays {H : Type} {enc : TypeId × Value → H} {P : Program} (hl : laidOutB P = true) {w w' : World} (hk : ∀ c, c < w.heap.size → w'.heap[c]? = w.heap[c]?) : ∀ {ts : List TypeId} {vs : List Value} {ds : List (DataW H)} {ps : List MemPlace},
    (∀ t ∈ ts, P.readableRec t = true ∧ t < P.types.size) → DataW.TrodAll enc P w 0 (fun _ => true) true ts vs ds ps → (∀ x ∈ ps, x.block < w.heap.size) → DataW.TrodAll enc P w' 0 (fun b => decide (b < w.heap.size)) true ts vs ds ps
  | [], [], [], _, _, h, _ => h
  | t :: ts, v :: vs, d :: ds, _, ht, ⟨p, q, h1, h2, e⟩, hlt => by
    subst e
    exact ⟨p, q, trod_stays hl (ht t (by simp)).1 (ht t (by simp)).2 h1 hk fun x hx => hlt x (by simp [hx]), trodAll_stays hl hk (fun u hu => ht u (by simp [hu])) h2 fun x hx => hlt x (by simp [hx]), rfl⟩
  | [], _ :: _, _, _, _, h, _ => h.elim
  | [], [], _ :: _, _, _, h, _ => h.elim
  | _ :: _, [], _, _, _, h, _ => h.elim
  | _ :: _, _ :: _, [], _, _, h, _ => h.elim
/-- WHAT A LAW OWES BEHIND ITS CALL: true; what was there is as it was. -/
theorem law_post {H : Type} {enc : TypeId × Value → H} {P : Program} {f : Func} {s : ChangeSpec} {w w' : World} {args : Array Value} {ds gs : List (DataW H)} {before : List MemPlace} {tb : TypeId} (hl : laidOutB P = true)
    (ht : ∀ t ∈ f.params.toList, P.readableRec t = true ∧ t < P.types.size) (hvars : s.vars = []) (hres : f.resultTypes = #[tb]) (hb : P.underlying tb = some .bool)
    (hfn : s.fn H (ds ++ gs) = { results := [.lit (.bool true)], args := ds, vars := [] })
    (hW : DataW.Whole enc P f.params.toList s.vars false w args.toList ds gs before) (hos : w'.os = w.os) (hout : w'.output = w.output) (hk : ∀ c, c < w.heap.size → w'.heap[c]? = w.heap[c]?) :
    s.post enc P f false true false false w args (.bool true) w' := by
  have hW' := hW
  obtain ⟨p, q, hA, hV, rfl, hfz, hnd⟩ := hW
  rw [hvars] at hV
  obtain ⟨rfl, rfl⟩ : gs = [] ∧ q = [] := by
    cases gs with
    | nil => exact ⟨rfl, hV⟩
    | cons => exact hV.elim
  refine ⟨ds, [], p ++ [], [], p, [], hW', ?_, ?_, ?_, kept_of hos hout hk, fun h => by cases h⟩
  · rw [hfn, hres]
    simp only [Value.resultList]
    exact ⟨[], [], ⟨1, by unfold DataW.trod; simp [hb, Value.cells]⟩, rfl, rfl⟩
  · rw [hfn]
    exact trodAll_stays hl hk ht hA fun x hx => by simpa using hW'.lt x (by simp [hx])
  · rw [hfn, hvars]; exact rfl
end Go.Abs
