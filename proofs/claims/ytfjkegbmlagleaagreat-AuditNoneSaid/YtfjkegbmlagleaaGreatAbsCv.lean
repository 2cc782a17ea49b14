/- The abstract machine: a constant's bytes: a slice, as its own type. -/
import Derived.Test.YtfjkegbmlagleaaGreatAbsMp
namespace Go.Abs
section
variable {P : Program}

theorem freeze_put {w : World} {cb off : Nat} {c : Array Value} {e : TypeId} {fr : Nat × Nat} (h : w.heap[cb]? = some (.cells c e fr)) (hf : Nfr c.size fr) (hc : c.size ≤ off) :
    ∃ fr', w.freeze ⟨cb, off, none⟩ 1 = World.putObj w cb (.cells c e fr') ∧ Nfr c.size fr' := by
  obtain ⟨lo, hi⟩ := fr
  have hlt := (Array.getElem?_eq_some_iff.1 h).1
  have hm : ∀ (f : Obj → Obj), w.heap.modify cb f = w.heap.setIfInBounds cb (f (.cells c e (lo, hi))) := by
    intro f
    apply Array.ext
    · simp
    · intro i h1 h2
      have hg : w.heap[cb] = .cells c e (lo, hi) := (Array.getElem?_eq_some_iff.1 h).2
      by_cases hi : cb = i
      · subst hi; simp [Array.getElem_modify, hg]
      · rw [Array.getElem_modify, if_neg hi, Array.getElem_setIfInBounds_ne (h := hi)]
  refine ⟨if lo == hi then (off, off + 1) else (min lo off, max hi (off + 1)), ?_, ?_⟩
  · unfold World.freeze
    rw [if_neg (by decide)]
    show ({ w with heap := w.heap.modify cb _ } : World) = _
    rw [hm]
    rfl
  · unfold Nfr at hf ⊢
    by_cases h0 : lo = hi
    · subst h0; simp; omega
    · have : lo ≠ hi := h0
      simp [h0]
      dsimp only at hf
      omega

theorem ok_s2s {o : Oper} {s d e e' : TypeId} {x : Operand} {g : G} (ho : o.op = .convert s d x) (hg : opd x = some g) (hsd : s = d) (hs : P.underlying s = some (.slice e')) (hd : P.underlying d = some (.slice e)) (he : P.underlying e = some (.int .u8)) : EffOk P o (eS2s g) := by
  intro F H n φ D a w hr hF hf hne
  unfold eS2s at hf hne ⊢
  cases hv : g.f F with
  | none => rw [hv] at hne; exact absurd rfl hne
  | some v =>
    rw [hv] at hf hne
    dsimp only at hf hne ⊢
    have hvr := opd_sound hg F φ D a hF v hv
    unfold cS2s at hf hne ⊢
    split at hne
    · rename_i b off len sz
      dsimp only at hf ⊢
      split at hne
      · rename_i u z bs t hb
        split at hne
        · rename_i hl
          have hl := Nat.le_of_ble_eq_true hl
          generalize hxv : a.eval x = xv at hvr
          cases hvr with
          | sl _ _ _ _ cb co cz cap ad hp hle had =>
          obtain ⟨rfl, hfit⟩ := had (by omega)
          obtain ⟨_, c, ee, fr, q1, q2, q3, q4, q5, q6⟩ := hr.block hb hp
          obtain ⟨fr', hfz, hn⟩ := freeze_put (off := c.size) q1 q3 (Nat.le_refl _)
          have hlt := (Array.getElem?_eq_some_iff.1 q1).1
          refine Does.upd (P := P) (nx := .value (.slice (some ⟨cb, co + off, none⟩) len cap)) (o := .cells c ee fr') hr (by rw [hb]; simp) hp ?_ (.value _) ⟨c, ee, fr', putObj_at _ hlt, q2, hn, q4, q5, q6⟩ (.sl _ _ _ _ cb co cz cap _ hp hle fun h => ⟨rfl, hfit⟩)
          have hsh : w.shape? cb = some (ee, c.size) := by unfold World.shape?; rw [q1]
          subst hsd
          have hee : e' = e := by rw [hs] at hd; injection hd with hd; injection hd
          subst hee
          simp only [execOp, ho, hxv]
          dsimp only at hfz
          rw [← hfz]
          simp [convert, run_underlying hs, run_underlying he, markStringish, hsh]
        · exact absurd rfl hne
      · exact absurd rfl hne
    · exact absurd rfl hne
end
end Go.Abs
