/- The abstract machine: regions that draw their order. Part six: the region. -/
import Derived.Test.YtfjkegbmlagleaaGreatAbsD
namespace Go.Abs
section
variable {P : Program} {ce : Ce} {nt : Nat} {r : Option Nat} {ops : Array Oper} {T D : Tr Nat} {F0 F' : Fr} {H' : Hp} {n0 n' : Nat} {A : Nat → Hp} {all : List Rec} {k : Nat} {mods grp bad : List Nat} {seen : Nat}

def Lst (listed : Array Bool) (p : Nat) : Prop := listed.getD p false = true
def left (n : Nat) (listed : Array Bool) : Nat := ((List.range n).filter fun i => !listed.getD i false).length

theorem lst_set {listed : Array Bool} {i : Nat} (hi : i < listed.size) : Lst (listed.setIfInBounds i true) = fun p => p = i ∨ Lst listed p := by
  funext p
  apply propext
  unfold Lst
  simp only [Array.getD_eq_getD_getElem?, Array.getElem?_setIfInBounds]
  by_cases e : i = p
  · subst e; simp [hi]
  · simp [e, Ne.symm e]
theorem filter_drop {l : List Nat} {p q : Nat → Bool} (h : ∀ x, x ∈ l → q x = true → p x = true) : (l.filter q).length ≤ (l.filter p).length ∧ ((∃ x ∈ l, p x = true ∧ q x = false) → (l.filter q).length < (l.filter p).length) := by
  induction l with
  | nil => simp
  | cons a l ih =>
    obtain ⟨i1, i2⟩ := ih fun x hx => h x (List.mem_cons_of_mem _ hx)
    have ha := h a (by simp)
    simp only [List.filter_cons]
    cases hq : q a with
    | true =>
      rw [ha hq]
      simp only [if_true, List.length_cons]
      refine ⟨by omega, ?_⟩
      rintro ⟨x, hx, h1, h2⟩
      rcases List.mem_cons.1 hx with rfl | hx
      · rw [hq] at h2; cases h2
      · have := i2 ⟨x, hx, h1, h2⟩; omega
    | false =>
      cases hp : p a with
      | true => simp only [Bool.false_eq_true, if_false, if_true, List.length_cons]; exact ⟨by omega, fun _ => by omega⟩
      | false =>
        simp only [Bool.false_eq_true, if_false]
        refine ⟨i1, ?_⟩
        rintro ⟨x, hx, h1, h2⟩
        rcases List.mem_cons.1 hx with rfl | hx
        · rw [hp] at h1; cases h1
        · exact i2 ⟨x, hx, h1, h2⟩
theorem left_set {n : Nat} {listed : Array Bool} {i : Nat} (hn : i < n) (hi : i < listed.size) (hu : listed.getD i false = false) : left n (listed.setIfInBounds i true) < left n listed := by
  unfold left
  refine (filter_drop (p := fun i => !listed.getD i false) (q := fun x => !(listed.setIfInBounds i true).getD x false) fun x _ hx => ?_).2 ⟨i, by simpa using hn, by simp [hu], ?_⟩
  · cases h : listed.getD x false with
    | false => rfl
    | true =>
      have : Lst (listed.setIfInBounds i true) x := by rw [lst_set hi]; exact .inr h
      unfold Lst at this
      rw [this] at hx; cases hx
  · have : Lst (listed.setIfInBounds i true) i := by rw [lst_set hi]; exact .inl rfl
    unfold Lst at this
    simp [this]
theorem left_zero {n : Nat} {listed : Array Bool} (h : left n listed = 0) : ∀ i, i < n → Lst listed i := by
  intro i hi
  unfold left at h
  have := List.eq_nil_of_length_eq_zero h
  rw [List.filter_eq_nil_iff] at this
  have := this i (by simpa using hi)
  unfold Lst
  simpa using this

theorem inv_end (f : Facts P r nt ops T D F0 F' H' n0 n' A all k mods grp bad seen) {L : Nat → Prop} {m : List Nat} {φ0 : Ph} {D0 : Da} {h0 : Hf} {w0 : World} {φ : Ph} {Dd : Da} {h : Hf} {jj : Nat} {a : Act} {w : World}
    (I : Inv nt D F0 A all k T L m φ0 D0 h0 w0 n0 n' φ Dd h jj a w) (hall : ∀ i, i < ops.size → L i) : Ext φ0 D0 h0 w0 n0 φ Dd H'.get w n' ∧ St nt φ Dd F' H' m a w := by
  have g := f.good
  have hL : ∀ s ∈ all, L s.i := fun s hs => by
    obtain ⟨o, ho, _⟩ := g.op s hs
    exact hall _ (Array.getElem?_eq_some_iff.1 ho).1
  have hjk : jj = k := by
    rcases Nat.lt_or_ge jj k with h1 | h1
    · exfalso
      have hml := g.ml
      obtain ⟨s, hs, h2, h3, _⟩ := g.md (k - 1 - jj) (mods[k - 1 - jj]'(by omega)) (List.getElem?_eq_getElem (by omega))
      have := (I.phs s hs h2).1 (hL s hs)
      omega
    · have := I.jk; omega
  subst hjk
  have hsub : Sub H'.get h := fun b kb hb => by
    rcases g.hg b kb hb with h1 | ⟨s, hs, h1, h2, h3, h4⟩ | ⟨s, hs, x, h1⟩
    · exact I.sub b kb h1.1 fun s hs _ => h1.2 s hs
    · subst h3; exact I.blk s hs (hL s hs) h1 (by omega) kb h2
    · exact I.flo s hs (hL s hs) b x kb h1
  refine ⟨I.ext.sub hsub, rel_sub I.rel hsub, fun t u hu => ?_, I.sz, I.mar⟩
  rcases g.ft t u hu with ⟨h1, h2⟩ | ⟨s, hs, h1, h2⟩
  · refine I.fr0 t u h1 fun p hp => ?_
    obtain ⟨o, ho, hd⟩ := f.dconv t p hp
    obtain ⟨s, hs, h3⟩ := f.cover p (Array.getElem?_eq_some_iff.1 ho).1
    obtain ⟨o', ho', hd', _⟩ := g.op s hs
    rw [h3, ho] at ho'; injection ho' with ho'; subst ho'
    exact absurd (hd'.trans hd) (h2 s hs)
  · subst h2; exact I.frp s hs (hL s hs) t h1

theorem any_order (f : Facts P r nt ops T D F0 F' H' n0 n' A all k mods grp bad seen) {m : List Nat} {φ0 : Ph} {D0 : Da} {h0 : Hf} {w0 : World} (Q : QT)
    (hQ : ∀ φ' D' a' w', Ext φ0 D0 h0 w0 n0 φ' D' H'.get w' n' → St nt φ' D' F' H' m a' w' → Q .normal a' w') :
    ∀ (fuel : Nat) (listed : Array Bool) (a : Act) (w : World) (φ : Ph) (Dd : Da) (h : Hf) (jj : Nat), Inv nt D F0 A all k T (Lst listed) m φ0 D0 h0 w0 n0 n' φ Dd h jj a w → listed.size = ops.size → left ops.size listed ≤ fuel →
      wpAnyIn (FW r) 0 P .any ops Q fuel listed a w := by
  have ready_nil : ∀ listed : Array Bool, listed.size = ops.size → Region.ready .any ops listed = [] → ∀ i, i < ops.size → Lst listed i := by
    intro listed hsz hr i
    induction i using Nat.strongRecOn with
    | _ i ih =>
      intro hi
      cases hl : listed.getD i false with
      | true => exact hl
      | false =>
        exfalso
        have : i ∈ Region.ready .any ops listed := by
          rw [mem_ready]
          refine ⟨?_, ops[i], by simp [hi], fun e he hb => ?_⟩
          · have hi' : i < listed.size := by omega
            simp only [Array.getD_eq_getD_getElem?, Array.getElem?_eq_getElem hi', Option.getD_some] at hl ⊢
            exact hl
          · have hlt := f.back i ops[i] (by simp [hi]) e he hb
            exact ih _ hlt (by omega)
        rw [hr] at this; cases this
  intro fuel
  induction fuel with
  | zero =>
    intro listed a w φ Dd h jj I hsz hleft
    have hall := left_zero (by omega : left ops.size listed = 0)
    obtain ⟨h1, h2⟩ := inv_end f I hall
    refine ⟨?_, hQ _ _ _ _ h1 h2⟩
    cases hr : Region.ready .any ops listed with
    | nil => rfl
    | cons x l =>
      exfalso
      have hx : x ∈ Region.ready .any ops listed := by rw [hr]; simp
      rw [mem_ready] at hx
      obtain ⟨h3, o, ho, _⟩ := hx
      have hi := (Array.getElem?_eq_some_iff.1 ho).1
      have h4 := hall x hi
      unfold Lst at h4
      have hi' : x < listed.size := by omega
      simp only [Array.getD_eq_getD_getElem?, Array.getElem?_eq_getElem hi', Option.getD_some] at h3 h4
      rw [h3] at h4; cases h4
  | succ fuel ih =>
    intro listed a w φ Dd h jj I hsz hleft
    refine ⟨fun hr => ?_, fun i hi => ?_⟩
    · obtain ⟨h1, h2⟩ := inv_end f I (ready_nil listed hsz hr)
      exact hQ _ _ _ _ h1 h2
    · rw [mem_ready] at hi
      obtain ⟨h3, o, ho, hpre⟩ := hi
      have hio := (Array.getElem?_eq_some_iff.1 ho).1
      have hi' : i < listed.size := by omega
      have hu : listed.getD i false = false := by
        simp only [Array.getD_eq_getD_getElem?, Array.getElem?_eq_getElem hi', Option.getD_some] at h3 ⊢
        exact h3
      refine inv_step f I ho (by unfold Lst; rw [hu]; simp) (fun e he hb => hpre e he hb) _ Q fun φ' Dd' h' jj' a' w' I' => ?_
      rw [← lst_set hi'] at I'
      exact ih _ a' w' φ' Dd' h' jj' I' (by simpa using hsz) (by have := left_set hio hi' hu; omega)

theorem rel_drawn {φ : Ph} {D : Da} {h : Hf} {w : World} (hr : Rel φ D h w) (d : Nat) : Rel φ D h { w with drawn := d } :=
  ⟨fun b k hb => let ⟨p, h1, h2, h3⟩ := hr.blk b k hb; ⟨p, h1, h2, h3.mono (fun _ _ h => h) (fun _ _ h => h) rfl⟩, hr.inj, hr.sep, hr.dat⟩

theorem drawK_sound {id : Nat} (hmix : P.follows .mixedOrders = true) (hce : CeOk P ce) : Sound nt (fun Q a w => (Code.region id ops true).wpIn (FW r) 0 P Q a w) ((drawK P nt ops (ancT ops.toList 0 .nil)).f ce) := by
  intro F H n m ou F' H' n' m' hk
  unfold drawK at hk
  generalize hpl : plan (ancT ops.toList 0 .nil) ops.toList = pl at hk
  unfold regK at hk
  split at hk
  · rename_i hok
    unfold planAll at hok
    simp only [Bool.and_eq_true] at hok
    obtain ⟨⟨hb, hd⟩, ho⟩ := hok
    split at hd
    · rename_i D hD
      split at ho
      · rename_i s hs
        have hdok := dok_of hD
        have hsN := Nat.eq_of_beq_eq_true ho
        obtain ⟨o1, _, o3⟩ := onceIn_spec _ _ _ hs
        have g0 : Good P r nt ops (ancT ops.toList 0 .nil) D (clearF (dstsOf ops.toList) F) n (fun _ => H) [] 0 (clearF (dstsOf ops.toList) F) H n [] [] [] 0 := by
          refine ⟨Nat.le_refl _, ?_, ?_, .nil, ?_, ?_, fun t u hu => .inl ⟨hu, fun s hs => by cases hs⟩, fun b k hb => .inl ⟨hb, fun s hs => by cases hs⟩, ?_, ?_, ?_, ?_, ?_, rfl, ?_, ?_, ?_, ?_, ?_, ?_⟩ <;> first | (intro c hc; cases hc; done) | skip
          intro q x hx; simp at hx
        obtain ⟨A, all, j', mods', grp', bad', seen', g, rfl, rfl, hidx, hA0⟩ := compR_reads (r := r) (n0 := n) (F0 := clearF (dstsOf ops.toList) F) hce hdok (eok_of hD F) pl 0 [] [] [] 0 hd (fun _ => H) [] (clearF (dstsOf ops.toList) F) H [H] n m ou F' H' n' m' g0 (fun s hs => by cases hs) rfl hk
        rw [List.map_nil, List.nil_append] at hidx
        refine ⟨g.nle, fun φ Dd a w st hf Q hQ => wpIn_region_any hmix ?_⟩
        have facts : Facts P r nt ops (ancT ops.toList 0 .nil) D (clearF (dstsOf ops.toList) F) F' H' n n' A all j' mods' grp' bad' seen' := by
          refine ⟨g, by rw [hidx]; exact o1, fun i hi => ?_, fun i o p h1 h2 => anc_spec h1 h2, fun i o h1 e he hb' => ?_, hdok, fun t p hp => ?_⟩
          · have h1 : tb s i = true := by rw [hsN, tb_all, lenAcc_zero]; simpa using hi
            rcases o3 i h1 with h2 | h2
            · rw [tb_zero] at h2; cases h2
            · rw [← hidx] at h2
              obtain ⟨c, hc, h3⟩ := List.mem_map.1 h2
              exact ⟨c, hc, h3⟩
          · have := backs_spec _ _ hb i o (by simpa using h1) e he hb'; omega
          · rcases dstT_conv _ _ _ _ hD t p hp with h1 | ⟨k, o, h1, h2, h3⟩
            · simp at h1
            · exact ⟨o, by rw [h3, Nat.zero_add]; simpa using h1, h2⟩
        have I0 : Inv nt D (clearF (dstsOf ops.toList) F) A all j' (ancT ops.toList 0 .nil) (Lst (Array.replicate ops.size false)) m' φ Dd H.get w n n' φ Dd H.get 0 a { w with drawn := w.drawn + 1 } := by
          have no : ∀ i, ¬ Lst (Array.replicate ops.size false) i := by
            intro i h
            unfold Lst at h
            rw [Array.getD_eq_getD_getElem?, Array.getElem?_replicate] at h
            split at h <;> simp at h
          refine ⟨?_, rel_drawn st.rel _, fun b k hb _ => by rw [hA0] at hb; exact hb, fun s _ h => absurd h (no _), fun s _ h => absurd h (no _), fun t u hu _ => ?_, fun s _ h => absurd h (no _), st.sz, st.mar, fun s _ _ => ⟨fun h => absurd h (no _), fun h => by omega⟩, fun s hs _ => ?_, fun i p h => absurd h (no _), Nat.zero_le _⟩
          · exact ⟨g.nle, fun _ _ h => h, fun _ h k => absurd h k, fun _ _ h => h, Nat.le_refl _, fun _ _ _ => rfl, fun _ _ a b => .inr ⟨_, _, a, b, rfl⟩, fun _ h => .inl h, fun _ h => .inl h, rfl, rfl⟩
          · rw [clearF_get] at hu
            split at hu
            · cases hu
            · exact st.fr t u hu
          · obtain ⟨h1, h2, h3⟩ := g.rng s hs
            exact fun b x y => hf b (by omega) (by omega)
        refine any_order facts Q hQ ops.size _ a _ φ Dd H.get 0 I0 (by simp) ?_
        unfold left
        exact Nat.le_trans (List.length_filter_le _ _) (by simp)
      · cases ho
    · cases hd
  · cases hk
end
end Go.Abs
