/- Code as lists of operations: what a text prints of a function's code, held against it. -/
import Derived.Test.YtfjkegbmlagleaaGreatAbsSm
namespace Go.Abs

inductive KO where
  | eff (e : Eff)
  | call (g : G) (as : List G)
  | bad
  | flt (e : Eff)
structure GO where
  g : Option (G × Bool)
  pd : Pd
  op : KO
noncomputable def inO (pd : Pd) (o : KO) (next : K) : K := match o with
  | .eff e => opK pd e next
  | .call g as => callK pd g as next
  | .bad => failK
  | .flt _ => failK
noncomputable def goK (o : Option GO) (next : K) : K := match o with
  | some ⟨none, pd, k⟩ => inO pd k next
  | some ⟨some (g, b), pd, k⟩ => guardK g b (inO pd k next) (nopK pd next)
  | none => failK
noncomputable def mkK : List (Option GO) → K
  | [] => endK
  | o :: r => goK o (mkK r)
noncomputable def koOf (P : Program) (o : Oper) : KO := match o.op with
  | .call { callee := .value f, args, argTypes := _ } => match compOp P o with
    | some e => .eff e
    | none => match opd f, opds args.toList with
      | some g, some as => .call g as
      | _, _ => .bad
  | .call { callee := .invoke x name, args, argTypes := _ } => match opd x, opds args.toList with
    | some g, some as => .call (invG P name g) as
    | _, _ => .bad
  | _ => match compOp P o with
    | some e => .eff e
    | none => .bad
noncomputable def goOf (P : Program) (nt : Nat) (ops : Array Oper) (o : Oper) : Option GO := match compPd nt o.dst with
  | none => none
  | some pd => match o.guard with
    | none => some ⟨none, pd, koOf P o⟩
    | some (j, b) => match (ops[j]?).bind (·.dst) with
      | some d => some ⟨some (slotG d, b), pd, koOf P o⟩
      | none => none
theorem compIn_eq (P : Program) (pd : Pd) (o : Oper) (next : K) : compIn P pd o next = inO pd (koOf P o) next := by
  unfold compIn koOf
  split
  · rename_i ho
    rw [ho]
    cases compOp P o with
    | some e => rfl
    | none => dsimp only; split <;> simp_all [inO]
  · split <;> simp_all [inO]
  · split <;> simp_all [inO]
theorem compOne_eq (P : Program) (nt : Nat) (ops : Array Oper) (o : Oper) (next : K) : compOne P nt ops o next = goK (goOf P nt ops o) next := by
  unfold compOne goOf
  cases compPd nt o.dst with
  | none => rfl
  | some pd =>
    dsimp only
    cases o.guard with
    | none => exact compIn_eq ..
    | some x =>
      obtain ⟨j, b⟩ := x
      dsimp only
      cases (ops[j]?).bind (·.dst) with
      | none => rfl
      | some d => simp only [goK, compIn_eq]
theorem compOps_eq (P : Program) (nt : Nat) (ops : Array Oper) : ∀ l, compOps P nt ops l = mkK (l.map (goOf P nt ops))
  | [] => rfl
  | o :: l => by simp only [compOps, List.map_cons, mkK, compOne_eq, compOps_eq P nt ops l]

structure RO where
  rs : RS
  g : Option (G × Bool)
  pd : Pd
  op : KO
  cnt : Option Nat
noncomputable def inRO (o : RO) (next : KR) : KR := match o.op, o.cnt with
  | .eff e, some c => opR o.rs o.pd e c next
  | .eff e, none => modR o.rs o.pd e next
  | .call g as, none => callR o.rs o.pd g as next
  | .flt e, none => fltR o.rs o.pd e next
  | _, _ => failR
noncomputable def noRO (o : RO) (next : KR) : KR := match o.cnt with
  | some _ => nopR o.pd next
  | none => nopM o.pd next
noncomputable def roR (o : Option RO) (next : KR) : KR := match o with
  | some o => match o.g with
    | none => inRO o next
    | some (g, b) => guardR o.rs g b (inRO o next) (noRO o next)
  | none => failR
noncomputable def mkR : List (Option RO) → KR
  | [] => endR
  | o :: r => roR o (mkR r)
noncomputable def roOf (P : Program) (nt : Nat) (ops : Array Oper) (i : Nat) (k : Oper → KO) (cnt : Option Nat) : Option RO := match ops[i]? with
  | some o => match compPd nt o.dst with
    | some pd => match o.guard with
      | none => some ⟨rsOf (slotsOf ops o), none, pd, k o, cnt⟩
      | some (j, b) => match (ops[j]?).bind (·.dst) with
        | some d => some ⟨rsOf (slotsOf ops o), some (slotG d, b), pd, k o, cnt⟩
        | none => none
    | none => none
  | none => none
noncomputable def koR (P : Program) (o : Oper) : KO := match compOp P o with
  | some e => .eff e
  | none => .bad
noncomputable def koF (P : Program) (o : Oper) : KO := match o.op with
  | .store _ _ _ => match compOp P o with
    | some e => .flt e
    | none => .bad
  | _ => .bad
noncomputable def roF (P : Program) (nt : Nat) (ops : Array Oper) (i : Nat) : Option RO := match ops[i]? with
  | some o => match compPd nt o.dst with
    | some pd => match o.guard with
      | none => some ⟨rsOf (slotsOf ops o), none, pd, koF P o, none⟩
      | some _ => none
    | none => none
  | none => none
noncomputable def ritems (P : Program) (nt : Nat) (ops : Array Oper) : List PItem → Nat → List (Option RO)
  | [], _ => []
  | .op i e :: l, j => roOf P nt ops i (koR P) (some (Nat.succ (Nat.sub j e))) :: ritems P nt ops l j
  | .mod i :: l, j => roOf P nt ops i (koOf P) none :: ritems P nt ops l (Nat.succ j)
  | .pur i :: l, j => roOf P nt ops i (koR P) (some 0) :: ritems P nt ops l j
  | .flt i :: l, j => roF P nt ops i :: ritems P nt ops l j
theorem inF_eq (P : Program) (rs : RS) (pd : Pd) (o : Oper) (next : KR) (g : Option (G × Bool)) : inF P rs pd o next = inRO ⟨rs, g, pd, koF P o, none⟩ next := by
  unfold inF inRO koF
  dsimp only
  split
  · split <;> simp_all
  · split <;> simp_all
theorem inR_eq (P : Program) (rs : RS) (pd : Pd) (o : Oper) (c : Nat) (next : KR) (g : Option (G × Bool)) : inR P rs pd o c next = inRO ⟨rs, g, pd, koR P o, some c⟩ next := by
  unfold inR inRO koR
  cases compOp P o <;> rfl
theorem inM_eq (P : Program) (rs : RS) (pd : Pd) (o : Oper) (next : KR) (g : Option (G × Bool)) : inM P rs pd o next = inRO ⟨rs, g, pd, koOf P o, none⟩ next := by
  unfold inM inRO koOf
  dsimp only
  split
  · rename_i ho
    rw [ho]
    cases compOp P o with
    | some e => rfl
    | none => dsimp only; split <;> simp_all
  · split <;> simp_all
  · split <;> simp_all
theorem compR_eq (P : Program) (nt : Nat) (ops : Array Oper) : ∀ l j, compR P nt ops l j = mkR (ritems P nt ops l j)
  | [], _ => rfl
  | .op i e :: l, j => by
    simp only [compR, ritems, mkR, roOf]
    cases ops[i]? with
    | none => rfl
    | some o =>
      dsimp only
      cases compPd nt o.dst with
      | none => rfl
      | some pd =>
        dsimp only [guarded]
        cases o.guard with
        | none => dsimp only [roR]; rw [compR_eq P nt ops l j, inR_eq (g := none)]
        | some x =>
          obtain ⟨q, b⟩ := x
          dsimp only
          cases (ops[q]?).bind (·.dst) with
          | none => rfl
          | some d => dsimp only [roR, noRO]; rw [compR_eq P nt ops l j, inR_eq (g := some (slotG d, b))]
  | .mod i :: l, j => by
    simp only [compR, ritems, mkR, roOf]
    cases ops[i]? with
    | none => rfl
    | some o =>
      dsimp only
      cases compPd nt o.dst with
      | none => rfl
      | some pd =>
        dsimp only [guarded]
        cases o.guard with
        | none => dsimp only [roR]; rw [compR_eq P nt ops l (Nat.succ j), inM_eq (g := none)]
        | some x =>
          obtain ⟨q, b⟩ := x
          dsimp only
          cases (ops[q]?).bind (·.dst) with
          | none => rfl
          | some d => dsimp only [roR, noRO]; rw [compR_eq P nt ops l (Nat.succ j), inM_eq (g := some (slotG d, b))]
  | .pur i :: l, j => by
    simp only [compR, ritems, mkR, roOf]
    cases ops[i]? with
    | none => rfl
    | some o =>
      dsimp only
      cases compPd nt o.dst with
      | none => rfl
      | some pd =>
        dsimp only [guarded]
        cases o.guard with
        | none => dsimp only [roR]; rw [compR_eq P nt ops l j, inR_eq (g := none)]
        | some x =>
          obtain ⟨q, b⟩ := x
          dsimp only
          cases (ops[q]?).bind (·.dst) with
          | none => rfl
          | some d => dsimp only [roR, noRO]; rw [compR_eq P nt ops l j, inR_eq (g := some (slotG d, b))]
  | .flt i :: l, j => by
    simp only [compR, ritems, mkR, roF]
    cases ops[i]? with
    | none => rfl
    | some o =>
      dsimp only
      cases compPd nt o.dst with
      | none => rfl
      | some pd =>
        dsimp only
        cases o.guard with
        | none => dsimp only [roR]; rw [compR_eq P nt ops l j, inF_eq (g := none)]
        | some x => rfl

/-- code, as a text prints it -/
inductive CT where
  | reg (l : List (Option GO))
  | drw (ds : List Nat) (l : List (Option RO))
  | seq (a b : CT)
  | cond (g : G) (a b : CT)
  | block (i : Nat) (b : CT)
  | loop (b : CT)
  | exit (i : Nat)
  | ret
  | skip
  | range (nt : Nat) (g : G) (ps : List Nat) (a b : Code)
  | bad
  | raw (k : K)
noncomputable def kOf : CT → K
  | .reg l => mkK l
  | .drw ds l => drwK ds (mkR l)
  | .seq a b => seqK (kOf a) (kOf b)
  | .cond g a b => condK g (kOf a) (kOf b)
  | .block i b => blockK i (kOf b)
  | .loop b => loopK (kOf b)
  | .exit i => exitK i
  | .ret => retK
  | .skip => endK
  | .range nt g ps a b => rangeK nt g ps a b
  | .bad => failK
  | .raw k => k
noncomputable def regT (P : Program) (nt : Nat) (ops : Array Oper) (pl : List PItem) (ok : Bool) : CT := match ok with
  | true => .drw (dstsOf ops.toList) (ritems P nt ops pl 0)
  | false => .bad
theorem regK_eq (P : Program) (nt : Nat) (ops : Array Oper) (pl : List PItem) (ok : Bool) : regK P nt ops pl ok = kOf (regT P nt ops pl ok) := by
  cases ok with
  | false => rfl
  | true => simp only [regK, regT, kOf, drwK, compR_eq]
noncomputable def ctOf (P : Program) (nt : Nat) (rd : Bool) : Code → CT
  | .skip => .skip
  | .region _ ops d => bif d then (bif P.follows .mixedOrders then regT P nt ops (plan (ancT ops.toList 0 .nil) ops.toList) (planAll (ancT ops.toList 0 .nil) ops (plan (ancT ops.toList 0 .nil) ops.toList)) else .bad) else .reg (ops.toList.map (goOf P nt ops))
  | .seq a b => .seq (ctOf P nt rd a) (ctOf P nt rd b)
  | .cond c a b => match opd c with
    | some x => .cond x (ctOf P nt rd a) (ctOf P nt rd b)
    | none => .bad
  | .block id b => .block id (ctOf P nt rd b)
  | .loop (.seq a rest) => match mapHd a with
    | some (x, d, ops, os) => .raw (mapK P nt x d ops os (comp P nt rd rest))
    | none => .loop (.seq (ctOf P nt rd a) (ctOf P nt rd rest))
  | .loop b => .loop (ctOf P nt rd b)
  | .exit id => .exit id
  | .ret => .ret
  | .scope b => ctOf P nt rd b
  | .label _ => .skip
  | .rangeFunc f ps a b => match opd f with
    | some x => bif rd then .bad else .range nt x ps.toList a b
    | none => .bad
  | _ => .bad
theorem comp_eq (P : Program) (nt : Nat) (rd : Bool) : ∀ c, comp P nt rd c = kOf (ctOf P nt rd c)
  | .skip => rfl
  | .region _ ops d => by
    simp only [comp, ctOf, drawK, regK_eq, compOps_eq]
    cases d with
    | false => rfl
    | true => simp only [cond_true]; cases P.follows .mixedOrders <;> rfl
  | .seq a b => by simp only [comp, ctOf, kOf, comp_eq P nt rd a, comp_eq P nt rd b]
  | .cond c a b => by simp only [comp, ctOf, comp_eq P nt rd a, comp_eq P nt rd b]; cases opd c <;> rfl
  | .block id b => by simp only [comp, ctOf, kOf, comp_eq P nt rd b]
  | .loop b => by
    have ib := comp_eq P nt rd b
    cases b with
    | seq a rest =>
      simp only [comp, ctOf]
      simp only [comp, ctOf, kOf] at ib
      cases mapHd a with
      | none => simp only [kOf, ib]
      | some y => rfl
    | _ => simp only [comp, ctOf, kOf, ib] <;> (try simp only [comp, ctOf, kOf] at ib; simp only [ib])
  | .exit id => rfl
  | .ret => rfl
  | .rangeFunc f ps a b => by
    simp only [comp, ctOf]
    cases opd f with
    | none => rfl
    | some x => dsimp only; cases rd <;> rfl
  | .scope b => by simp only [comp, ctOf, comp_eq P nt rd b]
  | .label _ => rfl
  | .goto _ => rfl
  | .refuse _ => rfl
structure CF where
  res : List (Fr → Hp → Option AV)
  code : CT
  nt : Nat
noncomputable def afOf (c : CF) : AF := { res := c.res, code := kOf c.code, nt := c.nt }
noncomputable def ctF (P : Program) (g : FuncId) : Option CF := match P.funcs[g]? with
  | some fn => match fn.body with
    | some b => match fn.name == "runtime.NumGoroutine" with
      | true => none
      | false => match getRes P fn.results.toList with
        | some r => some { res := r, code := ctOf P fn.ntmps false b, nt := fn.ntmps }
        | none => none
    | none => none
  | none => none
theorem compF_eq (P : Program) (g : FuncId) : compF P g = (ctF P g).map afOf := by
  unfold compF ctF
  cases P.funcs[g]? with
  | none => rfl
  | some fn =>
    dsimp only
    cases fn.body with
    | none => rfl
    | some b =>
      dsimp only
      cases fn.name == "runtime.NumGoroutine" with
      | true => rfl
      | false => dsimp only; simp only [comp_eq]; cases getRes P fn.results.toList <;> rfl
theorem compF_of {P : Program} {g : FuncId} {c : CF} (h : ctF P g = some c) : compF P g = some (afOf c) := by rw [compF_eq, h]; rfl

/-! ### asked step by step -/
section
variable {ce : Ce} {F : Fr} {H : Hp} {n : Nat} {m : List Nat} {Q : QA} {Hs : List Hp}
@[simp] theorem kOf_reg (l : List (Option GO)) : kOf (.reg l) = mkK l := Eq.trans rfl rfl
@[simp] theorem kOf_drw (ds : List Nat) (l : List (Option RO)) : kOf (.drw ds l) = drwK ds (mkR l) := Eq.trans rfl rfl
@[simp] theorem kOf_seq (a b : CT) : kOf (.seq a b) = seqK (kOf a) (kOf b) := Eq.trans rfl rfl
@[simp] theorem kOf_cond (g : G) (a b : CT) : kOf (.cond g a b) = condK g (kOf a) (kOf b) := Eq.trans rfl rfl
@[simp] theorem kOf_block (i : Nat) (b : CT) : kOf (.block i b) = blockK i (kOf b) := Eq.trans rfl rfl
@[simp] theorem kOf_loop (b : CT) : kOf (.loop b) = loopK (kOf b) := Eq.trans rfl rfl
@[simp] theorem kOf_exit (i : Nat) : kOf (.exit i) = exitK i := Eq.trans rfl rfl
@[simp] theorem kOf_ret : kOf .ret = retK := Eq.trans rfl rfl
@[simp] theorem kOf_skip : kOf .skip = endK := Eq.trans rfl rfl
/-- an operation, as a list's item -/
noncomputable def oP (pd : Pd) (e : Eff) : Option GO := some ⟨none, pd, .eff e⟩
noncomputable def gP (g : G) (b : Bool) (pd : Pd) (e : Eff) : Option GO := some ⟨some (g, b), pd, .eff e⟩
noncomputable def cP (pd : Pd) (f : FuncId) (as : List G) : Option GO := some ⟨none, pd, .call (constG (.fn (.func f) [] [])) as⟩
noncomputable def gcP (g : G) (b : Bool) (pd : Pd) (f : FuncId) (as : List G) : Option GO := some ⟨some (g, b), pd, .call (constG (.fn (.func f) [] [])) as⟩
noncomputable def vP (pd : Pd) (g : G) (as : List G) : Option GO := some ⟨none, pd, .call g as⟩
@[simp] theorem ev_mkNil : Ev ((mkK []).f ce F H n m) Q = Q .normal F H n m := propext Iff.rfl
/-- what an operation came to, and what is left -/
def EvO (x : ERes) (pd : Pd) (r : List (Option GO)) (ce : Ce) (F : Fr) (H : Hp) (n : Nat) (m : List Nat) (Q : QA) : Prop := EvE x H n fun v H' n' => Ev ((mkK r).f ce (pd.f v F) H' n' m) Q
def CalO (x : CRes) (pd : Pd) (r : List (Option GO)) (ce : Ce) (F : Fr) (m : List Nat) (Q : QA) : Prop := EvC x fun v H' n' => Ev ((mkK r).f ce (pd.f v F) H' n' m) Q
def ArgO (vs : Option (List AV)) (f : FuncId) (pd : Pd) (r : List (Option GO)) (ce : Ce) (F : Fr) (H : Hp) (n : Nat) (m : List Nat) (Q : QA) : Prop := OpB vs fun vs => CalO (ce.call f vs H n) pd r ce F m Q
def GrdO (v : Option AV) (b : Bool) (pd : Pd) (e : Eff) (r : List (Option GO)) (ce : Ce) (F : Fr) (H : Hp) (n : Nat) (m : List Nat) (Q : QA) : Prop := GrdE v b (EvO (e F H n) pd r ce F H n m Q) (Ev ((mkK r).f ce (pd.f (.tup []) F) H n m) Q)
def GrcO (v : Option AV) (b : Bool) (pd : Pd) (f : FuncId) (as : List G) (r : List (Option GO)) (ce : Ce) (F : Fr) (H : Hp) (n : Nat) (m : List Nat) (Q : QA) : Prop := GrdE v b (ArgO (evs F as) f pd r ce F H n m Q) (Ev ((mkK r).f ce (pd.f (.tup []) F) H n m) Q)
@[simp] theorem evO_fail (pd : Pd) (r : List (Option GO)) : EvO .fail pd r ce F H n m Q = False := propext Iff.rfl
@[simp] theorem evO_val (v : AV) (pd : Pd) (r : List (Option GO)) : EvO (.val v) pd r ce F H n m Q = Ev ((mkK r).f ce (pd.f v F) H n m) Q := propext Iff.rfl
@[simp] theorem evO_new (v : AV) (k : ABlk) (pd : Pd) (r : List (Option GO)) : EvO (.new v k) pd r ce F H n m Q = Ev ((mkK r).f ce (pd.f v F) (H.put n (some k)) (n + 1) m) Q := propext Iff.rfl
@[simp] theorem evO_upd (v : AV) (b : Nat) (k : ABlk) (pd : Pd) (r : List (Option GO)) : EvO (.upd v b k) pd r ce F H n m Q = Ev ((mkK r).f ce (pd.f v F) (H.put b (some k)) n m) Q := propext Iff.rfl
@[simp] theorem evO_mv (v : AV) (b : Nat) (k : ABlk) (pd : Pd) (r : List (Option GO)) : EvO (.mv v b k) pd r ce F H n m Q = Ev ((mkK r).f ce (pd.f v F) ((H.put b none).put n (some k)) (n + 1) m) Q := propext Iff.rfl
@[simp] theorem calO_mk (v : AV) (H' : Hp) (n' : Nat) (pd : Pd) (r : List (Option GO)) : CalO (.mk v H' n') pd r ce F m Q = Ev ((mkK r).f ce (pd.f v F) H' n' m) Q := propext Iff.rfl
@[simp] theorem argO_some (vs : List AV) (f : FuncId) (pd : Pd) (r : List (Option GO)) : ArgO (some vs) f pd r ce F H n m Q = CalO (ce.call f vs H n) pd r ce F m Q := propext Iff.rfl
@[simp] theorem grdO_t (pd : Pd) (e : Eff) (r : List (Option GO)) : GrdO (some (.bool true)) true pd e r ce F H n m Q = EvO (e F H n) pd r ce F H n m Q := propext Iff.rfl
@[simp] theorem grdO_f (pd : Pd) (e : Eff) (r : List (Option GO)) : GrdO (some (.bool false)) true pd e r ce F H n m Q = Ev ((mkK r).f ce (pd.f (.tup []) F) H n m) Q := propext Iff.rfl
@[simp] theorem grdO_t' (pd : Pd) (e : Eff) (r : List (Option GO)) : GrdO (some (.bool true)) false pd e r ce F H n m Q = Ev ((mkK r).f ce (pd.f (.tup []) F) H n m) Q := propext Iff.rfl
@[simp] theorem grdO_f' (pd : Pd) (e : Eff) (r : List (Option GO)) : GrdO (some (.bool false)) false pd e r ce F H n m Q = EvO (e F H n) pd r ce F H n m Q := propext Iff.rfl
@[simp] theorem grdO_tup (l : List AV) (b : Bool) (pd : Pd) (e : Eff) (r : List (Option GO)) : GrdO (some (.tup l)) b pd e r ce F H n m Q = Ev ((mkK r).f ce (pd.f (.tup []) F) H n m) Q := propext Iff.rfl
@[simp] theorem grcO_t (pd : Pd) (f : FuncId) (as : List G) (r : List (Option GO)) : GrcO (some (.bool true)) true pd f as r ce F H n m Q = ArgO (evs F as) f pd r ce F H n m Q := propext Iff.rfl
@[simp] theorem grcO_f (pd : Pd) (f : FuncId) (as : List G) (r : List (Option GO)) : GrcO (some (.bool false)) true pd f as r ce F H n m Q = Ev ((mkK r).f ce (pd.f (.tup []) F) H n m) Q := propext Iff.rfl
@[simp] theorem grcO_t' (pd : Pd) (f : FuncId) (as : List G) (r : List (Option GO)) : GrcO (some (.bool true)) false pd f as r ce F H n m Q = Ev ((mkK r).f ce (pd.f (.tup []) F) H n m) Q := propext Iff.rfl
@[simp] theorem grcO_f' (pd : Pd) (f : FuncId) (as : List G) (r : List (Option GO)) : GrcO (some (.bool false)) false pd f as r ce F H n m Q = ArgO (evs F as) f pd r ce F H n m Q := propext Iff.rfl
@[simp] theorem grcO_tup (l : List AV) (b : Bool) (pd : Pd) (f : FuncId) (as : List G) (r : List (Option GO)) : GrcO (some (.tup l)) b pd f as r ce F H n m Q = Ev ((mkK r).f ce (pd.f (.tup []) F) H n m) Q := propext Iff.rfl
@[simp] theorem ev_oP (pd : Pd) (e : Eff) (r : List (Option GO)) : Ev ((mkK (oP pd e :: r)).f ce F H n m) Q = EvO (e F H n) pd r ce F H n m Q := ev_op pd e (mkK r)
@[simp] theorem ev_gP (g : G) (b : Bool) (pd : Pd) (e : Eff) (r : List (Option GO)) : Ev ((mkK (gP g b pd e :: r)).f ce F H n m) Q = GrdO (g.f F) b pd e r ce F H n m Q := ev_gop g b pd e (mkK r)
@[simp] theorem ev_cP (pd : Pd) (f : FuncId) (as : List G) (r : List (Option GO)) : Ev ((mkK (cP pd f as :: r)).f ce F H n m) Q = ArgO (evs F as) f pd r ce F H n m Q := ev_cal pd f as (mkK r)
@[simp] theorem ev_gcP (g : G) (b : Bool) (pd : Pd) (f : FuncId) (as : List G) (r : List (Option GO)) : Ev ((mkK (gcP g b pd f as :: r)).f ce F H n m) Q = GrcO (g.f F) b pd f as r ce F H n m Q := ev_gcal g b pd f as (mkK r)
theorem ev_vP {pd : Pd} {g : G} {as : List G} {r : List (Option GO)} {f : FuncId} {first cap vs : List AV} (hg : g.f F = some (.fn (.func f) first cap)) (ha : evs F as = some vs) :
    Ev ((mkK (vP pd g as :: r)).f ce F H n m) Q = CalO (ce.call f (first ++ (vs ++ cap)) H n) pd r ce F m Q := ev_calV hg ha
theorem allVal_one (e : Eff) (F : Fr) (n : Nat) (A : Hp) (As : List Hp) : allVal e F n 1 (A :: As) = vE (e F A n) := by
  simp only [allVal]
  unfold vE
  cases e F A n <;> rfl
noncomputable def eqA (v : AV) (u : Option AV) : Option AV := u.bind fun u => if avEq v u = true then some u else none
theorem allVal_two (e : Eff) (F : Fr) (n k : Nat) (A : Hp) (As : List Hp) : allVal e F n (k + 2) (A :: As) = (vE (e F A n)).bind fun v => eqA v (allVal e F n (k + 1) As) := by
  rw [allVal]
  unfold vE eqA
  cases e F A n with
  | val v =>
    dsimp only [Option.bind]
    cases allVal e F n (k + 1) As with
    | none => rfl
    | some u => dsimp only; cases avEq v u <;> rfl
  | _ => rfl
@[simp] theorem allVal_1 (e : Eff) (F : Fr) (n : Nat) (A : Hp) (As : List Hp) : allVal e F n 1 (A :: As) = vE (e F A n) := allVal_one e F n A As
@[simp] theorem allVal_2 (e : Eff) (F : Fr) (n : Nat) (A B : Hp) (As : List Hp) : allVal e F n 2 (A :: B :: As) = (vE (e F A n)).bind fun v => eqA v (vE (e F B n)) := by rw [allVal_two e F n 0, allVal_one]
@[simp] theorem allVal_3 (e : Eff) (F : Fr) (n : Nat) (A B C : Hp) (As : List Hp) : allVal e F n 3 (A :: B :: C :: As) = (vE (e F A n)).bind fun v => eqA v ((vE (e F B n)).bind fun v => eqA v (vE (e F C n))) := by rw [allVal_two e F n 1, allVal_two e F n 0, allVal_one]
@[simp] theorem eqA_self (v : AV) : eqA v (some v) = some v := by simp [eqA, avEq_self]
noncomputable def oI (rs : List Nat) (pd : Pd) (e : Eff) (c : Nat) : Option RO := some ⟨rsOf rs, none, pd, .eff e, some c⟩
noncomputable def mI (rs : List Nat) (pd : Pd) (e : Eff) : Option RO := some ⟨rsOf rs, none, pd, .eff e, none⟩
noncomputable def cI (rs : List Nat) (pd : Pd) (f : FuncId) (as : List G) : Option RO := some ⟨rsOf rs, none, pd, .call (constG (.fn (.func f) [] [])) as, none⟩
noncomputable def goI (rs : List Nat) (g : G) (b : Bool) (pd : Pd) (e : Eff) (c : Nat) : Option RO := some ⟨rsOf rs, some (g, b), pd, .eff e, some c⟩
noncomputable def gmI (rs : List Nat) (g : G) (b : Bool) (pd : Pd) (e : Eff) : Option RO := some ⟨rsOf rs, some (g, b), pd, .eff e, none⟩
noncomputable def gcI (rs : List Nat) (g : G) (b : Bool) (pd : Pd) (f : FuncId) (as : List G) : Option RO := some ⟨rsOf rs, some (g, b), pd, .call (constG (.fn (.func f) [] [])) as, none⟩
noncomputable def fI (rs : List Nat) (pd : Pd) (e : Eff) : Option RO := some ⟨rsOf rs, none, pd, .flt e, none⟩
noncomputable def vI (rs : List Nat) (pd : Pd) (g : G) (as : List G) : Option RO := some ⟨rsOf rs, none, pd, .call g as, none⟩
@[simp] theorem ev_mkRNil : Ev ((mkR []).f ce F H Hs n m) Q = Q .normal F H n m := propext Iff.rfl
def EvI (x : ERes) (pd : Pd) (r : List (Option RO)) (ce : Ce) (F : Fr) (H : Hp) (Hs : List Hp) (n : Nat) (m : List Nat) (Q : QA) : Prop := EvE x H n fun v H' n' => Ev ((mkR r).f ce (pd.f v F) H' (H' :: Hs) n' m) Q
def ErI (x : ERes) (e : Eff) (c : Nat) (F0 : Fr) (pd : Pd) (r : List (Option RO)) (ce : Ce) (F : Fr) (H : Hp) (Hs : List Hp) (n : Nat) (m : List Nat) (Q : QA) : Prop := match x with
  | .val v => Ev ((mkR r).f ce (pd.f v F) H Hs n m) Q
  | .new v b => if noneAt n Hs = true then Ev ((mkR r).f ce (pd.f v F) (H.put n (some b)) Hs (n + 1) m) Q else False
  | .fail => OpB (allVal e F0 n c Hs) fun v => Ev ((mkR r).f ce (pd.f v F) H Hs n m) Q
  | _ => False
def AvI (x : Option AV) (pd : Pd) (r : List (Option RO)) (ce : Ce) (F : Fr) (H : Hp) (Hs : List Hp) (n : Nat) (m : List Nat) (Q : QA) : Prop := OpB x fun v => Ev ((mkR r).f ce (pd.f v F) H Hs n m) Q
def CalI (x : CRes) (pd : Pd) (r : List (Option RO)) (ce : Ce) (F : Fr) (Hs : List Hp) (m : List Nat) (Q : QA) : Prop := EvC x fun v H' n' => Ev ((mkR r).f ce (pd.f v F) H' (H' :: Hs) n' m) Q
def ArgI (vs : Option (List AV)) (f : FuncId) (pd : Pd) (r : List (Option RO)) (ce : Ce) (F : Fr) (H : Hp) (Hs : List Hp) (n : Nat) (m : List Nat) (Q : QA) : Prop := OpB vs fun vs => CalI (ce.call f vs H n) pd r ce F Hs m Q
@[simp] theorem evI_fail (pd : Pd) (r : List (Option RO)) : EvI .fail pd r ce F H Hs n m Q = False := propext Iff.rfl
@[simp] theorem evI_val (v : AV) (pd : Pd) (r : List (Option RO)) : EvI (.val v) pd r ce F H Hs n m Q = Ev ((mkR r).f ce (pd.f v F) H (H :: Hs) n m) Q := propext Iff.rfl
@[simp] theorem evI_new (v : AV) (k : ABlk) (pd : Pd) (r : List (Option RO)) : EvI (.new v k) pd r ce F H Hs n m Q = Ev ((mkR r).f ce (pd.f v F) (H.put n (some k)) (H.put n (some k) :: Hs) (n + 1) m) Q := propext Iff.rfl
@[simp] theorem evI_upd (v : AV) (b : Nat) (k : ABlk) (pd : Pd) (r : List (Option RO)) : EvI (.upd v b k) pd r ce F H Hs n m Q = Ev ((mkR r).f ce (pd.f v F) (H.put b (some k)) (H.put b (some k) :: Hs) n m) Q := propext Iff.rfl
@[simp] theorem evI_mv (v : AV) (b : Nat) (k : ABlk) (pd : Pd) (r : List (Option RO)) : EvI (.mv v b k) pd r ce F H Hs n m Q = Ev ((mkR r).f ce (pd.f v F) ((H.put b none).put n (some k)) ((H.put b none).put n (some k) :: Hs) (n + 1) m) Q := propext Iff.rfl
@[simp] theorem erI_val (v : AV) (e : Eff) (c : Nat) (F0 : Fr) (pd : Pd) (r : List (Option RO)) : ErI (.val v) e c F0 pd r ce F H Hs n m Q = Ev ((mkR r).f ce (pd.f v F) H Hs n m) Q := propext Iff.rfl
@[simp] theorem erI_new (v : AV) (k : ABlk) (e : Eff) (c : Nat) (F0 : Fr) (pd : Pd) (r : List (Option RO)) : ErI (.new v k) e c F0 pd r ce F H Hs n m Q = if noneAt n Hs = true then Ev ((mkR r).f ce (pd.f v F) (H.put n (some k)) Hs (n + 1) m) Q else False := propext Iff.rfl
@[simp] theorem erI_fail (e : Eff) (c : Nat) (F0 : Fr) (pd : Pd) (r : List (Option RO)) : ErI .fail e c F0 pd r ce F H Hs n m Q = AvI (allVal e F0 n c Hs) pd r ce F H Hs n m Q := propext Iff.rfl
@[simp] theorem avI_some (v : AV) (pd : Pd) (r : List (Option RO)) : AvI (some v) pd r ce F H Hs n m Q = Ev ((mkR r).f ce (pd.f v F) H Hs n m) Q := propext Iff.rfl
@[simp] theorem calI_mk (v : AV) (H' : Hp) (n' : Nat) (pd : Pd) (r : List (Option RO)) : CalI (.mk v H' n') pd r ce F Hs m Q = Ev ((mkR r).f ce (pd.f v F) H' (H' :: Hs) n' m) Q := propext Iff.rfl
@[simp] theorem argI_some (vs : List AV) (f : FuncId) (pd : Pd) (r : List (Option RO)) : ArgI (some vs) f pd r ce F H Hs n m Q = CalI (ce.call f vs H n) pd r ce F Hs m Q := propext Iff.rfl
@[simp] theorem ev_oI (rs : List Nat) (pd : Pd) (e : Eff) (c : Nat) (r : List (Option RO)) : Ev ((mkR (oI rs pd e c :: r)).f ce F H Hs n m) Q = ErI (e ((rsOf rs).f F) .nil n) e c ((rsOf rs).f F) pd r ce F H Hs n m Q := by
  have := ev_opR (ce := ce) (F := F) (H := H) (Hs := Hs) (n := n) (m := m) (Q := Q) (rsOf rs) pd e c (mkR r)
  refine Eq.trans this ?_
  unfold EvR ErI
  cases e ((rsOf rs).f F) .nil n <;> rfl
/-- what is asked of a floating store: it writes a block of the heap that the last of the modifiers in line left -/
def FlI (x : ERes) (pd : Pd) (r : List (Option RO)) (ce : Ce) (F : Fr) (H B : Hp) (Hs : List Hp) (n : Nat) (m : List Nat) (Q : QA) : Prop := match x with
  | .upd v b k => match B.get b with
    | some _ => Ev ((mkR r).f ce (pd.f v F) (H.put b (some k)) (B.put b none :: Hs) n m) Q
    | none => False
  | _ => False
theorem flI_upd {v : AV} {b : Nat} {k old : ABlk} {pd : Pd} {r : List (Option RO)} {B : Hp} (h : B.get b = some old) : FlI (.upd v b k) pd r ce F H B Hs n m Q = Ev ((mkR r).f ce (pd.f v F) (H.put b (some k)) (B.put b none :: Hs) n m) Q := by
  unfold FlI; dsimp only; rw [h]
@[simp] theorem flI_upd' (v : AV) (b : Nat) (k : ABlk) (pd : Pd) (r : List (Option RO)) (B : Hp) : FlI (.upd v b k) pd r ce F H B Hs n m Q = OpB (B.get b) fun _ => Ev ((mkR r).f ce (pd.f v F) (H.put b (some k)) (B.put b none :: Hs) n m) Q := by
  unfold FlI OpB; dsimp only; cases B.get b <;> rfl
@[simp] theorem flI_fail (pd : Pd) (r : List (Option RO)) (B : Hp) : FlI .fail pd r ce F H B Hs n m Q = False := propext Iff.rfl
@[simp] theorem ev_fI (rs : List Nat) (pd : Pd) (e : Eff) (r : List (Option RO)) (B : Hp) : Ev ((mkR (fI rs pd e :: r)).f ce F H (B :: Hs) n m) Q = FlI (e ((rsOf rs).f F) B n) pd r ce F H B Hs n m Q := by
  show Ev ((fltR (rsOf rs) pd e (mkR r)).f ce F H (B :: Hs) n m) Q = _
  simp only [fltR]
  unfold FlI
  cases e ((rsOf rs).f F) B n with
  | upd v b k => dsimp only; cases B.get b <;> rfl
  | _ => rfl
@[simp] theorem ev_mI (rs : List Nat) (pd : Pd) (e : Eff) (r : List (Option RO)) : Ev ((mkR (mI rs pd e :: r)).f ce F H Hs n m) Q = EvI (e ((rsOf rs).f F) H n) pd r ce F H Hs n m Q := ev_modR _ pd e (mkR r)
@[simp] theorem ev_cI (rs : List Nat) (pd : Pd) (f : FuncId) (as : List G) (r : List (Option RO)) : Ev ((mkR (cI rs pd f as :: r)).f ce F H Hs n m) Q = ArgI (evs ((rsOf rs).f F) as) f pd r ce F H Hs n m Q := ev_calR _ pd f as (mkR r)
def GoI (v : Option AV) (b : Bool) (F0 : Fr) (pd : Pd) (e : Eff) (c : Nat) (r : List (Option RO)) (ce : Ce) (F : Fr) (H : Hp) (Hs : List Hp) (n : Nat) (m : List Nat) (Q : QA) : Prop := GrdE v b (ErI (e F0 .nil n) e c F0 pd r ce F H Hs n m Q) (Ev ((mkR r).f ce (pd.f (.tup []) F) H Hs n m) Q)
def GmI (v : Option AV) (b : Bool) (F0 : Fr) (pd : Pd) (e : Eff) (r : List (Option RO)) (ce : Ce) (F : Fr) (H : Hp) (Hs : List Hp) (n : Nat) (m : List Nat) (Q : QA) : Prop := GrdE v b (EvI (e F0 H n) pd r ce F H Hs n m Q) (Ev ((mkR r).f ce (pd.f (.tup []) F) H (H :: Hs) n m) Q)
def GcI (v : Option AV) (b : Bool) (F0 : Fr) (pd : Pd) (f : FuncId) (as : List G) (r : List (Option RO)) (ce : Ce) (F : Fr) (H : Hp) (Hs : List Hp) (n : Nat) (m : List Nat) (Q : QA) : Prop := GrdE v b (ArgI (evs F0 as) f pd r ce F H Hs n m Q) (Ev ((mkR r).f ce (pd.f (.tup []) F) H (H :: Hs) n m) Q)
theorem ev_guardR {rs : RS} {g : G} {b : Bool} {yes no : KR} : Ev ((guardR rs g b yes no).f ce F H Hs n m) Q = GrdE (g.f (rs.f F)) b (Ev (yes.f ce F H Hs n m) Q) (Ev (no.f ce F H Hs n m) Q) := by
  simp only [guardR]
  unfold GrdE
  cases g.f (rs.f F) with
  | none => rfl
  | some v => cases v with
    | bool x => dsimp only; cases x == b <;> rfl
    | _ => rfl
theorem ev_goI0 (rs : List Nat) (g : G) (b : Bool) (pd : Pd) (e : Eff) (c : Nat) (r : List (Option RO)) : Ev ((mkR (goI rs g b pd e c :: r)).f ce F H Hs n m) Q = GrdE (g.f ((rsOf rs).f F)) b (Ev ((mkR (oI rs pd e c :: r)).f ce F H Hs n m) Q) (Ev ((mkR r).f ce (pd.f (.tup []) F) H Hs n m) Q) :=
  ev_guardR (ce := ce) (F := F) (H := H) (Hs := Hs) (n := n) (m := m) (Q := Q) (rs := rsOf rs) (g := g) (b := b) (yes := opR (rsOf rs) pd e c (mkR r)) (no := nopR pd (mkR r))
@[simp] theorem ev_goI (rs : List Nat) (g : G) (b : Bool) (pd : Pd) (e : Eff) (c : Nat) (r : List (Option RO)) : Ev ((mkR (goI rs g b pd e c :: r)).f ce F H Hs n m) Q = GoI (g.f ((rsOf rs).f F)) b ((rsOf rs).f F) pd e c r ce F H Hs n m Q := by
  rw [ev_goI0, ev_oI]; rfl
@[simp] theorem ev_gmI (rs : List Nat) (g : G) (b : Bool) (pd : Pd) (e : Eff) (r : List (Option RO)) : Ev ((mkR (gmI rs g b pd e :: r)).f ce F H Hs n m) Q = GmI (g.f ((rsOf rs).f F)) b ((rsOf rs).f F) pd e r ce F H Hs n m Q := by
  have h1 := ev_guardR (ce := ce) (F := F) (H := H) (Hs := Hs) (n := n) (m := m) (Q := Q) (rs := rsOf rs) (g := g) (b := b) (yes := modR (rsOf rs) pd e (mkR r)) (no := nopM pd (mkR r))
  rw [ev_modR] at h1
  exact h1
@[simp] theorem ev_gcI (rs : List Nat) (g : G) (b : Bool) (pd : Pd) (f : FuncId) (as : List G) (r : List (Option RO)) : Ev ((mkR (gcI rs g b pd f as :: r)).f ce F H Hs n m) Q = GcI (g.f ((rsOf rs).f F)) b ((rsOf rs).f F) pd f as r ce F H Hs n m Q := by
  have h1 := ev_guardR (ce := ce) (F := F) (H := H) (Hs := Hs) (n := n) (m := m) (Q := Q) (rs := rsOf rs) (g := g) (b := b) (yes := calR (rsOf rs) pd f as (mkR r)) (no := nopM pd (mkR r))
  rw [ev_calR] at h1
  exact h1
@[simp] theorem goI_t (F0 : Fr) (pd : Pd) (e : Eff) (c : Nat) (r : List (Option RO)) : GoI (some (.bool true)) true F0 pd e c r ce F H Hs n m Q = ErI (e F0 .nil n) e c F0 pd r ce F H Hs n m Q := propext Iff.rfl
@[simp] theorem goI_f (F0 : Fr) (pd : Pd) (e : Eff) (c : Nat) (r : List (Option RO)) : GoI (some (.bool false)) true F0 pd e c r ce F H Hs n m Q = Ev ((mkR r).f ce (pd.f (.tup []) F) H Hs n m) Q := propext Iff.rfl
@[simp] theorem goI_t' (F0 : Fr) (pd : Pd) (e : Eff) (c : Nat) (r : List (Option RO)) : GoI (some (.bool true)) false F0 pd e c r ce F H Hs n m Q = Ev ((mkR r).f ce (pd.f (.tup []) F) H Hs n m) Q := propext Iff.rfl
@[simp] theorem goI_f' (F0 : Fr) (pd : Pd) (e : Eff) (c : Nat) (r : List (Option RO)) : GoI (some (.bool false)) false F0 pd e c r ce F H Hs n m Q = ErI (e F0 .nil n) e c F0 pd r ce F H Hs n m Q := propext Iff.rfl
@[simp] theorem goI_tup (l : List AV) (b : Bool) (F0 : Fr) (pd : Pd) (e : Eff) (c : Nat) (r : List (Option RO)) : GoI (some (.tup l)) b F0 pd e c r ce F H Hs n m Q = Ev ((mkR r).f ce (pd.f (.tup []) F) H Hs n m) Q := propext Iff.rfl
@[simp] theorem gmI_t' (F0 : Fr) (pd : Pd) (e : Eff) (r : List (Option RO)) : GmI (some (.bool true)) false F0 pd e r ce F H Hs n m Q = Ev ((mkR r).f ce (pd.f (.tup []) F) H (H :: Hs) n m) Q := propext Iff.rfl
@[simp] theorem gmI_f' (F0 : Fr) (pd : Pd) (e : Eff) (r : List (Option RO)) : GmI (some (.bool false)) false F0 pd e r ce F H Hs n m Q = EvI (e F0 H n) pd r ce F H Hs n m Q := propext Iff.rfl
@[simp] theorem gcI_t' (F0 : Fr) (pd : Pd) (f : FuncId) (as : List G) (r : List (Option RO)) : GcI (some (.bool true)) false F0 pd f as r ce F H Hs n m Q = Ev ((mkR r).f ce (pd.f (.tup []) F) H (H :: Hs) n m) Q := propext Iff.rfl
@[simp] theorem gcI_f' (F0 : Fr) (pd : Pd) (f : FuncId) (as : List G) (r : List (Option RO)) : GcI (some (.bool false)) false F0 pd f as r ce F H Hs n m Q = ArgI (evs F0 as) f pd r ce F H Hs n m Q := propext Iff.rfl
@[simp] theorem gmI_t (F0 : Fr) (pd : Pd) (e : Eff) (r : List (Option RO)) : GmI (some (.bool true)) true F0 pd e r ce F H Hs n m Q = EvI (e F0 H n) pd r ce F H Hs n m Q := propext Iff.rfl
@[simp] theorem gmI_f (F0 : Fr) (pd : Pd) (e : Eff) (r : List (Option RO)) : GmI (some (.bool false)) true F0 pd e r ce F H Hs n m Q = Ev ((mkR r).f ce (pd.f (.tup []) F) H (H :: Hs) n m) Q := propext Iff.rfl
@[simp] theorem gcI_t (F0 : Fr) (pd : Pd) (f : FuncId) (as : List G) (r : List (Option RO)) : GcI (some (.bool true)) true F0 pd f as r ce F H Hs n m Q = ArgI (evs F0 as) f pd r ce F H Hs n m Q := propext Iff.rfl
@[simp] theorem gcI_f (F0 : Fr) (pd : Pd) (f : FuncId) (as : List G) (r : List (Option RO)) : GcI (some (.bool false)) true F0 pd f as r ce F H Hs n m Q = Ev ((mkR r).f ce (pd.f (.tup []) F) H (H :: Hs) n m) Q := propext Iff.rfl
end
end Go.Abs
