/- A part of the proof. -/
import Derived.Test.YtfdoeenlgkkaiaaBp1
import Derived.Test.YtfdoeenlgkkaiaaAbs6
namespace Go.Abs
open Go.Proofs
set_option maxRecDepth 100000
structure Val where
 kind : Int
 num : Int
 s : List Nat
def Val.cells (v : Val) : List AV:=[.int .i64 v.kind,.int .i64 v.num,.str v.s]
def Val.av (v : Val) : AV:=.agg [.int .i64 v.kind,.int .i64 v.num,.str v.s] 3
inductive Ex where
 | mk (op : Int) (v : Val) (t m : List Nat) (col : Int) (args : List Ex)
mutual
def Ex.cells : Ex → List AV
 | .mk op v t m col args => [.int .i64 op,.int .i64 v.kind,.int .i64 v.num,.str v.s,.str t,.str m,.int .i64 col,.ds (Ex.cellsL args) args.length 8]
def Ex.cellsL : List Ex → List AV
 | [] => []
 | e :: r => e.cells ++ Ex.cellsL r
end
def Ex.av (e : Ex) : AV:=.agg e.cells 8
@[simp] theorem Ex.av_cells (e : Ex) : e.av.cells = e.cells:=Eq.trans rfl rfl
@[simp] theorem Ex.av_len (e : Ex) : e.av.len = 8:=Eq.trans rfl rfl
@[simp] theorem Ex.cells_len (e : Ex) : e.cells.length = 8:=by cases e; simp [Ex.cells]
@[simp] theorem Ex.cellsL_len (l : List Ex) : (Ex.cellsL l).length = l.length * 8:=by
 induction l with
 | nil => simp [Ex.cellsL]
 | cons e r ih => simp [Ex.cellsL,ih]; omega
@[simp] theorem Ex.take8 (e : Ex) : e.cells.take 8 = e.cells:=List.take_of_length_le (by simp)
@[simp] theorem Ex.allOne (e : Ex) : Go.Abs.allOne e.cells = true:=by cases e; simp [Ex.cells]
@[simp] theorem Ex.allOneL (l : List Ex) : Go.Abs.allOne (Ex.cellsL l) = true:=by
 induction l with
 | nil => simp [Ex.cellsL]
 | cons e r ih => simp [Ex.cellsL,ih]
mutual
theorem Ex.pureC : ∀ e : Ex,PureL e.cells
 | .mk op v t m col args => by simp [Ex.cells,Ex.pureLC args]
theorem Ex.pureLC : ∀ l : List Ex,PureL (Ex.cellsL l)
 | [] => by simp [Ex.cellsL]
 | e :: r => by simp [Ex.cellsL,Ex.pureC e,Ex.pureLC r]
end
@[simp] theorem Ex.pure (e : Ex) : Pure e.av:=by simp [Ex.av,Ex.pureC]
@[simp] theorem Ex.pureL' (l : List Ex) : PureL (Ex.cellsL l):=Ex.pureLC l
@[simp] theorem Ex.pureC' (e : Ex) : PureL e.cells:=Ex.pureC e
theorem Ex.drop (l : List Ex) (i : Nat) (h : i < l.length) : (Ex.cellsL l).drop (i * 8) = l[i].cells ++ Ex.cellsL (l.drop (i + 1)):=by
 induction l generalizing i with
 | nil => simp at h
 | cons e r ih =>
  cases i with
  | zero => simp [Ex.cellsL]
  | succ i =>
   have e1 : (i + 1) * 8 = 8 + i * 8:=by omega
   rw [Ex.cellsL,e1,← List.drop_drop,List.drop_left' (Ex.cells_len e)]
   simpa using ih i (by simpa using h)
theorem ixa_ex {l : List Ex} {i : Nat} {k : IntKind} (h : i < l.length) : cIxa 8 (.ds (Ex.cellsL l) l.length 8) (.int k (i : Int)) = .val (.dp (l[i].cells ++ Ex.cellsL (l.drop (i + 1)))):=by
 rw [cIxa_ds h,Ex.drop l i h]
@[simp] theorem ld_ex (e : Ex) (r : List AV) (H : Hp) : cLoadN 8 (.dp (e.cells ++ r)) H = .val e.av:=cLoadN_dp r (Ex.cells_len e)
def Val.may (v : Val) : Bool :=
 if v.kind = 0 then decide (v.num = 0) && decide (v.s = []) else if v.kind = 1 then decide (v.s = []) else if v.kind = 2 then decide (v.num = 0) && decide (v.s.length ≤ 64)
 else if v.kind = 3 then decide (v.s = []) && (decide (v.num = 0) || decide (v.num = 1)) else false
@[simp] theorem Val.pure (v : Val) : Pure v.av:=by simp [Val.av]
theorem may52 (v : Val) : FnPure Try.prog 78 [v.av] (.bool v.may):=by
 obtain ⟨k,i,s⟩:=v
 refine pureV c78 (by simp) (by simp) (by simp [A78]) fun F hF => ?_
 simp only [Val.may]
 by_cases h0 : k = 0
 ·
  subst h0
  simp [A78,B78,R78_0,R78_1,R78_2,R78_3,hF,Val.av]
  exact .bool (by simp; try omega)
 by_cases h1 : k = 1
 ·
  subst h1
  simp [A78,B78,R78_0,R78_1,R78_2,R78_4,R78_5,hF,Val.av]
  exact .bool (by simp; try omega)
 by_cases h2 : k = 2
 ·
  subst h2
  by_cases hi : i = 0
  ·
   simp [A78,B78,R78_0,R78_1,R78_2,R78_4,R78_6,R78_7,hF,Val.av,hi]
   exact .bool (by simp; try omega)
  ·
   simp [A78,B78,R78_0,R78_1,R78_2,R78_4,R78_6,R78_7,hF,Val.av,hi]
   exact .bool (by simp; try omega)
 by_cases h3 : k = 3
 ·
  subst h3
  by_cases hs : s = []
  ·
   by_cases hi : i = 0
   ·
    simp [A78,B78,R78_0,R78_1,R78_2,R78_4,R78_6,R78_8,R78_9,hF,Val.av,hi,hs]
    exact .bool (by simp; try omega)
   ·
    simp [A78,B78,R78_0,R78_1,R78_2,R78_4,R78_6,R78_8,R78_9,hF,Val.av,hi,hs]
    exact .bool (by simp; try omega)
  ·
   simp [A78,B78,R78_0,R78_1,R78_2,R78_4,R78_6,R78_8,R78_9,hF,Val.av,hs]
   exact .bool (by simp; try omega)
 simp [A78,B78,R78_0,R78_1,R78_2,R78_4,R78_6,R78_8,R78_10,hF,Val.av,h0,h1,h2,h3]
 exact .bool (by simp; try omega)
mutual
theorem Ex.inj : ∀ (a b : Ex),a.cells = b.cells → a = b
 | .mk op v t m col args,.mk op' v' t' m' col' args',h => by
  simp only [Ex.cells,List.cons.injEq,AV.int.injEq,AV.str.injEq,AV.ds.injEq,true_and,and_true] at h
  obtain ⟨h1,h2,h3,h4,h5,h6,h7,h8,_⟩:=h
  have:=Ex.injL args args' h8
  obtain ⟨k,i,s⟩:=v
  obtain ⟨k',i',s'⟩:=v'
  simp_all
theorem Ex.injL : ∀ (l l' : List Ex),Ex.cellsL l = Ex.cellsL l' → l = l'
 | [],[],_ => rfl
 | [],e :: r,h => by have:=congrArg List.length h; simp at this
 | e :: r,[],h => by have:=congrArg List.length h; simp at this
 | e :: r,e' :: r',h => by
  simp only [Ex.cellsL] at h
  obtain ⟨h1,h2⟩:=List.append_inj h (by simp)
  rw [Ex.inj e e' h1,Ex.injL r r' h2]
end
theorem Ex.av_inj {a b : Ex} (h : a.av = b.av) : a = b:=Ex.inj a b (by simpa [Ex.av] using h)
mutual
def Ex.sz : Ex → Nat
 | .mk _ _ _ _ _ args => 1 + Ex.szL args
def Ex.szL : List Ex → Nat
 | [] => 0
 | e :: r => e.sz + Ex.szL r
end
theorem Ex.sz_pos (e : Ex) : 0 < e.sz:=by cases e; simp [Ex.sz]; omega
theorem Ex.sz_len (l : List Ex) : l.length ≤ Ex.szL l:=by
 induction l with
 | nil => simp [Ex.szL]
 | cons e r ih => have:=Ex.sz_pos e; simp [Ex.szL]; omega
theorem Ex.sz_mem {l : List Ex} {e : Ex} (h : e ∈ l) : e.sz ≤ Ex.szL l:=by
 induction l with
 | nil => cases h
 | cons a r ih =>
  cases h with
  | head => simp [Ex.szL]
  | tail _ hm => have:=ih hm; simp [Ex.szL]; omega
def lim : Nat:=1048576
open Classical in
noncomputable def Ex.same (a b : Ex) : Bool:=decide (a = b)
theorem wrap_nat (i : Nat) (h : i < 2147483648) : IntKind.i64.wrap ((i : Int) + 1) = ((i + 1 : Nat) : Int):=by
 simp [IntKind.wrap,IntKind.signed,IntKind.bits]
 omega
theorem Ex.same_ne {a b : Ex} (h : a ≠ b) : a.same b = false:=by simp [Ex.same,h]
theorem Ex.same_self (a : Ex) : a.same a = true:=by simp [Ex.same]
theorem same31' : ∀ (N : Nat) (a b : Ex),a.sz ≤ N → N ≤ lim → b.sz ≤ lim → FnPure Try.prog 84 [a.av,b.av] (.bool (a.same b))
 | 0,a,_,ha,_,_ => by have:=Ex.sz_pos a; omega
 | N + 1,.mk op v t m col args,.mk op' v' t' m' col' args',ha,hN,hb => by
  simp only [Ex.sz] at ha hb
  have hla:=Ex.sz_len args
  have hlb:=Ex.sz_len args'
  have ih : ∀ (i : Nat) (h1 : i < args.length) (h2 : i < args'.length),FnPure Try.prog 84 [args[i].av,args'[i].av] (.bool (args[i].same args'[i])):=fun i h1 h2 => by
   have m1:=Ex.sz_mem (List.getElem_mem h1)
   have m2:=Ex.sz_mem (List.getElem_mem h2)
   exact same31' N args[i] args'[i] (by omega) (by omega) (by omega)
  refine pureV c84 (by simp) (by simp) (by simp [A84]) fun F hF => ?_
  unfold lim at hN hb
  by_cases hc : op = op' ∧ v = v' ∧ t = t' ∧ m = m' ∧ col = col' ∧ args.length = args'.length
  ·
   obtain ⟨rfl,rfl,rfl,rfl,rfl,hlen⟩:=hc
   simp [A84,B84,R84_0,R84_1,R84_2,R84_3,hF,Ex.av,Ex.cells,hlen]
   refine LoopV.of (fun k F H n m_ => ∃ i,k = args.length - i ∧ i ≤ args.length ∧ F.get 2 = some (.ptr 0 0) ∧ F.get 3 = some (.ptr 1 0) ∧ F.get 5 = some (.int .i64 (i : Int)) ∧
    H.get 0 = some (.cells 8 [] (Ex.mk op v t m col args).cells .nil) ∧ H.get 1 = some (.cells 8 [] (Ex.mk op v t m col args').cells .nil) ∧ m_ = [] ∧ args.take i = args'.take i) args.length ⟨0,by simp [Ex.cells,hlen]⟩ ?_
   rintro k F H n m_ ⟨i,rfl,hi,f2,f3,f5,h0,h1,rfl,ht⟩
   by_cases hlt : i < args.length
   ·
    have hlt' : i < args'.length:=by omega
    have hx:=ixa_ex (k:=.i64) hlt
    have hx':=ixa_ex (k:=.i64) hlt'
    simp [L84_0,R84_4,f2,f5,h0,Ex.cells,hlt,R84_5]
    refine DrwV.of (ceT_ok (l:=[(84,[args[i].av,args'[i].av],fun H n => .mk (.bool (args[i].same args'[i])) H n)]) ?_) ?_
    · simp only [List.mem_singleton]; rintro x rfl; exact ceT_pure (ih i hlt hlt')
    ·
     by_cases hs : args[i] = args'[i]
     ·
      have hb1 : args[i].same args'[i] = true:=by rw [hs]; exact Ex.same_self _
      simp [clearF_get,f2,f3,f5,h0,h1,Ex.cells,hx,hx',ceT_hd,hb1,R84_7,wrap_nat i (by omega)]
      refine ⟨_,?_,i + 1,rfl,hlt,rfl,?_⟩
      · omega
      · rw [List.take_succ_eq_append_getElem hlt,List.take_succ_eq_append_getElem hlt',ht,hs]
     ·
      have hb1:=Ex.same_ne hs
      simp [clearF_get,f2,f3,f5,h0,h1,Ex.cells,hx,hx',ceT_hd,hb1,R84_6]
      refine .bool ?_
      rw [Ex.same_ne]
      intro e
      injection e with _ _ _ _ _ e
      subst e
      exact hs rfl
   ·
    have hi' : i = args.length:=by omega
    simp [L84_0,R84_4,f2,f5,h0,Ex.cells,hlt,R84_8]
    refine .bool ?_
    have : args = args':=by
     have h1:=List.take_of_length_le (l:=args) (i:=i) (by omega)
     have h2:=List.take_of_length_le (l:=args') (i:=i) (by omega)
     rw [← h1,← h2,ht]
    rw [this,Ex.same_self]
  ·
   have hne : (Ex.mk op v t m col args).same (Ex.mk op' v' t' m' col' args') = false:=Ex.same_ne fun e => hc (by injection e with a b c d e f; subst a b c d e f; simp)
   rw [hne]
   obtain ⟨k,j,s⟩:=v
   obtain ⟨k',j',s'⟩:=v'
   by_cases c1 : op = op'
   ·
    by_cases c2 : k = k' ∧ j = j' ∧ s = s'
    ·
     obtain ⟨rfl,rfl,rfl⟩:=c2
     by_cases c3 : t = t'
     ·
      by_cases c4 : m = m'
      ·
       by_cases c5 : col = col'
       ·
        have c6 : ¬ args.length = args'.length:=fun e => hc ⟨c1,rfl,c3,c4,c5,e⟩
        subst c1 c3 c4 c5
        simp [A84,B84,R84_0,R84_1,R84_2,hF,Ex.av,Ex.cells,c6]
        exact .bool rfl
       ·
        subst c1 c3 c4
        simp [A84,B84,R84_0,R84_1,R84_2,hF,Ex.av,Ex.cells,c5]
        exact .bool rfl
      ·
       subst c1 c3
       simp [A84,B84,R84_0,R84_1,R84_2,hF,Ex.av,Ex.cells,c4]
       exact .bool rfl
     ·
      subst c1
      simp [A84,B84,R84_0,R84_1,R84_2,hF,Ex.av,Ex.cells,c3]
      exact .bool rfl
    ·
     subst c1
     have c2' : (decide (k = k') && (decide (j = j') && decide (s = s'))) = false:=by simpa using fun a b c => c2 ⟨a,b,c⟩
     simp [A84,B84,R84_0,R84_1,R84_2,hF,Ex.av,Ex.cells,c2']
     exact .bool rfl
   ·
    simp [A84,B84,R84_0,R84_1,R84_2,hF,Ex.av,Ex.cells,c1]
    exact .bool rfl
theorem same31 (a b : Ex) (ha : a.sz ≤ lim) (hb : b.sz ≤ lim) : FnPure Try.prog 84 [a.av,b.av] (.bool (a.same b)):=same31' lim a b ha (Nat.le_refl _) hb
end Go.Abs
namespace Go.Abs
open Go.Proofs
set_option maxRecDepth 100000
open Classical in
theorem Ex.cellsL_append (a b : List Ex) : Ex.cellsL (a ++ b) = Ex.cellsL a ++ Ex.cellsL b:=by
 induction a with
 | nil => simp [Ex.cellsL]
 | cons e r ih => simp [Ex.cellsL,ih]
theorem OwnS.step {H H' : Hp} {n n' : Nat} {v : AV} {l : List AV} {len sz : Nat} (h : OwnS H n v l len sz) (hn : n ≤ n') (hk : ∀ c,c < n → v = .sl c 0 len sz → H'.get c = H.get c) : OwnS H' n' v l len sz:=by
 obtain ⟨h0,h | ⟨b,k,rfl,hb,hkb,ho⟩⟩:=h
 · exact ⟨h0,.inl h⟩
 · exact ⟨h0,.inr ⟨b,k,rfl,by omega,by rw [hk b hb rfl,hkb],ho⟩⟩
theorem FrzL.app {h : Hf} {a a' b b' : List AV} (x : FrzL h a a') (y : FrzL h b b') : FrzL h (a ++ b) (a' ++ b'):=by
 induction a generalizing a' with
 | nil => cases x; exact y
 | cons v r ih => cases x with
  | cons _ _ _ _ x1 x2 => exact .cons _ _ _ _ x1 (ih x2)
theorem FrzL.snoc {h : Hf} (a : List AV) {v v' : AV} (ha : PureL a) (hv : Frz h v v') : FrzL h (a ++ [v]) (a ++ [v']):=(FrzL.pure ha).app (.cons _ _ _ _ hv .nil)
theorem own30' : ∀ (N : Nat) (e : Ex),e.sz ≤ N → N ≤ lim → FnPure Try.prog 97 [e.av] e.av
 | 0,e,h,_ => by have:=Ex.sz_pos e; omega
 | N + 1,.mk op v t m col args,ha,hN => by
  simp only [Ex.sz] at ha
  have hla:=Ex.sz_len args
  have ih : ∀ (i : Nat) (h1 : i < args.length),FnPure Try.prog 97 [args[i].av] args[i].av:=fun i h1 => by
   have m1:=Ex.sz_mem (List.getElem_mem h1)
   exact own30' N args[i] (by omega) (by omega)
  unfold lim at hN
  refine pureV c97 (by simp) (by simp) (by simp [A97]) fun F hF => ?_
  simp [A97,B97,R97_0,R97_1,R97_2,hF,Ex.av,Ex.cells]
  refine LoopV.of (fun k F H n m_ => ∃ i x,k = args.length - i ∧ i ≤ args.length ∧ F.get 1 = some (.ptr 0 0) ∧ F.get 2 = some (.ptr 1 0) ∧ F.get 7 = some (.ds (Ex.cellsL args) args.length 8) ∧ F.get 8 = some (.int .i64 (args.length : Int)) ∧ F.get 9 = some (.int .i64 (i : Int)) ∧ F.get 3 = some x ∧
   OwnS H n x (Ex.cellsL (args.take i)) i 8 ∧ 2 ≤ n ∧ x ≠ .sl 0 0 i 8 ∧ x ≠ .sl 1 0 i 8 ∧ H.get 0 = some (.cells 8 [] (Ex.mk op v t m col args).cells .nil) ∧ (∃ c,H.get 1 = some (.cells 8 [] c .nil) ∧ c.length = 8) ∧ m_ = []) args.length
   ⟨0,.cst (.slice none 0 0),by simp [Ex.cells,OwnS.nil,Ex.cellsL]⟩ ?_
  rintro k F H n m_ ⟨i,x,rfl,hi,f1,f2,f7,f8,f9,f3,ho,hn,hx0,hx1,h0,⟨c,h1,hcl⟩,rfl⟩
  by_cases hlt : i < args.length
  ·
   have hx:=ixa_ex (k:=.i64) hlt
   simp [L97_0,R97_3,R97_4,R97_5,f7,f8,f9,f3,hlt,hx]
   refine CalV.pure (ih i hlt) ?_
   simp
   refine OwnS.app (k:=1) (new:=args[i].cells) (len:=i) (l:=Ex.cellsL (args.take i)) (OwnS.step ho (by omega) fun c hc _ => by simp [show ¬ c = n + 1 by omega,show ¬ c = n by omega]) ?_ (by simp) (by simp) (by omega) (by omega) (by unfold big; omega) (by omega) (by simp) fun H' ho' hk => ?_
   · rw [sliceCells_sl (l:=args[i].cells) (k:=.cells 8 [] args[i].cells .nil) (by simp) (OwnB.list (by simp)) (by simp)]; simp
   ·
    simp [f1,f2,f7,f8,f9,R97_6,wrap_nat i (by omega)]
    refine ⟨args.length - (i + 1),by omega,i + 1,rfl,hlt,by omega,?_,?_,c,?_,hcl⟩
    ·
     rw [List.take_succ_eq_append_getElem hlt,Ex.cellsL_append]
     simpa [Ex.cellsL] using ho'
    · rw [hk 0 (by omega) hx0]; simp [show ¬ 0 = n by omega,h0]
    · rw [hk 1 (by omega) hx1]; simp [show ¬ 1 = n by omega,h1]; omega
  ·
   have hi' : i = args.length:=by omega
   subst hi'
   have ho2:=ho
   rw [List.take_length] at ho2
   obtain ⟨_,⟨rfl,hl0⟩ | ⟨b,kb,rfl,hb,hkb,hob⟩⟩:=ho
   ·
    have : args = []:=by simpa using hl0
    subst this
    simp [L97_0,R97_3,f1,f2,f8,f9,f3,R97_7,R97_8,h0,h1,Ex.cells,hcl]
    refine .agg _ _ _ (FrzL.snoc [_,_,_,_,_,_,_] (by simp) (.nil 7))
   ·
    have hb0 : ¬ b = 0:=fun e => hx0 (by rw [e])
    have hb1 : ¬ b = 1:=fun e => hx1 (by rw [e])
    simp [L97_0,R97_3,f1,f2,f8,f9,f3,R97_7,R97_8,h0,h1,Ex.cells,hcl]
    refine .agg _ _ _ (FrzL.snoc [_,_,_,_,_,_,_] (by simp) ?_)
    refine (OwnS.step ho2 (Nat.le_refl _) fun c hc e => ?_).frz (.pure (by simp))
    injection e with e
    subst e
    simp [hb0,hb1]
theorem own30 (e : Ex) (h : e.sz ≤ lim) : FnPure Try.prog 97 [e.av] e.av:=own30' lim e h (Nat.le_refl _)
end Go.Abs
namespace Go.Abs
open Go.Proofs
set_option maxRecDepth 100000
theorem Ex.sz_get {args : List Ex} {i : Nat} (h : i < args.length) : args[i].sz ≤ Ex.szL args:=Ex.sz_mem (List.getElem_mem h)
def Ex.split (e : Ex) : List Ex:=match e with
 | .mk op v t m col args => if h : op = 20 ∧ args.length = 2 then (args[0]'(by omega)).split ++ (args[1]'(by omega)).split else [.mk op v t m col args]
 termination_by e.sz
 decreasing_by
 · have:=Ex.sz_get (args:=args) (i:=0) (by omega); simp [Ex.sz]; omega
 · have:=Ex.sz_get (args:=args) (i:=1) (by omega); simp [Ex.sz]; omega
theorem Ex.split_and {v t m col} (a b : Ex) : (Ex.mk 20 v t m col [a,b]).split = a.split ++ b.split:=by
 rw [Ex.split]; simp
theorem Ex.split_one {op v t m col} {args : List Ex} (h : ¬ (op = 20 ∧ args.length = 2)) : (Ex.mk op v t m col args).split = [.mk op v t m col args]:=by
 rw [Ex.split]; rw [dif_neg h]
theorem Ex.szL_append (a b : List Ex) : Ex.szL (a ++ b) = Ex.szL a + Ex.szL b:=by
 induction a with
 | nil => simp [Ex.szL]
 | cons e r ih => simp [Ex.szL,ih]; omega
theorem Ex.split_sz : ∀ (N : Nat) (e : Ex),e.sz ≤ N → Ex.szL e.split ≤ e.sz ∧ 0 < e.split.length
 | 0,e,h => by have:=Ex.sz_pos e; omega
 | N + 1,.mk op v t m col args,h => by
  by_cases hc : op = 20 ∧ args.length = 2
  ·
   obtain ⟨rfl,hl⟩:=hc
   match args,hl with
   | [a,b],_ =>
    simp [Ex.sz,Ex.szL] at h
    have h1:=Ex.split_sz N a (by omega)
    have h2:=Ex.split_sz N b (by omega)
    rw [Ex.split_and,Ex.szL_append]
    simp [Ex.sz,Ex.szL]
    omega
  · rw [Ex.split_one hc]; simp [Ex.szL]
theorem Ex.drop_take (l : List Ex) (i : Nat) (h : i < l.length) : ((Ex.cellsL l).drop (i * 8)).take 8 = l[i].cells:=by
 rw [Ex.drop l i h,List.take_append_of_le_length (by simp)]; simp
theorem own_one {H : Hp} (e : Ex) (h : H.get 1 = some (.cells 8 [] e.cells .nil)) : OwnS H 2 (.sl 1 0 1 8) (Ex.cellsL [e]) 1 8 :=
 ⟨by simp,.inr ⟨1,_,rfl,by omega,h,by simpa [Ex.cellsL] using OwnB.list (l:=e.cells) (u:=8) (by simp)⟩⟩
theorem conj10' : ∀ (N : Nat) (e : Ex),e.sz ≤ N → N ≤ lim → FnOwn Try.prog 72 [e.av] (Ex.cellsL e.split) e.split.length 8
 | 0,e,h,_ => by have:=Ex.sz_pos e; omega
 | N + 1,.mk op v t m col args,ha,hN => by
  have hs:=Ex.split_sz (N + 1) (.mk op v t m col args) ha
  refine FnOwn.of (by simp) (by simp) hs.2 (CallR.of c72 (by simp [A72]) fun F hF => ?_)
  by_cases hc : op = 20 ∧ args.length = 2
  ·
   obtain ⟨rfl,hl⟩:=hc
   match args,hl with
   | [a,b],_ =>
    simp only [Ex.sz,Ex.szL] at ha
    have ia:=conj10' N a (by omega) (by omega)
    have ib:=conj10' N b (by omega) (by omega)
    have sa:=Ex.split_sz N a (by omega)
    have sb:=Ex.split_sz N b (by omega)
    have la:=Ex.sz_len a.split
    have lb:=Ex.sz_len b.split
    unfold lim at hN
    have x0 : cIxa 8 (.ds (Ex.cellsL [a,b]) 2 8) (.int .i64 0) = .val (.dp (a.cells ++ Ex.cellsL [b])):=by
     have:=ixa_ex (l:=[a,b]) (i:=0) (k:=.i64) (by simp)
     simpa using this
    have x1 : cIxa 8 (.ds (Ex.cellsL [a,b]) 2 8) (.int .i64 1) = .val (.dp (b.cells ++ Ex.cellsL [])):=by
     have:=ixa_ex (l:=[a,b]) (i:=1) (k:=.i64) (by simp)
     simpa using this
    rw [Ex.split_and]
    simp [A72,B72,R72_0,R72_1,R72_2,hF,Ex.av,Ex.cells]
    refine DrwV.of (ceT_ok (l:=[(72,[a.av],fun H n => .mk (.sl n 0 a.split.length 8) (H.put n (some (.cells (a.split.length * 8) [] (Ex.cellsL a.split) .nil))) (n + 1)),(72,[b.av],fun H n => .mk (.sl n 0 b.split.length 8) (H.put n (some (.cells (b.split.length * 8) [] (Ex.cellsL b.split) .nil))) (n + 1))]) ?_) ?_
    ·
     simp only [List.mem_cons,List.not_mem_nil,or_false]
     rintro x (rfl | rfl)
     · exact ceT_own ia
     · exact ceT_own ib
    ·
     have hb : ∀ H n,(ceT [((72 : Nat),[a.av],fun (H : Hp) (n : Nat) => CRes.mk (.sl n 0 a.split.length 8) (H.put n (some (.cells (a.split.length * 8) [] (Ex.cellsL a.split) .nil))) (n + 1)),(72,[b.av],fun H n => .mk (.sl n 0 b.split.length 8) (H.put n (some (.cells (b.split.length * 8) [] (Ex.cellsL b.split) .nil))) (n + 1))]).call 72 [b.av] H n = .mk (.sl n 0 b.split.length 8) (H.put n (some (.cells (b.split.length * 8) [] (Ex.cellsL b.split) .nil))) (n + 1):=by
      intro H n
      rw [ceT_tl,ceT_hd]
      · simp
      ·
       intro _ e H n
       have e : b = a:=Ex.av_inj (by simpa using e)
       subst e
       rw [ceT_hd]
     simp [clearF_get,x0,x1,ceT_hd,hb]
     refine OwnS.appI (k:=b.split.length) (new:=Ex.cellsL b.split) (len:=a.split.length) (l:=Ex.cellsL a.split) ⟨by simp,.inr ⟨1,_,rfl,by omega,by simp; rfl,.list (by simp)⟩⟩ ?_ (by simp) (by simp) (by omega) (by omega) (by unfold big; omega) (by omega) (by simp) fun H' ho' hk => ?_
     ·
      rw [sliceCells_sl (l:=Ex.cellsL b.split) (k:=.cells (b.split.length * 8) [] (Ex.cellsL b.split) .nil) (by simp) (OwnB.list (by simp)) (by simp)]
      simp [List.take_of_length_le]
     ·
      simp
      rw [Ex.cellsL_append]
      exact ho'
  ·
   rw [Ex.split_one hc]
   have ho:=own30 (.mk op v t m col args) (by omega)
   by_cases h20 : op = 20
   ·
    have hl : ¬ args.length = 2:=fun e => hc ⟨h20,e⟩
    have hl' : ¬ (args.length : Int) = 2:=by omega
    simp [A72,B72,R72_0,R72_1,R72_3,hF,Ex.av,Ex.cells,h20,hl']
    subst h20
    refine CalV.pure ho ?_
    simp
    exact own_one _ (by simp [Ex.cells])
   ·
    simp [A72,B72,R72_0,R72_1,R72_3,hF,Ex.av,Ex.cells,h20]
    refine CalV.pure ho ?_
    simp
    exact own_one _ (by simp [Ex.cells])
theorem conj10 (e : Ex) (h : e.sz ≤ lim) : FnOwn Try.prog 72 [e.av] (Ex.cellsL e.split) e.split.length 8:=conj10' lim e h (Nat.le_refl _)
def idxI {α : Type} (p : α → Bool) (l : List α) : Int:=match l.findIdx? p with
 | some i => (i : Int)
 | none => -1
noncomputable def idxC (s : Nat) (ld : Eff) : CF:={ res:=[rTmp 4],code:=.seq (.reg [oP (pdT 4) (eMov (constG (.int .i64 0)))]) (.seq (.seq (.reg [oP (pdT 6) (eMov (slotG 0)),oP (pdT 7) (e1 cLenL (slotG 6)),oP (pdT 8) (eMov (constG (.int .i64 0)))]) (.block 0 (.loop
 (.seq (.reg [oP (pdT 9) (e2 (cBin .lss) (slotG 8) (slotG 7))]) (.seq (.cond (slotG 9) .skip (.exit 0)) (.seq (.block 1 (.seq (.reg [oP (pdT 10) (eMov (slotG 8)),oP (pdT 5) (eMov (slotG 10))]) (.seq (.reg [oP (pdT 11) (eMov (slotG 1)),oP (pdT 12) (eMov (slotG 0)),oP (pdT 13) (eMov (slotG 5)),oP (pdT 14) (e2 (cIxa s) (slotG 12) (slotG 13)),oP (pdT 15) ld,vP (pdT 16) (slotG 11) [(slotG 15)]])
  (.cond (slotG 16) (.seq (.reg [oP (pdT 17) (eMov (slotG 5)),oP (pdT 4) (eMov (slotG 17))]) .ret) .skip)))) (.reg [oP (pdT 18) (e2 (cBin .add) (slotG 8) (constG (.int .i64 1))),oP (pdT 8) (eMov (slotG 18))])))))))
 (.seq (.reg [oP (pdT 4) (eMov (constG (.int .i64 (-1))))]) .ret)),nt:=19 }
theorem idxI_some {α : Type} {p : α → Bool} {l : List α} {i : Nat} (h : i < l.length) (hp : p l[i] = true) (hn : ∀ j (hj : j < i),p (l[j]'(by omega)) = false) : idxI p l = (i : Int):=by
 have : l.findIdx? p = some i:=by
  rw [List.findIdx?_eq_some_iff_getElem]
  exact ⟨h,hp,fun j hj => by simpa using hn j hj⟩
 simp [idxI,this]
theorem idxI_none {α : Type} {p : α → Bool} {l : List α} (hn : ∀ j (hj : j < l.length),p l[j] = false) : idxI p l = -1:=by
 have : l.findIdx? p = none:=by
  rw [List.findIdx?_eq_none_iff]
  intro x hx
  obtain ⟨j,hj,rfl⟩:=List.getElem_of_mem hx
  simpa using hn j hj
 simp [idxI,this]
theorem idx_ok {α : Type} {P : Program} {g : FuncId} {s : Nat} {ld : Eff} {v : AV} {el : α → AV} {xs : List α} {f : FuncId} {first cap : List AV} {p : α → Bool} {H : Hp} {n : Nat} (hc : ctF P g = some (idxC s ld)) (hl : xs.length ≤ lim) (hlen : cLenL v = .val (.int .i64 (xs.length : Int)))
  (hx : ∀ i (h : i < xs.length),∃ q,cIxa s v (.int .i64 (i : Int)) = .val q ∧ ∀ (F : Fr) H n,F.get 14 = some q → ld F H n = .val (el xs[i]))
  (hp : ∀ x ∈ xs,CallR P f (first ++ ([el x] ++ cap)) H n (fun u K k => u = .bool (p x) ∧ K = H ∧ k = n)) :
  CallR P g [v,.fn (.func f) first cap] H n (fun u K k => u = .int .i64 (idxI p xs) ∧ K = H ∧ k = n):=by
 refine CallR.of hc (by simp [idxC]) fun F hF => ?_
 unfold lim at hl
 simp [idxC,hF,hlen]
 refine LoopV.of (fun k F K m m_ => ∃ i,k = xs.length - i ∧ i ≤ xs.length ∧ F.get 0 = some v ∧ F.get 1 = some (.fn (.func f) first cap) ∧ F.get 7 = some (.int .i64 (xs.length : Int)) ∧ F.get 8 = some (.int .i64 (i : Int)) ∧
  K = H ∧ m = n ∧ m_ = [] ∧ ∀ j (hj : j < i) (h : j < xs.length),p xs[j] = false) xs.length ⟨0,by simp [hF]⟩ ?_
 rintro k F K m m_ ⟨i,rfl,hi,f0,f1,f7,f8,rfl,rfl,rfl,hj⟩
 by_cases hlt : i < xs.length
 ·
  obtain ⟨q,hq,hld⟩:=hx i hlt
  simp [f0,f1,f7,f8,hlt,hq]
  rw [hld _ _ _ (by simp)]
  simp
  refine CalV.same (hp xs[i] (List.getElem_mem hlt)) ?_
  simp
  refine CondV.ofB (fun hb => ?_) fun hb => ?_
  ·
   simp
   exact (idxI_some hlt hb fun j hj' => hj j hj' (by omega)).symm
  ·
   simp [f0,f1,f7,f8,wrap_nat i (by omega)]
   refine ⟨xs.length - (i + 1),by omega,i + 1,rfl,hlt,by omega,fun j hj' h => ?_⟩
   by_cases e : j = i
   · subst e; exact hb
   · exact hj j (by omega) h
 ·
  simp [f7,f8,hlt]
  exact (idxI_none fun j h => hj j (by omega) h).symm
noncomputable def conC (g : FuncId) : CF:={ res:=[rTmp 4],code:=.seq (.reg [oP (pdT 4) (eMov (constG (.bool false)))]) (.seq (.reg [oP (pdT 5) (eMov (slotG 0)),oP (pdT 6) (eMov (slotG 1)),cP (pdT 7) g [(slotG 5),(slotG 6)],oP (pdT 8) (e2 (cBin .geq) (slotG 7) (constG (.int .i64 0))),oP (pdT 4) (eMov (slotG 8))]) .ret),nt:=9 }
theorem idxI_any {α : Type} (p : α → Bool) (l : List α) : decide (0 ≤ idxI p l) = l.any p:=by
 unfold idxI
 cases h : l.findIdx? p with
 | none =>
  rw [List.findIdx?_eq_none_iff] at h
  have : l.any p = false:=by
   rw [List.any_eq_false]
   intro x hx; simpa using h x hx
  simp [this]
 | some i =>
  rw [List.findIdx?_eq_some_iff_getElem] at h
  obtain ⟨h1,h2,_⟩:=h
  have : l.any p = true:=by rw [List.any_eq_true]; exact ⟨_,List.getElem_mem h1,h2⟩
  simp [this]
theorem con_ok {α : Type} {P : Program} {g c : FuncId} {v fv : AV} {xs : List α} {p : α → Bool} {H : Hp} {n : Nat} (hc : ctF P c = some (conC g)) (h : CallR P g [v,fv] H n (fun u K k => u = .int .i64 (idxI p xs) ∧ K = H ∧ k = n)) :
  CallR P c [v,fv] H n (fun u K k => u = .bool (xs.any p) ∧ K = H ∧ k = n):=by
 refine CallR.of hc (by simp [conC]) fun F hF => ?_
 simp [conC,hF]
 refine CalV.same h ?_
 simp [idxI_any]
mutual
def Ex.right (n : Int) : Ex → Bool
 | .mk op v _ _ col args => if op = 1 then decide (args.length = 0) && v.may else if op = 3 then decide (args.length = 0) && (decide (0 ≤ col) && decide (col < n))
  else (wantE op).2 && (decide ((args.length : Int) = (wantE op).1.n) && Ex.rightL n args)
def Ex.rightL (n : Int) : List Ex → Bool
 | [] => true
 | e :: r => e.right n && Ex.rightL n r
end
def intsC (l : List Int) : List AV:=l.map (.int .i64)
@[simp] theorem intsC_len (l : List Int) : (intsC l).length = l.length:=by simp [intsC]
@[simp] theorem intsC_pure (l : List Int) : PureL (intsC l):=PureL.of_mem fun v hv => by
 simp only [intsC,List.mem_map] at hv
 obtain ⟨i,_,rfl⟩:=hv
 simp
@[simp] theorem intsC_one (l : List Int) : allOne (intsC l) = true:=by
 induction l with
 | nil => rfl
 | cons a r ih => simp only [intsC,List.map_cons,allOne_cons,one_int,Bool.true_and]; exact ih
theorem intsC_append (a b : List Int) : intsC (a ++ b) = intsC a ++ intsC b:=by simp [intsC]
theorem intsC_drop (l : List Int) (i : Nat) (h : i < l.length) : (intsC l).drop i = .int .i64 l[i] :: intsC (l.drop (i + 1)):=by
 unfold intsC
 rw [← List.map_drop,List.drop_eq_getElem_cons h]; rfl
theorem ixa_int {l : List Int} {i : Nat} {k : IntKind} (h : i < l.length) : cIxa 1 (.ds (intsC l) l.length 1) (.int k (i : Int)) = .val (.dp (.int .i64 l[i] :: intsC (l.drop (i + 1)))):=by
 rw [cIxa_ds h,Nat.mul_one,intsC_drop l i h]
def Want.fits (w : Want) (l : List Int) : Bool :=
 if w.any = true then !w.alike || (decide (l.getD 0 0 = l.getD 1 0) || (decide (l.getD 0 0 = 0) || decide (l.getD 1 0 = 0))) else !(l.any fun k => decide (k ≠ 0) && decide (k ≠ w.part))
theorem fits95 {H : Hp} {n b : Nat} (w : Want) (k : Int) (hb : H.get b = some (.cells 5 [] [.int .i64 w.n,.int .i64 w.part,.int .i64 w.kind,.bool w.any,.bool w.alike] .nil)) :
  CallR Try.prog 101 [.int .i64 k,.ptr b 0] H n (fun u K j => u = .bool (decide (k ≠ 0) && decide (k ≠ w.part)) ∧ K = H ∧ j = n):=by
 refine CallR.of c101 (by simp [A101]) fun F hF => ?_
 by_cases h0 : k = 0
 · simp [A101,B101,R101_0,R101_1,hF,h0]
 · simp [A101,B101,R101_0,R101_1,hF,hb,h0]
theorem fits56 (w : Want) (l : List Int) (hl : l.length ≤ lim) (h2 : w.any = true → w.alike = true → 2 ≤ l.length) : FnPure Try.prog 82 [w.av,.ds (intsC l) l.length 1] (.bool (w.fits l)):=by
 obtain ⟨wn,wp,wk,wa,wl⟩:=w
 refine pureV c82 (by simp) (by simp) (by simp [A82]) fun F hF => ?_
 simp only [Want.fits]
 cases wa with
 | false =>
  simp [A82,B82,R82_0,R82_1,R82_2,hF,Want.av]
  refine CalV.same (con_ok (xs:=l) (p:=fun k => decide (k ≠ 0) && decide (k ≠ wp)) c100 (idx_ok (el:=fun k => .int .i64 k) (first:=[]) (cap:=[.ptr 0 0]) c104 hl (by simp) (fun i h => ⟨_,ixa_int h,fun F H n h14 => by simp [h14]⟩) fun x hx => fits95 ⟨wn,wp,wk,false,wl⟩ x (by simp))) ?_
  simp
  exact .bool (by simp)
 | true =>
  cases wl with
  | false =>
   simp [A82,B82,R82_0,R82_1,R82_3,hF,Want.av]
   refine DrwV.of (ce0_ok (P:=Try.prog)) ?_
   simp [clearF_get]
   exact .bool (by simp)
  | true =>
   have h2:=h2 rfl rfl
   match l,h2 with
   | a :: b :: r,_ =>
    have x0 : cIxa 1 (.ds (intsC (a :: b :: r)) (r.length + 1 + 1) 1) (.int .i64 0) = .val (.dp (.int .i64 a :: intsC (b :: r))):=by
     have:=ixa_int (l:=a :: b :: r) (i:=0) (k:=.i64) (by simp)
     simpa using this
    have x1 : cIxa 1 (.ds (intsC (a :: b :: r)) (r.length + 1 + 1) 1) (.int .i64 1) = .val (.dp (.int .i64 b :: intsC r)):=by
     have:=ixa_int (l:=a :: b :: r) (i:=1) (k:=.i64) (by simp)
     simpa using this
    simp [A82,B82,R82_0,R82_1,R82_3,hF,Want.av]
    refine DrwV.of (ce0_ok (P:=Try.prog)) ?_
    by_cases e1 : a = b
    ·
     subst e1
     simp [clearF_get,hF,x0,x1]
     exact .bool (by simp)
    ·
     by_cases e2 : a = 0
     ·
      subst e2
      simp [clearF_get,hF,x0,x1,e1]
      exact .bool (by simp)
     ·
      simp [clearF_get,hF,x0,x1,e1,e2]
      exact .bool (by simp)
end Go.Abs
namespace Go.Abs
open Go.Proofs
open Classical
set_option maxRecDepth 100000
structure Col where
  name : List Nat
  kind : Int
  need : Bool
structure Tbl where
  id : Int
  name : List Nat
  cols : List Col
  head : Int
structure Ixd where
  id : Int
  table : Int
  name : List Nat
  cols : List Int
  uniq : Bool
  root : Int
structure Sch where
  tables : List Tbl
  indexes : List Ixd
def eStr : Enc (List Nat) 1 := ⟨fun s => [.str s], fun _ => rfl, fun _ => by simp, fun _ => by simp [allOne, AV.one]⟩
def eInt : Enc Int 1 := ⟨fun i => [.int .i64 i], fun _ => rfl, fun _ => by simp, fun _ => by simp [allOne, AV.one]⟩
def eCol : Enc Col 3 := ⟨fun c => [.str c.name, .int .i64 c.kind, .bool c.need], fun _ => rfl, fun _ => by simp, fun _ => by simp [allOne, AV.one]⟩
def eTbl : Enc Tbl 4 := ⟨fun t => [.int .u32 t.id, .str t.name, eCol.ds t.cols, .int .u32 t.head], fun _ => rfl, fun _ => by simp, fun _ => by simp [allOne, AV.one, Enc.ds]⟩
def eIxd : Enc Ixd 6 := ⟨fun x => [.int .u32 x.id, .int .u32 x.table, .str x.name, eInt.ds x.cols, .bool x.uniq, .int .u32 x.root], fun _ => rfl, fun _ => by simp, fun _ => by simp [allOne, AV.one, Enc.ds]⟩
def eSch : Enc Sch 2 := ⟨fun s => [eTbl.ds s.tables, eIxd.ds s.indexes], fun _ => rfl, fun _ => by simp, fun _ => by simp [allOne, AV.one, Enc.ds]⟩
theorem eStr_c (s : List Nat) : eStr.cells s = [.str s] := rfl
theorem eInt_c (i : Int) : eInt.cells i = [.int .i64 i] := rfl
theorem eCol_c (c : Col) : eCol.cells c = [.str c.name, .int .i64 c.kind, .bool c.need] := rfl
theorem eTbl_c (t : Tbl) : eTbl.cells t = [.int .u32 t.id, .str t.name, eCol.ds t.cols, .int .u32 t.head] := rfl
theorem eIxd_c (x : Ixd) : eIxd.cells x = [.int .u32 x.id, .int .u32 x.table, .str x.name, eInt.ds x.cols, .bool x.uniq, .int .u32 x.root] := rfl
theorem eSch_c (s : Sch) : eSch.cells s = [eTbl.ds s.tables, eIxd.ds s.indexes] := rfl
def chr0 (c : Nat) : Prop := 97 ≤ c ∧ c ≤ 122
def chr1 (c : Nat) : Prop := (48 ≤ c ∧ c ≤ 57) ∨ c = 95
def NameOk (s : List Nat) : Prop := s ≠ [] ∧ s.length ≤ 24 ∧ ∀ j (h : j < s.length), chr0 s[j] ∨ (0 < j ∧ chr1 s[j])
theorem cIxs_at {l : List Nat} {i : Nat} {k : IntKind} (h : i < l.length) : cIxs (.str l) (.int k (i : Int)) = .val (.int .u8 (l[i] : Int)) := by
  unfold cIxs
  simp [nth_eq, List.getElem?_eq_getElem h]
theorem name44 (s : List Nat) : FnPure Try.prog 44 [.str s] (.bool (decide (NameOk s))) := by
  refine pureV c44 (by simp) (by simp) (by simp [A44]) fun F hF => ?_
  simp [A44, B44, R44_0, R44_1, hF]
  by_cases h0 : s = []
  · have : ¬ NameOk s := fun h => h.1 h0
    simp [h0, R44_2]
    exact .bool (by subst h0; simp [this])
  by_cases h24 : s.length ≤ 24
  · simp [h0, show ¬ (24 : Int) < (s.length : Int) by omega, R44_3, hF]
    refine LoopV.of (fun t F K n ms => ∃ i, t = s.length - i ∧ i ≤ s.length ∧ F.get 0 = some (.str s) ∧ F.get 13 = some (.int .i64 (s.length : Int)) ∧ F.get 14 = some (.int .i64 (i : Int)) ∧ K = .nil ∧ ms = [] ∧ ∀ j (h : j < s.length), j < i → chr0 s[j] ∨ (0 < j ∧ chr1 s[j])) s.length ⟨0, by simp [hF]⟩ ?_
    rintro t F K n ms ⟨i, rfl, hi, f0, f13, f14, rfl, rfl, hj⟩
    by_cases hlt : i < s.length
    · have hx := cIxs_at (k := .i64) hlt
      have w := wrap_nat i (by omega)
      have stay : ∀ F' : Fr, F'.get 0 = some (.str s) → F'.get 13 = some (.int .i64 (s.length : Int)) → F'.get 14 = some (.int .i64 (i : Int)) → (chr0 s[i] ∨ (0 < i ∧ chr1 s[i])) → VC Try.prog R44_10 F' .nil n [] (RndQ (fun t F K n ms => ∃ i, t = s.length - i ∧ i ≤ s.length ∧ F.get 0 = some (.str s) ∧ F.get 13 = some (.int .i64 (s.length : Int)) ∧ F.get 14 = some (.int .i64 (i : Int)) ∧ K = .nil ∧ ms = [] ∧ ∀ j (h : j < s.length), j < i → chr0 s[j] ∨ (0 < j ∧ chr1 s[j])) (s.length - i) (BlkQ 0 (SeqV Try.prog (R44_11.seq CT.ret) (RetQ [rTmp 2] fun v1 H' _ => Frz H'.get v1 (.bool (decide (NameOk s))))))) := by
        intro F' g0 g13 g14 hc
        simp [R44_10, g0, g13, g14, w]
        refine ⟨s.length - (i + 1), by omega, i + 1, rfl, hlt, rfl, fun j h hji => ?_⟩
        by_cases e : j = i
        · subst e; exact hc
        · exact hj j h (by omega)
      have no : ∀ (F' : Fr), ¬ (chr0 s[i] ∨ (0 < i ∧ chr1 s[i])) → Frz (Tr.nil : Hp).get (.bool false) (.bool (decide (NameOk s))) := fun F' hc => by
        have : ¬ NameOk s := fun h => hc (h.2.2 i hlt)
        exact .bool (by simp [this])
      simp [L44_0, R44_4, f13, f14, hlt, R44_5, R44_6, f0, hx, R44_7]
      generalize hcc : s[i] = c at stay no
      by_cases a1 : (97 : Int) ≤ (c : Int) <;> by_cases a2 : (c : Int) ≤ 122 <;> by_cases z : 0 < i <;> by_cases b1 : (48 : Int) ≤ (c : Int) <;> by_cases b2 : (c : Int) ≤ 57 <;> by_cases d : c = 95 <;>
        first
        | (exfalso; omega)
        | (simp [a1, a2, z, b1, b2, d, show ((c : Int) = 95) = (c = 95) by simp; omega, R44_8, R44_9]
           first
           | simpa using stay _ (by simp [f0]) (by simp [f13]) (by simp [f14]) (by unfold chr0 chr1; omega)
           | exact no F (by unfold chr0 chr1; omega))
    · obtain rfl : i = s.length := by omega
      have : NameOk s := ⟨h0, h24, fun j h => hj j h h⟩
      simp [L44_0, R44_4, f13, f14, R44_11]
      exact .bool (by simp [this])
  · have : ¬ NameOk s := fun h => h24 h.2.1
    simp [h0, hF, show (24 : Int) < (s.length : Int) by omega, R44_2]
    exact .bool (by simp [this])
end Go.Abs
namespace Go.Abs
def kws : List (List Nat):=[[97,110,100],[97,115],[98,101,103,105,110],[98,111,111,108],[98,121],[99,111,109,109,105,116],[99,114,101,97,116,101],[100,101,108,101,116,101],[100,101,115,99],[100,105,115,116,105,110,99,116],[100,114,111,112],[102,97,108,115,101],[102,114,111,109],[105,110,100,101,120],[105,110,115,101,114,116],[105,110,116],[105,110,116,111],[105,115],[106,111,105,110],[108,105,109,105,116],[110,111,116],[110,117,108,108],[111,110],[111,114],[111,114,100,101,114],[114,111,108,108,98,97,99,107],[115,101,108,101,99,116],[115,101,116],[116,97,98,108,101],[116,101,120,116],[116,114,117,101],[117,110,105,113,117,101],[117,112,100,97,116,101],[118,97,108,117,101,115],[119,104,101,114,101]]
end Go.Abs
