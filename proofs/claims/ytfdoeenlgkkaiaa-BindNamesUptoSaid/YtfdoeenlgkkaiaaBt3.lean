/- The words that are kept; what a name in a statement is; columns that may be. -/
import Derived.Test.YtfdoeenlgkkaiaaBt2
import Derived.Test.YtfdoeenlgkkaiaaBdS
import Derived.Test.YtfdoeenlgkkaiaaAbs6
namespace Go.Abs
open Go.Proofs
open Classical
set_option maxRecDepth 100000
theorem word89 (s : List Nat) : FnPure Try.prog 89 [.str s] (.bool (decide (s ∈ kws))):=by
 by_cases h : s ∈ kws
 · simpa [h] using word_in s h
 ·
  refine pureV c89 (by simp) (by simp) (by simp [A89]) fun F hF => ?_
  have h0 : ¬ s = [97,110,100]:=fun e => h (by simp [kws,e])
  have h1 : ¬ s = [97,115]:=fun e => h (by simp [kws,e])
  have h2 : ¬ s = [98,101,103,105,110]:=fun e => h (by simp [kws,e])
  have h3 : ¬ s = [98,111,111,108]:=fun e => h (by simp [kws,e])
  have h4 : ¬ s = [98,121]:=fun e => h (by simp [kws,e])
  have h5 : ¬ s = [99,111,109,109,105,116]:=fun e => h (by simp [kws,e])
  have h6 : ¬ s = [99,114,101,97,116,101]:=fun e => h (by simp [kws,e])
  have h7 : ¬ s = [100,101,108,101,116,101]:=fun e => h (by simp [kws,e])
  have h8 : ¬ s = [100,101,115,99]:=fun e => h (by simp [kws,e])
  have h9 : ¬ s = [100,105,115,116,105,110,99,116]:=fun e => h (by simp [kws,e])
  have h10 : ¬ s = [100,114,111,112]:=fun e => h (by simp [kws,e])
  have h11 : ¬ s = [102,97,108,115,101]:=fun e => h (by simp [kws,e])
  have h12 : ¬ s = [102,114,111,109]:=fun e => h (by simp [kws,e])
  have h13 : ¬ s = [105,110,100,101,120]:=fun e => h (by simp [kws,e])
  have h14 : ¬ s = [105,110,115,101,114,116]:=fun e => h (by simp [kws,e])
  have h15 : ¬ s = [105,110,116]:=fun e => h (by simp [kws,e])
  have h16 : ¬ s = [105,110,116,111]:=fun e => h (by simp [kws,e])
  have h17 : ¬ s = [105,115]:=fun e => h (by simp [kws,e])
  have h18 : ¬ s = [106,111,105,110]:=fun e => h (by simp [kws,e])
  have h19 : ¬ s = [108,105,109,105,116]:=fun e => h (by simp [kws,e])
  have h20 : ¬ s = [110,111,116]:=fun e => h (by simp [kws,e])
  have h21 : ¬ s = [110,117,108,108]:=fun e => h (by simp [kws,e])
  have h22 : ¬ s = [111,110]:=fun e => h (by simp [kws,e])
  have h23 : ¬ s = [111,114]:=fun e => h (by simp [kws,e])
  have h24 : ¬ s = [111,114,100,101,114]:=fun e => h (by simp [kws,e])
  have h25 : ¬ s = [114,111,108,108,98,97,99,107]:=fun e => h (by simp [kws,e])
  have h26 : ¬ s = [115,101,108,101,99,116]:=fun e => h (by simp [kws,e])
  have h27 : ¬ s = [115,101,116]:=fun e => h (by simp [kws,e])
  have h28 : ¬ s = [116,97,98,108,101]:=fun e => h (by simp [kws,e])
  have h29 : ¬ s = [116,101,120,116]:=fun e => h (by simp [kws,e])
  have h30 : ¬ s = [116,114,117,101]:=fun e => h (by simp [kws,e])
  have h31 : ¬ s = [117,110,105,113,117,101]:=fun e => h (by simp [kws,e])
  have h32 : ¬ s = [117,112,100,97,116,101]:=fun e => h (by simp [kws,e])
  have h33 : ¬ s = [118,97,108,117,101,115]:=fun e => h (by simp [kws,e])
  have h34 : ¬ s = [119,104,101,114,101]:=fun e => h (by simp [kws,e])
  simp [A89,B89,R89_0,R89_1,R89_2,R89_3,R89_4,R89_5,R89_6,R89_7,R89_8,R89_9,R89_10,R89_11,R89_12,R89_13,R89_14,R89_15,R89_16,R89_17,R89_18,R89_19,R89_20,R89_21,R89_22,R89_23,R89_24,R89_25,R89_26,R89_27,R89_28,R89_29,R89_30,R89_31,R89_32,R89_33,R89_34,R89_35,R89_36,R89_37,R89_38,hF,h0,h1,h2,h3,h4,h5,h6,h7,h8,h9,h10,h11,h12,h13,h14,h15,h16,h17,h18,h19,h20,h21,h22,h23,h24,h25,h26,h27,h28,h29,h30,h31,h32,h33,h34]
  exact .bool (by simp [h])
def NamedOk (s : List Nat) : Prop:=NameOk s ∧ s ∉ kws
theorem named51 (s : List Nat) : FnPure Try.prog 51 [.str s] (.bool (decide (NamedOk s))):=by
 refine pureV c51 (by simp) (by simp) (by simp [A51]) fun F hF => ?_
 unfold NamedOk
 simp [A51,B51,R51_0,R51_1,hF]
 refine CalV.pure (name44 s) ?_
 by_cases h : NameOk s
 ·
  simp [h,hF]
  refine CalV.pure (word89 s) ?_
  simp
  exact .bool (by simp)
 ·
  simp [h]
  exact .bool (by simp)
theorem upTo52 (a b : Int) : FnPure Try.prog 52 [.int .i64 a,.int .i64 b] (.bool (decide (1 ≤ a ∧ a ≤ b))):=by
 refine pureV c52 (by simp) (by simp) (by simp [A52]) fun F hF => ?_
 by_cases h : 1 ≤ a
 ·
  simp [A52,B52,R52_0,R52_1,hF,h]
  exact .bool (by simp)
 ·
  simp [A52,B52,R52_0,R52_1,hF,h]
  exact .bool (by simp)
def ColsOk (l : List Col) : Prop:=l ≠ [] ∧ l.length ≤ 16 ∧ ∀ i (h : i < l.length),NameOk l[i].name ∧ (1 ≤ l[i].kind ∧ l[i].kind ≤ 3) ∧ ∀ j (hj : j < i),(l[j]'(by omega)).name ≠ l[i].name
theorem may45 (l : List Col) : FnPure Try.prog 45 [eCol.ds l] (.bool (decide (ColsOk l))):=by
 refine pureV c45 (by simp) (by simp) (by simp [A45]) fun F hF => ?_
 by_cases h0 : l = []
 ·
  have : ¬ ColsOk l:=fun h => h.1 h0
  simp [A45,B45,R45_0,R45_1,hF,Enc.len_ds,h0,R45_2]
  exact .bool (by subst h0; simp [this])
 by_cases h16 : l.length ≤ 16
 ·
  simp [A45,B45,R45_0,R45_1,hF,Enc.len_ds,h0,show ¬ (16 : Int) < (l.length : Int) by omega,R45_3]
  refine LoopV.of (fun t F K n ms => ∃ i,t = l.length - i ∧ i ≤ l.length ∧ F.get 0 = some (eCol.ds l) ∧ F.get 15 = some (eCol.ds l) ∧ F.get 16 = some (.int .i64 (l.length : Int)) ∧ F.get 17 = some (.int .i64 (i : Int)) ∧ ms = [] ∧ ∀ k (h : k < l.length),k < i → NameOk l[k].name ∧ (1 ≤ l[k].kind ∧ l[k].kind ≤ 3) ∧ ∀ j (hj : j < k),(l[j]'(by omega)).name ≠ l[k].name) l.length ⟨0,by simp [hF]⟩ ?_
  rintro t F K n ms ⟨i,rfl,hi,f0,f15,f16,f17,rfl,hk⟩
  by_cases hlt : i < l.length
  ·
   have hx:=eCol.ix (ik:=.i64) hlt
   have hld:=eCol.ldN l[i] (eCol.l (l.drop (i + 1))) K
   simp only [eCol_c,Enc.av,List.cons_append,List.nil_append] at hx hld
   have hsl:=eCol.slHi (l:=l) (i:=i) hi
   simp [L45_1,R45_4,f16,f17,hlt,R45_5,f15,hx,hld,R45_6]
   refine CalV.pure (name44 l[i].name) ?_
   have no : ¬ (NameOk l[i].name ∧ (1 ≤ l[i].kind ∧ l[i].kind ≤ 3)) → ¬ ColsOk l:=fun h h2 => h ⟨(h2.2.2 i hlt).1,(h2.2.2 i hlt).2.1⟩
   by_cases hn : NameOk l[i].name
   ·
    by_cases h1 : l[i].kind < 1
    ·
     have:=no fun h => by omega
     simp [hn,h1,R45_7]
     exact .bool (by simp [this])
    ·
     by_cases h3 : 3 < l[i].kind
     ·
      have:=no fun h => by omega
      simp [hn,h1,h3,R45_7]
      exact .bool (by simp [this])
     ·
      simp [hn,h1,h3,R45_8,f0,eSl,oev,hsl,Enc.len_ds,Nat.min_eq_left hi]
      refine LoopV.of (fun t F K' n' ms => ∃ j,t = i - j ∧ j ≤ i ∧ F.get 0 = some (eCol.ds l) ∧ F.get 15 = some (eCol.ds l) ∧ F.get 16 = some (.int .i64 (l.length : Int)) ∧ F.get 17 = some (.int .i64 (i : Int)) ∧ F.get 4 = some (.ptr n 0) ∧ F.get 38 = some (eCol.ds (l.take i)) ∧ F.get 39 = some (.int .i64 (i : Int)) ∧ F.get 40 = some (.int .i64 (j : Int)) ∧ n < n' ∧ K'.get n = some (.cells 3 [] [.str l[i].name,.int .i64 l[i].kind,.bool l[i].need] .nil) ∧ ms = [] ∧ ∀ q (h : q < j) (h2 : q < l.length),l[q].name ≠ l[i].name) i ⟨0,by simp [f0,f15,f16,f17]⟩ ?_
      clear f0 f15 f16 f17 F
      rintro t F K' n' ms ⟨j,rfl,hj,f0,f15,f16,f17,f4,f38,f39,f40,hn',hb,rfl,hq⟩
      by_cases hji : j < i
      ·
       have hjt : j < (l.take i).length:=by simp; omega
       have hx:=eCol.ix (ik:=.i64) hjt
       have hld:=eCol.ldN (l.take i)[j] (eCol.l ((l.take i).drop (j + 1))) K'
       have hjl : (l.take i)[j] = l[j]:=by rw [List.getElem_take]
       rw [hjl] at hx hld
       simp only [eCol_c,Enc.av,List.cons_append,List.nil_append] at hx hld
       have hne : ¬ n = n':=by omega
       simp [L45_0,R45_9,f39,f40,hji,R45_10,f38,hx,hld,R45_11,f4,hb,hne]
       by_cases he : l[j].name = l[i].name
       ·
        have : ¬ ColsOk l:=fun h => (h.2.2 i hlt).2.2 j hji he
        simp [he,R45_12]
        exact .bool (by simp [this])
       ·
        simp [he,R45_13,f0,f15,f16,f17,f4,f38,f39,f40,hb,hne,wrap_nat j (by omega)]
        refine ⟨i - (j + 1),by omega,j + 1,rfl,hji,rfl,by omega,fun q h h2 => ?_⟩
        by_cases e : q = j
        · subst e; exact he
        · exact hq q (by omega) h2
      ·
       obtain rfl : j = i:=by omega
       simp [L45_0,R45_9,f39,f40,R45_14,f0,f15,f16,f17,wrap_nat j (by omega)]
       refine ⟨l.length - (j + 1),by omega,j + 1,rfl,hlt,rfl,fun k h hkj => ?_⟩
       by_cases e : k = j
       ·
        subst e
        exact ⟨hn,⟨by omega,by omega⟩,fun q hq' => hq q hq' (by omega)⟩
       · exact hk k h (by omega)
   ·
    have:=no fun h => hn h.1
    simp [hn,R45_7]
    exact .bool (by simp [this])
  ·
   obtain rfl : i = l.length:=by omega
   have : ColsOk l:=⟨h0,h16,fun k h => hk k h h⟩
   simp [L45_1,R45_4,f16,f17,R45_15]
   exact .bool (by simp [this])
 ·
  have : ¬ ColsOk l:=fun h => h16 h.2.1
  simp [A45,B45,R45_0,R45_1,hF,Enc.len_ds,h0,show (16 : Int) < (l.length : Int) by omega,R45_2]
  exact .bool (by simp [this])
theorem ixv_ok {α : Type} [DecidableEq α] {g : FuncId} (E : Enc α 1) (el : α → AV) (hE : ∀ a,E.cells a = [el a]) (heq : ∀ a b,cEq false .num (el a) (el b) = .val (.bool (decide (a = b)))) (hel : ∀ a,Pure (el a)) (hc : ctF Try.prog g = some A77) (l : List α) (x : α) (hl : l.length ≤ lim) : FnPure Try.prog g [E.ds l,el x] (.int .i64 (idxI (fun y => decide (x = y)) l)):=by
 refine pureV hc (by simp [hel]) (by simp) (by simp [A77]) fun F hF => ?_
 unfold lim at hl
 simp [A77,B77,R77_0,R77_1,hF,Enc.len_ds]
 refine LoopV.of (fun t F K n ms => ∃ i,t = l.length - i ∧ i ≤ l.length ∧ F.get 0 = some (E.ds l) ∧ F.get 1 = some (el x) ∧ F.get 7 = some (.int .i64 (l.length : Int)) ∧ F.get 8 = some (.int .i64 (i : Int)) ∧ ms = [] ∧ ∀ j (hj : j < i) (h : j < l.length),decide (x = l[j]) = false) l.length ⟨0,by simp [hF]⟩ ?_
 rintro t F K n ms ⟨i,rfl,hi,f0,f1,f7,f8,rfl,hj⟩
 by_cases hlt : i < l.length
 ·
  have hx:=E.ix (ik:=.i64) hlt
  rw [hE] at hx
  have hld : ∀ r H,cLoad1 (.dp ([el l[i]] ++ r)) H = .val (el l[i]):=fun r H => rfl
  simp [L77_0,R77_2,f7,f8,hlt,R77_3,R77_4,f0,f1,hx]
  simp only [List.cons_append,List.nil_append] at hld
  simp [heq]
  by_cases he : x = l[i]
  ·
   simp [he,R77_5]
   refine .eq (by simp) ?_
   congr 1
   exact (idxI_some hlt (by simp) fun j hj' => by have:=hj j hj' (by omega); rw [he] at this; exact this).symm
  ·
   simp [he,R77_6,f0,f1,f7,f8,wrap_nat i (by omega)]
   refine ⟨l.length - (i + 1),by omega,i + 1,rfl,hlt,rfl,fun j hj' h => ?_⟩
   by_cases e : j = i
   · subst e; exact he
   · simpa using hj j (by omega) h
 ·
  obtain rfl : i = l.length:=by omega
  simp [L77_0,R77_2,f7,f8,R77_7]
  refine .eq (by simp) ?_
  congr 1
  exact (idxI_none fun j h => hj j h h).symm
theorem index77 (l : List (List Nat)) (x : List Nat) (hl : l.length ≤ lim) : FnPure Try.prog 77 [eStr.ds l,.str x] (.int .i64 (idxI (fun y => decide (x = y)) l)):=ixv_ok eStr .str (fun _ => rfl) (fun a b => by simp) (fun _ => by simp) c77 l x hl
theorem index102 (l : List Int) (x : Int) (hl : l.length ≤ lim) : FnPure Try.prog 102 [eInt.ds l,.int .i64 x] (.int .i64 (idxI (fun y => decide (x = y)) l)):=ixv_ok eInt (.int .i64) (fun _ => rfl) (fun a b => by simp) (fun _ => by simp) c102 l x hl
theorem contains63 (l : List (List Nat)) (x : List Nat) (hl : l.length ≤ lim) : FnPure Try.prog 63 [eStr.ds l,.str x] (.bool (decide (x ∈ l))):=by
 refine pureV c63 (by simp) (by simp) (by simp [A63]) fun F hF => ?_
 simp [A63,B63,R63_0,R63_1,hF]
 refine CalV.pure (index77 l x hl) ?_
 simp
 refine .bool ?_
 rw [idxI_any,Bool.eq_iff_iff]
 simp
theorem contains87 (l : List Int) (x : Int) (hl : l.length ≤ lim) : FnPure Try.prog 87 [eInt.ds l,.int .i64 x] (.bool (decide (x ∈ l))):=by
 refine pureV c87 (by simp) (by simp) (by simp [A87]) fun F hF => ?_
 simp [A87,B87,R87_0,R87_1,hF]
 refine CalV.pure (index102 l x hl) ?_
 simp
 refine .bool ?_
 rw [idxI_any,Bool.eq_iff_iff]
 simp
def Val.z : Val:=⟨0,0,[]⟩
def Ex.bare (op : Int) : Ex → Prop
 | .mk o v t m col args => o = op ∧ (v.kind = 0 ∧ v.num = 0 ∧ v.s = []) ∧ t = [] ∧ m = [] ∧ col = 0 ∧ args = []
theorem bare90 (e : Ex) (op : Int) : FnPure Try.prog 90 [e.av,.int .i64 op] (.bool (decide (e.bare op))):=by
 obtain ⟨o,⟨k,a,s⟩,t,m,col,args⟩:=e
 refine pureV c90 (by simp) (by simp) (by simp [A90]) fun F hF => ?_
 simp only [Ex.bare]
 by_cases h1 : o = op
 ·
  by_cases h2 : k = 0 ∧ a = 0 ∧ s = []
  ·
   by_cases h3 : t = []
   ·
    by_cases h4 : m = []
    ·
     by_cases h5 : col = 0
     ·
      simp [A90,B90,R90_0,R90_1,hF,Ex.av,Ex.cells,h1,h2,h3,h4,h5]
      exact .bool (by simp)
     ·
      simp [A90,B90,R90_0,R90_1,hF,Ex.av,Ex.cells,h1,h2,h3,h4,h5]
      exact .bool (by simp)
    ·
     simp [A90,B90,R90_0,R90_1,hF,Ex.av,Ex.cells,h1,h2,h3,h4]
     exact .bool (by simp)
   ·
    simp [A90,B90,R90_0,R90_1,hF,Ex.av,Ex.cells,h1,h2,h3]
    exact .bool (by simp)
  ·
   have h2' : (decide (k = 0) && (decide (a = 0) && decide (s = []))) = false:=by simpa using fun a b c => h2 ⟨a,b,c⟩
   simp [A90,B90,R90_0,R90_1,hF,Ex.av,Ex.cells,h1,h2']
   exact .bool (by simp)
 ·
  simp [A90,B90,R90_0,R90_1,hF,Ex.av,Ex.cells,h1]
  exact .bool (by simp)
theorem lacks91 (e : Ex) : FnPure Try.prog 91 [e.av] (.bool (decide (e.bare 0))):=by
 refine pureV c91 (by simp) (by simp) (by simp [A91]) fun F hF => ?_
 simp [A91,B91,R91_0,R91_1,hF]
 refine CalV.pure (bare90 e 0) ?_
 simp
 exact .bool (by simp)
mutual
noncomputable def Ex.may : Ex → Bool
 | .mk op v t m col args => if op = 1 then decide (t = [] ∧ m = [] ∧ col = 0 ∧ args = []) && (v.may && (decide (v.kind ≠ 1) || decide (0 ≤ v.num)))
  else if op = 2 then decide (NamedOk m) && ((decide (t = []) || decide (NamedOk t)) && decide ((v.kind = 0 ∧ v.num = 0 ∧ v.s = []) ∧ col = 0 ∧ args = []))
  else decide (4 ≤ op ∧ op ≤ 21) && (decide ((args.length : Int) = if op ≤ 7 then 1 else 2) && (decide ((v.kind = 0 ∧ v.num = 0 ∧ v.s = []) ∧ t = [] ∧ m = [] ∧ col = 0) && Ex.mayL args))
noncomputable def Ex.mayL : List Ex → Bool
 | [] => true
 | e :: r => e.may && Ex.mayL r
end
theorem Ex.mayL_get {l : List Ex} (h : Ex.mayL l = true) : ∀ i (hi : i < l.length),l[i].may = true:=by
 induction l with
 | nil => intro i hi; simp at hi
 | cons e r ih =>
  simp [Ex.mayL] at h
  intro i hi
  cases i with
  | zero => exact h.1
  | succ i => exact ih h.2 i (by simpa using hi)
theorem Ex.mayL_of {l : List Ex} (h : ∀ i (hi : i < l.length),l[i].may = true) : Ex.mayL l = true:=by
 induction l with
 | nil => rfl
 | cons e r ih =>
  simp only [Ex.mayL,Bool.and_eq_true]
  exact ⟨h 0 (by simp),ih fun i hi => h (i + 1) (by simpa using hi)⟩
theorem Ex.mayL_not {l : List Ex} {i : Nat} (hi : i < l.length) (h : l[i].may = false) : Ex.mayL l = false:=by
 cases hr : Ex.mayL l with
 | false => rfl
 | true => rw [Ex.mayL_get hr i hi] at h; cases h
theorem may53' : ∀ (N : Nat) (e : Ex),e.sz ≤ N → N ≤ lim → FnPure Try.prog 53 [e.av] (.bool e.may)
 | 0,e,h,_ => by have:=Ex.sz_pos e; omega
 | N + 1,.mk op v t m col args,ha,hN => by
  simp only [Ex.sz] at ha
  have hla:=Ex.sz_len args
  refine pureV c53 (by simp) (by simp) (by simp [A53]) fun F hF => ?_
  simp only [Ex.may]
  by_cases h1 : op = 1
  ·
   subst h1
   obtain ⟨k,a,s⟩:=v
   rw [if_pos rfl]
   generalize hR : (decide (t = [] ∧ m = [] ∧ col = 0 ∧ args = []) && ((Val.mk k a s).may && (decide (k ≠ 1) || decide (0 ≤ a)))) = R
   simp [A53,B53,R53_0,R53_1,R53_2,R53_3,R53_4,R53_5,hF,Ex.av,Ex.cells]
   refine CalV.pure (bare90 (.mk 1 ⟨0,0,[]⟩ t m col args) 1) ?_
   simp only [Ex.bare]
   by_cases hb : t = [] ∧ m = [] ∧ col = 0 ∧ args = []
   ·
    simp [hb]
    refine CalV.pure (may52 ⟨k,a,s⟩) ?_
    cases hm : (Val.mk k a s).may with
    | false =>
     simp
     exact .bool (by rw [← hR,hm]; simp)
    | true =>
     by_cases hk : k = 1
     ·
      simp [hk]
      exact .bool (by rw [← hR,hm]; simp [hk,hb])
     ·
      simp [hk]
      exact .bool (by rw [← hR,hm]; simp [hk,hb])
   ·
    simp [hb]
    exact .bool (by rw [← hR,decide_eq_false hb,Bool.false_and])
  by_cases h2 : op = 2
  ·
   subst h2
   rw [if_neg (by omega),if_pos rfl]
   generalize hR : (decide (NamedOk m) && ((decide (t = []) || decide (NamedOk t)) && decide ((v.kind = 0 ∧ v.num = 0 ∧ v.s = []) ∧ col = 0 ∧ args = []))) = R
   simp [A53,B53,R53_0,R53_1,R53_2,R53_6,R53_7,hF,Ex.av,Ex.cells]
   refine CalV.pure (named51 m) ?_
   have tail : ∀ (b : Bool),b = (decide (NamedOk m) && (decide (t = []) || decide (NamedOk t))) → ∀ (F' : Fr) (K : Hp) (n : Nat) (Q : QA),F'.get 5 = some (.bool b) → F'.get 1 = some (.ptr 0 0) → K.get 0 = some (.cells 8 [] (Ex.mk 2 v t m col args).cells .nil) → (∀ F2 K2 n2,F2.get 2 = some (.bool R) → Q .ret F2 K2 n2 []) → VC Try.prog R53_8 F' K n [] (SeqV Try.prog (.seq R53_9 .ret) Q):=by
    intro b hb F' K n Q g5 g1 hK hQ
    obtain ⟨k,a,s⟩:=v
    rw [← Bool.and_assoc,← hb] at hR
    simp only [Ex.cells] at hK
    cases b with
    | false =>
     simp [R53_8,R53_9,g5,g1,hK]
     exact hQ _ _ _ (by rw [← hR]; simp)
    | true =>
     simp [R53_8,R53_9,g5,g1,hK]
     refine CalV.pure (bare90 (.mk 2 ⟨k,a,s⟩ [] [] col args) 2) ?_
     simp
     exact hQ _ _ _ (by rw [← hR]; simp [Ex.bare])
   have fin : ∀ F2 (K2 : Hp) (n2 : Nat),F2.get 2 = some (.bool R) → BlkQ 0 (SeqV Try.prog (.seq (.seq R53_14 (.cond (slotG 109) (.seq R53_15 .ret) .skip)) (.seq (.seq R53_16 (.block 1 (.loop L53_0))) (.seq R53_22 .ret))) (RetQ [rTmp 2] fun v1 H' _ => Frz H'.get v1 (.bool R))) .ret F2 K2 n2 []:=by
    intro F2 K2 n2 h
    simp [h]
    exact .bool rfl
   by_cases hm : NamedOk m
   ·
    by_cases ht : t = []
    ·
     simp [hm,ht]
     refine tail true (by simp [hm,ht]) _ _ _ _ (by simp) (by simp) (by simp [Ex.cells,ht]) fin
    ·
     simp [hm,ht]
     refine CalV.pure (named51 t) ?_
     simp
     exact tail (decide (NamedOk t)) (by simp [hm,ht]) _ _ _ _ (by simp) (by simp) (by simp [Ex.cells]) fin
   ·
    simp [hm]
    exact tail false (by simp [hm]) _ _ _ _ (by simp) (by simp) (by simp [Ex.cells]) fin
  rw [if_neg h1,if_neg h2]
  generalize hR : (decide (4 ≤ op ∧ op ≤ 21) && (decide ((args.length : Int) = if op ≤ 7 then 1 else 2) && (decide ((v.kind = 0 ∧ v.num = 0 ∧ v.s = []) ∧ t = [] ∧ m = [] ∧ col = 0) && Ex.mayL args))) = R
  have body : ∀ (wn : Int),wn = (if op ≤ 7 then 1 else 2) → (4 ≤ op ∧ op ≤ 21) → ∀ F' : Fr,F'.get 1 = some (.ptr 0 0) → F'.get 3 = some (.int .i64 wn) → ∀ K : Hp,K.get 0 = some (.cells 8 [] (Ex.mk op v t m col args).cells .nil) → ∀ n,0 < n →
    VC Try.prog (.seq (.seq R53_14 (.cond (slotG 109) (.seq R53_15 .ret) .skip)) (.seq (.seq R53_16 (.block 1 (.loop L53_0))) (.seq R53_22 .ret))) F' K n [] (RetQ [rTmp 2] fun v1 H' _ => Frz H'.get v1 (.bool R)):=by
   intro wn hw hr F' g1 g3 K hK n hn
   rw [← hw,decide_eq_true hr,Bool.true_and] at hR
   obtain ⟨k,a,s⟩:=v
   simp only [Ex.cells] at hK
   by_cases hlen : (args.length : Int) = wn
   ·
    by_cases hv : k = 0 ∧ a = 0 ∧ s = []
    ·
     by_cases ht : t = []
     ·
      by_cases hm : m = []
      ·
       by_cases hc : col = 0
       ·
        simp [R53_14,g1,g3,hK,hlen,hv,ht,hm,hc,R53_16]
        obtain ⟨rfl,rfl,rfl⟩:=hv
        subst ht hm hc
        have hR' : Ex.mayL args = R:=by rw [← hR]; simp [hlen]
        unfold lim at hN
        refine LoopV.of (fun q F K n' ms => ∃ i,q = args.length - i ∧ i ≤ args.length ∧ F.get 111 = some (.ds (Ex.cellsL args) args.length 8) ∧ F.get 112 = some (.int .i64 (args.length : Int)) ∧ F.get 113 = some (.int .i64 (i : Int)) ∧ ms = [] ∧ ∀ j (hj : j < i) (h : j < args.length),args[j].may = true) args.length ⟨0,by simp [hlen]⟩ ?_
        clear g1 g3 hK hF F F'
        rintro q F K n' ms ⟨i,rfl,hi,f111,f112,f113,rfl,hj⟩
        by_cases hlt : i < args.length
        ·
         have hx:=ixa_ex (k:=.i64) hlt
         have m1:=Ex.sz_mem (List.getElem_mem hlt)
         simp [L53_0,R53_17,f112,f113,hlt,R53_18,f111,hx,R53_19]
         refine CalV.pure (may53' N args[i] (by omega) (by unfold lim; omega)) ?_
         cases hr' : args[i].may with
         | true =>
          simp [R53_21,f111,f112,f113,wrap_nat i (by omega)]
          refine ⟨args.length - (i + 1),by omega,i + 1,rfl,hlt,by omega,fun j hj' h => ?_⟩
          by_cases e : j = i
          · subst e; exact hr'
          · exact hj j (by omega) h
         | false =>
          simp [R53_20]
          exact .bool (by rw [← hR',Ex.mayL_not hlt hr'])
        ·
         obtain rfl : i = args.length:=by omega
         simp [L53_0,R53_17,f112,f113,R53_22]
         exact .bool (by rw [← hR',Ex.mayL_of fun j h => hj j h h])
       ·
        simp [R53_14,g1,g3,hK,hlen,hv,ht,hm,hc,R53_15]
        exact .bool (by rw [← hR]; simp [hc])
      ·
       simp [R53_14,g1,g3,hK,hlen,hv,ht,hm,R53_15]
       exact .bool (by rw [← hR]; simp [hm])
     ·
      simp [R53_14,g1,g3,hK,hlen,hv,ht,R53_15]
      exact .bool (by rw [← hR]; simp [ht])
    ·
     have hv' : (decide (k = 0) && (decide (a = 0) && decide (s = []))) = false:=by simpa using fun a b c => hv ⟨a,b,c⟩
     simp [R53_14,g1,g3,hK,hlen,hv',R53_15]
     exact .bool (by rw [← hR]; simp [hv])
   ·
    simp [R53_14,g1,g3,hK,hlen,R53_15]
    exact .bool (by rw [← hR]; simp [hlen])
  by_cases hr : 4 ≤ op ∧ op ≤ 21
  ·
   obtain ⟨r1,r2⟩:=hr
   by_cases h7 : op ≤ 7
   ·
    have : op = 4 ∨ op = 5 ∨ op = 6 ∨ op = 7:=by omega
    rcases this with rfl | rfl | rfl | rfl <;> (simp [A53,B53,R53_0,R53_1,R53_2,R53_6,R53_10,R53_11,hF,Ex.av,Ex.cells]; simpa using body 1 (by simp) (by omega) _ (by simp) (by simp) _ (by simp [Ex.cells]) _ (by omega))
   ·
    have n4 : ¬ op = 4:=by omega
    have n5 : ¬ op = 5:=by omega
    have n6 : ¬ op = 6:=by omega
    have n7 : ¬ op = 7:=by omega
    simp [A53,B53,R53_0,R53_1,R53_2,R53_6,R53_10,R53_12,hF,Ex.av,Ex.cells,h1,h2,n4,n5,n6,n7,show ¬ op < 8 by omega,show ¬ 21 < op by omega]
    simpa using body 2 (by simp [h7]) ⟨r1,r2⟩ _ (by simp) (by simp) _ (by simp [Ex.cells]) _ (by omega)
  ·
   have n4 : ¬ op = 4:=by omega
   have n5 : ¬ op = 5:=by omega
   have n6 : ¬ op = 6:=by omega
   have n7 : ¬ op = 7:=by omega
   by_cases l8 : op < 8
   ·
    simp [A53,B53,R53_0,R53_1,R53_2,R53_6,R53_10,R53_12,hF,Ex.av,Ex.cells,h1,h2,n4,n5,n6,n7,l8,R53_13]
    exact .bool (by rw [← hR,decide_eq_false hr,Bool.false_and])
   ·
    simp [A53,B53,R53_0,R53_1,R53_2,R53_6,R53_10,R53_12,hF,Ex.av,Ex.cells,h1,h2,n4,n5,n6,n7,l8,show 21 < op by omega,R53_13]
    exact .bool (by rw [← hR,decide_eq_false hr,Bool.false_and])
theorem may53 (e : Ex) (h : e.sz ≤ lim) : FnPure Try.prog 53 [e.av] (.bool e.may):=may53' lim e h (Nat.le_refl _)
def Tbl.kinds (t : Tbl) : List Int:=t.cols.map (·.kind)
def kindsS (l : List Tbl) : List Int:=l.flatMap Tbl.kinds
theorem kindsS_take {l : List Tbl} {i : Nat} (h : i < l.length) : kindsS (l.take (i + 1)) = kindsS (l.take i) ++ l[i].kinds:=by
 rw [List.take_add_one,List.getElem?_eq_getElem h]
 simp only [kindsS,List.flatMap_append,Option.toList,List.flatMap_cons,List.flatMap_nil,List.append_nil]
theorem kindsS_le (l : List Tbl) (i : Nat) : (kindsS (l.take i)).length ≤ (kindsS l).length:=by
 conv => rhs; rw [← List.take_append_drop i l]
 simp only [kindsS,List.flatMap_append,List.length_append]
 omega
theorem kinds_take {l : List Col} {j : Nat} (h : j < l.length) : (l.take (j + 1)).map (·.kind) = (l.take j).map (·.kind) ++ [l[j].kind]:=by
 rw [List.take_add_one,List.getElem?_eq_getElem h]
 simp only [List.map_append,Option.toList,List.map_cons,List.map_nil]
def scC (ns : List (List Nat)) (ts : List Tbl) : List AV:=[eStr.ds ns,eTbl.ds ts]
theorem kinds94 (ns : List (List Nat)) (ts : List Tbl) (hl : (kindsS ts).length ≤ lim) (ht : ts.length ≤ lim) (hc : ∀ t ∈ ts,t.cols.length ≤ lim) :
  CallR Try.prog 94 [.agg (scC ns ts) 2] .nil 0 (fun v K k => OwnS K k v (intsC (kindsS ts)) (kindsS ts).length 1):=by
 unfold lim at hl ht hc
 refine CallR.of c94 (by simp [A94]) fun F hF => ?_
 simp [A94,B94,R94_0,R94_1,R94_2,hF,scC,Enc.len_ds]
 refine LoopV.of (fun q F K n ms => ∃ (i : Nat) (v : AV),q = ts.length - i ∧ i ≤ ts.length ∧ F.get 3 = some v ∧ F.get 9 = some (eTbl.ds ts) ∧ F.get 10 = some (.int .i64 (ts.length : Int)) ∧ F.get 11 = some (.int .i64 (i : Int)) ∧ OwnS K n v (intsC (kindsS (ts.take i))) (kindsS (ts.take i)).length 1 ∧ ms = []) ts.length ⟨0,.cst (.slice none 0 0),by simp,by simp,by simp,by simp,by simp,by simp,by simpa [kindsS,intsC] using OwnS.nil _ _ 1,rfl⟩ ?_
 clear hF F
 rintro q F K n ms ⟨i,v,rfl,hi,f3,f9,f10,f11,ho,rfl⟩
 by_cases hlt : i < ts.length
 ·
  have hx:=eTbl.ix (ik:=.i64) hlt
  have hld:=fun H => eTbl.ldN ts[i] (eTbl.l (ts.drop (i + 1))) H
  have hcl:=hc ts[i] (List.getElem_mem hlt)
  have hkl:=kindsS_le ts (i + 1)
  rw [kindsS_take hlt] at hkl
  simp [L94_1,R94_3,R94_4,R94_5,f9,f10,f11,hlt,hx,hld,Enc.av]
  simp [eTbl_c,Enc.len_ds]
  refine LoopV.of (fun q F K n ms => ∃ (j : Nat) (v : AV),q = ts[i].cols.length - j ∧ j ≤ ts[i].cols.length ∧ F.get 3 = some v ∧ F.get 9 = some (eTbl.ds ts) ∧ F.get 10 = some (.int .i64 (ts.length : Int)) ∧ F.get 11 = some (.int .i64 (i : Int)) ∧ F.get 16 = some (eCol.ds ts[i].cols) ∧ F.get 17 = some (.int .i64 (ts[i].cols.length : Int)) ∧ F.get 18 = some (.int .i64 (j : Int)) ∧ OwnS K n v (intsC (kindsS (ts.take i) ++ (ts[i].cols.take j).map (·.kind))) (kindsS (ts.take i) ++ (ts[i].cols.take j).map (·.kind)).length 1 ∧ ms = []) ts[i].cols.length ⟨0,v,by simp,by simp,by simp [f3],by simp [f9],by simp [f10],by simp [f11],by simp,by simp,by simp,?_,rfl⟩ ?_
  ·
   simp
   exact ho.frame (by omega) fun c hc => by
    have:=ho.blkLt hc
    have q1 : ¬ c = n:=by omega
    simp [q1]
  clear f3 f9 f10 f11 ho F v K n hx hld
  rintro q F K n ms ⟨j,v,rfl,hj,f3,f9,f10,f11,f16,f17,f18,ho,rfl⟩
  by_cases hjl : j < ts[i].cols.length
  ·
   have hx:=eCol.ix (ik:=.i64) hjl
   have hld:=fun H => eCol.ldN ts[i].cols[j] (eCol.l (ts[i].cols.drop (j + 1))) H
   simp [L94_0,R94_6,R94_7,f16,f17,f18,hjl,hx,hld,Enc.av]
   simp [R94_8,f3,eCol_c]
   have hbl:=fun c hc => ho.blkLt (c:=c) hc
   generalize hH1 : Tr.put _ (n + 1) _ = H1
   have ho2 : OwnS H1 (n + 1 + 1) v (intsC (kindsS (ts.take i) ++ (ts[i].cols.take j).map (·.kind))) (kindsS (ts.take i) ++ (ts[i].cols.take j).map (·.kind)).length 1:=ho.frame (by omega) fun c hc => by
    have:=hbl c hc
    have q1 : ¬ c = n:=by omega
    have q2 : ¬ c = n + 1:=by omega
    rw [← hH1]; simp [q1,q2]
   have hw : H1.get (n + 1) = some (.cells 1 [] (intsC [ts[i].cols[j].kind]) .nil):=by rw [← hH1]; simp [intsC]
   clear hH1
   have hsc : sliceCells H1 1 (.sl (n + 1) 0 1 1) = some (intsC [ts[i].cols[j].kind]):=by
    rw [sliceCells_sl hw (OwnB.list (by simp)) (by simp)]
    simp [intsC]
   have hjl2 : (kindsS (ts.take i) ++ (ts[i].cols.take j).map (·.kind)).length ≤ 1048576:=by
    have h1 : ((ts[i].cols.take j).map (·.kind)).length ≤ ts[i].kinds.length:=by simp [Tbl.kinds]; omega
    simp only [List.length_append] at hkl ⊢
    omega
   refine OwnS.app (k:=1) (new:=intsC [ts[i].cols[j].kind]) ho2 hsc (by simp) (by simp) (by omega) (by omega) (by unfold big; omega) (by omega) (by simp) fun H' o' _ => ?_
   simp [R94_9,f18,wrap_nat j (by omega)]
   refine ⟨_,by omega,j + 1,rfl,by omega,f9,f10,f11,f16,f17,by simp,?_⟩
   have hk:=kinds_take hjl
   rw [List.map_take] at hk
   rw [hk,← List.append_assoc,intsC_append]
   have e1 : (kindsS (ts.take i)).length + min (j + 1) ts[i].cols.length = (kindsS (ts.take i)).length + min j ts[i].cols.length + 1:=by omega
   rw [e1]
   simpa using o'
  ·
   have hje : j = ts[i].cols.length:=by omega
   rw [hje,List.take_length] at ho
   simp [L94_0,R94_6,R94_10,f11,f17,f18,hje,wrap_nat i (by omega)]
   refine ⟨_,by omega,i + 1,rfl,by omega,v,f3,f9,f10,by simp,?_⟩
   rw [kindsS_take hlt]
   exact ho
 ·
  have hie : i = ts.length:=by omega
  subst hie
  rw [List.take_length] at ho
  simp [L94_1,R94_3,R94_11,f3,f10,f11]
  exact ho
theorem named103 (c : Col) (s : List Nat) (b : Nat) (H : Hp) (n : Nat) (hb : H.get b = some (.cells 1 [] [.str s] .nil)) (ht : Top H n) : CallR Try.prog 103 [eCol.av c,.ptr b 0] H n (fun u K k => u = .bool (decide (c.name = s)) ∧ K = H ∧ k = n):=by
 refine CallR.forget (by simp) (CallR.of c103 (by simp [A103]) fun F hF => ?_)
 have q : ¬ b = n:=by have:=ht.lt hb; omega
 simp [A103,B103,R103_0,R103_1,hF,Enc.av,eCol_c,q,hb]
 rintro c hc rfl
 exact absurd (ht _ (Nat.le_refl _)) hc
noncomputable def placeF (table name : List Nat) : List (List Nat × Tbl) → Nat → Int → Bool → Int × Int
 | [],_,found,src => if 0 ≤ found then (found,0) else if table ≠ [] ∧ src = false then (0,200) else (0,201)
 | (n,t) :: r,at0,found,src =>
  if (table = [] ∨ n = table) ∧ 0 ≤ idxI (fun c : Col => decide (c.name = name)) t.cols then
   (if 0 ≤ found then (0,205) else placeF table name r (at0 + t.cols.length) ((at0 : Int) + idxI (fun c : Col => decide (c.name = name)) t.cols) true)
  else placeF table name r (at0 + t.cols.length) found (src || decide (table = [] ∨ n = table))
set_option maxHeartbeats 4000000 in
theorem place96 (ns : List (List Nat)) (ts : List Tbl) (table name : List Nat) (hn : ns.length = ts.length) (hl : (kindsS ts).length ≤ lim) (ht : ts.length ≤ lim) (hc : ∀ t ∈ ts,t.cols.length ≤ lim) :
  FnPure Try.prog 96 [.agg (scC ns ts) 2,.str table,.str name] (.tup [.int .i64 (placeF table name (ns.zip ts) 0 (-1) false).1,.int .i64 (placeF table name (ns.zip ts) 0 (-1) false).2]):=by
 unfold lim at hl ht
 refine pureV c96 (by simp [scC]) (by simp) (by simp [A96]) fun F hF => ?_
 simp [A96,B96,R96_0,R96_1,R96_2,hF,scC,Enc.len_ds]
 refine LoopV.of (fun q F K n ms => ∃ (i : Nat) (found : Int) (src : Bool),q = ts.length - i ∧ i ≤ ts.length ∧ F.get 1 = some (.str table) ∧ F.get 3 = some (.ptr 0 0) ∧ F.get 5 = some (.ptr 1 0) ∧ F.get 8 = some (.int .i64 ((kindsS (ts.take i)).length : Int)) ∧ F.get 9 = some (.int .i64 found) ∧ F.get 10 = some (.bool src) ∧ F.get 16 = some (eTbl.ds ts) ∧ F.get 17 = some (.int .i64 (ts.length : Int)) ∧ F.get 18 = some (.int .i64 (i : Int)) ∧ Top K n ∧ K.get 0 = some (.cells 2 [] [eStr.ds ns,eTbl.ds ts] .nil) ∧ K.get 1 = some (.cells 1 [] [.str name] .nil) ∧ found < 1048577 ∧ placeF table name (ns.zip ts) 0 (-1) false = placeF table name ((ns.zip ts).drop i) (kindsS (ts.take i)).length found src ∧ ms = []) ts.length ⟨0,-1,false,by simp,by simp,by simp [hF],by simp,by simp,by simp [kindsS],by simp,by simp,by simp,by simp,by simp,fun c hc => ?_,by simp,by simp,by omega,by simp [kindsS],rfl⟩ ?_
 ·
  have q0 : ¬ c = 0:=by omega
  have q1 : ¬ c = 1:=by omega
  simp [q0,q1]
 clear hF F
 rintro q F K n ms ⟨i,found,src,rfl,hi,f1,f3,f5,f8,f9,f10,f16,f17,f18,tp,k0,k1,hfo,he,rfl⟩
 by_cases hlt : i < ts.length
 ·
  have hx:=eTbl.ix (ik:=.i64) hlt
  have hld:=fun H => eTbl.ldN ts[i] (eTbl.l (ts.drop (i + 1))) H
  have hsx:=eStr.ix (l:=ns) (i:=i) (ik:=.i64) (by omega)
  simp [L96_0,R96_3,R96_4,f16,f17,f18,hlt,hx,hld,Enc.av]
  have n0:=tp.lt k0
  have n1:=tp.lt k1
  have q0 : ¬ n = 0:=by omega
  have q1 : ¬ n = 1:=by omega
  have q0' : ¬ 0 = n:=by omega
  have q1' : ¬ 1 = n:=by omega
  rw [eStr_c] at hsx
  generalize hH1 : Tr.put _ n _ = H1
  have hk1 : H1.get 1 = some (.cells 1 [] [.str name] .nil):=by rw [← hH1]; simp [q1',k1]
  have hk0 : H1.get 0 = some (.cells 2 [] [eStr.ds ns,eTbl.ds ts] .nil):=by rw [← hH1]; simp [q0',k0]
  have hkn : H1.get n = some (.cells 4 [] (eTbl.cells ts[i]) .nil):=by rw [← hH1]; simp
  have tp1 : Top H1 (n + 1):=by
   intro c hc
   have q : ¬ c = n:=by omega
   rw [← hH1]; simp [q,tp c (by omega)]
  clear hH1
  rw [eTbl_c] at hkn
  have hcl:=hc ts[i] (List.getElem_mem hlt)
  have hidx : CallR Try.prog 61 [eCol.ds ts[i].cols,.fn (.func 103) [] [.ptr 1 0]] H1 (n + 1) (fun u K k => u = .int .i64 (idxI (fun c : Col => decide (c.name = name)) ts[i].cols) ∧ K = H1 ∧ k = n + 1) :=
   idx_ok (el:=eCol.av) (first:=[]) (cap:=[.ptr 1 0]) c61 hcl (eCol.len_ds _) (fun i h => ⟨_,eCol.ix h,fun F H n h14 => by simp [h14,eCol.ldN]⟩) fun x _ => named103 x name 1 H1 (n + 1) hk1 tp1
  have hkb : idxI (fun c : Col => decide (c.name = name)) ts[i].cols < (ts[i].cols.length : Int):=by
   unfold idxI
   split
   ·
    rename_i q hq
    have:=(List.findIdx?_eq_some_iff_findIdx_eq.1 hq).1
    omega
   · omega
  have hst : (ns.zip ts).drop i = (ns[i]'(by omega),ts[i]) :: (ns.zip ts).drop (i + 1):=by
   rw [List.drop_eq_getElem_cons (by simp; omega)]
   simp
  rw [hst,placeF] at he
  have hkl:=kindsS_le ts (i + 1)
  rw [kindsS_take hlt,List.length_append] at hkl
  have hkc : ts[i].kinds.length = ts[i].cols.length:=by simp [Tbl.kinds]
  have hkt : (kindsS (ts.take (i + 1))).length = (kindsS (ts.take i)).length + ts[i].cols.length:=by rw [kindsS_take hlt,List.length_append,hkc]
  have w1 : IntKind.i64.wrap (((kindsS (ts.take i)).length : Int) + (ts[i].cols.length : Int)) = ((kindsS (ts.take (i + 1))).length : Int):=by
   rw [hkt]
   simp [IntKind.wrap,IntKind.signed,IntKind.bits]; omega
  have w2 : ∀ kk : Int,0 ≤ kk → kk < (ts[i].cols.length : Int) → IntKind.i64.wrap (((kindsS (ts.take i)).length : Int) + kk) = ((kindsS (ts.take i)).length : Int) + kk:=fun kk h1 h2 => by
   simp [IntKind.wrap,IntKind.signed,IntKind.bits]; omega
  generalize hkk : idxI (fun c : Col => decide (c.name = name)) ts[i].cols = kk at hidx hkb he
  by_cases ht0 : table = [] <;> by_cases hb : ns[i]'(by omega) = table <;> cases src <;> simp [R96_5,R96_6,R96_7,f1,f3,f5,f10,hk0,hkn,hsx,ht0,hb]
  all_goals refine CalV.same hidx ?_
  all_goals by_cases hk : 0 ≤ kk
  all_goals by_cases hf : 0 ≤ found
  all_goals simp [ht0,hb,hk,hf] at he
  all_goals simp [R96_8,R96_9,R96_10,R96_11,R96_12,R96_13,hk,hf,f8,f9,f18,hkn,eCol.len_ds,w1,w2 kk,hkb,wrap_nat i (by omega)]
  all_goals first
   | (rw [he]; exact .pure _ (by simp))
   | skip
  all_goals exact ⟨_,by omega,i + 1,rfl,by omega,by first | exact f1 | rw [f1,ht0],f3,f5,rfl,f16,f17,by simp,tp1,hk0,hk1,by omega,by rw [hkt]; first | exact he | simpa using he⟩
 ·
  have hie : i = ts.length:=by omega
  have hdr : (ns.zip ts).drop i = []:=List.drop_eq_nil_of_le (by simp; omega)
  rw [hdr,placeF] at he
  by_cases hf : 0 ≤ found
  ·
   simp [hf] at he
   simp [L96_0,R96_3,R96_14,R96_15,f9,f17,f18,hie,hf]
   rw [he]
   exact .pure _ (by simp)
  ·
   by_cases ht0 : table = []
   ·
    simp [hf,ht0] at he
    simp [L96_0,R96_3,R96_14,R96_16,R96_18,f1,f9,f17,f18,hie,hf,ht0]
    rw [he]
    exact .pure _ (by simp)
   · cases src <;> simp [hf,ht0] at he <;> simp [L96_0,R96_3,R96_14,R96_16,R96_17,R96_18,f1,f9,f10,f17,f18,hie,hf,ht0] <;> rw [he] <;> exact .pure _ (by simp)
mutual
theorem Pure.rlt {n : Nat} : ∀ {v : AV},Pure v → RLt n v
 | .int _ _,_ => by simp
 | .bool _,_ => by simp
 | .str _,_ => by simp
 | .cst _,_ => by simp
 | .agg cs _,h => by simpa using PureL.rlt (by simpa using h)
 | .tup cs,h => by simpa using PureL.rlt (by simpa using h)
 | .ds cs _ _,h => by simpa using PureL.rlt (by simpa using h)
 | .dp cs,h => by simpa using PureL.rlt (by simpa using h)
 | .ifc _ v,h => by simpa using Pure.rlt (v:=v) (by simpa only [Pure] using h)
 | .fn _ a b,h => by
  have h : PureL a ∧ PureL b:=by simpa [Pure] using h
  simpa [RLt] using ⟨PureL.rlt h.1,PureL.rlt h.2⟩
theorem PureL.rlt {n : Nat} : ∀ {l : List AV},PureL l → RLtL n l
 | [],_ => by simp
 | v :: r,h => by
  have h : Pure v ∧ PureL r:=by simpa using h
  simpa using ⟨Pure.rlt h.1,PureL.rlt h.2⟩
end
def keep (err e : Int) (is : Bool) : Int:=if is = true ∧ err = 0 then e else err
theorem fail22r (p : Nat) (v1 v2 : AV) (err e : Int) (is : Bool) (H : Hp) (n : Nat) (hp : H.get p = some (.cells 3 [] [v1,v2,.int .i64 err] .nil)) :
  CallR Try.prog 22 [.ptr p 0,.int .i64 e,.bool is] H n (fun u K k => u = .tup [] ∧ K.get p = some (.cells 3 [] [v1,v2,.int .i64 (keep err e is)] .nil) ∧ (∀ c,c ≠ p → K.get c = H.get c) ∧ k = n):=by
 refine CallR.of c22 (by simp [A22]) fun F hF => ?_
 cases is with
 | false => simp [A22,B22,R22_0,hF,keep,hp]
 | true =>
  by_cases h0 : err = 0
  ·
   simp [A22,B22,R22_0,R22_1,hF,keep,hp,h0]
   exact fun c hc e => absurd e hc
  · simp [A22,B22,R22_0,hF,keep,hp,h0]
theorem fail22 (p : Nat) (v1 v2 : AV) (err e : Int) (is : Bool) (H : Hp) (n : Nat) (h1 : Pure v1) (h2 : Pure v2) (hpn : p < n) (hp : H.get p = some (.cells 3 [] [v1,v2,.int .i64 err] .nil)) :
  CallOk Try.prog 22 [.ptr p 0,.int .i64 e,.bool is] H n (.tup []) (H.put p (some (.cells 3 [] [v1,v2,.int .i64 (keep err e is)] .nil))) n:=by
 have g : ∀ (b : ABlk) c,(Tr.nil.put p (some b)).get c = if c = p then some b else none:=fun b c => by simp
 refine CallR.okS (S:=Tr.nil.put p (some (.cells 3 [] [v1,v2,.int .i64 err] .nil))) (S':=Tr.nil.put p (some (.cells 3 [] [v1,v2,.int .i64 (keep err e is)] .nil)))
  ((fail22r p v1 v2 err e is _ n (by simp)).mono fun u K k ⟨a,b,_,d⟩ => ⟨a,fun c y hy => ?_,by omega⟩) (Nat.le_refl _) (by simp [hpn]) (fun c k hk => ?_) (fun c k hk => ?_) (fun c hc => ?_) (fun c hc _ => ?_)
 ·
  rw [g] at hy
  split at hy
  ·
   rename_i e1
   injection hy with hy
   subst hy e1
   exact ⟨_,b,.refl _⟩
  · cases hy
 ·
  rw [g] at hk
  split at hk
  ·
   rename_i e1
   injection hk with hk
   subst hk e1
   exact ⟨hpn,rLtB_list (by simp [h1.rlt,h2.rlt])⟩
  · cases hk
 ·
  rw [g] at hk
  split at hk
  ·
   rename_i e1
   rw [e1,hp]; exact hk
  · cases hk
 ·
  rcases hc with h | h
  ·
   rw [g] at h
   by_cases e1 : c = p
   · simp [e1]
   · rw [if_neg e1] at h; exact absurd rfl h
  · omega
 ·
  rw [g] at hc
  by_cases e1 : c = p
  · rw [if_pos e1] at hc; cases hc
  · simp [e1]
noncomputable def Ex.maybe (e : Ex) : Bool:=decide (e.bare 0) || e.may
theorem maybe54 (e : Ex) (h : e.sz ≤ lim) : FnPure Try.prog 54 [e.av] (.bool e.maybe):=by
 have hl:=lacks91 e
 have hm:=may53 e h
 have hav : e.av = .agg e.cells 8:=Eq.trans rfl rfl
 rw [hav] at hl hm ⊢
 refine pureV c54 (by simp) (by simp) (by simp [A54]) fun F hF => ?_
 by_cases hb : e.bare 0
 ·
  simp only [hb,decide_true] at hl
  simp [A54,B54,R54_0,R54_1,hF]
  refine CalV.pure hl ?_
  simp
  exact .bool (by simp [Ex.maybe,hb])
 ·
  simp only [hb,decide_false] at hl
  simp [A54,B54,R54_0,R54_1,hF]
  refine CalV.pure hl ?_
  simp
  refine CalV.pure hm ?_
  simp
  exact .bool (by simp [Ex.maybe,hb])
def eEx : Enc Ex 8:=⟨Ex.cells,Ex.cells_len,Ex.pureC,Ex.allOne⟩
theorem eEx_l (l : List Ex) : eEx.l l = Ex.cellsL l:=by
 induction l with
 | nil => simp [Ex.cellsL]
 | cons e r ih => rw [Enc.l_cons,ih]; rfl
structure Itm where
 e : Ex
 name : List Nat
structure Src where
 table : List Nat
 name : List Nat
 cond : Ex
structure Ord where
 name : List Nat
 desc : Bool
structure St1 where
 name : List Nat
 e : Ex
def eItm : Enc Itm 9:=⟨fun x => x.e.cells ++ [.str x.name],fun _ => by simp,fun x => PureL.of_mem fun v hv => by
 rcases List.mem_append.1 hv with h | h
 · exact (Ex.pureC x.e).mem v h
 · simp at h; subst h; simp,fun x => by simp⟩
def eSrc : Enc Src 10:=⟨fun x => .str x.table :: .str x.name :: x.cond.cells,fun _ => by simp,fun x => by simp,fun x => by simp⟩
def eOrd : Enc Ord 2:=⟨fun x => [.str x.name,.bool x.desc],fun _ => rfl,fun _ => by simp,fun _ => by simp⟩
def eSet : Enc St1 9:=⟨fun x => .str x.name :: x.e.cells,fun _ => by simp,fun x => by simp,fun x => by simp⟩
structure Qry where
 dist : Bool
 star : Bool
 items : List Itm
 srcs : List Src
 cond : Ex
 order : List Ord
 limited : Bool
 limit : Int
def Qry.cells (q : Qry) : List AV:=[.bool q.dist,.bool q.star,eItm.ds q.items,eSrc.ds q.srcs] ++ q.cond.cells ++ [eOrd.ds q.order,.bool q.limited,.int .i64 q.limit]
theorem Qry.cells_len (q : Qry) : q.cells.length = 15:=by simp [Qry.cells]
theorem Qry.pure (q : Qry) : PureL q.cells:=PureL.of_mem fun v hv => by
 simp only [Qry.cells,List.mem_append,List.mem_cons,List.not_mem_nil,or_false] at hv
 rcases hv with ((h | h | h | h) | h) | h | h | h
 · subst h; simp
 · subst h; simp
 · subst h; simp
 · subst h; simp
 · exact (Ex.pureC q.cond).mem v h
 · subst h; simp
 · subst h; simp
 · subst h; simp
noncomputable def Itm.ok (x : Itm) : Bool:=x.e.may && decide (x.name = [] ∨ NamedOk x.name)
noncomputable def Src.ok (first : Bool) (x : Src) : Bool:=decide (NamedOk x.table) && (decide (x.name = [] ∨ NamedOk x.name) && (if first then decide (x.cond.bare 0) else x.cond.may))
noncomputable def Ord.ok (x : Ord) : Bool:=decide (NamedOk x.name)
noncomputable def srcsOk : List Src → Bool
 | [] => true
 | x :: r => x.ok true && r.all (Src.ok false)
noncomputable def Qry.may (q : Qry) : Bool:=(((q.cond.maybe && decide (q.srcs.length ≤ 4) && decide (q.order.length ≤ 16) && decide (0 ≤ q.limit) && (q.limited || decide (q.limit = 0)) && (if q.star then decide (q.items.length = 0) else decide (1 ≤ q.items.length ∧ q.items.length ≤ 16))) && q.items.all Itm.ok) && srcsOk q.srcs) && q.order.all Ord.ok
theorem query55c (q : Qry) (hl : q.order.length ≤ lim) (b : Bool) (F : Fr) (K : Hp) (n : Nat) (Q : QA) (h1 : F.get 1 = some (.ptr 0 0)) (h3 : F.get 3 = some (.bool b)) (k0 : K.get 0 = some (.cells 15 [] q.cells .nil))
  (hn : 0 < n) (hQ : ∀ F' K' n',F'.get 1 = some (.ptr 0 0) → K'.get 0 = some (.cells 15 [] q.cells .nil) → 0 < n' → F'.get 3 = some (.bool (b && q.order.all Ord.ok)) → Q .normal F' K' n' []) :
  VC Try.prog (.seq R55_15 (.block 4 (.loop L55_2))) F K n [] Q:=by
 have hc : (q.cells)[12]? = some (eOrd.ds q.order):=by
  simp only [Qry.cells]
  rw [List.getElem?_append_right (by simp)]
  simp
 have hc2 : ∀ h,q.cells[12]'h = eOrd.ds q.order:=fun h => by
  have:=List.getElem?_eq_getElem h
  rw [hc] at this
  injection this with this
  exact this.symm
 unfold lim at hl
 simp [R55_15,h1,k0,Qry.cells_len,hc2,eOrd.len_ds]
 obtain ⟨okT,ho⟩ : ∃ f : Nat → Bool,∀ i,f i = (b && (q.order.take i).all Ord.ok):=⟨_,fun _ => rfl⟩
 have h0 : okT 0 = b:=by rw [ho]; simp
 refine LoopV.of (fun t F' K' n' ms => ∃ i,t = q.order.length - i ∧ i ≤ q.order.length ∧ F'.get 3 = some (.bool (okT i)) ∧ F'.get 123 = some (eOrd.ds q.order) ∧ F'.get 124 = some (.int .i64 (q.order.length : Int)) ∧ F'.get 125 = some (.int .i64 (i : Int)) ∧ F'.get 1 = some (.ptr 0 0) ∧ K'.get 0 = some (.cells 15 [] q.cells .nil) ∧ 0 < n' ∧ ms = []) q.order.length ⟨0,by simp,by simp,by simp [h3,h0],by simp,by simp,by simp,by simp [h1],k0,hn,rfl⟩ ?_
 rintro t F' K' n' ms ⟨i,rfl,hi,f3,f123,f124,f125,g1',kk,hn',rfl⟩
 by_cases hlt : i < q.order.length
 ·
  have q0 : ¬ n' = 0:=by omega
  have q0' : ¬ 0 = n':=by omega
  have hx:=eOrd.ix (ik:=.i64) hlt
  have hld:=fun H => eOrd.ldN q.order[i] (eOrd.l (q.order.drop (i + 1))) H
  have ht : okT (i + 1) = (okT i && q.order[i].ok):=by
   rw [ho,ho,List.take_add_one,List.getElem?_eq_getElem hlt,List.all_append]
   simp only [Option.toList,List.all_cons,List.all_nil,Bool.and_true,Bool.and_assoc]
  have hcl : eOrd.cells q.order[i] = [.str q.order[i].name,.bool q.order[i].desc]:=Eq.trans rfl rfl
  simp [L55_2,R55_16,R55_17,f123,f124,f125,hlt,hx,hld,Enc.av]
  simp only [hcl]
  generalize hb : okT i = b1 at f3 ht
  cases b1 with
  | false =>
   simp [R55_18,R55_19,f3,f125,wrap_nat i (by omega),q0']
   refine ⟨_,by omega,i + 1,rfl,by omega,?_,f123,f124,by simp,g1',kk⟩
   rw [ht]; rfl
  | true =>
   simp [R55_18,f3]
   refine CalV.pure (named51 q.order[i].name) ?_
   simp [R55_19,f125,wrap_nat i (by omega),q0']
   refine ⟨_,by omega,i + 1,rfl,by omega,?_,f123,f124,by simp,g1',kk⟩
   rw [ht]
   simp [Ord.ok]
 ·
  have hie : i = q.order.length:=by omega
  rw [hie,ho,List.take_length] at f3
  simp [L55_2,R55_16,f124,f125,hie]
  exact hQ _ _ _ (by simp [g1']) kk hn' (by simp [f3])
theorem query55a (q : Qry) (hl : q.items.length ≤ lim) (hz : ∀ x ∈ q.items,x.e.sz ≤ lim) (b : Bool) (F : Fr) (K : Hp) (n : Nat) (Q : QA) (h1 : F.get 1 = some (.ptr 0 0)) (h3 : F.get 3 = some (.bool b)) (k0 : K.get 0 = some (.cells 15 [] q.cells .nil))
  (hn : 0 < n) (hQ : ∀ F' K' n',F'.get 1 = some (.ptr 0 0) → K'.get 0 = some (.cells 15 [] q.cells .nil) → 0 < n' → F'.get 3 = some (.bool (b && q.items.all Itm.ok)) → Q .normal F' K' n' []) :
  VC Try.prog (.seq R55_5 (.block 0 (.loop L55_0))) F K n [] Q:=by
 have hc : (q.cells)[2]? = some (eItm.ds q.items):=by
  simp [Qry.cells]
 have hc2 : ∀ h,q.cells[2]'h = eItm.ds q.items:=fun h => by simp [Qry.cells]
 unfold lim at hl
 simp [R55_5,h1,k0,Qry.cells_len,hc2,eItm.len_ds]
 obtain ⟨okT,ho⟩ : ∃ f : Nat → Bool,∀ i,f i = (b && (q.items.take i).all Itm.ok):=⟨_,fun _ => rfl⟩
 have h0 : okT 0 = b:=by rw [ho]; simp
 refine LoopV.of (fun t F' K' n' ms => ∃ i,t = q.items.length - i ∧ i ≤ q.items.length ∧ F'.get 3 = some (.bool (okT i)) ∧ F'.get 56 = some (eItm.ds q.items) ∧ F'.get 57 = some (.int .i64 (q.items.length : Int)) ∧ F'.get 58 = some (.int .i64 (i : Int)) ∧ F'.get 1 = some (.ptr 0 0) ∧ K'.get 0 = some (.cells 15 [] q.cells .nil) ∧ 0 < n' ∧ ms = []) q.items.length ⟨0,by simp,by simp,by simp [h3,h0],by simp,by simp,by simp,by simp [h1],k0,hn,rfl⟩ ?_
 rintro t F' K' n' ms ⟨i,rfl,hi,f3,f56,f57,f58,g1',kk,hn',rfl⟩
 by_cases hlt : i < q.items.length
 ·
  have q0 : ¬ n' = 0:=by omega
  have q0' : ¬ 0 = n':=by omega
  have hx:=eItm.ix (ik:=.i64) hlt
  have hld:=fun H => eItm.ldN q.items[i] (eItm.l (q.items.drop (i + 1))) H
  have ht : okT (i + 1) = (okT i && q.items[i].ok):=by
   rw [ho,ho,List.take_add_one,List.getElem?_eq_getElem hlt,List.all_append]
   simp only [Option.toList,List.all_cons,List.all_nil,Bool.and_true,Bool.and_assoc]
  have hcl : eItm.cells q.items[i] = q.items[i].e.cells ++ [.str q.items[i].name]:=Eq.trans rfl rfl
  simp [L55_0,R55_6,R55_7,f56,f57,f58,hlt,hx,hld,Enc.av]
  simp only [hcl]
  generalize hb : okT i = b1 at f3 ht
  cases b1 with
  | false =>
   simp [R55_8,R55_9,f3,f58,wrap_nat i (by omega),q0']
   refine ⟨_,by omega,i + 1,rfl,by omega,?_,f56,f57,by simp,g1',kk⟩
   rw [ht]; rfl
  | true =>
   simp [R55_8,f3]
   have hm:=may53 q.items[i].e (hz _ (List.getElem_mem hlt))
   have hav : q.items[i].e.av = .agg q.items[i].e.cells 8:=Eq.trans rfl rfl
   rw [hav] at hm
   refine CalV.pure hm ?_
   have hg : ∀ h : 8 < (q.items[i].e.cells ++ [AV.str q.items[i].name]).length,(q.items[i].e.cells ++ [AV.str q.items[i].name])[8]'h = .str q.items[i].name:=fun h => by
    rw [List.getElem_append_right (by simp)]; simp
   cases hme : q.items[i].e.may with
   | false =>
    simp [R55_9,f58,wrap_nat i (by omega),q0']
    refine ⟨_,by omega,i + 1,rfl,by omega,?_,f56,f57,by simp,g1',kk⟩
    rw [ht]
    simp [Itm.ok,hme]
   | true =>
    by_cases hn : q.items[i].name = []
    ·
     simp [R55_9,f58,wrap_nat i (by omega),q0',hn]
     refine ⟨_,by omega,i + 1,rfl,by omega,?_,f56,f57,by simp,g1',kk⟩
     rw [ht]
     simp [Itm.ok,hme,hn]
    ·
     simp [hg,hn]
     refine CalV.pure (named51 q.items[i].name) ?_
     simp [R55_9,f58,wrap_nat i (by omega),q0']
     refine ⟨_,by omega,i + 1,rfl,by omega,?_,f56,f57,by simp,g1',kk⟩
     rw [ht]
     simp [Itm.ok,hme,hn]
 ·
  have hie : i = q.items.length:=by omega
  rw [hie,ho,List.take_length] at f3
  simp [L55_0,R55_6,f57,f58,hie]
  exact hQ _ _ _ (by simp [g1']) kk hn' (by simp [f3])
theorem srcs_take {l : List Src} {i : Nat} (h : i < l.length) : srcsOk (l.take (i + 1)) = (srcsOk (l.take i) && l[i].ok (decide (i = 0))):=by
 match l,i,h with
 | x :: r,0,_ => simp [srcsOk]
 | x :: r,i + 1,h =>
  have hr : i < r.length:=by simpa using h
  simp only [List.take_succ_cons,srcsOk]
  rw [List.take_add_one,List.getElem?_eq_getElem hr,List.all_append]
  simp [Bool.and_assoc]
theorem query55b (q : Qry) (hl : q.srcs.length ≤ lim) (hz : ∀ x ∈ q.srcs,x.cond.sz ≤ lim) (b : Bool) (F : Fr) (K : Hp) (n : Nat) (Q : QA) (h1 : F.get 1 = some (.ptr 0 0)) (h3 : F.get 3 = some (.bool b)) (k0 : K.get 0 = some (.cells 15 [] q.cells .nil))
  (hn : 0 < n) (hQ : ∀ F' K' n',F'.get 1 = some (.ptr 0 0) → K'.get 0 = some (.cells 15 [] q.cells .nil) → 0 < n' → F'.get 3 = some (.bool (b && srcsOk q.srcs)) → Q .normal F' K' n' []) :
  VC Try.prog (.seq R55_10 (.block 2 (.loop L55_1))) F K n [] Q:=by
 have hc2 : ∀ h,q.cells[3]'h = eSrc.ds q.srcs:=fun h => by simp [Qry.cells]
 unfold lim at hl
 simp [R55_10,h1,k0,Qry.cells_len,hc2,eSrc.len_ds]
 obtain ⟨okT,ho⟩ : ∃ f : Nat → Bool,∀ i,f i = (b && srcsOk (q.srcs.take i)):=⟨_,fun _ => rfl⟩
 have h0 : okT 0 = b:=by rw [ho]; simp [srcsOk]
 refine LoopV.of (fun t F' K' n' ms => ∃ i,t = q.srcs.length - i ∧ i ≤ q.srcs.length ∧ F'.get 3 = some (.bool (okT i)) ∧ F'.get 80 = some (eSrc.ds q.srcs) ∧ F'.get 81 = some (.int .i64 (q.srcs.length : Int)) ∧ F'.get 82 = some (.int .i64 (i : Int)) ∧ F'.get 1 = some (.ptr 0 0) ∧ K'.get 0 = some (.cells 15 [] q.cells .nil) ∧ 0 < n' ∧ ms = []) q.srcs.length ⟨0,by simp,by simp,by simp [h3,h0],by simp,by simp,by simp,by simp [h1],k0,hn,rfl⟩ ?_
 rintro t F' K' n' ms ⟨i,rfl,hi,f3,f80,f81,f82,g1',kk,hn',rfl⟩
 by_cases hlt : i < q.srcs.length
 ·
  have q0 : ¬ n' = 0:=by omega
  have q0' : ¬ 0 = n':=by omega
  have hx:=eSrc.ix (ik:=.i64) hlt
  have hld:=fun H => eSrc.ldN q.srcs[i] (eSrc.l (q.srcs.drop (i + 1))) H
  have ht : okT (i + 1) = (okT i && q.srcs[i].ok (decide (i = 0))):=by
   rw [ho,ho,srcs_take hlt,Bool.and_assoc]
  have hcl : eSrc.cells q.srcs[i] = .str q.srcs[i].table :: .str q.srcs[i].name :: q.srcs[i].cond.cells:=Eq.trans rfl rfl
  simp [L55_1,R55_11,R55_12,f80,f81,f82,hlt,hx,hld,Enc.av]
  simp only [hcl]
  generalize hb : okT i = b1 at f3 ht
  cases b1 with
  | false =>
   simp [R55_13,R55_14,f3,f82,wrap_nat i (by omega),q0']
   refine ⟨_,by omega,i + 1,rfl,by omega,?_,f80,f81,by simp,g1',kk⟩
   rw [ht]; rfl
  | true =>
   simp [R55_13,f3]
   have hm:=may53 q.srcs[i].cond (hz _ (List.getElem_mem hlt))
   have hk:=lacks91 q.srcs[i].cond
   have hav : q.srcs[i].cond.av = .agg q.srcs[i].cond.cells 8:=Eq.trans rfl rfl
   rw [hav] at hm hk
   refine CalV.pure (named51 q.srcs[i].table) ?_
   by_cases g1 : NamedOk q.srcs[i].table
   ·
    by_cases g2 : q.srcs[i].name = []
    ·
     simp only [g1,decide_true]
     by_cases g3 : i = 0
     ·
      have z1 : (i : Int) = 0:=by omega
      by_cases gb : q.srcs[i].cond.bare 0
      ·
       simp only [gb,decide_true] at hk
       simp [g2,z1]
       refine CalV.pure hk ?_
       simp
       simp [R55_14,f82,wrap_nat i (by omega),q0']
       refine ⟨_,by omega,i + 1,rfl,by omega,?_,f80,f81,by simp,g1',kk⟩
       rw [ht]
       rw [show decide (i = 0) = true by simp [g3]]
       simp [Src.ok,g1,g2,gb]
      ·
       simp only [gb,decide_false] at hk
       simp [g2,z1]
       refine CalV.pure hk ?_
       simp
       simp [R55_14,f82,wrap_nat i (by omega),q0']
       refine ⟨_,by omega,i + 1,rfl,by omega,?_,f80,f81,by simp,g1',kk⟩
       rw [ht]
       rw [show decide (i = 0) = true by simp [g3]]
       simp [Src.ok,g1,g2,gb]
     ·
      have z1 : ¬ (i : Int) = 0:=by omega
      have z2 : 0 < i:=by omega
      simp [g2,g3,z2]
      refine CalV.pure hm ?_
      simp
      simp [R55_14,f82,wrap_nat i (by omega),q0']
      refine ⟨_,by omega,i + 1,rfl,by omega,?_,f80,f81,by simp,g1',kk⟩
      rw [ht]
      simp [Src.ok,g1,g2,g3]
    ·
     simp [g1,g2]
     refine CalV.pure (named51 q.srcs[i].name) ?_
     by_cases g4 : NamedOk q.srcs[i].name
     ·
      simp only [g4,decide_true]
      by_cases g3 : i = 0
      ·
       have z1 : (i : Int) = 0:=by omega
       by_cases gb : q.srcs[i].cond.bare 0
       ·
        simp only [gb,decide_true] at hk
        simp [z1]
        refine CalV.pure hk ?_
        simp
        simp [R55_14,f82,wrap_nat i (by omega),q0']
        refine ⟨_,by omega,i + 1,rfl,by omega,?_,f80,f81,by simp,g1',kk⟩
        rw [ht]
        rw [show decide (i = 0) = true by simp [g3]]
        simp [Src.ok,g1,g2,g4,gb]
       ·
        simp only [gb,decide_false] at hk
        simp [z1]
        refine CalV.pure hk ?_
        simp
        simp [R55_14,f82,wrap_nat i (by omega),q0']
        refine ⟨_,by omega,i + 1,rfl,by omega,?_,f80,f81,by simp,g1',kk⟩
        rw [ht]
        rw [show decide (i = 0) = true by simp [g3]]
        simp [Src.ok,g1,g2,g4,gb]
      ·
       have z1 : ¬ (i : Int) = 0:=by omega
       have z2 : 0 < i:=by omega
       simp [g3,z2]
       refine CalV.pure hm ?_
       simp
       simp [R55_14,f82,wrap_nat i (by omega),q0']
       refine ⟨_,by omega,i + 1,rfl,by omega,?_,f80,f81,by simp,g1',kk⟩
       rw [ht]
       simp [Src.ok,g1,g2,g4,g3]
     ·
      simp [g4,R55_14,f82,wrap_nat i (by omega),q0']
      refine ⟨_,by omega,i + 1,rfl,by omega,?_,f80,f81,by simp,g1',kk⟩
      rw [ht]
      simp [Src.ok,g1,g2,g4]
   ·
    simp [g1,R55_14,f82,wrap_nat i (by omega),q0']
    refine ⟨_,by omega,i + 1,rfl,by omega,?_,f80,f81,by simp,g1',kk⟩
    rw [ht]
    simp [Src.ok,g1]
 ·
  have hie : i = q.srcs.length:=by omega
  rw [hie,ho,List.take_length] at f3
  simp [L55_1,R55_11,f81,f82,hie]
  exact hQ _ _ _ (by simp [g1']) kk hn' (by simp [f3])
theorem query55d (q : Qry) (ho : q.order.length ≤ lim) (hs : q.srcs.length ≤ lim) (hi : q.items.length ≤ lim) (hz1 : ∀ x ∈ q.items,x.e.sz ≤ lim) (hz2 : ∀ x ∈ q.srcs,x.cond.sz ≤ lim) (b : Bool) (F : Fr) (K : Hp) (n : Nat) (h1 : F.get 1 = some (.ptr 0 0)) (h3 : F.get 3 = some (.bool b)) (k0 : K.get 0 = some (.cells 15 [] q.cells .nil)) (hn : 0 < n) :
  VC Try.prog (.seq R55_5 (.block 0 (.loop L55_0))) F K n [] (SeqV Try.prog (.seq (.seq R55_10 (.block 2 (.loop L55_1))) (.seq (.seq R55_15 (.block 4 (.loop L55_2))) (.seq R55_20 .ret))) (RetQ [rTmp 2] fun v1 H' _ => Frz H'.get v1 (.bool (((b && q.items.all Itm.ok) && srcsOk q.srcs) && q.order.all Ord.ok)))):=by
 refine query55a q hi hz1 b F K n _ h1 h3 k0 hn fun F1 K1 n1 g1 gk gn g3 => ?_
 show VC Try.prog (.seq (.seq R55_10 (.block 2 (.loop L55_1))) (.seq (.seq R55_15 (.block 4 (.loop L55_2))) (.seq R55_20 .ret))) F1 K1 n1 [] _
 rw [vc_seq]
 refine query55b q hs hz2 _ F1 K1 n1 _ g1 g3 gk gn fun F2 K2 n2 e1 ek en e3 => ?_
 show VC Try.prog (.seq (.seq R55_15 (.block 4 (.loop L55_2))) (.seq R55_20 .ret)) F2 K2 n2 [] _
 rw [vc_seq]
 refine query55c q ho _ F2 K2 n2 _ e1 e3 ek en fun F3 K3 n3 d1 dk dn d3 => ?_
 show VC Try.prog (.seq R55_20 .ret) F3 K3 n3 [] _
 simp [R55_20,d3]
 exact .bool (by simp [Bool.and_assoc])
theorem CalV.ok {P : Program} {F : Fr} {H H' : Hp} {n n' : Nat} {m : List Dm} {Q : QA} {f : FuncId} {vs : List AV} {pd : Pd} {r : List (Option GO)} {v : AV} (h : CallOk P f vs H n v H' n') (k : VCO P r (pd.f v F) H' n' m Q) : CalV f vs pd r P F H n m Q :=
 CalV.of h.callR fun u K j ⟨a,b,c⟩ => by subst a b c; exact k
def bdr (v1 v2 : AV) (err : Int) : ABlk:=.cells 3 [] [v1,v2,.int .i64 err] .nil
theorem kinds94p (ns : List (List Nat)) (ts : List Tbl) (hl : (kindsS ts).length ≤ lim) (ht : ts.length ≤ lim) (hc : ∀ t ∈ ts,t.cols.length ≤ lim) : FnPure Try.prog 94 [.agg (scC ns ts) 2] (.ds (intsC (kindsS ts)) (kindsS ts).length 1) :=
 FnPure.ofR (by simp [scC]) (by simp) ((kinds94 ns ts hl ht hc).mono fun v H' n' h => h.frz (FrzL.pure (by simp)) (by omega))
theorem idxI_lt {α : Type} (p : α → Bool) (l : List α) : idxI p l < (l.length : Int):=by
 unfold idxI
 split
 ·
  rename_i q hq
  have:=(List.findIdx?_eq_some_iff_findIdx_eq.1 hq).1
  omega
 · omega
theorem kindsS_cons (t : Tbl) (r : List Tbl) : (kindsS (t :: r)).length = t.cols.length + (kindsS r).length:=by
 simp [kindsS,Tbl.kinds]
theorem placeF_lt (table name : List Nat) : ∀ (l : List (List Nat × Tbl)) (at0 : Nat) (found : Int) (src : Bool),found < at0 → (placeF table name l at0 found src).2 = 0 → 0 ≤ (placeF table name l at0 found src).1 ∧ (placeF table name l at0 found src).1 < (at0 : Int) + ((kindsS (l.map (·.2))).length : Int)
 | [],at0,found,src,hf,h => by
  unfold placeF at h ⊢
  split
  · rename_i h0; simp [kindsS]; omega
  ·
   rename_i h0
   rw [if_neg h0] at h
   split at h <;> simp at h
 | (n,t) :: r,at0,found,src,hf,h => by
  have hk:=idxI_lt (fun c : Col => decide (c.name = name)) t.cols
  unfold placeF at h ⊢
  simp only [List.map_cons,kindsS_cons]
  split
  ·
   rename_i h0
   rw [if_pos h0] at h
   split
   · rename_i h1; rw [if_pos h1] at h; simp at h
   ·
    rename_i h1
    rw [if_neg h1] at h
    have:=placeF_lt table name r (at0 + t.cols.length) _ true (by omega) h
    omega
  ·
   rename_i h0
   rw [if_neg h0] at h
   have:=placeF_lt table name r (at0 + t.cols.length) found _ (by omega) h
   omega
noncomputable def placeS (ns : List (List Nat)) (ts : List Tbl) (table name : List Nat) : Int × Int:=placeF table name (ns.zip ts) 0 (-1) false
theorem placeS_lt {ns : List (List Nat)} {ts : List Tbl} (hn : ns.length = ts.length) {table name : List Nat} (h : (placeS ns ts table name).2 = 0) : 0 ≤ (placeS ns ts table name).1 ∧ (placeS ns ts table name).1 < ((kindsS ts).length : Int):=by
 have:=placeF_lt table name (ns.zip ts) 0 (-1) false (by omega) h
 rw [List.map_snd_zip (by omega)] at this
 unfold placeS
 omega
mutual
noncomputable def Ex.bd (ns : List (List Nat)) (ts : List Tbl) : Ex → Int → Ex × Int × Int
 | .mk op v t m col args,err =>
  if op = 2 then (if (placeS ns ts t m).2 = 0 then (.mk 3 ⟨0,0,[]⟩ [] [] (placeS ns ts t m).1 [],(kindsS ts).getD (placeS ns ts t m).1.toNat 0,err) else (.mk op v t m col args,0,keep err (placeS ns ts t m).2 true))
  else if op = 1 then (.mk op v t m col args,v.kind,err)
  else (.mk op ⟨0,0,[]⟩ [] [] 0 (Ex.bdL ns ts args err).1,(wantE op).1.kind,keep (Ex.bdL ns ts args err).2.2 203 (!(wantE op).1.fits (Ex.bdL ns ts args err).2.1))
noncomputable def Ex.bdL (ns : List (List Nat)) (ts : List Tbl) : List Ex → Int → List Ex × List Int × Int
 | [],err => ([],[],err)
 | e :: r,err => ((e.bd ns ts err).1 :: (Ex.bdL ns ts r (e.bd ns ts err).2.2).1,(e.bd ns ts err).2.1 :: (Ex.bdL ns ts r (e.bd ns ts err).2.2).2.1,(Ex.bdL ns ts r (e.bd ns ts err).2.2).2.2)
end
theorem Ex.bdL_snoc (ns : List (List Nat)) (ts : List Tbl) (a : Ex) : ∀ (l : List Ex) (err : Int),Ex.bdL ns ts (l ++ [a]) err = ((Ex.bdL ns ts l err).1 ++ [(a.bd ns ts (Ex.bdL ns ts l err).2.2).1],(Ex.bdL ns ts l err).2.1 ++ [(a.bd ns ts (Ex.bdL ns ts l err).2.2).2.1],(a.bd ns ts (Ex.bdL ns ts l err).2.2).2.2)
 | [],err => by simp [Ex.bdL]
 | e :: r,err => by simp [Ex.bdL,Ex.bdL_snoc ns ts a r]
theorem Ex.bdL_len (ns : List (List Nat)) (ts : List Tbl) : ∀ (l : List Ex) (err : Int),(Ex.bdL ns ts l err).1.length = l.length ∧ (Ex.bdL ns ts l err).2.1.length = l.length
 | [],err => by simp [Ex.bdL]
 | e :: r,err => by simp [Ex.bdL,Ex.bdL_len ns ts r]
theorem Ex.bdL_take (ns : List (List Nat)) (ts : List Tbl) {l : List Ex} {i : Nat} (h : i < l.length) (err : Int) : Ex.bdL ns ts (l.take (i + 1)) err = ((Ex.bdL ns ts (l.take i) err).1 ++ [(l[i].bd ns ts (Ex.bdL ns ts (l.take i) err).2.2).1],(Ex.bdL ns ts (l.take i) err).2.1 ++ [(l[i].bd ns ts (Ex.bdL ns ts (l.take i) err).2.2).2.1],(l[i].bd ns ts (Ex.bdL ns ts (l.take i) err).2.2).2.2):=by
 rw [List.take_add_one,List.getElem?_eq_getElem h]
 exact Ex.bdL_snoc ns ts l[i] (l.take i) err
structure WkS (H : Hp) (n : Nat) (ns : List (List Nat)) (ts : List Tbl) (s b k w p : Nat) (v1 v2 : AV) (err : Int) : Prop where
 hs : H.get s = some (.cells 2 [] (scC ns ts) .nil)
 hb : H.get b = some (.cells 1 [] [.ptr p 0] .nil)
 hk : H.get k = some (.cells 1 [] [.ds (intsC (kindsS ts)) (kindsS ts).length 1] .nil)
 hw : H.get w = some (.cells 1 [] [.fn (.func 95) [] [.ptr s 0,.ptr b 0,.ptr k 0,.ptr w 0]] .nil)
 hp : H.get p = some (bdr v1 v2 err)
 ls : s < n
 lb : b < n
 lk : k < n
 lw : w < n
 lp : p < n
theorem WkS.ne {H : Hp} {n : Nat} {ns : List (List Nat)} {ts : List Tbl} {s b k w p : Nat} {v1 v2 : AV} {err : Int} (h : WkS H n ns ts s b k w p v1 v2 err) : s ≠ p ∧ b ≠ p ∧ k ≠ p ∧ w ≠ p:=by
 refine ⟨?_,?_,?_,?_⟩ <;> rintro rfl
 · have:=h.hs.symm.trans h.hp; injection this with this; injection this with this; omega
 · have:=h.hb.symm.trans h.hp; injection this with this; injection this with this; omega
 · have:=h.hk.symm.trans h.hp; injection this with this; injection this with this; omega
 · have:=h.hw.symm.trans h.hp; injection this with this; injection this with this; omega
theorem WkS.next {H K : Hp} {n n' : Nat} {ns : List (List Nat)} {ts : List Tbl} {s b k w p : Nat} {v1 v2 : AV} {err err' : Int} (h : WkS H n ns ts s b k w p v1 v2 err) (hn : n ≤ n') (hk : ∀ c,c < n → c ≠ p → K.get c = H.get c) (hp : K.get p = some (bdr v1 v2 err')) : WkS K n' ns ts s b k w p v1 v2 err':=by
 obtain ⟨n1,n2,n3,n4⟩:=h.ne
 have l1:=h.ls
 have l2:=h.lb
 have l3:=h.lk
 have l4:=h.lw
 have l5:=h.lp
 exact ⟨(hk s h.ls n1).trans h.hs,(hk b h.lb n2).trans h.hb,(hk k h.lk n3).trans h.hk,(hk w h.lw n4).trans h.hw,hp,by omega,by omega,by omega,by omega,by omega⟩
theorem Ex.frz {h : Hf} {op : Int} {v : Val} {t m : List Nat} {col : Int} {args : List Ex} {x : AV} (hx : Frz h x (.ds (Ex.cellsL args) args.length 8)) : FrzL h [.int .i64 op,.int .i64 v.kind,.int .i64 v.num,.str v.s,.str t,.str m,.int .i64 col,x] (Ex.mk op v t m col args).cells:=by
 rw [Ex.cells]
 exact .cons _ _ _ _ (.pure _ (by simp)) (.cons _ _ _ _ (.pure _ (by simp)) (.cons _ _ _ _ (.pure _ (by simp)) (.cons _ _ _ _ (.pure _ (by simp)) (.cons _ _ _ _ (.pure _ (by simp)) (.cons _ _ _ _ (.pure _ (by simp)) (.cons _ _ _ _ (.pure _ (by simp)) (.cons _ _ _ _ hx .nil)))))))
theorem Ex.frz2 {h : Hf} {cs : List AV} {e : Ex} {kd : Int} (hx : FrzL h cs e.cells) : Frz h (.tup [.agg cs 8,.int .i64 kd]) (.tup [e.av,.int .i64 kd]) :=
 .tup _ _ (.cons _ _ _ _ (.agg _ _ _ hx) (.cons _ _ _ _ (.pure _ (by simp)) .nil))
theorem OwnS.appA {P : Program} {H : Hp} {n : Nat} {F : Fr} {m : List Dm} {Q : QA} {v x : AV} {l new : List AV} {len sz by_ k : Nat} {pd : Pd} {r : List (Option GO)} (h : OwnS H n v l len sz) (hx : sliceCells H sz x = some new) (hk : sliceLen x = some k) (hn : new.length = k * sz)
  (hs : 0 < sz) (hk0 : 0 < k) (hbig : len + k ≤ big) (hby : by_ ≤ 4096) (h1 : allOne new = true)
  (hgo : ∀ H',OwnS H' (n + 1) (.sl n 0 (len + k) sz) (l ++ new) (len + k) sz → (∀ c,c ≠ n → blk v ≠ some c → H'.get c = H.get c) → VCO P r (pd.f (.sl n 0 (len + k) sz) F) H' (n + 1) m Q) : OpV (Go.Abs.cApp sz by_ n v x H) pd r P F H n m Q:=by
 obtain ⟨H',e,h1,h2⟩:=h.cApp hx hk hn hs hk0 hbig hby h1
 unfold OpV
 rw [e]
 exact hgo H' h1 fun c hc hb => h2 c hc fun e => hb (by rw [e]; rfl)
theorem OwnS.frzA {H : Hp} {n n0 : Nat} {v : AV} {l l' : List AV} {len sz : Nat} (h : OwnS H n v l len sz) (hn : ∀ c,blk v = some c → n0 ≤ c) (hl : FrzL (above n0 H) l l') (hz : 0 < sz) : Frz (above n0 H) v (.ds l' len sz):=by
 obtain ⟨s',rfl⟩ : ∃ k,sz = k + 1:=⟨sz - 1,by omega⟩
 obtain ⟨h0,⟨rfl,rfl⟩ | ⟨b,k,rfl,hb,hk,ho⟩⟩:=h
 ·
  have : l = []:=by simpa using h0
  subst this
  cases hl
  exact .nil _
 ·
  obtain ⟨u,z,bs,t,rfl,hg⟩:=ho.grab (o:=0) (c:=len * (s' + 1)) (by omega)
  refine .sl _ _ _ _ _ _ _ _ _ _ ?_ hg ?_
  · unfold above; rw [if_pos (hn b rfl)]; exact hk
  · rw [List.drop_zero,List.take_of_length_le (by omega)]; exact hl
end Go.Abs
