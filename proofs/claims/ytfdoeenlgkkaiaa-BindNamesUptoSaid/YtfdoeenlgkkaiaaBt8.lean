/- Names in sources, as the document tells them. -/
import Derived.Test.YtfdoeenlgkkaiaaBt7
namespace Go.Abs
open Go.Proofs
open Classical
set_option maxRecDepth 100000
theorem column83 (t : Tbl) (s : List Nat) (h : t.cols.length ≤ lim) : FnPure Try.prog 83 [eTbl.av t,.str s] (.int .i64 (idxI (fun c : Col => decide (c.name = s)) t.cols)):=by
 unfold lim at h
 refine pureV c83 (by simp) (by simp) (by simp [A83]) fun F hF => ?_
 simp [A83,B83,R83_0,R83_1,hF,Enc.av]
 refine LoopV.of (fun q F K n ms => ∃ i,q = t.cols.length - i ∧ i ≤ t.cols.length ∧ F.get 1 = some (.str s) ∧ F.get 2 = some (.ptr 0 0) ∧ F.get 5 = some (.int .i64 (i : Int)) ∧ K.get 0 = some (.cells 4 [] (eTbl.cells t) .nil) ∧ ms = [] ∧ ∀ j (_ : j < i) (h : j < t.cols.length),t.cols[j].name ≠ s) t.cols.length ⟨0,by simp [hF]⟩ ?_
 clear hF F
 rintro q F K n ms ⟨i,rfl,hi,f1,f2,f5,k0,rfl,hj⟩
 rw [eTbl_c] at k0
 by_cases hlt : i < t.cols.length
 ·
  have hx:=eCol.ix (ik:=.i64) hlt
  rw [eCol_c] at hx
  by_cases he : t.cols[i].name = s
  ·
   simp [L83_0,R83_2,R83_3,R83_4,f1,f2,f5,k0,Enc.len_ds,hlt,hx,he]
   refine .eq (by simp) ?_
   rw [idxI_some hlt (by simp [he]) fun j hj' => by simpa using hj j hj' (by omega)]
  ·
   simp [L83_0,R83_2,R83_3,R83_5,f1,f2,f5,k0,Enc.len_ds,hlt,hx,he,wrap_nat i (by omega)]
   refine ⟨_,by omega,i + 1,rfl,hlt,rfl,eTbl_c t,fun j hj' h => ?_⟩
   by_cases e : j = i
   · subst e; exact he
   · exact hj j (by omega) h
 ·
  obtain rfl : i = t.cols.length:=by omega
  simp [L83_0,R83_2,R83_6,f2,f5,k0,Enc.len_ds]
  refine .eq (by simp) ?_
  rw [idxI_none fun j h => by simpa using hj j h h]
theorem tblLd (t : Tbl) (r : List AV) (H : Hp) : cLoadN 4 (.dp (.int .u32 t.id :: .str t.name :: eCol.ds t.cols :: .int .u32 t.head :: r)) H = .val (eTbl.av t):=eTbl.ldN t r H
theorem named35 (s : Sch) (hs : s.fine) (name : List Nat) : FnPure Try.prog 35 [eSch.av s,.str name] (.tup [eTbl.av (s.named name).1,.bool (s.named name).2]):=by
 have ht:=hs.t
 unfold lim at ht
 refine pureV c35 (by simp) (by simp) (by simp [A35]) fun F hF => ?_
 simp [A35,B35,R35_0,R35_1,hF,Enc.av]
 refine LoopV.of (fun q F K n ms => ∃ i,q = s.tables.length - i ∧ i ≤ s.tables.length ∧ F.get 1 = some (.str name) ∧ F.get 2 = some (.ptr 0 0) ∧ F.get 4 = some (.ptr 1 0) ∧ F.get 6 = some (.int .i64 (i : Int)) ∧ K.get 0 = some (.cells 2 [] (eSch.cells s) .nil) ∧ K.get 1 = some (.cells 4 [] [(.int .u32 0),(.str []),(.cst (.slice none 0 0)),(.int .u32 0)] .nil) ∧ ms = [] ∧ ∀ j (_ : j < i) (h : j < s.tables.length),s.tables[j].name ≠ name) s.tables.length ⟨0,by simp [hF]⟩ ?_
 clear hF F
 rintro q F K n ms ⟨i,rfl,hi,f1,f2,f4,f6,k0,k1,rfl,hj⟩
 rw [eSch_c] at k0
 by_cases hlt : i < s.tables.length
 ·
  have hx:=eTbl.ix (ik:=.i64) hlt
  by_cases he : s.tables[i].name = name
  ·
   subst he
   have hf : s.named s.tables[i].name = (s.tables[i],true):=by
    unfold Sch.named firstD
    rw [List.find?_eq_some_iff_getElem.2 ⟨by simp,i,hlt,rfl,fun j hj' => by simpa using hj j hj' (by omega)⟩]
   rw [eTbl_c] at hx
   simp [L35_0,R35_2,R35_3,R35_4,f1,f2,f4,f6,k0,k1,Enc.len_ds,hlt,hx,tblLd,Enc.av,eTbl_c,hf]
   exact .pure _ (by simp)
  ·
   rw [eTbl_c] at hx
   simp [L35_0,R35_2,R35_3,R35_5,f1,f2,f4,f6,k0,Enc.len_ds,hlt,hx,he,wrap_nat i (by omega)]
   refine ⟨_,by omega,i + 1,rfl,hlt,rfl,?_⟩
   refine ⟨by rw [eSch_c],k1,fun j hj' h => ?_⟩
   by_cases e : j = i
   · subst e; exact he
   · exact hj j (by omega) h
 ·
  obtain rfl : i = s.tables.length:=by omega
  have hf : s.named name = (Tbl.zero,false):=by
   unfold Sch.named firstD
   rw [List.find?_eq_none.2 fun x hx => by
    obtain ⟨j,h,rfl⟩:=List.getElem_of_mem hx
    simpa using hj j h h]
  simp [L35_0,R35_2,R35_6,f2,f4,f6,k0,k1,Enc.len_ds,hf]
  exact .tup _ _ (.cons _ _ _ _ (.agg _ _ _ (zerT _)) (.cons _ _ _ _ (.pure _ (by simp)) .nil))
def eSo : Enc (List Nat × Tbl) 5:=⟨fun x => .str x.1 :: eTbl.cells x.2,fun _ => by simp,fun _ => by simp,fun _ => by simp⟩
theorem eSo_c (x : List Nat × Tbl) : eSo.cells x = .str x.1 :: eTbl.cells x.2:=rfl
noncomputable def hitsF (table name : List Nat) : List (List Nat × Tbl) → Nat → List Int
 | [],_ => []
 | x :: r,a => (if (table = [] ∨ table = x.1) ∧ 0 ≤ idxI (fun c : Col => decide (c.name = name)) x.2.cols then [(a : Int) + idxI (fun c : Col => decide (c.name = name)) x.2.cols] else []) ++ hitsF table name r (a + x.2.cols.length)
noncomputable def srcF (table : List Nat) : List (List Nat × Tbl) → Nat
 | [] => 0
 | x :: r => (if table = [] ∨ table = x.1 then 1 else 0) + srcF table r
theorem hitsF_snoc (table name : List Nat) (x : List Nat × Tbl) : ∀ (l : List (List Nat × Tbl)) (a : Nat),hitsF table name (l ++ [x]) a = hitsF table name l a ++ (if (table = [] ∨ table = x.1) ∧ 0 ≤ idxI (fun c : Col => decide (c.name = name)) x.2.cols then [((a + (kindsS (l.map (·.2))).length : Nat) : Int) + idxI (fun c : Col => decide (c.name = name)) x.2.cols] else [])
 | [],a => by simp [hitsF,kindsS]
 | y :: r,a => by
  have h:=hitsF_snoc table name x r (a + y.2.cols.length)
  simp only [List.cons_append,hitsF,h,List.map_cons,kindsS_cons,List.append_assoc,Nat.add_assoc]
theorem srcF_snoc (table : List Nat) (x : List Nat × Tbl) : ∀ (l : List (List Nat × Tbl)),srcF table (l ++ [x]) = srcF table l + (if table = [] ∨ table = x.1 then 1 else 0)
 | [] => by simp [srcF]
 | y :: r => by simp only [List.cons_append,srcF,srcF_snoc table x r,Nat.add_assoc]
noncomputable def findS (table name : List Nat) (l : List (List Nat × Tbl)) : Int × Int :=
 if (hitsF table name l 0).length = 1 then ((hitsF table name l 0).getD 0 0,0) else if 1 < (hitsF table name l 0).length then (0,205) else if table ≠ [] ∧ srcF table l = 0 then (0,200) else (0,201)
theorem hitsF_len (table name : List Nat) : ∀ (l : List (List Nat × Tbl)) (a : Nat),(hitsF table name l a).length ≤ l.length
 | [],a => by simp [hitsF]
 | y :: r,a => by
  have h:=hitsF_len table name r (a + y.2.cols.length)
  simp only [hitsF,List.length_append,List.length_cons]
  split <;> simp <;> omega
theorem srcF_len (table : List Nat) : ∀ (l : List (List Nat × Tbl)),srcF table l ≤ l.length
 | [] => by simp [srcF]
 | y :: r => by
  have h:=srcF_len table r
  simp only [srcF,List.length_cons]
  split <;> omega
theorem take_snoc {α : Type} {l : List α} {i : Nat} (h : i < l.length) : l.take (i + 1) = l.take i ++ [l[i]]:=by
 rw [List.take_add_one,List.getElem?_eq_getElem h]; rfl
theorem wrap_int (x : Int) (h1 : -2147483648 ≤ x) (h2 : x < 2147483648) : IntKind.i64.wrap x = x:=by
 simp [IntKind.wrap,IntKind.signed,IntKind.bits]; omega
theorem OwnS.lenL {H : Hp} {n : Nat} {v : AV} {l : List AV} {len sz : Nat} (h : OwnS H n v l len sz) : cLenL v = .val (.int .i64 (len : Int)):=by
 obtain ⟨_,⟨rfl,rfl⟩ | ⟨b,k,rfl,_⟩⟩:=h <;> rfl
theorem find36 (l : List (List Nat × Tbl)) (table name : List Nat) (hl : l.length ≤ lim) (hk : (kindsS (l.map (·.2))).length ≤ lim) (hc : ∀ x ∈ l,x.2.cols.length ≤ lim) :
  FnPure Try.prog 36 [eSo.ds l,.str table,.str name] (.tup [.int .i64 (findS table name l).1,.int .i64 (findS table name l).2]):=by
 unfold lim at hl hk
 generalize hts : l.map (·.2) = ts at hk
 have htl : ts.length = l.length:=by rw [← hts,List.length_map]
 refine pureV c36 (by simp) (by simp) (by simp [A36]) fun F hF => ?_
 simp [A36,B36,R36_0,R36_1,R36_2,R36_3,R36_4]
 refine LoopV.of (fun q F K n ms => ∃ (i : Nat) (x : AV),q = l.length - i ∧ i ≤ l.length ∧ F.get 0 = some (eSo.ds l) ∧ F.get 1 = some (.str table) ∧ F.get 2 = some (.str name) ∧ F.get 8 = some x ∧ F.get 9 = some (.int .i64 ((kindsS (ts.take i)).length : Int)) ∧ F.get 10 = some (.int .i64 (srcF table (l.take i) : Int)) ∧ F.get 11 = some (.int .i64 (i : Int)) ∧ OwnS K n x (eInt.l (hitsF table name (l.take i) 0)) (hitsF table name (l.take i) 0).length 1 ∧ ms = []) l.length ⟨0,.cst (.slice none 0 0),by simp [hF,kindsS,srcF,hitsF,OwnS.nil]⟩ ?_
 clear hF F
 rintro q F K n ms ⟨i,x,rfl,hi,f0,f1,f2,f8,f9,f10,f11,ho,rfl⟩
 have hh:=hitsF_len table name (l.take i) 0
 have hs:=srcF_len table (l.take i)
 rw [List.length_take] at hh hs
 by_cases hlt : i < l.length
 ·
  have hx:=eSo.ix (ik:=.i64) hlt
  rw [eSo_c] at hx
  have hld:=fun r H => eTbl.ldN l[i].2 r H
  have hci:=hc _ (List.getElem_mem hlt)
  have hti : ts[i]'(by omega) = l[i].2:=by subst hts; simp
  have hkl : (kindsS (ts.take (i + 1))).length = (kindsS (ts.take i)).length + l[i].2.cols.length:=by
   rw [take_snoc (by omega),hti]; simp [kindsS,Tbl.kinds]
  have hkb : (kindsS (ts.take (i + 1))).length ≤ (kindsS ts).length:=kindsS_le _ _
  have hit : hitsF table name (l.take (i + 1)) 0 = _:=(congrArg (fun z => hitsF table name z 0) (take_snoc hlt)).trans (hitsF_snoc table name l[i] (l.take i) 0)
  have hsr : srcF table (l.take (i + 1)) = _:=(congrArg (srcF table) (take_snoc hlt)).trans (srcF_snoc table l[i] (l.take i))
  rw [Nat.zero_add,List.map_take,hts] at hit
  have hid:=idxI_lt (fun c : Col => decide (c.name = name)) l[i].2.cols
  have hcol:=column83 l[i].2 name hci
  simp [L36_0,R36_5,R36_6,f0,f2,f11,Enc.len_ds,hlt,hx,hld]
  refine CalV.pure hcol ?_
  generalize idxI (fun c : Col => decide (c.name = name)) l[i].2.cols = kk at hit hid
  have w1 : IntKind.i64.wrap (((kindsS (ts.take i)).length : Int) + (l[i].2.cols.length : Int)) = ((kindsS (ts.take (i + 1))).length : Int):=by
   rw [hkl,Int.natCast_add]; exact wrap_int _ (by omega) (by omega)
  have w4:=wrap_nat i (by omega)
  generalize hsq : srcF table (l.take i) = S at *
  generalize hsq' : srcF table (l.take (i + 1)) = S' at *
  generalize hhq' : hitsF table name (l.take (i + 1)) 0 = hits' at *
  by_cases h1 : table = [] ∨ table = l[i].1
  ·
   have h1' : S' = S + 1:=by rw [hsr,if_pos h1]
   have w2 : IntKind.i64.wrap ((S : Int) + 1) = (S' : Int):=by rw [h1']; exact wrap_int _ (by omega) (by omega)
   have d1 : ¬ table = [] → decide (table = l[i].1) = true:=fun h => by simpa [h] using h1
   by_cases h2 : 0 ≤ kk
   ·
    rw [if_pos ⟨h1,h2⟩] at hit
    have w3 : IntKind.i64.wrap (((kindsS (ts.take i)).length : Int) + kk) = ((kindsS (ts.take i)).length : Int) + kk:=wrap_int _ (by omega) (by omega)
    have hlen : hits'.length = (hitsF table name (l.take i) 0).length + 1:=by rw [hit]; simp
    have fin : ∀ (K' : Hp) (n' : Nat),OwnS K' n' (.sl (n + 1) 0 ((hitsF table name (l.take i) 0).length + 1) 1) (eInt.l (hitsF table name (l.take i) 0) ++ [.int .i64 (((kindsS (ts.take i)).length : Int) + kk)]) ((hitsF table name (l.take i) 0).length + 1) 1 → OwnS K' n' (.sl (n + 1) 0 ((hitsF table name (l.take i) 0).length + 1) 1) (eInt.l hits') hits'.length 1:=fun K' n' h => by
     rw [hlen,hit,Enc.l_append,Enc.l_one,eInt_c]; exact h
    rcases Classical.em (table = []) with rfl | h3
    ·
     simp [R36_7,R36_8,R36_9,R36_10,f1,f8,f9,f10,h2,w2,w3]
     refine OwnS.app (k:=1) (new:=[.int .i64 (((kindsS (ts.take i)).length : Int) + kk)]) (ho.frame (by omega) fun c hc => by have:=ho.blkLt hc; simp [neC this]) (sliceCells_one (by simp)) (by simp) (by simp) (by omega) (by omega) (by unfold big; omega) (by omega) (by simp [allOne]) fun K' o' _ => ?_
     simp [R36_11,R36_12,f0,f1,f2,f9,f11,hx,w1,w4,eTbl_c,Enc.len_ds]
     exact ⟨_,by omega,i + 1,rfl,hlt,rfl,hsq'.symm,rfl,by rw [hhq']; exact fin _ _ o'⟩
    ·
     have d1:=d1 h3
     simp [R36_7,R36_8,R36_9,R36_10,f0,f1,f8,f9,f10,f11,hx,h2,h3,w2,w3,d1]
     refine OwnS.app (k:=1) (new:=[.int .i64 (((kindsS (ts.take i)).length : Int) + kk)]) (ho.frame (by omega) fun c hc => by have:=ho.blkLt hc; simp [neC this]) (sliceCells_one (by simp)) (by simp) (by simp) (by omega) (by omega) (by unfold big; omega) (by omega) (by simp [allOne]) fun K' o' _ => ?_
     simp [R36_11,R36_12,f0,f1,f2,f9,f11,hx,w1,w4,eTbl_c,Enc.len_ds]
     exact ⟨_,by omega,i + 1,rfl,hlt,rfl,hsq'.symm,rfl,by rw [hhq']; exact fin _ _ o'⟩
   ·
    rw [if_neg (by simp [h2])] at hit
    simp at hit
    rw [← hit] at ho
    rcases Classical.em (table = []) with rfl | h3
    ·
     simp [R36_7,R36_8,R36_9,R36_11,R36_12,f0,f1,f2,f8,f9,f10,f11,hx,h2,w1,w2,w4,eTbl_c,Enc.len_ds]
     exact ⟨_,by omega,i + 1,rfl,hlt,rfl,hsq'.symm,rfl,by rw [hhq']; exact ho⟩
    ·
     have d1:=d1 h3
     simp [R36_7,R36_8,R36_9,R36_11,R36_12,f0,f1,f2,f8,f9,f10,f11,hx,h2,h3,w1,w2,w4,d1,eTbl_c,Enc.len_ds]
     exact ⟨_,by omega,i + 1,rfl,hlt,rfl,hsq'.symm,rfl,by rw [hhq']; exact ho⟩
  ·
   have h1' : S' = S:=by rw [hsr,if_neg h1,Nat.add_zero]
   rw [if_neg (by simp [h1])] at hit
   simp at hit h1
   rw [← hit] at ho
   simp [R36_7,R36_11,R36_12,f0,f1,f2,f8,f9,f10,f11,hx,h1,w1,w4,eTbl_c,Enc.len_ds]
   exact ⟨_,by omega,i + 1,rfl,hlt,rfl,h1'.symm.trans hsq'.symm,rfl,by rw [hhq']; exact ho⟩
 ·
  obtain rfl : i = l.length:=by omega
  rw [List.take_length] at *
  simp [L36_0,R36_5,f0,f11,Enc.len_ds]
  by_cases g1 : (hitsF table name l 0).length = 1
  ·
   obtain ⟨_,⟨_,h0⟩ | ⟨b,k,rfl,hb,hk',hob⟩⟩:=ho
   · omega
   ·
    obtain ⟨z,hz⟩:=List.length_eq_one_iff.1 g1
    have hfd : findS table name l = (z,0):=by simp [findS,hz]
    have hld:=own_ld (i:=0) hk' hob (by rw [hz,Enc.l_one,eInt_c]; simp)
    have hze : (eInt.l (hitsF table name l 0))[0]'(by rw [hz,Enc.l_one,eInt_c]; simp) = .int .i64 z:=by simp [hz,Enc.l_one,eInt_c]
    rw [hze] at hld
    have hxa : cIxa 1 (.sl b 0 1 1) (.int .i64 0) = .val (.ptr b 0):=rfl
    simp [R36_13,R36_14,f8,g1,hxa,hld,hfd]
    exact .pure _ (by simp)
  ·
   have hln:=ho.lenL
   by_cases g2 : 1 < (hitsF table name l 0).length
   ·
    have hfd : findS table name l = (0,205):=by simp [findS,g1,g2]
    simp [R36_13,R36_15,R36_16,f8,hln,hfd,show ((hitsF table name l 0).length : Int) ≠ 1 by omega,show (1 : Int) < ((hitsF table name l 0).length : Int) by omega]
    exact .pure _ (by simp)
   ·
    have i1 : ¬ ((hitsF table name l 0).length : Int) = 1:=by omega
    have i2 : ¬ (1 : Int) < ((hitsF table name l 0).length : Int):=by omega
    rcases Classical.em (table = []) with rfl | g3
    ·
     have hfd : findS [] name l = (0,201):=by simp [findS,g1,g2]
     simp [R36_13,R36_15,R36_17,R36_19,f1,f8,i1,i2,hln,hfd]
     exact .pure _ (by simp)
    ·
     by_cases g4 : srcF table l = 0
     ·
      have hfd : findS table name l = (0,200):=by simp [findS,g1,g2,g3,g4]
      simp [R36_13,R36_15,R36_17,R36_18,f1,f8,f10,i1,i2,hln,hfd,g3,g4]
      exact .pure _ (by simp)
     ·
      have hfd : findS table name l = (0,201):=by simp [findS,g1,g2,g4]
      simp [R36_13,R36_15,R36_17,R36_19,f1,f8,f10,i1,i2,g4,hln,hfd,g3]
      exact .pure _ (by simp)
theorem Enc.l_at {α : Type} {k : Nat} (E : Enc α k) {l : List α} {i j : Nat} (h : i < l.length) (hj : j < k) : (E.l l)[i * k + j]? = (E.cells l[i])[j]?:=by
 rw [← List.getElem?_drop,E.l_drop h,List.getElem?_append_left (by simpa using hj)]
theorem own_ldq {H : Hp} {b i : Nat} {k : ABlk} {L : List AV} {v : AV} (hb : H.get b = some k) (ho : OwnB k L) (hv : L[i]? = some v) : cLoad1 (.ptr b i) H = .val v:=by
 obtain ⟨h1,h2⟩:=List.getElem?_eq_some_iff.1 hv
 rw [own_ld hb ho h1,h2]
theorem OwnS.ld {H : Hp} {n : Nat} {v y : AV} {l : List AV} {len sz i o : Nat} {ik : IntKind} (h : OwnS H n v l len sz) (hi : i < len) (hv : l[o]? = some y) : ∃ b,cIxa sz v (.int ik (i : Int)) = .val (.ptr b (i * sz)) ∧ cLoad1 (.ptr b o) H = .val y:=by
 obtain ⟨_,⟨_,h0⟩ | ⟨b,k,rfl,hb,hk,ho⟩⟩:=h
 · omega
 · exact ⟨b,by rw [cIxa_sl hi,Nat.zero_add],own_ldq hk ho hv⟩
theorem keep_on {err e : Int} {b : Bool} (h : err ≠ 0) : keep err e b = err:=by simp [keep,h]
theorem srcE_on (s : Sch) (l : List Src) (e : Int) : ∀ (d i : Nat),srcE s l i e ≠ 0 → srcE s l (i + d) e = srcE s l i e
 | 0,i,_ => rfl
 | d + 1,i,h => by
  have h1:=srcE_on s l e d i h
  rw [show i + (d + 1) = (i + d) + 1 by omega,srcE,h1,keep_on h,keep_on h]
noncomputable def Sch.so (s : Sch) (x : Src) : List Nat × Tbl:=(x.nm,s.tb x)
structure SoM (s : Sch) (q : Qry) (i : Nat) (x : AV) (K : Hp) (m : Nat) : Prop where
 hm : 2 ≤ m
 tp : Top K m
 k0 : K.get 0 = some (.cells 2 [] (eSch.cells s) .nil)
 k1 : K.get 1 = some (.cells 15 [] q.cells .nil)
 ow : OwnS K m x (eSo.l ((q.srcs.take i).map s.so)) i 5
 dx : ∀ b,blk x = some b → 2 ≤ b
structure SoG (i : Nat) (x : AV) (F : Fr) : Prop where
 f2 : F.get 2 = some (.ptr 0 0)
 f3 : F.get 3 = some (.ptr 1 0)
 f6 : F.get 6 = some x
 f7 : F.get 7 = some (.int .i64 (i : Int))
theorem sources12a (s : Sch) (q : Qry) (i : Nat) (hi : i ≤ q.srcs.length) (hl : q.srcs.length ≤ lim) (x : AV) (nm : List Nat) (F : Fr) (K : Hp) (m a : Nat) (Q : QA) (G : SoG i x F) (f8 : F.get 8 = some (.ptr a 0)) (f10 : F.get 10 = some (.str nm)) (f11 : F.get 11 = some (.int .i64 0)) (M : SoM s q i x K m)
  (hin : nm ∈ (q.srcs.take i).map Src.nm → ∀ F,F.get 4 = some (.cst (.slice none 0 0)) → F.get 5 = some (.int .i64 205) → Q .ret F K m [])
  (hQ : nm ∉ (q.srcs.take i).map Src.nm → ∀ F,SoG i x F → F.get 8 = some (.ptr a 0) → F.get 10 = some (.str nm) → Q .normal F K m []) : LoopV L12_0 Try.prog F K m [] (BlkQ 2 Q):=by
 unfold lim at hl
 have hlen : (q.srcs.take i).length = i:=by rw [List.length_take]; omega
 refine LoopV.of (fun g F K' m' ms => ∃ k : Nat,g = i - k ∧ k ≤ i ∧ SoG i x F ∧ F.get 8 = some (.ptr a 0) ∧ F.get 10 = some (.str nm) ∧ F.get 11 = some (.int .i64 (k : Int)) ∧ K' = K ∧ m' = m ∧ ms = [] ∧ nm ∉ (q.srcs.take k).map Src.nm) i ⟨0,by simp,by omega,G,f8,f10,by simpa using f11,rfl,rfl,rfl,by simp⟩ ?_
 clear G f8 f10 f11 F
 rintro g F K' m' ms ⟨k,rfl,hk,⟨f2,f3,f6,f7⟩,f8,f10,f11,rfl,rfl,rfl,hno⟩
 have hln:=M.ow.lenL
 by_cases hlt : k < i
 ·
  have hkl : k < q.srcs.length:=by omega
  have hsn : q.srcs.take (k + 1) = q.srcs.take k ++ [q.srcs[k]]:=take_snoc hkl
  obtain ⟨b,h1,h2⟩:=M.ow.ld (ik:=.i64) (o:=k * 5) (y:=.str q.srcs[k].nm) hlt (by rw [show k * 5 = k * 5 + 0 from rfl,eSo.l_at (by simp; omega) (by omega)]; simp [eSo_c,Sch.so])
  by_cases he : q.srcs[k].nm = nm
  ·
   have hmem : nm ∈ (q.srcs.take i).map Src.nm:=List.mem_map.2 ⟨q.srcs[k],List.mem_take_iff_getElem.2 ⟨k,by omega,rfl⟩,he⟩
   simp [L12_0,R12_11,R12_12,R12_13,f6,f10,f11,hln,hlt,h1,h2,he]
   exact hin hmem _ (by simp) (by simp)
  ·
   simp [L12_0,R12_11,R12_12,R12_14,f6,f10,f11,hln,hlt,h1,h2,he,wrap_nat k (by omega)]
   refine ⟨_,by omega,k + 1,rfl,hlt,⟨by simp [f2],by simp [f3],by simp [f6],by simp [f7]⟩,by simp [f8],rfl,?_⟩
   rw [← List.map_take,hsn,List.map_append,List.mem_append]
   rintro (h | h)
   · exact hno h
   · exact he (by simp at h; exact h.symm)
 ·
  obtain rfl : k = i:=by omega
  simp [L12_0,R12_11,f6,f11,hln]
  exact hQ hno _ ⟨by simp [f2],by simp [f3],by simp [f6],by simp [f7]⟩ (by simp [f8]) (by simp [f10])
theorem sources12b (s : Sch) (q : Qry) (i : Nat) (hlt : i < q.srcs.length) (hl : q.srcs.length ≤ lim) (x : AV) (F : Fr) (K : Hp) (m a : Nat) (Q : QA) (G : SoG i x F) (f8 : F.get 8 = some (.ptr a 0)) (f10 : F.get 10 = some (.str q.srcs[i].nm)) (M : SoM s q i x K m) (ha : K.get a = some (.cells 4 [] (eTbl.cells (s.tb q.srcs[i])) .nil))
  (hin : q.srcs[i].nm ∈ (q.srcs.take i).map Src.nm → ∀ F,F.get 4 = some (.cst (.slice none 0 0)) → F.get 5 = some (.int .i64 205) → Q .ret F K m [])
  (hQ : q.srcs[i].nm ∉ (q.srcs.take i).map Src.nm → ∀ F K m x,SoG i x F → SoM s q (i + 1) x K m → Q .normal F K m []) : VC Try.prog (.seq (.seq R12_10 (.block 2 (.loop L12_0))) R12_15) F K m [] Q:=by
 have hl':=hl
 unfold lim at hl'
 obtain ⟨w2,w3,w6,w7⟩:=G
 simp [R12_10]
 refine sources12a s q i (by omega) hl x q.srcs[i].nm _ K m a _ ⟨by simp [w2],by simp [w3],by simp [w6],by simp [w7]⟩ (by simp [f8]) (by simp [f10]) (by simp) M (fun hin' F4 f4 f5 => by simpa using hin hin' F4 f4 f5) fun hno F4 ⟨w2,w3,w6,w7⟩ w8 w10 => ?_
 rw [eTbl_c] at ha
 simp [R12_15,w6,w8,w10,ha]
 have hm:=M.hm
 have tp:=M.tp
 generalize hK1 : Tr.put K m _ = K1
 have g1 : ∀ b,b < m → K1.get b = K.get b:=fun b hb => by rw [← hK1]; simp [neC hb]
 have x1 : K1.get m = some (.cells 5 [] (eSo.cells (s.so q.srcs[i])) .nil):=by rw [← hK1]; simp [eSo_c,eTbl_c,Sch.so]
 have t1 : Top K1 (m + 1):=fun b hb => by
  have e1 : ¬ b = m:=by omega
  rw [← hK1]; simp [e1,tp b (by omega)]
 clear hK1
 have o1:=M.ow.frame (H':=K1) (n':=m + 1) (by omega) fun b hb => g1 b (M.ow.blkLt hb)
 refine OwnS.appA (k:=1) (new:=eSo.cells (s.so q.srcs[i])) o1 (sliceCells_one x1) (by simp) (by simp) (by omega) (by omega) (by unfold big; omega) (by omega) (by simp) fun K2 o2 g2 => ?_
 have nx : ∀ b,b < 2 → blk x ≠ some b:=fun b h1 h2 => by have:=M.dx b h2; omega
 have hxl : ∀ b,blk x = some b → b < m:=fun b h => M.ow.blkLt h
 simp
 refine hQ hno _ K2 _ (.sl (m + 1) 0 (i + 1) 5) ⟨by simp [w2],by simp [w3],by simp,by simp [w7]⟩ ⟨by omega,fun b hb => ?_,?_,?_,?_,fun b hb => by simp at hb; omega⟩
 · exact (g2 b (by omega) fun h => by have:=hxl b h; omega).trans (t1 b (by omega))
 · exact (g2 0 (by omega) (nx 0 (by omega))).trans ((g1 0 (by omega)).trans M.k0)
 · exact (g2 1 (by omega) (nx 1 (by omega))).trans ((g1 1 (by omega)).trans M.k1)
 ·
  rw [take_snoc hlt,List.map_append,Enc.l_append]
  simpa [Enc.l_one] using o2
theorem sources12 (s : Sch) (hs : s.fine) (q : Qry) (hl : q.srcs.length ≤ lim) : FnPure Try.prog 12 [eSch.av s,q.av]
  (.tup [eSo.ds (if srcE s q.srcs q.srcs.length 0 = 0 then q.srcs.map s.so else []),.int .i64 (srcE s q.srcs q.srcs.length 0)]):=by
 have hl':=hl
 unfold lim at hl'
 refine pureV c12 (by simp [Qry.av,Qry.pure]) (by simp) (by simp [A12]) fun F hF => ?_
 simp [A12,B12,R12_0,R12_1,R12_2,hF,Enc.av,Qry.av]
 refine LoopV.of (fun g F K m ms => ∃ (i : Nat) (x : AV),g = q.srcs.length - i ∧ i ≤ q.srcs.length ∧ SoG i x F ∧ SoM s q i x K m ∧ srcE s q.srcs i 0 = 0 ∧ ms = []) q.srcs.length
  ⟨0,.cst (.slice none 0 0),by simp,by omega,⟨by simp,by simp,by simp,by simp⟩,⟨by omega,fun b hb => by simp [show ¬ b = 0 by omega,show ¬ b = 1 by omega],by simp,by simp,by simpa using OwnS.nil _ _ 5,by simp⟩,rfl,rfl⟩ ?_
 clear hF F
 rintro g F K m ms ⟨i,x,rfl,hi,⟨f2,f3,f6,f7⟩,M,he,rfl⟩
 have k0:=M.k0
 have k1:=M.k1
 have hm:=M.hm
 have tp:=M.tp
 by_cases hlt : i < q.srcs.length
 ·
  have hx:=eSrc.ix (ik:=.i64) hlt
  rw [eSrc_c] at hx
  have h35:=named35 s hs q.srcs[i].table
  have he1 : srcE s q.srcs (i + 1) 0 = keep (keep 0 200 (!(s.named q.srcs[i].table).2)) 205 (decide (q.srcs[i].nm ∈ (q.srcs.take i).map Src.nm)):=by rw [srcE,he,srcAt_lt hlt]
  have hon : srcE s q.srcs (i + 1) 0 ≠ 0 → srcE s q.srcs q.srcs.length 0 = srcE s q.srcs (i + 1) 0:=fun h => by
   have:=srcE_on s q.srcs 0 (q.srcs.length - (i + 1)) (i + 1) h
   rwa [show i + 1 + (q.srcs.length - (i + 1)) = q.srcs.length by omega] at this
  have htm:=tp m (Nat.le_refl _)
  simp only [L12_1,R12_3,R12_4]
  simp [f3,f7,k1,Qry.c3,Enc.len_ds,hlt]
  refine DrwV.of (ceL_ok (l:=[⟨35,[.agg (eSch.cells s) 2,.str q.srcs[i].table],K,m,.tup [.agg (eTbl.cells (s.named q.srcs[i].table).1) 4,.bool (s.named q.srcs[i].table).2],K,m⟩]) ?_) ?_
  · simp only [List.mem_singleton]; rintro c rfl; exact h35.callOk K m
  have hsl : (eSch.cells s).length = 2:=eSch.cells_len s
  simp [clearF_get,f2,f3,f7,k0,k1,Qry.c3,hx,ceL_hd,noneAt_cons,noneAt_nil,htm]
  generalize hK1 : Tr.put (Tr.put K m _) m _ = K1
  have g1 : ∀ b,b < m → K1.get b = K.get b:=fun b hb => by rw [← hK1]; simp [neC hb]
  have x1 : K1.get m = some (.cells 4 [] (eTbl.cells (s.tb q.srcs[i])) .nil):=by rw [← hK1]; simp [Sch.tb]
  have t1 : Top K1 (m + 1):=fun b hb => by
   have e1 : ¬ b = m:=by omega
   rw [← hK1]; simp [e1,tp b (by omega)]
  clear hK1
  generalize hF2 : (Fp 9 _ _ : Fr) = F2
  have w2 : F2.get 2 = some (.ptr 0 0):=by rw [← hF2]; simp [clearF_get,f2]
  have w3 : F2.get 3 = some (.ptr 1 0):=by rw [← hF2]; simp [clearF_get,f3]
  have w6 : F2.get 6 = some x:=by rw [← hF2]; simp [clearF_get,f6]
  have w7 : F2.get 7 = some (.int .i64 (i : Int)):=by rw [← hF2]; simp [clearF_get,f7]
  have w8 : F2.get 8 = some (.ptr m 0):=by rw [← hF2]; simp
  have w9 : F2.get 9 = some (.bool (s.named q.srcs[i].table).2):=by rw [← hF2]; simp
  clear hF2 f2 f3 f6 f7
  have M1 : SoM s q i x K1 (m + 1):=⟨by omega,t1,(g1 0 (by omega)).trans k0,(g1 1 (by omega)).trans k1,M.ow.frame (by omega) fun b hb => g1 b (M.ow.blkLt hb),M.dx⟩
  have k10:=M1.k1
  cases hb : (s.named q.srcs[i].table).2 with
  | false =>
   rw [hb] at he1 w9
   have he2 : srcE s q.srcs (i + 1) 0 = 200:=by rw [he1]; simp [keep]
   have he3:=(hon (by omega)).trans he2
   simp [R12_5,R12_6,w9,he3]
   exact .tup _ _ (.cons _ _ _ _ (.nil 4) (.cons _ _ _ _ (.pure _ (by simp)) .nil))
  | true =>
   rw [hb] at he1 w9
   simp [keep] at he1
   have hin : q.srcs[i].nm ∈ (q.srcs.take i).map Src.nm → srcE s q.srcs q.srcs.length 0 = 205:=fun hin => by
    have he2 : srcE s q.srcs (i + 1) 0 = 205:=by rw [he1,if_pos (by simpa using hin)]
    exact (hon (by omega)).trans he2
   have hno : q.srcs[i].nm ∉ (q.srcs.take i).map Src.nm → srcE s q.srcs (i + 1) 0 = 0:=fun hin => by rw [he1,if_neg (by simpa using hin)]
   have hw:=wrap_nat i (by omega)
   by_cases h0 : q.srcs[i].name = []
   ·
    have hnm : q.srcs[i].nm = q.srcs[i].table:=by simp [Src.nm,h0]
    simp [R12_5,w9,R12_7,w3,w7,k10,Qry.c3,hx,R12_8,h0]
    rw [← vc_seq]
    refine sources12b s q i hlt hl x _ K1 (m + 1) m _ ⟨by simp [w2],by simp [w3],by simp [w6],by simp [w7]⟩ (by simp [w8]) (by simp [hnm]) M1 x1 (fun hi' F4 f4 f5 => ?_) fun hi' F4 K4 m4 x4 ⟨f2,f3,f6,f7⟩ M4 => ?_
    ·
     have he3:=hin hi'
     simp [f4,f5,he3]
     exact .tup _ _ (.cons _ _ _ _ (.nil 4) (.cons _ _ _ _ (.pure _ (by simp)) .nil))
    ·
     simp [R12_16,f7,hw]
     exact ⟨_,by omega,i + 1,rfl,hlt,x4,⟨by simp [f2],by simp [f3],by simp [f6],by simp⟩,M4,hno hi'⟩
   ·
    have hnm : q.srcs[i].nm = q.srcs[i].name:=by simp [Src.nm,h0]
    simp [R12_5,w9,R12_7,w3,w7,k10,Qry.c3,hx,R12_8,h0,R12_9]
    rw [← vc_seq]
    refine sources12b s q i hlt hl x _ K1 (m + 1) m _ ⟨by simp [w2],by simp [w3],by simp [w6],by simp [w7]⟩ (by simp [w8]) (by simp [hnm]) M1 x1 (fun hi' F4 f4 f5 => ?_) fun hi' F4 K4 m4 x4 ⟨f2,f3,f6,f7⟩ M4 => ?_
    ·
     have he3:=hin hi'
     simp [f4,f5,he3]
     exact .tup _ _ (.cons _ _ _ _ (.nil 4) (.cons _ _ _ _ (.pure _ (by simp)) .nil))
    ·
     simp [R12_16,f7,hw]
     exact ⟨_,by omega,i + 1,rfl,hlt,x4,⟨by simp [f2],by simp [f3],by simp [f6],by simp⟩,M4,hno hi'⟩
 ·
  obtain rfl : i = q.srcs.length:=by omega
  have ow:=M.ow
  rw [List.take_length] at ow
  simp [L12_1,R12_3,R12_17,f3,f6,f7,k1,Qry.c3,Enc.len_ds,he]
  refine .tup _ _ (.cons _ _ _ _ ?_ (.cons _ _ _ _ (.pure _ (by simp)) .nil))
  have:=ow.frz (FrzL.pure (by simp)) (by omega)
  simpa [Enc.ds] using this
def zz (i : Nat) : List Nat:=[122,122,48 + i]
theorem letters13 (i : Nat) (h : i < 4) : FnPure Try.prog 13 [.int .i64 (i : Int)] (.str (zz i)):=by
 have : i = 0 ∨ i = 1 ∨ i = 2 ∨ i = 3:=by omega
 rcases this with rfl | rfl | rfl | rfl <;> exact .lit (by simp) (by simp [zz]) (by kernel_rfl)
theorem hitsF_bd (table name : List Nat) : ∀ (l : List (List Nat × Tbl)) (a : Nat) (z : Int),z ∈ hitsF table name l a → (a : Int) ≤ z ∧ z < (a : Int) + ((kindsS (l.map (·.2))).length : Int)
 | [],a,z,h => by simp [hitsF] at h
 | x :: r,a,z,h => by
  rw [hitsF,List.mem_append] at h
  rw [List.map_cons,kindsS_cons]
  have hid:=idxI_lt (fun c : Col => decide (c.name = name)) x.2.cols
  rcases h with h | h
  ·
   split at h
   ·
    rename_i h1
    have h2:=h1.2
    simp at h
    omega
   · simp at h
  ·
   have:=hitsF_bd table name r _ z h
   omega
theorem findS_bd {table name : List Nat} {l : List (List Nat × Tbl)} (h : (findS table name l).2 = 0) : 0 ≤ (findS table name l).1 ∧ (findS table name l).1 < ((kindsS (l.map (·.2))).length : Int):=by
 unfold findS at h ⊢
 split
 ·
  rename_i h1
  obtain ⟨z,hz⟩:=List.length_eq_one_iff.1 h1
  have:=hitsF_bd table name l 0 z (by rw [hz]; simp)
  rw [hz]
  simp
  omega
 ·
  rename_i h1
  rw [if_neg h1] at h
  split at h
  · simp at h
  · split at h <;> simp at h
def leadF : List (List Nat × Tbl) → Int → Nat → Option Nat
 | [],_,_ => none
 | x :: r,a,i => if a < (x.2.cols.length : Int) then some i else leadF r (a - x.2.cols.length) (i + 1)
theorem leadF_some : ∀ (l : List (List Nat × Tbl)) (a : Int) (i : Nat),0 ≤ a → a < ((kindsS (l.map (·.2))).length : Int) → ∃ j,j < l.length ∧ leadF l a i = some (i + j)
 | [],a,i,h0,h => by simp [kindsS] at h; omega
 | x :: r,a,i,h0,h => by
  rw [List.map_cons,kindsS_cons] at h
  unfold leadF
  split
  · exact ⟨0,by simp,by simp⟩
  ·
   obtain ⟨j,h1,h2⟩:=leadF_some r (a - x.2.cols.length) (i + 1) (by omega) (by omega)
   exact ⟨j + 1,by simpa using h1,by rw [h2]; simp; omega⟩
mutual
noncomputable def Ex.full (l : List (List Nat × Tbl)) : Ex → Ex × Bool
 | .mk op v t m col args =>
  if op = 2 then (if (findS t m l).2 = 0 then (.mk 2 ⟨0,0,[]⟩ (zz ((leadF l (findS t m l).1 0).getD 0)) m 0 [],true) else (.mk op v t m col args,false))
  else if (Ex.fullL l args).2 = true then (.mk op v t m col (Ex.fullL l args).1,true) else (.mk op v t m col args,false)
noncomputable def Ex.fullL (l : List (List Nat × Tbl)) : List Ex → List Ex × Bool
 | [] => ([],true)
 | e :: r => ((e.full l).1 :: (Ex.fullL l r).1,(e.full l).2 && (Ex.fullL l r).2)
end
theorem Ex.fullL_1 (l : List (List Nat × Tbl)) : ∀ (r : List Ex),(Ex.fullL l r).1 = r.map fun e => (e.full l).1
 | [] => rfl
 | e :: r => by rw [Ex.fullL,Ex.fullL_1 l r]; rfl
theorem Ex.fullL_2 (l : List (List Nat × Tbl)) : ∀ (r : List Ex),(Ex.fullL l r).2 = r.all fun e => (e.full l).2
 | [] => rfl
 | e :: r => by rw [Ex.fullL,Ex.fullL_2 l r]; rfl
theorem full14a (l : List (List Nat × Tbl)) (hl : l.length ≤ 4) (hk : (kindsS (l.map (·.2))).length ≤ lim) (e : Ex) (nm : List Nat) (hnm : e.cells[5]? = some (.str nm)) (a : Int) (ha : 0 ≤ a) (hak : a < ((kindsS (l.map (·.2))).length : Int)) (F : Fr) (K : Hp) (m : Nat) (Q : QA)
  (f0 : F.get 0 = some (eSo.ds l)) (f3 : F.get 3 = some (.ptr 0 0)) (f4 : F.get 4 = some (.ptr 1 0)) (f6 : F.get 6 = some (.int .i64 a)) (f8 : F.get 8 = some (.int .i64 0)) (k0 : K.get 0 = some (.cells 8 [] e.cells .nil)) (k1 : ∃ c,K.get 1 = some (.cells 8 [] c .nil) ∧ c.length = 8)
  (hQ : ∀ F K,F.get 4 = some (.ptr 1 0) → F.get 5 = some (.bool true) → K.get 1 = some (.cells 8 [] [.int .i64 2,.int .i64 0,.int .i64 0,.str [],.str (zz ((leadF l a 0).getD 0)),.str nm,.int .i64 0,.cst (.slice none 0 0)] .nil) → Q .ret F K m []) : LoopV L14_0 Try.prog F K m [] (BlkQ 0 Q):=by
 unfold lim at hk
 refine LoopV.of (fun g F K' m' ms => ∃ (i : Nat) (b : Int),g = l.length - i ∧ i ≤ l.length ∧ 0 ≤ b ∧ b ≤ a ∧ leadF l a 0 = leadF (l.drop i) b i ∧ F.get 0 = some (eSo.ds l) ∧ F.get 3 = some (.ptr 0 0) ∧ F.get 4 = some (.ptr 1 0) ∧ F.get 6 = some (.int .i64 b) ∧ F.get 8 = some (.int .i64 (i : Int)) ∧ K' = K ∧ m' = m ∧ ms = []) l.length ⟨0,a,by simp,by omega,ha,by omega,rfl,f0,f3,f4,f6,by simpa using f8,rfl,rfl,rfl⟩ ?_
 clear f0 f3 f4 f6 f8 F
 rintro g F K' m' ms ⟨i,b,rfl,hi,hb0,hba,hld,f0,f3,f4,f6,f8,rfl,rfl,rfl⟩
 by_cases hlt : i < l.length
 ·
  have hx:=eSo.ix (ik:=.i64) hlt
  rw [eSo_c,eTbl_c] at hx
  rw [List.drop_eq_getElem_cons hlt,leadF] at hld
  by_cases hc : b < (l[i].2.cols.length : Int)
  ·
   rw [if_pos hc] at hld
   obtain ⟨c,k1,hcl⟩:=k1
   have h13:=letters13 i (by omega)
   simp only [L14_0,R14_6,R14_7,R14_8]
   simp [f0,f6,f8,Enc.len_ds,hlt,hx,hc]
   refine DrwV.of (ceL_ok (l:=[⟨13,[.int .i64 (i : Int)],K',m',.str (zz i),K',m'⟩]) ?_) ?_
   · simp only [List.mem_singleton]; rintro c rfl; exact h13.callOk K' m'
   have hcl8 : e.cells.length = 8:=e.cells_len
   obtain ⟨h5,hnm'⟩:=List.getElem?_eq_some_iff.1 hnm
   simp [clearF_get,f3,f4,f8,k0,k1,hcl,hnm',ceL_hd]
   exact hQ _ _ (by simp [clearF_get,f4]) (by simp) (by simp [hld])
  ·
   rw [if_neg hc] at hld
   have w1 : IntKind.i64.wrap (b - (l[i].2.cols.length : Int)) = b - (l[i].2.cols.length : Int):=wrap_int _ (by omega) (by omega)
   simp [L14_0,R14_6,R14_7,R14_9,R14_10,f0,f6,f8,Enc.len_ds,hlt,hx,hc,w1,wrap_nat i (by omega)]
   exact ⟨_,by omega,i + 1,rfl,hlt,_,by omega,by omega,hld,f3,f4,rfl,rfl⟩
 ·
  obtain ⟨j,_,h2⟩:=leadF_some l a 0 ha hak
  rw [List.drop_eq_nil_of_le (by omega),leadF,h2] at hld
  simp at hld
theorem full14' (l : List (List Nat × Tbl)) (hl : l.length ≤ 4) (hk : (kindsS (l.map (·.2))).length ≤ lim) (hc : ∀ x ∈ l,x.2.cols.length ≤ lim) : ∀ (N : Nat) (e : Ex),e.sz ≤ N → N ≤ lim → FnPure Try.prog 14 [eSo.ds l,e.av] (.tup [(e.full l).1.av,.bool (e.full l).2])
 | 0,e,h,_ => by have:=Ex.sz_pos e; omega
 | N + 1,.mk op v t m col args,ha,hN => by
  simp only [Ex.sz] at ha
  have hla:=Ex.sz_len args
  have ih : ∀ (i : Nat) (h1 : i < args.length),FnPure Try.prog 14 [eSo.ds l,args[i].av] (.tup [(args[i].full l).1.av,.bool (args[i].full l).2]):=fun i h1 => by
   have m1:=Ex.sz_mem (List.getElem_mem h1)
   exact full14' l hl hk hc N args[i] (by omega) (by omega)
  unfold lim at hN
  refine pureV c14 (by simp) (by simp) (by simp [A14]) fun F hF => ?_
  by_cases h2 : op = 2
  ·
   subst h2
   have h36:=find36 l t m (by unfold lim; omega) hk hc
   simp [A14,B14,R14_0,R14_1,R14_2,hF,Ex.av,Ex.cells]
   refine CalV.pure h36 ?_
   by_cases hf : (findS t m l).2 = 0
   ·
    have hfl : Ex.full l (.mk 2 v t m col args) = (.mk 2 ⟨0,0,[]⟩ (zz ((leadF l (findS t m l).1 0).getD 0)) m 0 [],true):=by simp [Ex.full,hf]
    obtain ⟨b1,b2⟩:=findS_bd hf
    simp [R14_3,R14_5,hf]
    refine full14a l hl hk (.mk 2 v t m col args) m (by simp [Ex.cells]) _ b1 b2 _ _ _ _ (by simp [hF]) (by simp) (by simp) (by simp) (by simp) (by simp [Ex.cells]) ⟨_,by simp; rfl,by simp⟩ fun F' K' f4 f5 k1 => ?_
    simp [f4,f5,k1,hfl]
    refine .tup _ _ (.cons _ _ _ _ (.agg _ _ _ ?_) (.cons _ _ _ _ (.pure _ (by simp)) .nil))
    exact FrzL.snoc [_,_,_,_,_,_,_] (by simp) (.nil 7)
   ·
    have hfl : Ex.full l (.mk 2 v t m col args) = (.mk 2 v t m col args,false):=by simp [Ex.full,hf]
    simp [R14_3,R14_4,hf,hfl,Ex.cells]
    exact .pure _ (by simp)
  ·
   have hfl : Ex.full l (.mk op v t m col args) = if (Ex.fullL l args).2 = true then (.mk op v t m col (Ex.fullL l args).1,true) else (.mk op v t m col args,false):=by rw [Ex.full,if_neg h2]
   simp [A14,B14,R14_0,R14_1,R14_11,R14_12,R14_13,hF,Ex.av,Ex.cells,h2]
   refine LoopV.of (fun g F K m' ms => ∃ (i : Nat) (x : AV),g = args.length - i ∧ i ≤ args.length ∧ F.get 0 = some (eSo.ds l) ∧ F.get 3 = some (.ptr 0 0) ∧ F.get 4 = some (.ptr 1 0) ∧ F.get 9 = some (.ptr 2 0) ∧ F.get 10 = some (.int .i64 (i : Int)) ∧
    K.get 0 = some (.cells 8 [] [.int .i64 op,.int .i64 v.kind,.int .i64 v.num,.str v.s,.str t,.str m,.int .i64 col,.ds (Ex.cellsL args) args.length 8] .nil) ∧
    K.get 1 = some (.cells 8 [] [.int .i64 0,.int .i64 0,.int .i64 0,.str [],.str [],.str [],.int .i64 0,.cst (.slice none 0 0)] .nil) ∧
    K.get 2 = some (.cells 8 [] [.int .i64 op,.int .i64 v.kind,.int .i64 v.num,.str v.s,.str t,.str m,.int .i64 col,x] .nil) ∧
    OwnS K m' x (Ex.cellsL ((args.take i).map fun e => (e.full l).1)) i 8 ∧ (∀ b,blk x = some b → 3 ≤ b) ∧ 3 ≤ m' ∧ (∀ j (_ : j < i) (h : j < args.length),(args[j].full l).2 = true) ∧ ms = []) args.length
    ⟨0,.cst (.slice none 0 0),by simp,by omega,by simp [hF],by simp,by simp,by simp,by simp,by simp,by simp,by simp,by simpa [Ex.cellsL] using OwnS.nil _ _ 8,by simp,by omega,by simp,rfl⟩ ?_
   clear hF F
   rintro g F K m' ms ⟨i,x,rfl,hi,f0,f3,f4,f9,f10,k0,k1,k2,ho,hdx,hm,hj,rfl⟩
   by_cases hlt : i < args.length
   ·
    have hx:=ixa_ex (k:=.i64) hlt
    have ihi:=ih i hlt
    generalize hr : args[i].full l = r at ihi
    obtain ⟨r1,r2⟩:=r
    simp only [Ex.av] at ihi
    have ihi' : FnPure Try.prog 14 [eSo.ds l,.agg args[i].cells 8] (.tup [.agg r1.cells 8,.bool r2]):=ihi
    simp [L14_1,R14_14,R14_15,f0,f3,f10,k0,hlt,hx]
    refine CalV.pure ihi' ?_
    cases r2 with
    | false =>
     have hfa : (Ex.fullL l args).2 = false:=by
      rw [Ex.fullL_2,List.all_eq_false]
      exact ⟨args[i],List.getElem_mem hlt,by rw [hr]; simp⟩
     simp [R14_16,R14_17,f3,f4,k0,k1,hfl,hfa,neC (show 0 < m' by omega),neC (show 1 < m' by omega)]
     exact .pure _ (by simp)
    | true =>
     simp [R14_16,R14_18,f9,k2,neC (show 2 < m' by omega)]
     generalize hK1 : Tr.put (Tr.put (Tr.put K m' _) m' _) (m' + 1) _ = K1
     have g1 : ∀ b,b < m' → K1.get b = K.get b:=fun b hb => by rw [← hK1]; simp [neC hb,show ¬ b = m' + 1 by omega]
     have x1 : K1.get (m' + 1) = some (.cells 8 [] r1.cells .nil):=by rw [← hK1]; simp
     clear hK1
     have hxl : ∀ b,blk x = some b → b < m':=fun b h => ho.blkLt h
     have nx : ∀ b,b < 3 → blk x ≠ some b:=fun b h1 h2 => by have:=hdx b h2; omega
     refine OwnS.appA (k:=1) (new:=r1.cells) (ho.frame (n':=m' + 1 + 1) (by omega) fun b hb => g1 b (hxl b hb)) (sliceCells_one x1) (by simp) (by simp) (by omega) (by omega) (by unfold big; omega) (by omega) (by simp) fun K2 o2 g2 => ?_
     have bk : ∀ b,b < 3 → K2.get b = K.get b:=fun b hb => (g2 b (by omega) (nx b hb)).trans (g1 b (by omega))
     have k22:=(bk 2 (by omega)).trans k2
     simp [f9,k22,R14_19,f10,wrap_nat i (by omega)]
     refine ⟨_,by omega,i + 1,rfl,hlt,f0,f3,f4,rfl,(bk 0 (by omega)).trans k0,(bk 1 (by omega)).trans k1,?_,by omega,fun j hji h => ?_⟩
     ·
      have e : Ex.cellsL (List.take (i + 1) (args.map fun e => (e.full l).1)) = Ex.cellsL (List.map (fun e => (e.full l).1) (List.take i args)) ++ r1.cells:=by
       rw [← List.map_take,take_snoc hlt,List.map_append,Ex.cellsL_append,List.map_cons,hr]; simp [Ex.cellsL]
      rw [e]
      exact o2.frame (Nat.le_refl _) fun b hb => by simp at hb; simp [show ¬ b = 2 by omega]
     ·
      by_cases e : j = i
      · subst e; rw [hr]
      · exact hj j (by omega) h
   ·
    obtain rfl : i = args.length:=by omega
    have hfa : (Ex.fullL l args).2 = true:=by
     rw [Ex.fullL_2,List.all_eq_true]
     intro e he
     obtain ⟨j,h,rfl⟩:=List.getElem_of_mem he
     exact hj j h h
    rw [List.take_length] at ho
    have hone:=ho.isOne
    have hln:=ho.len1
    simp [L14_1,R14_14,R14_20,f3,f4,f9,f10,k0,k1,k2,hfl,hfa,hone]
    refine .tup _ _ (.cons _ _ _ _ (.agg _ _ _ ?_) (.cons _ _ _ _ (.pure _ (by simp)) .nil))
    rw [Ex.cells,Ex.fullL_1]
    refine FrzL.snoc [_,_,_,_,_,_,_] (by simp) ?_
    have h3:=(ho.frame (H':=K.put 1 (some (.cells 8 [] [.int .i64 op,.int .i64 v.kind,.int .i64 v.num,.str v.s,.str t,.str m,.int .i64 col,x] .nil))) (n':=m') (Nat.le_refl _) fun b hb => by have:=hdx b hb; simp [show ¬ b = 1 by omega]).frz (FrzL.pure (by simp)) (by omega)
    simpa using h3
theorem full14 (l : List (List Nat × Tbl)) (hl : l.length ≤ 4) (hk : (kindsS (l.map (·.2))).length ≤ lim) (hc : ∀ x ∈ l,x.2.cols.length ≤ lim) (e : Ex) (h : e.sz ≤ lim) : FnPure Try.prog 14 [eSo.ds l,e.av] (.tup [(e.full l).1.av,.bool (e.full l).2]):=full14' l hl hk hc lim e h (Nat.le_refl _)
theorem same39 (l : List Col) (hl : l.length ≤ lim) : FnPure Try.prog 39 [eCol.ds l,eCol.ds l] (.bool true):=by
 unfold lim at hl
 refine pureV c39 (by simp) (by simp) (by simp [A39]) fun F hF => ?_
 simp [A39,B39,R39_0,R39_1,R39_3,hF,Enc.len_ds]
 refine LoopV.of (fun q F K n ms => ∃ i : Nat,q = l.length - i ∧ i ≤ l.length ∧ F.get 0 = some (eCol.ds l) ∧ F.get 1 = some (eCol.ds l) ∧ F.get 5 = some (.int .i64 (i : Int)) ∧ ms = []) l.length ⟨0,by simp [hF]⟩ ?_
 clear hF F
 rintro q F K n ms ⟨i,rfl,hi,f0,f1,f5,rfl⟩
 by_cases hlt : i < l.length
 ·
  have hx:=eCol.ix (ik:=.i64) hlt
  rw [eCol_c] at hx
  have hld:=fun r H => eCol.ldN l[i] r H
  simp only [eCol_c,Enc.av,List.cons_append,List.nil_append] at hx hld
  simp only [L39_0,R39_4,R39_5]
  simp [f0,f5,Enc.len_ds,hlt]
  refine DrwV.of (ce0_ok (P:=Try.prog)) ?_
  simp [clearF_get,f0,f1,f5,hx,hld,R39_7,wrap_nat i (by omega)]
  exact ⟨_,by omega,i + 1,rfl,hlt,rfl⟩
 ·
  obtain rfl : i = l.length:=by omega
  simp [L39_0,R39_4,R39_8,f0,f5,Enc.len_ds]
  exact .bool rfl
theorem same42 (l : List (List Nat)) (hl : l.length ≤ lim) : FnPure Try.prog 42 [eStr.ds l,eStr.ds l] (.bool true):=by
 unfold lim at hl
 refine pureV c42 (by simp) (by simp) (by simp [A42]) fun F hF => ?_
 simp [A42,B42,R42_0,R42_1,R42_3,hF,Enc.len_ds]
 refine LoopV.of (fun q F K n ms => ∃ i : Nat,q = l.length - i ∧ i ≤ l.length ∧ F.get 0 = some (eStr.ds l) ∧ F.get 1 = some (eStr.ds l) ∧ F.get 5 = some (.int .i64 (i : Int)) ∧ ms = []) l.length ⟨0,by simp [hF]⟩ ?_
 clear hF F
 rintro q F K n ms ⟨i,rfl,hi,f0,f1,f5,rfl⟩
 by_cases hlt : i < l.length
 ·
  have hx:=eStr.ix (ik:=.i64) hlt
  rw [eStr_c] at hx
  simp only [L42_0,R42_4,R42_5]
  simp [f0,f5,Enc.len_ds,hlt]
  refine DrwV.of (ce0_ok (P:=Try.prog)) ?_
  simp [clearF_get,f0,f1,f5,hx,R42_7,wrap_nat i (by omega)]
  exact ⟨_,by omega,i + 1,rfl,hlt,rfl⟩
 ·
  obtain rfl : i = l.length:=by omega
  simp [L42_0,R42_4,R42_8,f0,f5,Enc.len_ds]
  exact .bool rfl
theorem same41 (l : List Ex) (hl : l.length ≤ lim) (hz : ∀ r ∈ l,r.sz ≤ lim) : FnPure Try.prog 41 [eEx.ds l,eEx.ds l] (.bool true):=by
 unfold lim at hl
 refine pureV c41 (by simp) (by simp) (by simp [A41]) fun F hF => ?_
 simp [A41,B41,R41_0,R41_1,R41_3,hF,Enc.len_ds]
 refine LoopV.of (fun q F K n ms => ∃ i : Nat,q = l.length - i ∧ i ≤ l.length ∧ F.get 0 = some (eEx.ds l) ∧ F.get 1 = some (eEx.ds l) ∧ F.get 5 = some (.int .i64 (i : Int)) ∧ ms = []) l.length ⟨0,by simp [hF]⟩ ?_
 clear hF F
 rintro q F K n ms ⟨i,rfl,hi,f0,f1,f5,rfl⟩
 by_cases hlt : i < l.length
 ·
  have hx:=eEx.ix (ik:=.i64) hlt
  have hld:=fun r H => eEx.ldN l[i] r H
  have h84:=same31 l[i] l[i] (hz _ (List.getElem_mem hlt)) (hz _ (List.getElem_mem hlt))
  rw [Ex.same_self] at h84
  have h84' : FnPure Try.prog 84 [eEx.av l[i],eEx.av l[i]] (.bool true):=h84
  simp only [L41_0,R41_4,R41_5]
  simp [f0,f5,Enc.len_ds,hlt]
  refine DrwV.of (ceL_ok (l:=[⟨84,[eEx.av l[i],eEx.av l[i]],K,n,.bool true,K,n⟩]) ?_) ?_
  · simp only [List.mem_singleton]; rintro c rfl; exact h84'.callOk K n
  simp [clearF_get,f0,f1,f5,hx,hld,ceL_hd,R41_7,wrap_nat i (by omega)]
  exact ⟨_,by omega,i + 1,rfl,hlt,rfl⟩
 ·
  obtain rfl : i = l.length:=by omega
  simp [L41_0,R41_4,R41_8,f0,f5,Enc.len_ds]
  exact .bool rfl
theorem same40 (l : List (List Ex)) (hl : l.length ≤ lim) (hz : ∀ r ∈ l,r.length ≤ lim ∧ ∀ e ∈ r,e.sz ≤ lim) : FnPure Try.prog 40 [eRow.ds l,eRow.ds l] (.bool true):=by
 unfold lim at hl
 refine pureV c40 (by simp) (by simp) (by simp [A40]) fun F hF => ?_
 simp [A40,B40,R40_0,R40_1,R40_3,hF,Enc.len_ds]
 refine LoopV.of (fun q F K n ms => ∃ i : Nat,q = l.length - i ∧ i ≤ l.length ∧ F.get 0 = some (eRow.ds l) ∧ F.get 1 = some (eRow.ds l) ∧ F.get 5 = some (.int .i64 (i : Int)) ∧ ms = []) l.length ⟨0,by simp [hF]⟩ ?_
 clear hF F
 rintro q F K n ms ⟨i,rfl,hi,f0,f1,f5,rfl⟩
 by_cases hlt : i < l.length
 ·
  have hx:=eRow.ix (ik:=.i64) hlt
  rw [eRow_c] at hx
  have h41':=same41 l[i] (hz _ (List.getElem_mem hlt)).1 (hz _ (List.getElem_mem hlt)).2
  simp only [L40_0,R40_4,R40_5]
  simp [f0,f5,Enc.len_ds,hlt]
  refine DrwV.of (ceL_ok (l:=[⟨41,[eEx.ds l[i],eEx.ds l[i]],K,n,.bool true,K,n⟩]) ?_) ?_
  · simp only [List.mem_singleton]; rintro c rfl; exact h41'.callOk K n
  simp [clearF_get,f0,f1,f5,hx,ceL_hd,R40_7,wrap_nat i (by omega)]
  exact ⟨_,by omega,i + 1,rfl,hlt,rfl⟩
 ·
  obtain rfl : i = l.length:=by omega
  simp [L40_0,R40_4,R40_8,f0,f5,Enc.len_ds]
  exact .bool rfl
theorem same37 (t : Tbl) (hl : t.cols.length ≤ lim) : FnPure Try.prog 37 [eTbl.av t,eTbl.av t] (.bool true):=by
 unfold lim at hl
 refine pureV c37 (by simp) (by simp) (by simp [A37]) fun F hF => ?_
 simp [A37,B37,R37_0,R37_1,R37_3,hF,Enc.av,eTbl_c,Enc.len_ds]
 refine LoopV.of (fun q F K n ms => ∃ i : Nat,q = t.cols.length - i ∧ i ≤ t.cols.length ∧ F.get 2 = some (.ptr 0 0) ∧ F.get 3 = some (.ptr 1 0) ∧ F.get 5 = some (.int .i64 (i : Int)) ∧ K.get 0 = some (.cells 4 [] (eTbl.cells t) .nil) ∧ K.get 1 = some (.cells 4 [] (eTbl.cells t) .nil) ∧ ms = []) t.cols.length ⟨0,by simp [eTbl_c]⟩ ?_
 clear hF F
 rintro q F K n ms ⟨i,rfl,hi,f2,f3,f5,k0,k1,rfl⟩
 have k0':=k0
 have k1':=k1
 rw [eTbl_c] at k0 k1
 by_cases hlt : i < t.cols.length
 ·
  have hx:=eCol.ix (ik:=.i64) hlt
  rw [eCol_c] at hx
  have hld:=fun r H => eCol.ldN t.cols[i] r H
  simp only [eCol_c,Enc.av,List.cons_append,List.nil_append] at hx hld
  simp only [L37_0,R37_4,R37_5]
  simp [f2,f5,k0,Enc.len_ds,hlt]
  refine DrwV.of (ce0_ok (P:=Try.prog)) ?_
  simp [clearF_get,f2,f3,f5,k0,k1,hx,hld,R37_7,wrap_nat i (by omega)]
  exact ⟨_,by omega,i + 1,rfl,hlt,rfl,rfl⟩
 ·
  obtain rfl : i = t.cols.length:=by omega
  simp [L37_0,R37_4,R37_8,f2,f5,k0,Enc.len_ds]
  exact .bool rfl
theorem same38 (t : Ixd) (hl : t.cols.length ≤ lim) : FnPure Try.prog 38 [eIxd.av t,eIxd.av t] (.bool true):=by
 unfold lim at hl
 refine pureV c38 (by simp) (by simp) (by simp [A38]) fun F hF => ?_
 simp [A38,B38,R38_0,R38_1,R38_3,hF,Enc.av,eIxd_c,Enc.len_ds]
 refine LoopV.of (fun q F K n ms => ∃ i : Nat,q = t.cols.length - i ∧ i ≤ t.cols.length ∧ F.get 2 = some (.ptr 0 0) ∧ F.get 3 = some (.ptr 1 0) ∧ F.get 5 = some (.int .i64 (i : Int)) ∧ K.get 0 = some (.cells 6 [] (eIxd.cells t) .nil) ∧ K.get 1 = some (.cells 6 [] (eIxd.cells t) .nil) ∧ ms = []) t.cols.length ⟨0,by simp [eIxd_c]⟩ ?_
 clear hF F
 rintro q F K n ms ⟨i,rfl,hi,f2,f3,f5,k0,k1,rfl⟩
 have k0':=k0
 have k1':=k1
 rw [eIxd_c] at k0 k1
 by_cases hlt : i < t.cols.length
 ·
  have hx:=eInt.ix (ik:=.i64) hlt
  rw [eInt_c] at hx
  simp only [L38_0,R38_4,R38_5]
  simp [f2,f5,k0,Enc.len_ds,hlt]
  refine DrwV.of (ce0_ok (P:=Try.prog)) ?_
  simp [clearF_get,f2,f3,f5,k0,k1,hx,R38_7,wrap_nat i (by omega)]
  exact ⟨_,by omega,i + 1,rfl,hlt,rfl,rfl⟩
 ·
  obtain rfl : i = t.cols.length:=by omega
  simp [L38_0,R38_4,R38_8,f2,f5,k0,Enc.len_ds]
  exact .bool rfl
structure Bnd.sm (b : Bnd) : Prop where
 t : b.table.cols.length ≤ lim
 x : b.index.cols.length ≤ lim
 c : b.cols.length ≤ lim
 r : b.rows.length ≤ lim
 rz : ∀ r ∈ b.rows,r.length ≤ lim ∧ ∀ e ∈ r,e.sz ≤ lim
 nw : b.new.length ≤ lim ∧ ∀ e ∈ b.new,e.sz ≤ lim
 o : b.on.length ≤ lim
 oz : ∀ r ∈ b.on,r.length ≤ lim ∧ ∀ e ∈ r,e.sz ≤ lim
 cd : b.cond.length ≤ lim ∧ ∀ e ∈ b.cond,e.sz ≤ lim
 it : b.items.length ≤ lim ∧ ∀ e ∈ b.items,e.sz ≤ lim
 nm : b.names.length ≤ lim
 k : b.kinds.length ≤ lim
 od : b.order.length ≤ lim
 f : b.frm.length ≤ lim
 fc : ∀ t ∈ b.frm,t.cols.length ≤ lim
structure SbF (F : Fr) (K : Hp) (cs : List AV) : Prop where
 f2 : F.get 2 = some (.ptr 0 0)
 f3 : F.get 3 = some (.ptr 1 0)
 k0 : K.get 0 = some (.cells 25 [] cs .nil)
 k1 : K.get 1 = some (.cells 25 [] cs .nil)
theorem same15a (b : Bnd) (hb : b.sm) (F : Fr) (K : Hp) (n : Nat) (Q : QA) (S : SbF F K b.cells) (f5 : F.get 5 = some (.int .i64 0)) (hQ : ∀ F,SbF F K b.cells → Q .normal F K n []) : LoopV L15_0 Try.prog F K n [] (BlkQ 0 Q):=by
 have hl:=hb.k
 unfold lim at hl
 have h20 : ∀ h,b.cells[20]'h = eInt.ds b.kinds:=fun h => by simp [Bnd.cells]
 have hbl : b.cells.length = 25:=rfl
 refine LoopV.of (fun q F K' n' ms => ∃ i : Nat,q = b.kinds.length - i ∧ i ≤ b.kinds.length ∧ SbF F K b.cells ∧ F.get 5 = some (.int .i64 (i : Int)) ∧ K' = K ∧ n' = n ∧ ms = []) b.kinds.length ⟨0,by simp,by omega,S,by simpa using f5,rfl,rfl,rfl⟩ ?_
 clear S f5 F
 rintro q F K' n' ms ⟨i,rfl,hi,⟨f2,f3,k0,k1⟩,f5,rfl,rfl,rfl⟩
 generalize b.cells = cs at *
 by_cases hlt : i < b.kinds.length
 ·
  have hx:=eInt.ix (ik:=.i64) hlt
  rw [eInt_c] at hx
  simp only [L15_0,R15_6,R15_7]
  simp [f2,f5,k0,h20,hbl,Enc.len_ds,hlt]
  refine DrwV.of (ce0_ok (P:=Try.prog)) ?_
  simp [clearF_get,f2,f3,f5,k0,k1,h20,hbl,hx,R15_9,wrap_nat i (by omega)]
  exact ⟨_,by omega,i + 1,rfl,hlt,⟨by simp [clearF_get,f2],by simp [clearF_get,f3],k0,k1⟩,rfl⟩
 ·
  obtain rfl : i = b.kinds.length:=by omega
  simp [L15_0,R15_6,f2,f5,k0,h20,hbl,Enc.len_ds]
  exact hQ _ ⟨by simp [f2],by simp [f3],k0,k1⟩
theorem same15b (b : Bnd) (hb : b.sm) (F : Fr) (K : Hp) (n : Nat) (Q : QA) (S : SbF F K b.cells) (f6 : F.get 6 = some (.int .i64 0)) (hQ : ∀ F,SbF F K b.cells → Q .normal F K n []) : LoopV L15_1 Try.prog F K n [] (BlkQ 2 Q):=by
 have hl:=hb.od
 unfold lim at hl
 have h20 : ∀ h,b.cells[21]'h = eKey.ds b.order:=fun h => by simp [Bnd.cells]
 have hbl : b.cells.length = 25:=rfl
 refine LoopV.of (fun q F K' n' ms => ∃ i : Nat,q = b.order.length - i ∧ i ≤ b.order.length ∧ SbF F K b.cells ∧ F.get 6 = some (.int .i64 (i : Int)) ∧ K' = K ∧ n' = n ∧ ms = []) b.order.length ⟨0,by simp,by omega,S,by simpa using f6,rfl,rfl,rfl⟩ ?_
 clear S f6 F
 rintro q F K' n' ms ⟨i,rfl,hi,⟨f2,f3,k0,k1⟩,f6,rfl,rfl,rfl⟩
 generalize b.cells = cs at *
 by_cases hlt : i < b.order.length
 ·
  have hx:=eKey.ix (ik:=.i64) hlt
  have hld:=fun r H => eKey.ldN b.order[i] r H
  simp only [eKey_c,Enc.av,List.cons_append,List.nil_append] at hx hld
  simp only [L15_1,R15_11,R15_12]
  simp [f2,f6,k0,h20,hbl,Enc.len_ds,hlt]
  refine DrwV.of (ce0_ok (P:=Try.prog)) ?_
  simp [clearF_get,f2,f3,f6,k0,k1,h20,hbl,hx,hld,R15_14,wrap_nat i (by omega)]
  exact ⟨_,by omega,i + 1,rfl,hlt,⟨by simp [clearF_get,f2],by simp [clearF_get,f3],k0,k1⟩,rfl⟩
 ·
  obtain rfl : i = b.order.length:=by omega
  simp [L15_1,R15_11,f2,f6,k0,h20,hbl,Enc.len_ds]
  exact hQ _ ⟨by simp [f2],by simp [f3],k0,k1⟩
theorem same15c (b : Bnd) (hb : b.sm) (F : Fr) (K : Hp) (n : Nat) (Q : QA) (S : SbF F K b.cells) (f7 : F.get 7 = some (.int .i64 0)) (hQ : ∀ F,SbF F K b.cells → Q .normal F K n []) : LoopV L15_2 Try.prog F K n [] (BlkQ 4 Q):=by
 have hl:=hb.f
 unfold lim at hl
 have h20 : ∀ h,b.cells[15]'h = eTbl.ds b.frm:=fun h => by simp [Bnd.cells]
 have hbl : b.cells.length = 25:=rfl
 refine LoopV.of (fun q F K' n' ms => ∃ i : Nat,q = b.frm.length - i ∧ i ≤ b.frm.length ∧ SbF F K b.cells ∧ F.get 7 = some (.int .i64 (i : Int)) ∧ K' = K ∧ n' = n ∧ ms = []) b.frm.length ⟨0,by simp,by omega,S,by simpa using f7,rfl,rfl,rfl⟩ ?_
 clear S f7 F
 rintro q F K' n' ms ⟨i,rfl,hi,⟨f2,f3,k0,k1⟩,f7,rfl,rfl,rfl⟩
 generalize b.cells = cs at *
 by_cases hlt : i < b.frm.length
 ·
  have hx:=eTbl.ix (ik:=.i64) hlt
  have hld:=fun r H => eTbl.ldN b.frm[i] r H
  have h37:=same37 b.frm[i] (hb.fc _ (List.getElem_mem hlt))
  simp only [L15_2,R15_16,R15_17]
  simp [f2,f7,k0,h20,hbl,Enc.len_ds,hlt]
  refine DrwV.of (ceL_ok (l:=[⟨37,[eTbl.av b.frm[i],eTbl.av b.frm[i]],K',n',.bool true,K',n'⟩]) ?_) ?_
  · simp only [List.mem_singleton]; rintro c rfl; exact h37.callOk K' n'
  simp [clearF_get,f2,f3,f7,k0,k1,h20,hbl,hx,hld,ceL_hd,R15_19,wrap_nat i (by omega)]
  exact ⟨_,by omega,i + 1,rfl,hlt,⟨by simp [clearF_get,f2],by simp [clearF_get,f3],k0,k1⟩,rfl⟩
 ·
  obtain rfl : i = b.frm.length:=by omega
  simp [L15_2,R15_16,f2,f7,k0,h20,hbl,Enc.len_ds]
  exact hQ _ ⟨by simp [f2],by simp [f3],k0,k1⟩
theorem same15 (b : Bnd) (hb : b.sm) : FnPure Try.prog 15 [.agg b.cells 25,.agg b.cells 25] (.bool true):=by
 have h37:=same37 b.table hb.t
 have h38:=same38 b.index hb.x
 have h39:=same39 b.cols hb.c
 have h40a:=same40 b.rows hb.r hb.rz
 have h40b:=same40 b.on hb.o hb.oz
 have h41a:=same41 b.new hb.nw.1 hb.nw.2
 have h41b:=same41 b.cond hb.cd.1 hb.cd.2
 have h41c:=same41 b.items hb.it.1 hb.it.2
 have h42:=same42 b.names hb.nm
 refine pureV c15 (by simp) (by simp) (by simp [A15]) fun F hF => ?_
 have hbl : b.cells.length = 25:=rfl
 have g0 : ∀ h,b.cells[0]'h = .int .i64 b.kind:=fun h => by simp [Bnd.cells]
 have g1 : ∀ h,b.cells[1]'h = .str b.name:=fun h => by simp [Bnd.cells]
 have g12 : ∀ h,b.cells[12]'h = eCol.ds b.cols:=fun h => by simp [Bnd.cells]
 have g13 : ∀ h,b.cells[13]'h = eRow.ds b.rows:=fun h => by simp [Bnd.cells]
 have g14 : ∀ h,b.cells[14]'h = eEx.ds b.new:=fun h => by simp [Bnd.cells]
 have g15 : ∀ h,b.cells[15]'h = eTbl.ds b.frm:=fun h => by simp [Bnd.cells]
 have g16 : ∀ h,b.cells[16]'h = eRow.ds b.on:=fun h => by simp [Bnd.cells]
 have g17 : ∀ h,b.cells[17]'h = eEx.ds b.cond:=fun h => by simp [Bnd.cells]
 have g18 : ∀ h,b.cells[18]'h = eEx.ds b.items:=fun h => by simp [Bnd.cells]
 have g19 : ∀ h,b.cells[19]'h = eStr.ds b.names:=fun h => by simp [Bnd.cells]
 have g20 : ∀ h,b.cells[20]'h = eInt.ds b.kinds:=fun h => by simp [Bnd.cells]
 have g21 : ∀ h,b.cells[21]'h = eKey.ds b.order:=fun h => by simp [Bnd.cells]
 have g22 : ∀ h,b.cells[22]'h = .bool b.dist:=fun h => by simp [Bnd.cells]
 have g23 : ∀ h,b.cells[23]'h = .bool b.limited:=fun h => by simp [Bnd.cells]
 have g24 : ∀ h,b.cells[24]'h = .int .i64 b.limit:=fun h => by simp [Bnd.cells]
 have gt : (b.cells.drop 2).take 4 = eTbl.cells b.table:=rfl
 have gx : (b.cells.drop 6).take 6 = eIxd.cells b.index:=rfl
 generalize hcs : b.cells = cs at *
 have e37 : FnPure Try.prog 37 [.agg (eTbl.cells b.table) 4,.agg (eTbl.cells b.table) 4] (.bool true):=h37
 have e38 : FnPure Try.prog 38 [.agg (eIxd.cells b.index) 6,.agg (eIxd.cells b.index) 6] (.bool true):=h38
 simp only [A15,B15,R15_0,R15_1,R15_3]
 simp [hF,hbl,g0,g1,g22,g23,g24,gt]
 refine CalV.pure e37 ?_
 simp [hbl,gx]
 refine CalV.pure e38 ?_
 simp [hbl,g12]
 refine CalV.pure h39 ?_
 simp [hbl,g13]
 refine CalV.pure h40a ?_
 simp [hbl,g14]
 refine CalV.pure h41a ?_
 simp [hbl,g16]
 refine CalV.pure h40b ?_
 simp [hbl,g17]
 refine CalV.pure h41b ?_
 simp [hbl,g18]
 refine CalV.pure h41c ?_
 simp [hbl,g19]
 refine CalV.pure h42 ?_
 simp [hbl,g15,g20,g21,Enc.len_ds,R15_5]
 refine same15a b hb _ _ _ _ ⟨by simp,by simp,by rw [hcs]; simp,by rw [hcs]; simp⟩ (by simp) fun F1 ⟨f2,f3,_,_⟩ => ?_
 simp [R15_10]
 refine same15b b hb _ _ _ _ ⟨by simp [f2],by simp [f3],by rw [hcs]; simp,by rw [hcs]; simp⟩ (by simp) fun F1 ⟨f2,f3,_,_⟩ => ?_
 simp [R15_15]
 refine same15c b hb _ _ _ _ ⟨by simp [f2],by simp [f3],by rw [hcs]; simp,by rw [hcs]; simp⟩ (by simp) fun F1 ⟨f2,f3,_,_⟩ => ?_
 simp [R15_20]
 exact .bool rfl
theorem placeF_find (table name : List Nat) : ∀ (l : List (List Nat × Tbl)) (a : Nat) (found : Int) (src : Bool),placeF table name l a found src =
  (if ((if 0 ≤ found then [found] else []) ++ hitsF table name l a).length = 1 then (((if 0 ≤ found then [found] else []) ++ hitsF table name l a).getD 0 0,0) else if 1 < ((if 0 ≤ found then [found] else []) ++ hitsF table name l a).length then (0,205) else if table ≠ [] ∧ src = false ∧ srcF table l = 0 then (0,200) else (0,201))
 | [],a,found,src => by
  unfold placeF hitsF srcF
  by_cases h : 0 ≤ found
  · simp [h]
  · simp [h]
 | (n,t) :: r,a,found,src => by
  have ih1:=fun f b => placeF_find table name r (a + t.cols.length) f b
  have hid:=idxI_lt (fun c : Col => decide (c.name = name)) t.cols
  unfold placeF hitsF srcF
  have e1 : (table = [] ∨ n = table) ↔ (table = [] ∨ table = n):=by rw [eq_comm (a:=n)]
  simp only [e1]
  generalize idxI (fun c : Col => decide (c.name = name)) t.cols = k at *
  by_cases h1 : table = [] ∨ table = n
  ·
   by_cases h2 : 0 ≤ k
   ·
    have h3 : (0 : Int) ≤ (a : Int) + k:=by omega
    by_cases h : 0 ≤ found
    · simp [h1,h2,h]
    · simp [h1,h2,h,ih1,h3]
   · simp [h1,h2,ih1]
  · simp [h1,ih1]
theorem placeF_findS {table name : List Nat} {l : List (List Nat × Tbl)} : placeF table name l 0 (-1) false = findS table name l:=by
 rw [placeF_find]
 simp [findS]
theorem hits_lead (table name : List Nat) : ∀ (l : List (List Nat × Tbl)) (a : Nat) (p : Int) (k : Nat),p ∈ hitsF table name l a → ∃ i,∃ h : i < l.length,leadF l (p - a) k = some (k + i) ∧ 0 ≤ idxI (fun c : Col => decide (c.name = name)) l[i].2.cols ∧ p = ((a + (kindsS ((l.take i).map (·.2))).length : Nat) : Int) + idxI (fun c : Col => decide (c.name = name)) l[i].2.cols
 | [],a,p,k,h => by simp [hitsF] at h
 | x :: r,a,p,k,h => by
  have hid:=idxI_lt (fun c : Col => decide (c.name = name)) x.2.cols
  rw [hitsF,List.mem_append] at h
  rcases h with h | h
  ·
   split at h
   ·
    rename_i h1
    simp at h
    refine ⟨0,by simp,?_,h1.2,by simp [kindsS,h]⟩
    rw [leadF,if_pos (by omega)]; rfl
   · simp at h
  ·
   have hb:=hitsF_bd table name r _ p h
   obtain ⟨i,hi,h1,h2,h3⟩:=hits_lead table name r _ p (k + 1) h
   refine ⟨i + 1,by simpa using hi,?_,by simpa using h2,?_⟩
   ·
    rw [leadF,if_neg (by omega),show p - (a : Int) - (x.2.cols.length : Int) = p - ((a + x.2.cols.length : Nat) : Int) by omega,h1]
    congr 1; omega
   ·
    rw [h3]
    simp only [List.take_succ_cons,List.map_cons,kindsS_cons,List.getElem_cons_succ]
    omega
def zzs (k n : Nat) : List (List Nat):=(List.range' k n).map zz
theorem zz_inj {a b : Nat} (h : zz a = zz b) : a = b:=by simp [zz] at h; omega
theorem zzs_cons (k n : Nat) : zzs k (n + 1) = zz k :: zzs (k + 1) n:=by simp [zzs,List.range'_succ]
theorem placeF_skip (i : Nat) (name : List Nat) : ∀ (ts : List Tbl) (k a : Nat) (found : Int) (src : Bool),i < k → 0 ≤ found → placeF (zz i) name ((zzs k ts.length).zip ts) a found src = (found,0)
 | [],k,a,found,src,hk,hf => by simp [placeF,hf]
 | t :: r,k,a,found,src,hk,hf => by
  have hne : ¬ (zz i = [] ∨ zz k = zz i):=by
   rintro (h | h)
   · simp [zz] at h
   · have:=zz_inj h; omega
  rw [List.length_cons,zzs_cons,List.zip_cons_cons,placeF]
  simp only [hne,false_and,if_false]
  exact placeF_skip i name r (k + 1) _ _ _ (by omega) hf
theorem placeF_zz (i : Nat) (name : List Nat) : ∀ (ts : List Tbl) (k a : Nat) (j : Nat) (_ : i = k + j) (hj : j < ts.length),0 ≤ idxI (fun c : Col => decide (c.name = name)) ts[j].cols →
  placeF (zz i) name ((zzs k ts.length).zip ts) a (-1) false = (((a + (kindsS (ts.take j)).length : Nat) : Int) + idxI (fun c : Col => decide (c.name = name)) ts[j].cols,0)
 | [],k,a,j,he,hj,h => by simp at hj
 | t :: r,k,a,0,he,hj,h => by
  subst he
  rw [List.length_cons,zzs_cons,List.zip_cons_cons,placeF]
  simp only [or_true,true_and,List.getElem_cons_zero] at h ⊢
  rw [if_pos h,if_neg (by omega),placeF_skip i name r (i + 1) _ _ _ (by omega) (by omega)]
  simp [kindsS]
 | t :: r,k,a,j + 1,he,hj,h => by
  have hne : ¬ (zz i = [] ∨ zz k = zz i):=by
   rintro (h | h)
   · simp [zz] at h
   · have:=zz_inj h; omega
  rw [List.length_cons,zzs_cons,List.zip_cons_cons,placeF]
  simp only [hne,false_and,if_false,decide_false,Bool.or_false]
  rw [placeF_zz i name r (k + 1) (a + t.cols.length) j (by omega) (by simpa using hj) (by simpa using h)]
  simp only [List.take_succ_cons,kindsS_cons,List.getElem_cons_succ]
  congr 2
  omega
theorem place_new {ns : List (List Nat)} {ts : List Tbl} (hn : ns.length = ts.length) {table name : List Nat} (h : (placeS ns ts table name).2 = 0) :
  findS table name (ns.zip ts) = ((placeS ns ts table name).1,0) ∧ (leadF (ns.zip ts) (placeS ns ts table name).1 0).getD 0 < ts.length ∧ placeS (zzs 0 ts.length) ts (zz ((leadF (ns.zip ts) (placeS ns ts table name).1 0).getD 0)) name = placeS ns ts table name:=by
 unfold placeS at h ⊢
 rw [placeF_findS] at h ⊢
 have he : findS table name (ns.zip ts) = ((findS table name (ns.zip ts)).1,0):=by rw [← h]
 refine ⟨he,?_⟩
 have hp : (findS table name (ns.zip ts)).1 ∈ hitsF table name (ns.zip ts) 0:=by
  unfold findS at h ⊢
  split
  ·
   rename_i h1
   obtain ⟨z,hz⟩:=List.length_eq_one_iff.1 h1
   rw [hz]; simp
  ·
   rename_i h1
   rw [if_neg h1] at h
   split at h
   · simp at h
   · split at h <;> simp at h
 obtain ⟨i,hi,h1,h2,h3⟩:=hits_lead table name (ns.zip ts) 0 _ 0 hp
 rw [Int.natCast_zero,Int.sub_zero] at h1
 have hil : i < ts.length:=by simp at hi; omega
 have hti : (ns.zip ts)[i].2 = ts[i]:=by simp
 have hmp : ((ns.zip ts).take i).map (·.2) = ts.take i:=by rw [List.map_take,List.map_snd_zip (by omega)]
 rw [hti] at h2 h3
 rw [hmp] at h3
 rw [h1]
 simp only [Nat.zero_add,Option.getD_some]
 refine ⟨hil,?_⟩
 rw [placeF_zz i name ts 0 0 i (by omega) hil h2,he,h3]
end Go.Abs
