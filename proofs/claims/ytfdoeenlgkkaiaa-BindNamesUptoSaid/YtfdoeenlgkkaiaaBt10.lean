/- Whether a statement may be: one kind. -/
import Derived.Test.YtfdoeenlgkkaiaaBt9
namespace Go.Abs
open Go.Proofs
open Classical
set_option maxRecDepth 100000
theorem may17k1 (x : Stm) (hs : x.sm) (hk : x.kind = 1) (F : Fr) (K : Hp) (Q : QA) (E : Ent17 x F K) (hQ : Fin17 x Q) : VC Try.prog M17 F K 2 [] Q:=by
 obtain ⟨f1,f3,f4,f19,k0,k1⟩:=E
 have x1:=x.g1
 have x3:=x.g3
 rw [hk] at f19 k1
 generalize hxs : x.cells = xs at *
 simp [M17,R17_4,f19]
 simp [R17_5]
 refine DrwV.of (ce0_ok (P:=Try.prog)) ?_
 simp [clearF_get,f1,f3,k0,k1,x1,x3,tcZ]
 generalize hK2 : Tr.put (Tr.put K 1 _) 1 _ = K2
 obtain ⟨tc,g1,ht⟩ : ∃ tc,K2.get 1 = some (.cells 31 [] tc .nil) ∧ Tc17 x tc:=⟨_,by rw [← hK2]; exact (Tr.get_put _ _ _ _).trans (if_pos rfl),by simp,by simp,by simp [Stm.cut,hk,Stm.cells,Stm.z,exZ,qryZ,Ex.cells,Qry.cells,nvEx]⟩
 have g0 : K2.get 0 = some (.cells 31 [] xs .nil):=by rw [← hK2]; simp [k0]
 clear hK2
 generalize hF2 : (Fp 27 _ _ : Fr) = F2
 have h1 : F2.get 1 = some (.ptr 0 0):=by rw [← hF2]; simp [clearF_get,f1]
 have h3 : F2.get 3 = some (.ptr 1 0):=by rw [← hF2]; simp [clearF_get,f3]
 clear hF2 f1 f3 f4 f19 k0 k1 F
 have fin : ∀ (F' : Fr) (b : Bool),F'.get 1 = some (.ptr 0 0) → F'.get 3 = some (.ptr 1 0) → F'.get 4 = some (.bool b) → b = (decide (NamedOk x.table) && decide (1 ≤ x.cols.length ∧ x.cols.length ≤ 16)) → VC Try.prog R17_7 F' K2 2 [] (SeqV Try.prog (.block 1 L17_0.loop) Q):=by
  intro F' b w1 w3 w4 hb
  simp [R17_7,w1,g0,x3,Enc.len_ds]
  refine may17a x hs.cols tc b _ K2 2 _ ⟨by simp [w1],by simp [w3],by simp [w4],by rw [hxs]; exact g0,g1,by omega⟩ (by simp) (by simp) (by simp) fun F5 K5 n5 M5 => ?_
  exact hQ _ _ _ _ _ M5 ht (by rw [hb]; simp [Stm.ok,hk])
 simp [R17_6,h1,g0,x1]
 refine CalV.pure (named51 x.table) ?_
 by_cases hn : NamedOk x.table
 ·
  simp [hn,h1,g0,x3,Enc.len_ds]
  refine CalV.pure (upTo52 (x.cols.length : Int) 16) ?_
  simp
  generalize hF3 : (Fp 4 _ _ : Fr) = F3
  have:=fin F3 (decide ((1 : Int) ≤ (x.cols.length : Int) ∧ (x.cols.length : Int) ≤ 16)) (by rw [← hF3]; simp [h1]) (by rw [← hF3]; simp [h3]) (by rw [← hF3]; simp) (by
    simp only [hn,decide_true,Bool.true_and]
    congr 1
    exact propext (by omega))
  simpa using this
 ·
  simp [hn]
  generalize hF3 : (Fp 4 _ _ : Fr) = F3
  have:=fin F3 false (by rw [← hF3]; simp [h1]) (by rw [← hF3]; simp [h3]) (by rw [← hF3]; simp) (by simp [hn])
  simpa using this
theorem may17k2 (x : Stm) (_hs : x.sm) (hk : x.kind = 2) (F : Fr) (K : Hp) (Q : QA) (E : Ent17 x F K) (hQ : Fin17 x Q) : VC Try.prog M17 F K 2 [] Q:=by
 obtain ⟨f1,f3,f4,f19,k0,k1⟩:=E
 have x1:=x.g1
 rw [hk] at f19 k1
 generalize hxs : x.cells = xs at *
 simp [M17,f19,R17_4,R17_12,R17_13,f1,f3,k0,k1,x1,tcZ]
 generalize hK2 : Tr.put _ 1 _ = K2
 obtain ⟨tc,g1,ht⟩ : ∃ tc,K2.get 1 = some (.cells 31 [] tc .nil) ∧ Tc17 x tc:=⟨_,by rw [← hK2]; exact (Tr.get_put _ _ _ _).trans (if_pos rfl),by simp,by simp,by simp [Stm.cut,hk,Stm.cells,Stm.z,exZ,qryZ,Ex.cells,Qry.cells,nvEx]⟩
 have g0 : K2.get 0 = some (.cells 31 [] xs .nil):=by rw [← hK2]; simp [k0]
 clear hK2
 generalize hF2 : (Fp 65 _ _ : Fr) = F2
 have h1 : F2.get 1 = some (.ptr 0 0):=by rw [← hF2]; simp [f1]
 have h3 : F2.get 3 = some (.ptr 1 0):=by rw [← hF2]; simp [f3]
 clear hF2 f1 f3 f4 f19 k0 k1 F
 have fin : ∀ (F' : Fr) (b : Bool),F'.get 1 = some (.ptr 0 0) → F'.get 3 = some (.ptr 1 0) → F'.get 4 = some (.bool b) → b = x.ok → Q .normal F' K2 2 []:=fun F' b w1 w3 w4 hb => hQ _ _ _ _ _ ⟨w1,w3,w4,by rw [hxs]; exact g0,g1,by omega⟩ ht hb
 simp [R17_14,h1,g0,x1]
 refine CalV.pure (named51 x.table) ?_
 simp
 generalize hF3 : (Fp 4 _ _ : Fr) = F3
 exact fin F3 _ (by rw [← hF3]; simp [h1]) (by rw [← hF3]; simp [h3]) (by rw [← hF3]; simp; rfl) (by simp [Stm.ok,hk])
theorem may17k4 (x : Stm) (_hs : x.sm) (hk : x.kind = 4) (F : Fr) (K : Hp) (Q : QA) (E : Ent17 x F K) (hQ : Fin17 x Q) : VC Try.prog M17 F K 2 [] Q:=by
 obtain ⟨f1,f3,f4,f19,k0,k1⟩:=E
 have x2:=x.g2
 rw [hk] at f19 k1
 generalize hxs : x.cells = xs at *
 simp [M17,f19,R17_4,R17_12,R17_15,R17_23,R17_24,f1,f3,k0,k1,x2,tcZ]
 generalize hK2 : Tr.put _ 1 _ = K2
 obtain ⟨tc,g1,ht⟩ : ∃ tc,K2.get 1 = some (.cells 31 [] tc .nil) ∧ Tc17 x tc:=⟨_,by rw [← hK2]; exact (Tr.get_put _ _ _ _).trans (if_pos rfl),by simp,by simp,by simp [Stm.cut,hk,Stm.cells,Stm.z,exZ,qryZ,Ex.cells,Qry.cells,nvEx]⟩
 have g0 : K2.get 0 = some (.cells 31 [] xs .nil):=by rw [← hK2]; simp [k0]
 clear hK2
 generalize hF2 : (Fp 114 _ _ : Fr) = F2
 have h1 : F2.get 1 = some (.ptr 0 0):=by rw [← hF2]; simp [f1]
 have h3 : F2.get 3 = some (.ptr 1 0):=by rw [← hF2]; simp [f3]
 clear hF2 f1 f3 f4 f19 k0 k1 F
 have fin : ∀ (F' : Fr) (b : Bool),F'.get 1 = some (.ptr 0 0) → F'.get 3 = some (.ptr 1 0) → F'.get 4 = some (.bool b) → b = x.ok → Q .normal F' K2 2 []:=fun F' b w1 w3 w4 hb => hQ _ _ _ _ _ ⟨w1,w3,w4,by rw [hxs]; exact g0,g1,by omega⟩ ht hb
 simp [R17_25,h1,g0,x2]
 refine CalV.pure (named51 x.name) ?_
 simp
 generalize hF3 : (Fp 4 _ _ : Fr) = F3
 exact fin F3 _ (by rw [← hF3]; simp [h1]) (by rw [← hF3]; simp [h3]) (by rw [← hF3]; simp; rfl) (by simp [Stm.ok,hk])
theorem may17k3 (x : Stm) (hs : x.sm) (hk : x.kind = 3) (F : Fr) (K : Hp) (Q : QA) (E : Ent17 x F K) (hQ : Fin17 x Q) : VC Try.prog M17 F K 2 [] Q:=by
 obtain ⟨f1,f3,f4,f19,k0,k1⟩:=E
 have x1:=x.g1
 have x2:=x.g2
 have x4:=x.g4
 have x5:=x.g5
 rw [hk] at f19 k1
 generalize hxs : x.cells = xs at *
 simp [M17,f19,R17_4,R17_12,R17_15]
 simp [R17_16]
 refine DrwV.of (ce0_ok (P:=Try.prog)) ?_
 simp [clearF_get,f1,f3,k0,k1,x1,x2,x4,x5,tcZ]
 generalize hK2 : Tr.put _ 1 _ = K2
 obtain ⟨tc,g1,ht⟩ : ∃ tc,K2.get 1 = some (.cells 31 [] tc .nil) ∧ Tc17 x tc:=⟨_,by rw [← hK2]; exact (Tr.get_put _ _ _ _).trans (if_pos rfl),by simp,by simp,by simp [Stm.cut,hk,Stm.cells,Stm.z,exZ,qryZ,Ex.cells,Qry.cells,nvEx]⟩
 have g0 : K2.get 0 = some (.cells 31 [] xs .nil):=by rw [← hK2]; simp [k0]
 clear hK2
 generalize hF2 : (Fp 82 _ _ : Fr) = F2
 have h1 : F2.get 1 = some (.ptr 0 0):=by rw [← hF2]; simp [clearF_get,f1]
 have h3 : F2.get 3 = some (.ptr 1 0):=by rw [← hF2]; simp [clearF_get,f3]
 clear hF2 f1 f3 f4 f19 k0 k1 F
 have fin : ∀ (F' : Fr) (b : Bool),F'.get 1 = some (.ptr 0 0) → F'.get 3 = some (.ptr 1 0) → F'.get 4 = some (.bool b) → b = (decide (NamedOk x.table) && decide (NamedOk x.name) && decide (1 ≤ x.on.length ∧ x.on.length ≤ 16)) → VC Try.prog R17_18 F' K2 2 [] (SeqV Try.prog (.block 3 L17_1.loop) Q):=by
  intro F' b w1 w3 w4 hb
  simp [R17_18,w1,g0,x4,Enc.len_ds]
  refine may17b x hs.on tc b _ K2 2 _ ⟨by simp [w1],by simp [w3],by simp [w4],by rw [hxs]; exact g0,g1,by omega⟩ (by simp) (by simp) (by simp) fun F5 K5 n5 M5 => ?_
  exact hQ _ _ _ _ _ M5 ht (by rw [hb]; simp [Stm.ok,hk])
 simp [R17_17,h1,g0,x1]
 refine CalV.pure (named51 x.table) ?_
 by_cases hn : NamedOk x.table
 ·
  simp [hn,h1,g0,x2]
  refine CalV.pure (named51 x.name) ?_
  by_cases hn2 : NamedOk x.name
  ·
   simp [hn2,h1,g0,x4,Enc.len_ds]
   refine CalV.pure (upTo52 (x.on.length : Int) 16) ?_
   simp
   generalize hF3 : (Fp 4 _ _ : Fr) = F3
   have:=fin F3 (decide ((1 : Int) ≤ (x.on.length : Int) ∧ (x.on.length : Int) ≤ 16)) (by rw [← hF3]; simp [h1]) (by rw [← hF3]; simp [h3]) (by rw [← hF3]; simp) (by
    simp only [hn,hn2,decide_true,Bool.true_and]
    congr 1
    exact propext (by omega))
   simpa using this
  ·
   simp [hn2]
   generalize hF3 : (Fp 4 _ _ : Fr) = F3
   have:=fin F3 false (by rw [← hF3]; simp [h1]) (by rw [← hF3]; simp [h3]) (by rw [← hF3]; simp) (by simp [hn2])
   simpa using this
 ·
  simp [hn]
  generalize hF3 : (Fp 4 _ _ : Fr) = F3
  have:=fin F3 false (by rw [← hF3]; simp [h1]) (by rw [← hF3]; simp [h3]) (by rw [← hF3]; simp) (by simp [hn])
  simpa using this
theorem may17k5 (x : Stm) (hs : x.sm) (hk : x.kind = 5) (F : Fr) (K : Hp) (Q : QA) (E : Ent17 x F K) (hQ : Fin17 x Q) : VC Try.prog M17 F K 2 [] Q:=by
 obtain ⟨f1,f3,f4,f19,k0,k1⟩:=E
 have x1:=x.g1
 have x6:=x.g6
 rw [hk] at f19 k1
 generalize hxs : x.cells = xs at *
 simp [M17,f19,R17_4,R17_12,R17_15,R17_23,R17_26]
 simp [R17_27]
 refine DrwV.of (ce0_ok (P:=Try.prog)) ?_
 simp [clearF_get,f1,f3,k0,k1,x1,x6,tcZ]
 generalize hK2 : Tr.put _ 1 _ = K2
 obtain ⟨tc,g1,ht⟩ : ∃ tc,K2.get 1 = some (.cells 31 [] tc .nil) ∧ Tc17 x tc:=⟨_,by rw [← hK2]; exact (Tr.get_put _ _ _ _).trans (if_pos rfl),by simp,by simp,by simp [Stm.cut,hk,Stm.cells,Stm.z,exZ,qryZ,Ex.cells,Qry.cells,nvEx]⟩
 have g0 : K2.get 0 = some (.cells 31 [] xs .nil):=by rw [← hK2]; simp [k0]
 clear hK2
 generalize hF2 : (Fp 125 _ _ : Fr) = F2
 have h1 : F2.get 1 = some (.ptr 0 0):=by rw [← hF2]; simp [clearF_get,f1]
 have h3 : F2.get 3 = some (.ptr 1 0):=by rw [← hF2]; simp [clearF_get,f3]
 clear hF2 f1 f3 f4 f19 k0 k1 F
 have fin : ∀ (F' : Fr) (b : Bool),F'.get 1 = some (.ptr 0 0) → F'.get 3 = some (.ptr 1 0) → F'.get 4 = some (.bool b) → b = (decide (NamedOk x.table) && decide (0 < x.rows.length)) → VC Try.prog R17_29 F' K2 2 [] (SeqV Try.prog (.block 5 L17_3.loop) Q):=by
  intro F' b w1 w3 w4 hb
  simp [R17_29,w1,g0,x6,Enc.len_ds]
  refine may17e x hs.rows hs.row tc b _ K2 2 _ ⟨by simp [w1],by simp [w3],by simp [w4],by rw [hxs]; exact g0,g1,by omega⟩ ⟨by simp,by simp,by simp⟩ fun F5 K5 n5 M5 => ?_
  exact hQ _ _ _ _ _ M5 ht (by rw [hb]; simp [Stm.ok,hk])
 simp [R17_28,h1,g0,x1]
 refine CalV.pure (named51 x.table) ?_
 by_cases hn : NamedOk x.table
 ·
  simp [hn,h1,g0,x6,Enc.len_ds]
  generalize hF3 : (Fp 4 _ _ : Fr) = F3
  have:=fin F3 (decide (0 < x.rows.length)) (by rw [← hF3]; simp [h1]) (by rw [← hF3]; simp [h3]) (by rw [← hF3]; simp) (by simp [hn])
  simpa using this
 ·
  simp [hn]
  generalize hF3 : (Fp 4 _ _ : Fr) = F3
  have:=fin F3 false (by rw [← hF3]; simp [h1]) (by rw [← hF3]; simp [h3]) (by rw [← hF3]; simp) (by simp [hn])
  simpa using this
theorem len8 {α : Type} : ∀ {l : List α},l.length = 8 → ∃ a b c d e f g h,l = [a,b,c,d,e,f,g,h]
 | [a,b,c,d,e,f,g,h],_ => ⟨a,b,c,d,e,f,g,h,rfl⟩
theorem len15 {α : Type} : ∀ {l : List α},l.length = 15 → ∃ a b c d e f g h i j k m n o p,l = [a,b,c,d,e,f,g,h,i,j,k,m,n,o,p]
 | [a,b,c,d,e,f,g,h,i,j,k,m,n,o,p],_ => ⟨a,b,c,d,e,f,g,h,i,j,k,m,n,o,p,rfl⟩
theorem nvQ : NL [.bool false,.bool false,.cst (.slice none 0 0),.cst (.slice none 0 0),.int .i64 0,.int .i64 0,.int .i64 0,.str [],.str [],.str [],.int .i64 0,.cst (.slice none 0 0),.cst (.slice none 0 0),.bool false,.int .i64 0] qryZ.cells:=by
 simp [qryZ,exZ,Ex.cells,Qry.cells,nvEx]
theorem may17k6 (x : Stm) (hs : x.sm) (hk : x.kind = 6) (F : Fr) (K : Hp) (Q : QA) (E : Ent17 x F K) (hQ : Fin17 x Q) : VC Try.prog M17 F K 2 [] Q:=by
 obtain ⟨f1,f3,f4,f19,k0,k1⟩:=E
 have x1:=x.g1
 rw [hk] at f19 k1
 have xc:=x.cc
 have xl:=x.cells_len
 have hmy:=maybe54 x.cond hs.cond
 have hav : x.cond.av = .agg x.cond.cells 8:=Eq.trans rfl rfl
 rw [hav] at hmy
 obtain ⟨a0,a1,a2,a3,a4,a5,a6,a7,hce⟩:=len8 x.cond.cells_len
 have hpc:=x.cond.pureC
 have ho : allOne x.cond.cells = true:=by cases x.cond; simp [Ex.cells]
 rw [hce] at xc hmy hpc ho
 simp at hpc ho
 generalize hxs : x.cells = xs at *
 have hg : grab 31 [] xs .nil 8 8 = some [a0,a1,a2,a3,a4,a5,a6,a7]:=by simp [xl,xc]
 clear xl
 simp [M17,f19,R17_4,R17_12,R17_15,R17_23,R17_26,R17_39]
 simp [R17_40]
 refine DrwV.of (ce0_ok (P:=Try.prog)) ?_
 simp [clearF_get,f1,f3,k0,k1,x1,hg,tcZ,ho]
 generalize hK2 : Tr.put _ 1 _ = K2
 obtain ⟨tc,g1,ht⟩ : ∃ tc,K2.get 1 = some (.cells 31 [] tc .nil) ∧ Tc17 x tc:=⟨_,by rw [← hK2]; exact (Tr.get_put _ _ _ _).trans (if_pos rfl),by simp,by simp [hpc],by simp only [Stm.cut,hk,Stm.cells,Stm.z]; simp [hce,nvQ]⟩
 have g0 : K2.get 0 = some (.cells 31 [] xs .nil):=by rw [← hK2]; simp [k0]
 clear hK2
 generalize hF2 : (Fp 168 _ _ : Fr) = F2
 have h1 : F2.get 1 = some (.ptr 0 0):=by rw [← hF2]; simp [clearF_get,f1]
 have h3 : F2.get 3 = some (.ptr 1 0):=by rw [← hF2]; simp [clearF_get,f3]
 clear hF2 f1 f3 f4 f19 k0 k1 F
 have fin : ∀ (F' : Fr) (b : Bool),F'.get 1 = some (.ptr 0 0) → F'.get 3 = some (.ptr 1 0) → F'.get 4 = some (.bool b) → b = x.ok → Q .normal F' K2 2 []:=fun F' b w1 w3 w4 hb => hQ _ _ _ _ _ ⟨w1,w3,w4,by rw [hxs]; exact g0,g1,by omega⟩ ht hb
 simp [R17_41,h1,g0,x1]
 refine CalV.pure (named51 x.table) ?_
 by_cases hn : NamedOk x.table
 ·
  simp [hn,h1,g0,hg]
  refine CalV.pure hmy ?_
  simp
  generalize hF3 : (Fp 4 _ _ : Fr) = F3
  have:=fin F3 x.cond.maybe (by rw [← hF3]; simp [h1]) (by rw [← hF3]; simp [h3]) (by rw [← hF3]; simp) (by simp [Stm.ok,hk,hn])
  simpa using this
 ·
  simp [hn]
  generalize hF3 : (Fp 4 _ _ : Fr) = F3
  have:=fin F3 false (by rw [← hF3]; simp [h1]) (by rw [← hF3]; simp [h3]) (by rw [← hF3]; simp) (by simp [Stm.ok,hk,hn])
  simpa using this
theorem may17k7 (x : Stm) (hs : x.sm) (hk : x.kind = 7) (F : Fr) (K : Hp) (Q : QA) (E : Ent17 x F K) (hQ : Fin17 x Q) : VC Try.prog M17 F K 2 [] Q:=by
 obtain ⟨f1,f3,f4,f19,k0,k1⟩:=E
 have x1:=x.g1
 have x7:=x.g7
 rw [hk] at f19 k1
 have xc:=x.cc
 have xl:=x.cells_len
 have hmy:=maybe54 x.cond hs.cond
 have hav : x.cond.av = .agg x.cond.cells 8:=Eq.trans rfl rfl
 rw [hav] at hmy
 obtain ⟨a0,a1,a2,a3,a4,a5,a6,a7,hce⟩:=len8 x.cond.cells_len
 have hpc:=x.cond.pureC
 have ho : allOne x.cond.cells = true:=by cases x.cond; simp [Ex.cells]
 rw [hce] at xc hmy hpc ho
 simp at hpc ho
 generalize hxs : x.cells = xs at *
 have hg : grab 31 [] xs .nil 8 8 = some [a0,a1,a2,a3,a4,a5,a6,a7]:=by simp [xl,xc]
 clear xl
 simp [M17,f19,R17_4,R17_12,R17_15,R17_23,R17_26,R17_39,R17_42]
 simp [R17_43]
 refine DrwV.of (ce0_ok (P:=Try.prog)) ?_
 simp [clearF_get,f1,f3,k0,k1,x1,x7,hg,tcZ,ho]
 generalize hK2 : Tr.put _ 1 _ = K2
 obtain ⟨tc,g1,ht⟩ : ∃ tc,K2.get 1 = some (.cells 31 [] tc .nil) ∧ Tc17 x tc:=⟨_,by rw [← hK2]; exact (Tr.get_put _ _ _ _).trans (if_pos rfl),by simp,by simp [hpc],by simp only [Stm.cut,hk,Stm.cells,Stm.z]; simp [hce,nvQ]⟩
 have g0 : K2.get 0 = some (.cells 31 [] xs .nil):=by rw [← hK2]; simp [k0]
 clear hK2
 generalize hF2 : (Fp 187 _ _ : Fr) = F2
 have h1 : F2.get 1 = some (.ptr 0 0):=by rw [← hF2]; simp [clearF_get,f1]
 have h3 : F2.get 3 = some (.ptr 1 0):=by rw [← hF2]; simp [clearF_get,f3]
 clear hF2 f1 f3 f4 f19 k0 k1 F
 have fin : ∀ (F' : Fr) (b : Bool),F'.get 1 = some (.ptr 0 0) → F'.get 3 = some (.ptr 1 0) → F'.get 4 = some (.bool b) → b = (decide (NamedOk x.table) && decide (1 ≤ x.sets.length ∧ x.sets.length ≤ 16) && x.cond.maybe) → VC Try.prog R17_45 F' K2 2 [] (SeqV Try.prog (.block 9 L17_4.loop) Q):=by
  intro F' b w1 w3 w4 hb
  simp [R17_45,w1,g0,x7,Enc.len_ds]
  refine may17c x hs.sets hs.set tc b _ K2 2 _ ⟨by simp [w1],by simp [w3],by simp [w4],by rw [hxs]; exact g0,g1,by omega⟩ (by simp) (by simp) (by simp) fun F5 K5 n5 M5 => ?_
  exact hQ _ _ _ _ _ M5 ht (by rw [hb]; simp [Stm.ok,hk])
 simp [R17_44,h1,g0,x1]
 refine CalV.pure (named51 x.table) ?_
 by_cases hn : NamedOk x.table
 ·
  simp [hn,h1,g0,x7,Enc.len_ds]
  refine CalV.pure (upTo52 (x.sets.length : Int) 16) ?_
  by_cases hu : 1 ≤ x.sets.length ∧ x.sets.length ≤ 16
  ·
   have hu' : (1 : Int) ≤ (x.sets.length : Int) ∧ (x.sets.length : Int) ≤ 16:=by omega
   simp only [hu',and_self,decide_true]
   simp [h1,g0,hg]
   refine CalV.pure hmy ?_
   simp
   generalize hF3 : (Fp 4 _ _ : Fr) = F3
   have:=fin F3 x.cond.maybe (by rw [← hF3]; simp [h1]) (by rw [← hF3]; simp [h3]) (by rw [← hF3]; simp) (by simp [hn,hu])
   simpa using this
  ·
   have hu' : ¬ ((1 : Int) ≤ (x.sets.length : Int) ∧ (x.sets.length : Int) ≤ 16):=by omega
   simp only [hu',decide_false]
   simp
   generalize hF3 : (Fp 4 _ _ : Fr) = F3
   have:=fin F3 false (by rw [← hF3]; simp [h1]) (by rw [← hF3]; simp [h3]) (by rw [← hF3]; simp) (by simp [hu])
   simpa using this
 ·
  simp [hn]
  generalize hF3 : (Fp 4 _ _ : Fr) = F3
  have:=fin F3 false (by rw [← hF3]; simp [h1]) (by rw [← hF3]; simp [h3]) (by rw [← hF3]; simp) (by simp [hn])
  simpa using this
theorem may17k8 (x : Stm) (hs : x.sm) (hk : x.kind = 8) (F : Fr) (K : Hp) (Q : QA) (E : Ent17 x F K) (hQ : Fin17 x Q) : VC Try.prog M17 F K 2 [] Q:=by
 obtain ⟨f1,f3,f4,f19,k0,k1⟩:=E
 rw [hk] at f19 k1
 have xq:=x.tq
 have xl:=x.cells_len
 have hmy:=query55 x.q hs.qc hs.order hs.srcs hs.items hs.item hs.src
 obtain ⟨a0,a1,a2,a3,a4,a5,a6,a7,a8,a9,a10,a11,a12,a13,a14,hce⟩:=len15 x.q.cells_len
 have hpc:=x.q.pure
 have ho : allOne x.q.cells = true:=by simp [Qry.cells]
 rw [hce] at xq hmy hpc ho
 simp at hpc ho
 generalize hxs : x.cells = xs at *
 have hg : grab 31 [] xs .nil 16 15 = some [a0,a1,a2,a3,a4,a5,a6,a7,a8,a9,a10,a11,a12,a13,a14]:=by simp [xl,xq]
 clear xl
 simp [M17,f19,R17_4,R17_12,R17_15,R17_23,R17_26,R17_39,R17_42,R17_50,R17_51,f1,f3,k0,k1,hg,tcZ,ho]
 generalize hK2 : Tr.put _ 1 _ = K2
 obtain ⟨tc,g1,ht⟩ : ∃ tc,K2.get 1 = some (.cells 31 [] tc .nil) ∧ Tc17 x tc:=⟨_,by rw [← hK2]; exact (Tr.get_put _ _ _ _).trans (if_pos rfl),by simp,by simp [hpc],by simp only [Stm.cut,hk,Stm.cells,Stm.z]; simp [hce,exZ,Ex.cells,nvEx]⟩
 have g0 : K2.get 0 = some (.cells 31 [] xs .nil):=by rw [← hK2]; simp [k0]
 clear hK2
 generalize hF2 : (Fp 225 _ _ : Fr) = F2
 have h1 : F2.get 1 = some (.ptr 0 0):=by rw [← hF2]; simp [f1]
 have h3 : F2.get 3 = some (.ptr 1 0):=by rw [← hF2]; simp [f3]
 clear hF2 f1 f3 f4 f19 k0 k1 F
 have fin : ∀ (F' : Fr) (b : Bool),F'.get 1 = some (.ptr 0 0) → F'.get 3 = some (.ptr 1 0) → F'.get 4 = some (.bool b) → b = x.ok → Q .normal F' K2 2 []:=fun F' b w1 w3 w4 hb => hQ _ _ _ _ _ ⟨w1,w3,w4,by rw [hxs]; exact g0,g1,by omega⟩ ht hb
 simp [R17_52,h1,g0,hg]
 refine CalV.pure hmy ?_
 simp
 generalize hF3 : (Fp 4 _ _ : Fr) = F3
 exact fin F3 _ (by rw [← hF3]; simp [h1]) (by rw [← hF3]; simp [h3]) (by rw [← hF3]; simp; rfl) (by simp [Stm.ok,hk])
theorem tcz (k : Int) (x : Stm) (hk : x.cut = Stm.z k) : Tc17 x (tcZ k) :=
 ⟨by simp [tcZ],by simp [tcZ],by rw [hk]; simp [tcZ,Stm.z,Stm.cells,exZ,qryZ,Ex.cells,Qry.cells,nvEx]⟩
theorem may17k9 (x : Stm) (h1 : ¬ x.kind = 1) (h2 : ¬ x.kind = 2) (h3 : ¬ x.kind = 3) (h4 : ¬ x.kind = 4) (h5 : ¬ x.kind = 5) (h6 : ¬ x.kind = 6) (h7 : ¬ x.kind = 7) (h8 : ¬ x.kind = 8) (F : Fr) (K : Hp) (Q : QA) (E : Ent17 x F K) (hQ : Fin17 x Q) : VC Try.prog M17 F K 2 [] Q:=by
 obtain ⟨f1,f3,f4,f19,k0,k1⟩:=E
 have ht:=tcz x.kind x (by simp [Stm.cut,h1,h2,h3,h4,h5,h6,h7,h8])
 have ho : x.ok = decide (x.kind = 9 ∨ x.kind = 10 ∨ x.kind = 11):=by simp [Stm.ok,h1,h2,h3,h4,h5,h6,h7,h8]
 have fin : ∀ (F' : Fr) (b : Bool),F'.get 1 = some (.ptr 0 0) → F'.get 3 = some (.ptr 1 0) → F'.get 4 = some (.bool b) → b = decide (x.kind = 9 ∨ x.kind = 10 ∨ x.kind = 11) → Q .normal F' K 2 []:=fun F' b w1 w3 w4 hb => hQ _ _ _ _ _ ⟨w1,w3,w4,k0,k1,by omega⟩ ht (hb.trans ho.symm)
 generalize x.kind = kk at *
 simp [M17,f19,R17_4,R17_12,R17_15,R17_23,R17_26,R17_39,R17_42,R17_50,h1,h2,h3,h4,h5,h6,h7,h8]
 generalize hF2 : (Fp 221 _ _ : Fr) = F2
 have w1 : F2.get 1 = some (.ptr 0 0):=by rw [← hF2]; simp [f1]
 have w3 : F2.get 3 = some (.ptr 1 0):=by rw [← hF2]; simp [f3]
 have w4 : F2.get 4 = some (.bool false):=by rw [← hF2]; simp [f4]
 have w19 : F2.get 19 = some (.int .i64 kk):=by rw [← hF2]; simp [f19]
 clear hF2 f1 f3 f4 f19
 by_cases h9 : kk = 9
 ·
  simp [R17_53,w19,h9,R17_56]
  exact fin _ true (by simp [w1]) (by simp [w3]) (by simp) (by simp [h9])
 ·
  by_cases h10 : kk = 10
  ·
   simp [R17_53,R17_54,w19,h10,R17_56]
   exact fin _ true (by simp [w1]) (by simp [w3]) (by simp) (by simp [h10])
  ·
   by_cases h11 : kk = 11
   ·
    simp [R17_53,R17_54,R17_55,w19,h11,R17_56]
    exact fin _ true (by simp [w1]) (by simp [w3]) (by simp) (by simp [h11])
   ·
    simp [R17_53,R17_54,R17_55,w19,h9,h10,h11]
    exact fin _ false (by simp [w1]) (by simp [w3]) (by simp [w4]) (by simp [h9,h10,h11])
noncomputable def Stm.may (x : Stm) : Bool:=x.ok && restB x x.cut
theorem may17 (x : Stm) (hs : x.sm) : FnPure Try.prog 17 [x.av] (.bool x.may):=by
 refine pureV c17 (by simp) (by simp) (by simp [A17]) fun F hF => ?_
 have x0:=x.g0
 have xl:=x.cells_len
 have fin : Fin17 x (BlkQ 0 (SeqV Try.prog (.seq R17_57 .ret) (RetQ [rTmp 2] fun v1 H' _ => Frz H'.get v1 (.bool x.may)))):=by
  intro F' K' n' tc b ⟨f1,f3,f4,k0,k1,hn⟩ ⟨htl,hpt,hnl⟩ hb
  cases b with
  | false =>
   simp [R17_57,f4,Stm.may,← hb]
   exact .bool rfl
  | true =>
   simp [R17_57,f1,f3,f4,k0,k1,Stm.may,← hb]
   have hr:=rest56 x x.cut
   refine CalV.pure (hr.conv ?_ fun D xs hv => ?_) ?_
   · simp [hpt]
   ·
    cases hv with
    | cons _ y0 _ ys h0 hv =>
    cases hv with
    | cons _ y1 _ ys h1 hv =>
    refine .cons _ _ _ _ h0 (.cons _ _ _ _ ?_ hv)
    cases h1 with
    | agg _ l _ a b => exact .agg _ _ _ (hnl.vrs a) (by simp)
   ·
    simp
    exact .bool rfl
 have hcx : x.av = .agg x.cells 31:=Eq.trans rfl rfl
 rw [hcx] at hF
 have body : ∀ (F : Fr) (K : Hp),Ent17 x F K → VC Try.prog M17 F K 2 [] (BlkQ 0 (SeqV Try.prog (.seq R17_57 .ret) (RetQ [rTmp 2] fun v1 H' _ => Frz H'.get v1 (.bool x.may)))):=by
  intro F K E
  by_cases h1 : x.kind = 1
  · exact may17k1 x hs h1 F K _ E fin
  by_cases h2 : x.kind = 2
  · exact may17k2 x hs h2 F K _ E fin
  by_cases h3 : x.kind = 3
  · exact may17k3 x hs h3 F K _ E fin
  by_cases h4 : x.kind = 4
  · exact may17k4 x hs h4 F K _ E fin
  by_cases h5 : x.kind = 5
  · exact may17k5 x hs h5 F K _ E fin
  by_cases h6 : x.kind = 6
  · exact may17k6 x hs h6 F K _ E fin
  by_cases h7 : x.kind = 7
  · exact may17k7 x hs h7 F K _ E fin
  by_cases h8 : x.kind = 8
  · exact may17k8 x hs h8 F K _ E fin
  exact may17k9 x h1 h2 h3 h4 h5 h6 h7 h8 F K _ E fin
 clear fin hs
 have xp:=x.pure
 generalize hxs : x.cells = xs at hF x0 xl xp
 have hA : A17.code = B17:=rfl
 simp only [hA,b17]
 simp [R17_0,hF]
 simp [R17_1,R17_2,R17_3,x0]
 generalize hK : Tr.put _ 1 _ = K
 have k0 : K.get 0 = some (.cells 31 [] xs .nil):=by rw [← hK]; simp
 have k1 : K.get 1 = some (.cells 31 [] (tcZ x.kind) .nil):=by rw [← hK]; simp [tcZ]
 clear hK
 refine body _ K ⟨?_,?_,?_,?_,by rw [hxs]; exact k0,k1⟩
 all_goals simp
theorem tbl47 (d t : Tbl) (b : Nat) (H : Hp) (n : Nat) (hb : H.get b = some (.cells 4 [] (eTbl.cells t) .nil)) (ht : Top H n) : CallR Try.prog 47 [eTbl.av d,.ptr b 0] H n (fun u K k => u = .bool (decide (d.name = t.name)) ∧ K = H ∧ k = n):=by
 refine CallR.forget (by simp) (CallR.of c47 (by simp [A47]) fun F hF => ?_)
 have q : ¬ b = n:=by have:=ht.lt hb; omega
 simp [A47,B47,R47_0,R47_1,hF,Enc.av,eTbl_c,q,hb]
 rintro c hc rfl
 exact absurd (ht _ (Nat.le_refl _)) hc
theorem ixd50 (d t : Ixd) (b : Nat) (H : Hp) (n : Nat) (hb : H.get b = some (.cells 6 [] (eIxd.cells t) .nil)) (ht : Top H n) : CallR Try.prog 50 [eIxd.av d,.ptr b 0] H n (fun u K k => u = .bool (decide (d.name = t.name)) ∧ K = H ∧ k = n):=by
 refine CallR.forget (by simp) (CallR.of c50 (by simp [A50]) fun F hF => ?_)
 have q : ¬ b = n:=by have:=ht.lt hb; omega
 simp [A50,B50,R50_0,R50_1,hF,Enc.av,eIxd_c,q,hb]
 rintro c hc rfl
 exact absurd (ht _ (Nat.le_refl _)) hc
theorem conTbl {f : FuncId} {first cap : List AV} {p : Tbl → Bool} {H : Hp} {n : Nat} (l : List Tbl) (hl : l.length ≤ lim) (hp : ∀ x ∈ l,CallR Try.prog f (first ++ ([eTbl.av x] ++ cap)) H n (fun u K k => u = .bool (p x) ∧ K = H ∧ k = n)) :
  CallR Try.prog 46 [eTbl.ds l,.fn (.func f) first cap] H n (fun u K k => u = .bool (l.any p) ∧ K = H ∧ k = n) :=
 con_ok c46 (idx_ok (el:=eTbl.av) c86 hl (eTbl.len_ds _) (fun i h => ⟨_,eTbl.ix h,fun F H n h14 => by simp [h14,eTbl.ldN]⟩) hp)
theorem conIxd {f : FuncId} {first cap : List AV} {p : Ixd → Bool} {H : Hp} {n : Nat} (l : List Ixd) (hl : l.length ≤ lim) (hp : ∀ x ∈ l,CallR Try.prog f (first ++ ([eIxd.av x] ++ cap)) H n (fun u K k => u = .bool (p x) ∧ K = H ∧ k = n)) :
  CallR Try.prog 49 [eIxd.ds l,.fn (.func f) first cap] H n (fun u K k => u = .bool (l.any p) ∧ K = H ∧ k = n) :=
 con_ok c49 (idx_ok (el:=eIxd.av) c88 hl (eIxd.len_ds _) (fun i h => ⟨_,eIxd.ix h,fun F H n h14 => by simp [h14,eIxd.ldN]⟩) hp)
def PlacesOk (t : Tbl) (l : List Int) : Prop:=l ≠ [] ∧ l.length ≤ 16 ∧ ∀ i (h : i < l.length),0 ≤ l[i] ∧ l[i] < (t.cols.length : Int) ∧ l[i] ∉ l.take i
theorem places48 (t : Tbl) (l : List Int) (_hc : t.cols.length ≤ lim) : FnPure Try.prog 48 [eTbl.av t,eInt.ds l] (.bool (decide (PlacesOk t l))):=by
 refine pureV c48 (by simp) (by simp) (by simp [A48]) fun F hF => ?_
 by_cases h0 : l = []
 ·
  have : ¬ PlacesOk t l:=fun h => h.1 h0
  simp [A48,B48,R48_0,R48_1,hF,Enc.av,Enc.len_ds,h0,R48_2]
  exact .bool (by subst h0; simp [this])
 by_cases h16 : l.length ≤ 16
 ·
  simp [A48,B48,R48_0,R48_1,hF,Enc.av,Enc.len_ds,h0,show ¬ (16 : Int) < (l.length : Int) by omega,R48_3,eTbl_c]
  generalize hK : Tr.put _ 0 _ = K
  have k0 : K.get 0 = some (.cells 4 [] [.int .u32 t.id,.str t.name,eCol.ds t.cols,.int .u32 t.head] .nil):=by rw [← hK]; simp
  clear hK
  refine LoopV.of (fun q F K' n ms => ∃ i,q = l.length - i ∧ i ≤ l.length ∧ F.get 1 = some (eInt.ds l) ∧ F.get 2 = some (.ptr 0 0) ∧ F.get 15 = some (eInt.ds l) ∧ F.get 16 = some (.int .i64 (l.length : Int)) ∧ F.get 17 = some (.int .i64 (i : Int)) ∧ ms = [] ∧ K' = K ∧ ∀ k (h : k < i) (h2 : k < l.length),0 ≤ l[k] ∧ l[k] < (t.cols.length : Int) ∧ l[k] ∉ l.take k) l.length ⟨0,by simp,by simp,by simp [hF],by simp,by simp,by simp,by simp,rfl,rfl,fun k h => by omega⟩ ?_
  rintro q F K' n ms ⟨i,rfl,hi,f1,f2,f15,f16,f17,rfl,rfl,hk⟩
  by_cases hlt : i < l.length
  ·
   have hx:=eInt.ix (ik:=.i64) hlt
   rw [eInt_c] at hx
   have hsl:=eInt.slHi (l:=l) (i:=i) hi
   have no : ∀ P : Prop,(PlacesOk t l → P) → ¬ P → ¬ PlacesOk t l:=fun P h1 h2 h3 => h2 (h1 h3)
   simp [L48_0,R48_4,f16,f17,hlt,R48_5,f15,hx,R48_6]
   by_cases hn : l[i] < 0
   ·
    have:=no (0 ≤ l[i]) (fun h => (h.2.2 i hlt).1) (by omega)
    simp [hn,R48_7]
    exact .bool (by simp [this])
   ·
    by_cases hb : (t.cols.length : Int) ≤ l[i]
    ·
     have:=no (l[i] < (t.cols.length : Int)) (fun h => (h.2.2 i hlt).2.1) (by omega)
     simp [hn,f2,k0,Enc.len_ds,hb,R48_7]
     exact .bool (by simp [this])
    ·
     simp [hn,f2,k0,Enc.len_ds,hb,f1,eSl,oev,hsl]
     refine CalV.pure (contains87 (l.take i) l[i] (by simp; unfold lim; omega)) ?_
     by_cases hm : l[i] ∈ l.take i
     ·
      have:=no (l[i] ∉ l.take i) (fun h => (h.2.2 i hlt).2.2) (by simpa using hm)
      simp [hm,R48_7]
      exact .bool (by simp [this])
     ·
      simp [hm,R48_8,f1,f2,f15,f16,f17,wrap_nat i (by omega)]
      refine ⟨l.length - (i + 1),by omega,i + 1,rfl,hlt,rfl,fun k h h2 => ?_⟩
      by_cases e : k = i
      · subst e; exact ⟨by omega,by omega,hm⟩
      · exact hk k (by omega) h2
  ·
   obtain rfl : i = l.length:=by omega
   have : PlacesOk t l:=⟨h0,h16,fun j h => hk j h h⟩
   simp [L48_0,R48_4,f16,f17,R48_9]
   exact .bool (by simp [this])
 ·
  have : ¬ PlacesOk t l:=fun h => h16 h.2.1
  simp [A48,B48,R48_0,R48_1,hF,Enc.av,Enc.len_ds,h0,show (16 : Int) < (l.length : Int) by omega,R48_2]
  exact .bool (by simp [this])
end Go.Abs
namespace Go.Abs
open Go.Proofs
open Classical
set_option maxRecDepth 100000
section
variable {F : Fr} {H : Hp} {n : Nat}
@[simp] theorem eMput_f (q : LK) (m k v : G) : eMput q m k v F H n = oE (m.f F) fun m => oE (k.f F) fun k => oE (v.f F) fun v => cMput q m k v H:=by
 unfold eMput oE
 cases m.f F with
 | none => rfl
 | some a => dsimp only; cases k.f F with
  | none => rfl
  | some b => dsimp only; cases v.f F <;> rfl
@[simp] theorem eLookup_f (q : LK) (z : AV) (ok : Bool) (m k : G) : eLookup q z ok m k F H n = oE (m.f F) fun m => oE (k.f F) fun k => cLookup q z ok m k H:=by
 unfold eLookup oE
 cases m.f F with
 | none => rfl
 | some a => dsimp only; cases k.f F <;> rfl
end
def mpE : Nat → List Int → List (AV × AV × Nat)
 | _,[] => []
 | i,x :: r => (.int .u32 x,.int .i64 1,i) :: mpE (i + 1) r
theorem mpE_add (x : Int) : ∀ (l : List Int) (i : Nat),mpE i (l ++ [x]) = mpE i l ++ [(.int .u32 x,.int .i64 1,i + l.length)]
 | [],i => by simp [mpE]
 | y :: r,i => by simp [mpE,mpE_add x r (i + 1)]; omega
theorem eqLeaf_i (a b : Int) : eqLeaf .i (.int .u32 a) (.int .u32 b) = some (decide (a = b)):=by
 simp only [eqLeaf,if_true]
 congr 1
theorem find_i (k : Int) : ∀ (l : List Int) (i : Nat),findKey .i (.int .u32 k) (mpE i l) = some (if k ∈ l then some (.int .i64 1) else none)
 | [],i => rfl
 | y :: r,i => by
  simp only [mpE,findKey,eqLeaf_i]
  by_cases h : k = y
  · simp [h]
  · simp [h,find_i k r (i + 1)]
theorem set_i (k : Int) (v : AV) : ∀ (l : List Int) (i : Nat),k ∉ l → setKey .i (.int .u32 k) v (mpE i l) = some none
 | [],i,_ => rfl
 | y :: r,i,h => by
  simp only [List.mem_cons,not_or] at h
  simp only [mpE,setKey,eqLeaf_i]
  simp [h.1,set_i k v r (i + 1) h.2]
theorem set_y (k : Int) (v : AV) : ∀ (l : List Int) (i : Nat),k ∈ l → ∃ es,setKey .i (.int .u32 k) v (mpE i l) = some (some es) ∧ findKey .i (.int .u32 k) es = some (some v)
 | [],i,h => by simp at h
 | y :: r,i,h => by
  simp only [mpE,setKey,eqLeaf_i]
  by_cases e : k = y
  ·
   subst e
   simp [findKey,eqLeaf_i]
  ·
   have h2 : k ∈ r:=by simpa [e] using h
   obtain ⟨es,h3,h4⟩:=set_y k v r (i + 1) h2
   simp [e,h3,findKey,eqLeaf_i,h4]
theorem find_add (k : Int) (l : List Int) (i : Nat) (_h : k ∉ l) : findKey .i (.int .u32 k) (mpE i l ++ [(.int .u32 k,.int .i64 1,i + l.length)]) = some (some (.int .i64 1)):=by
 rw [← mpE_add,find_i]; simp
structure S85 (s : Sch) (Fo : Fr) (l : List Int) (K : Hp) (n : Nat) : Prop where
 k0 : K.get 0 = some (.cells 2 [] (eSch.cells s) .nil)
 k1 : K.get 1 = some (.cells 1 [] [.bool false] .nil)
 k2 : K.get 2 = some (.map (mpE 0 l) l.length)
 k3 : K.get 3 = some (.cells 1 [] [.map 2] .nil)
 k4 : K.get 4 = some (.cells 2 [] (eSch.cells s) .nil)
 k5 : K.get 5 = some (.loop .ready .normal 120 Fo [25] Y16_0.1 Y16_0.2)
 k6 : K.get 6 = some .defd
 n7 : 7 ≤ n
 top : Top K n
structure X85 (Fo : Fr) (K : Hp) : Prop where
 k1 : K.get 1 = some (.cells 1 [] [.bool false] .nil)
 k5 : ∃ nt G ps a b,K.get 5 = some (.loop .done .ret nt G ps a b)
 k6 : K.get 6 = some .defd
theorem page_yld (s : Sch) (Fo : Fr) (l : List Int) (x : Int) {K : Hp} {n : Nat} {pd : Pd} {r : List (Option GO)} {F : Fr} {Q : QA} (f2 : Fo.get 2 = some (.ptr 1 0)) (f3 : Fo.get 3 = some (.ptr 3 0)) (S : S85 s Fo l K n)
  (h1 : x ≠ 0 → x ∉ l → ∀ K' n',S85 s Fo (l ++ [x]) K' n' → VCO Try.prog r (pd.f (.bool true) F) K' n' [] Q)
  (h2 : (x = 0 ∨ x ∈ l) → ∀ K' n',X85 Fo K' → VCO Try.prog r (pd.f (.bool false) F) K' n' [] Q) : YldV 5 [.int .u32 x] pd r Try.prog F K n [] Q:=by
 obtain ⟨k0,k1,k2,k3,k4,k5,k6,n7,top⟩:=S
 refine YldV.of k5 (by simp [putsF]; rfl) ?_
 rw [y16_0a]
 simp [R16_5,k5]
 refine ⟨_,_,_,_,_,_,⟨rfl,rfl,rfl,rfl,rfl,rfl⟩,?_⟩
 rw [y16_0b]
 by_cases hx : x ∈ l
 ·
  obtain ⟨es,hs1,hs2⟩:=set_y x (.int .i64 2) l 0 hx
  by_cases h0 : x = 0
  ·
   subst h0
   simp [R16_6,f2,f3,k1,k2,k3,cLookup,cMput,isKey,find_i,hx,hs1,R16_7,R16_8]
   unfold RndE
   refine ⟨_,_,_,_,_,_,_,(by simp; exact ⟨rfl,rfl,rfl,rfl,rfl,rfl,rfl⟩),?_⟩
   refine h2 (by simp) _ _ ⟨by simp,⟨_,_,_,_,_,by simp; exact ⟨rfl,rfl,rfl,rfl,rfl⟩⟩,by simp [k6]⟩
  ·
   simp [R16_6,f2,f3,k1,k2,k3,cLookup,cMput,isKey,find_i,hx,hs1,hs2,R16_7,h0,R16_8]
   unfold RndE
   refine ⟨_,_,_,_,_,_,_,(by simp; exact ⟨rfl,rfl,rfl,rfl,rfl,rfl,rfl⟩),?_⟩
   refine h2 (by simp [hx]) _ _ ⟨by simp,⟨_,_,_,_,_,by simp; exact ⟨rfl,rfl,rfl,rfl,rfl⟩⟩,by simp [k6]⟩
 ·
  have hs1:=set_i x (.int .i64 1) l 0 hx
  have hs2:=find_add x l 0 hx
  simp only [Nat.zero_add] at hs2
  by_cases h0 : x = 0
  ·
   subst h0
   simp [R16_6,f2,f3,k1,k2,k3,cLookup,cMput,isKey,find_i,hx,hs1,R16_7,R16_8]
   unfold RndE
   refine ⟨_,_,_,_,_,_,_,(by simp; exact ⟨rfl,rfl,rfl,rfl,rfl,rfl,rfl⟩),?_⟩
   refine h2 (by simp) _ _ ⟨by simp,⟨_,_,_,_,_,by simp; exact ⟨rfl,rfl,rfl,rfl,rfl⟩⟩,by simp [k6]⟩
  ·
   simp [R16_6,f3,k2,k3,cLookup,cMput,isKey,find_i,hx,hs1,hs2,R16_7,h0,R16_8]
   unfold RndE
   refine ⟨_,_,_,_,_,_,_,(by simp; exact ⟨rfl,rfl,rfl,rfl,rfl,rfl,rfl⟩),?_⟩
   refine h1 h0 hx _ _ ⟨?_,?_,?_,?_,?_,?_,?_,n7,?_⟩
   · simp [k0]
   · simp [k1]
   · simp [mpE_add]
   · simp [k3]
   · simp [k4]
   · simp
   · simp [k6]
   ·
    intro b hb
    have e2 : ¬ b = 2:=by omega
    have e5 : ¬ b = 5:=by omega
    simp [e2,e5,top b hb]
end Go.Abs
namespace Go.Abs
open Go.Proofs
open Classical
set_option maxRecDepth 100000
def PgOk (l : List Int) : Prop:=l.Nodup ∧ 0 ∉ l
def Sch.pages (s : Sch) : List Int:=s.tables.map (·.head) ++ s.indexes.map (·.root)
theorem PgOk.add {l : List Int} {x : Int} (h : PgOk l) (h0 : x ≠ 0) (hx : x ∉ l) : PgOk (l ++ [x]):=by
 refine ⟨List.nodup_append.2 ⟨h.1,by simp,fun a ha b hb => ?_⟩,?_⟩
 · simp at hb; subst hb; intro e; subst e; exact hx ha
 · simp only [List.mem_append,List.mem_singleton,not_or]; exact ⟨h.2,Ne.symm h0⟩
theorem PgOk.bad {l r : List Int} {x : Int} (h : x = 0 ∨ x ∈ l) : ¬ PgOk (l ++ (x :: r)):=by
 rintro ⟨h1,h2⟩
 rcases h with rfl | h
 · exact h2 (by simp)
 · exact (List.nodup_append.1 h1).2.2 x h x (by simp) rfl
theorem S85.alloc {s : Sch} {Fo : Fr} {l : List Int} {K : Hp} {n : Nat} (S : S85 s Fo l K n) (y z : ABlk) : S85 s Fo l ((K.put n (some y)).put n (some z)) (n + 1):=by
 obtain ⟨k0,k1,k2,k3,k4,k5,k6,n7,top⟩:=S
 refine ⟨?_,?_,?_,?_,?_,?_,?_,by omega,?_⟩
 · simp [show ¬ 0 = n by omega,k0]
 · simp [show ¬ 1 = n by omega,k1]
 · simp [show ¬ 2 = n by omega,k2]
 · simp [show ¬ 3 = n by omega,k3]
 · simp [show ¬ 4 = n by omega,k4]
 · simp [show ¬ 5 = n by omega,k5]
 · simp [show ¬ 6 = n by omega,k6]
 ·
  intro b hb
  simp [show ¬ b = n by omega,top b (by omega)]
def Sch.pg (s : Sch) (i j : Nat) : List Int:=(s.tables.take i).map (·.head) ++ (s.indexes.take j).map (·.root)
theorem pg_0 (s : Sch) : s.pg 0 0 = []:=by simp [Sch.pg]
theorem pg_t {s : Sch} {i : Nat} (h : i < s.tables.length) : s.pg (i + 1) 0 = s.pg i 0 ++ [s.tables[i].head]:=by
 unfold Sch.pg; rw [List.take_add_one,List.getElem?_eq_getElem h]; simp only [List.map_append,Option.toList,List.map_cons,List.map_nil,List.take_zero,List.append_nil]
theorem pg_i {s : Sch} {i j : Nat} (h : j < s.indexes.length) : s.pg i (j + 1) = s.pg i j ++ [s.indexes[j].root]:=by
 unfold Sch.pg; rw [List.take_add_one (l:=s.indexes),List.getElem?_eq_getElem h]; simp only [List.map_append,Option.toList,List.map_cons,List.map_nil,List.append_assoc]
theorem pg_all (s : Sch) : s.pg s.tables.length s.indexes.length = s.pages:=by simp [Sch.pg,Sch.pages]
theorem pg_tr {s : Sch} {i : Nat} (h : i < s.tables.length) : ∃ r,s.pages = s.pg i 0 ++ (s.tables[i].head :: r):=by
 refine ⟨(s.tables.drop (i + 1)).map (·.head) ++ s.indexes.map (·.root),?_⟩
 unfold Sch.pages Sch.pg
 conv => lhs; rw [← List.take_append_drop i s.tables,List.drop_eq_getElem_cons h]
 simp only [List.map_append,List.map_cons,List.map_nil,List.take_zero,List.append_nil,List.append_assoc,List.cons_append]
theorem pg_ir {s : Sch} {j : Nat} (h : j < s.indexes.length) : ∃ r,s.pages = s.pg s.tables.length j ++ (s.indexes[j].root :: r):=by
 refine ⟨(s.indexes.drop (j + 1)).map (·.root),?_⟩
 unfold Sch.pages Sch.pg
 conv => lhs; rw [← List.take_append_drop j s.indexes,List.drop_eq_getElem_cons h]
 simp only [List.map_append,List.map_cons,List.append_assoc,List.take_length]
theorem pages85 (s : Sch) (hs : s.fine) (Fo : Fr) (K : Hp) (n : Nat) (f2 : Fo.get 2 = some (.ptr 1 0)) (f3 : Fo.get 3 = some (.ptr 3 0)) (S : S85 s Fo [] K n) :
  CallR Try.prog 85 [.yld 5,.ptr 4 0] K n (fun _ K' n' => (PgOk s.pages ∧ S85 s Fo s.pages K' n') ∨ (¬ PgOk s.pages ∧ X85 Fo K')):=by
 have ht:=hs.t
 have hi:=hs.i
 unfold lim at ht hi
 refine CallR.of c85 (by simp [A85]) fun F hF => ?_
 have k4:=S.k4
 rw [eSch_c] at k4
 simp [A85,B85,R85_0,hF,k4,Enc.len_ds]
 refine LoopV.of (fun t F K n ms => ∃ i,t = s.tables.length - i ∧ i ≤ s.tables.length ∧ F.get 0 = some (.yld 5) ∧ F.get 1 = some (.ptr 4 0) ∧ F.get 8 = some (eTbl.ds s.tables) ∧ F.get 9 = some (.int .i64 (s.tables.length : Int)) ∧ F.get 10 = some (.int .i64 (i : Int)) ∧ S85 s Fo (s.pg i 0) K n ∧ PgOk (s.pg i 0) ∧ ms = []) s.tables.length ⟨0,by simp,by simp,by simp [hF],by simp [hF],by simp,by simp,by simp,by rw [pg_0]; exact S,by simp [pg_0,PgOk],rfl⟩ ?_
 clear S k4 hF F K n
 rintro t F K n ms ⟨i,rfl,hil,f0,f1,f8,f9,f10,S,hP,rfl⟩
 by_cases hlt : i < s.tables.length
 ·
  have hx:=eTbl.ix (ik:=.i64) hlt
  have hld:=fun H => eTbl.ldN s.tables[i] (eTbl.l (s.tables.drop (i + 1))) H
  have S1:=S.alloc (.cells 4 [] [.int .u32 0,.str [],.cst (.slice none 0 0),.int .u32 0] .nil) (.cells 4 [] (eTbl.cells s.tables[i]) .nil)
  obtain ⟨rr,hrr⟩:=pg_tr hlt
  simp [L85_0,R85_1,R85_2,f8,f9,f10,hlt,hx,hld,Enc.av]
  generalize hK1 : Tr.put (Tr.put K n _) n _ = K1 at S1 ⊢
  have kn : K1.get n = some (.cells 4 [] (eTbl.cells s.tables[i]) .nil):=by rw [← hK1]; simp
  rw [eTbl_c] at kn
  clear hK1
  simp [R85_3,f0,kn]
  refine page_yld s Fo (s.pg i 0) s.tables[i].head f2 f3 S1 (fun h0 hx K' n' S' => ?_) (fun hb K' n' X => ?_)
  ·
   simp [R85_4,f0,f1,f8,f9,f10,wrap_nat i (by omega)]
   refine ⟨_,by omega,i + 1,rfl,hlt,rfl,?_,?_⟩
   · rw [pg_t hlt]; exact S'
   · rw [pg_t hlt]; exact hP.add h0 hx
  ·
   simp
   exact .inr ⟨by rw [hrr]; exact PgOk.bad hb,X⟩
 ·
  obtain rfl : i = s.tables.length:=by omega
  have k4:=S.k4
  rw [eSch_c] at k4
  simp [L85_0,R85_1,f9,f10,R85_5,f1,k4,Enc.len_ds]
  refine LoopV.of (fun t F K n ms => ∃ i,t = s.indexes.length - i ∧ i ≤ s.indexes.length ∧ F.get 0 = some (.yld 5) ∧ F.get 1 = some (.ptr 4 0) ∧ F.get 21 = some (eIxd.ds s.indexes) ∧ F.get 22 = some (.int .i64 (s.indexes.length : Int)) ∧ F.get 23 = some (.int .i64 (i : Int)) ∧ S85 s Fo (s.pg s.tables.length i) K n ∧ PgOk (s.pg s.tables.length i) ∧ ms = []) s.indexes.length ⟨0,by simp,by simp,by simp [f0],by simp [f1],by simp,by simp,by simp,S,hP,rfl⟩ ?_
  clear S hP hil k4 f0 f1 f8 f9 f10 F K n
  rintro t F K n ms ⟨i,rfl,hil,f0,f1,f8,f9,f10,S,hP,rfl⟩
  by_cases hlt : i < s.indexes.length
  ·
   have hx:=eIxd.ix (ik:=.i64) hlt
   have hld:=fun H => eIxd.ldN s.indexes[i] (eIxd.l (s.indexes.drop (i + 1))) H
   have S1:=S.alloc (.cells 6 [] [.int .u32 0,.int .u32 0,.str [],.cst (.slice none 0 0),.bool false,.int .u32 0] .nil) (.cells 6 [] (eIxd.cells s.indexes[i]) .nil)
   obtain ⟨rr,hrr⟩:=pg_ir hlt
   simp [L85_1,R85_6,R85_7,f8,f9,f10,hlt,hx,hld,Enc.av]
   generalize hK1 : Tr.put (Tr.put K n _) n _ = K1 at S1 ⊢
   have kn : K1.get n = some (.cells 6 [] (eIxd.cells s.indexes[i]) .nil):=by rw [← hK1]; simp
   rw [eIxd_c] at kn
   clear hK1
   simp [R85_8,f0,kn]
   refine page_yld s Fo (s.pg s.tables.length i) s.indexes[i].root f2 f3 S1 (fun h0 hx K' n' S' => ?_) (fun hb K' n' X => ?_)
   ·
    simp [R85_9,f0,f1,f8,f9,f10,wrap_nat i (by omega)]
    refine ⟨_,by omega,i + 1,rfl,hlt,rfl,?_,?_⟩
    · rw [pg_i hlt]; exact S'
    · rw [pg_i hlt]; exact hP.add h0 hx
   ·
    simp
    exact .inr ⟨by rw [hrr]; exact PgOk.bad hb,X⟩
  ·
   obtain rfl : i = s.indexes.length:=by omega
   rw [pg_all] at S hP
   simp [L85_1,R85_6,f9,f10]
   exact .inl ⟨hP,S⟩
theorem pages43 (s : Sch) (H : Hp) (n : Nat) : CallR Try.prog 43 [eSch.av s] H n (fun v K k => v = .fn (.func 85) [] [.ptr n 0] ∧ K = H.put n (some (.cells 2 [] (eSch.cells s) .nil)) ∧ k = n + 1):=by
 refine CallR.of c43 (by simp [A43]) fun F hF => ?_
 simp [A43,B43,R43_0,R43_1,hF,Enc.av]
structure S16 (s : Sch) (K : Hp) (n : Nat) : Prop where
 k0 : K.get 0 = some (.cells 2 [] (eSch.cells s) .nil)
 k1 : K.get 1 = some (.cells 1 [] [.bool false] .nil)
 k6 : K.get 6 = some .defd
 n7 : 7 ≤ n
 top : Top K n
theorem S16.alloc {s : Sch} {K : Hp} {n : Nat} (S : S16 s K n) (y z : ABlk) : S16 s ((K.put n (some y)).put n (some z)) (n + 1):=by
 obtain ⟨k0,k1,k6,n7,top⟩:=S
 refine ⟨?_,?_,?_,by omega,?_⟩
 · simp [show ¬ 0 = n by omega,k0]
 · simp [show ¬ 1 = n by omega,k1]
 · simp [show ¬ 6 = n by omega,k6]
 ·
  intro b hb
  simp [show ¬ b = n by omega,top b (by omega)]
theorem S16.re {s : Sch} {K : Hp} {n : Nat} (S : S16 s K n) : S16 s (K.put 1 (some (.cells 1 [] [.bool false] .nil))) n:=by
 obtain ⟨k0,k1,k6,n7,top⟩:=S
 refine ⟨by simp [k0],by simp,by simp [k6],n7,fun b hb => ?_⟩
 simp [show ¬ b = 1 by omega,top b hb]
def lastT (l : List Tbl) (i : Nat) : Int:=match (l.take i).getLast? with
 | some t => t.id
 | none => 0
theorem lastT_0 (l : List Tbl) : lastT l 0 = 0:=by simp [lastT]
theorem lastT_s {l : List Tbl} {i : Nat} (h : i < l.length) : lastT l (i + 1) = l[i].id:=by
 unfold lastT; rw [List.take_add_one,List.getElem?_eq_getElem h]; simp only [Option.toList,List.getLast?_concat]
structure TabOk (l : List Tbl) (i : Nat) (h : i < l.length) : Prop where
 id : lastT l i < l[i].id
 name : NameOk l[i].name
 cols : ColsOk l[i].cols
 new : ∀ t ∈ l.take i,t.name ≠ l[i].name
def TabsOk (l : List Tbl) : Prop:=∀ i h,TabOk l i h
theorem may16a (s : Sch) (hs : s.fine) (F : Fr) (K : Hp) (n : Nat) (Q : QA) (S : S16 s K n) (f1 : F.get 1 = some (.ptr 0 0)) (f2 : F.get 2 = some (.ptr 1 0)) (f5 : F.get 5 = some (.int .u32 0)) (f39 : F.get 39 = some (eTbl.ds s.tables)) (f40 : F.get 40 = some (.int .i64 (s.tables.length : Int))) (f41 : F.get 41 = some (.int .i64 0))
  (hok : TabsOk s.tables → ∀ F' K' n',S16 s K' n' → F'.get 1 = some (.ptr 0 0) → F'.get 2 = some (.ptr 1 0) → Q .normal F' K' n' [.col 6])
  (hbad : ¬ TabsOk s.tables → ∀ F' K' n',S16 s K' n' → F'.get 2 = some (.ptr 1 0) → Q .ret F' K' n' [.col 6]) : LoopV L16_0 Try.prog F K n [.col 6] (BlkQ 2 Q):=by
 have ht:=hs.t
 unfold lim at ht
 refine LoopV.of (fun t F K n ms => ∃ i,t = s.tables.length - i ∧ i ≤ s.tables.length ∧ F.get 1 = some (.ptr 0 0) ∧ F.get 2 = some (.ptr 1 0) ∧ F.get 5 = some (.int .u32 (lastT s.tables i)) ∧ F.get 39 = some (eTbl.ds s.tables) ∧ F.get 40 = some (.int .i64 (s.tables.length : Int)) ∧ F.get 41 = some (.int .i64 (i : Int)) ∧ S16 s K n ∧ (∀ k,(h : k < s.tables.length) → k < i → TabOk s.tables k h) ∧ ms = [.col 6]) s.tables.length ⟨0,by simp,by simp,f1,f2,by simp [lastT_0,f5],f39,f40,by simp [f41],S,fun k _ h => by omega,rfl⟩ ?_
 clear S f1 f2 f5 f39 f40 f41 F K n
 rintro t F K n ms ⟨i,rfl,hil,f1,f2,f5,f39,f40,f41,S,hP,rfl⟩
 by_cases hlt : i < s.tables.length
 ·
  have hx:=eTbl.ix (ik:=.i64) hlt
  have hld:=fun H => eTbl.ldN s.tables[i] (eTbl.l (s.tables.drop (i + 1))) H
  have S1:=S.alloc (.cells 4 [] [.int .u32 0,.str [],.cst (.slice none 0 0),.int .u32 0] .nil) (.cells 4 [] (eTbl.cells s.tables[i]) .nil)
  have hsl:=eTbl.slHi (l:=s.tables) (i:=i) hil
  simp [L16_0,R16_11,R16_12,f39,f40,f41,hlt,hx,hld,Enc.av]
  generalize hK1 : Tr.put (Tr.put K n _) n _ = K1 at S1 ⊢
  have kn : K1.get n = some (.cells 4 [] (eTbl.cells s.tables[i]) .nil):=by rw [← hK1]; simp
  clear hK1
  have kn':=kn
  rw [eTbl_c] at kn'
  have k0:=S1.k0
  rw [eSch_c] at k0
  have no : ¬ TabOk s.tables i hlt → ¬ TabsOk s.tables:=fun h h2 => h (h2 i hlt)
  have k1:=S1.k1
  have hne : ∀ b,b < n → ¬ b = n:=fun b h => by omega
  by_cases h1 : s.tables[i].id ≤ lastT s.tables i
  ·
   simp [R16_13,kn',f5,h1,R16_14,f2,k1]
   refine hbad (no fun h => absurd h.id (by omega)) _ _ _ S1.re ?_
   simp [f2]
  simp [R16_13,kn',f5,h1]
  refine CalV.pure (name44 s.tables[i].name) ?_
  by_cases h2 : NameOk s.tables[i].name
  ·
   simp [h2,kn']
   refine CalV.pure (may45 s.tables[i].cols) ?_
   by_cases h3 : ColsOk s.tables[i].cols
   ·
    simp [h3,f1,k0,eSl,oev,hsl]
    refine CalV.same (conTbl (p:=fun d => decide (d.name = s.tables[i].name)) (first:=[]) (cap:=[.ptr n 0]) (s.tables.take i) (by simp; unfold lim; omega) fun d _ => tbl47 d s.tables[i] n K1 (n + 1) kn S1.top) ?_
    by_cases h4 : ∃ t ∈ s.tables.take i,t.name = s.tables[i].name
    ·
     have h4' : ((s.tables.take i).any fun d => decide (d.name = s.tables[i].name)) = true:=by simpa using h4
     simp [h4',R16_14,f2,k1]
     refine hbad (no fun h => ?_) _ _ _ S1.re ?_
     · obtain ⟨t,ht1,ht2⟩:=h4; exact h.new t ht1 ht2
     · simp [f2]
    ·
     have h4' : ((s.tables.take i).any fun d => decide (d.name = s.tables[i].name)) = false:=by
      rw [Bool.eq_false_iff]; intro h; exact h4 (by simpa using h)
     simp [h4',R16_15,R16_16,kn',f1,f2,f39,f40,f41,wrap_nat i (by omega)]
     refine ⟨_,by omega,i + 1,rfl,hlt,by simp [lastT_s hlt],rfl,S1,fun k h hk => ?_⟩
     by_cases e : k = i
     · subst e; exact ⟨by omega,h2,h3,fun t ht1 ht2 => h4 ⟨t,ht1,ht2⟩⟩
     · exact hP k h (by omega)
   ·
    simp [h3,R16_14,f2,k1]
    refine hbad (no fun h => h3 h.cols) _ _ _ S1.re ?_
    simp [f2]
  ·
   simp [h2,R16_14,f2,k1]
   refine hbad (no fun h => h2 h.name) _ _ _ S1.re ?_
   simp [f2]
 ·
  obtain rfl : i = s.tables.length:=by omega
  simp [L16_0,R16_11,f40,f41]
  refine hok (fun k h => hP k h h) _ _ _ S ?_ ?_
  · simp [f1]
  · simp [f2]
def lastI (l : List Ixd) (i : Nat) : Int:=match (l.take i).getLast? with
 | some t => t.id
 | none => 0
theorem lastI_0 (l : List Ixd) : lastI l 0 = 0:=by simp [lastI]
theorem lastI_s {l : List Ixd} {i : Nat} (h : i < l.length) : lastI l (i + 1) = l[i].id:=by
 unfold lastI; rw [List.take_add_one,List.getElem?_eq_getElem h]; simp only [Option.toList,List.getLast?_concat]
structure IxOk (s : Sch) (i : Nat) (h : i < s.indexes.length) : Prop where
 id : lastI s.indexes i < s.indexes[i].id
 name : NameOk s.indexes[i].name
 table : (s.table s.indexes[i].table).2 = true
 cols : PlacesOk (s.table s.indexes[i].table).1 s.indexes[i].cols
 new : ∀ t ∈ s.indexes.take i,t.name ≠ s.indexes[i].name
def IxsOk (s : Sch) : Prop:=∀ i h,IxOk s i h
theorem may16b (s : Sch) (hs : s.fine) (F : Fr) (K : Hp) (n : Nat) (Q : QA) (S : S16 s K n) (f1 : F.get 1 = some (.ptr 0 0)) (f2 : F.get 2 = some (.ptr 1 0)) (f5 : F.get 5 = some (.int .u32 0)) (f39 : F.get 74 = some (eIxd.ds s.indexes)) (f40 : F.get 75 = some (.int .i64 (s.indexes.length : Int))) (f41 : F.get 76 = some (.int .i64 0))
  (hok : IxsOk s → ∀ F' K' n',S16 s K' n' → F'.get 1 = some (.ptr 0 0) → F'.get 2 = some (.ptr 1 0) → Q .normal F' K' n' [.col 6])
  (hbad : ¬ IxsOk s → ∀ F' K' n',S16 s K' n' → F'.get 2 = some (.ptr 1 0) → Q .ret F' K' n' [.col 6]) : LoopV L16_1 Try.prog F K n [.col 6] (BlkQ 4 Q):=by
 have ht:=hs.i
 unfold lim at ht
 refine LoopV.of (fun t F K n ms => ∃ i,t = s.indexes.length - i ∧ i ≤ s.indexes.length ∧ F.get 1 = some (.ptr 0 0) ∧ F.get 2 = some (.ptr 1 0) ∧ F.get 5 = some (.int .u32 (lastI s.indexes i)) ∧ F.get 74 = some (eIxd.ds s.indexes) ∧ F.get 75 = some (.int .i64 (s.indexes.length : Int)) ∧ F.get 76 = some (.int .i64 (i : Int)) ∧ S16 s K n ∧ (∀ k,(h : k < s.indexes.length) → k < i → IxOk s k h) ∧ ms = [.col 6]) s.indexes.length ⟨0,by simp,by simp,f1,f2,by simp [lastI_0,f5],f39,f40,by simp [f41],S,fun k _ h => by omega,rfl⟩ ?_
 clear S f1 f2 f5 f39 f40 f41 F K n
 rintro t F K n ms ⟨i,rfl,hil,f1,f2,f5,f39,f40,f41,S,hP,rfl⟩
 by_cases hlt : i < s.indexes.length
 ·
  have hx:=eIxd.ix (ik:=.i64) hlt
  have hld:=fun H => eIxd.ldN s.indexes[i] (eIxd.l (s.indexes.drop (i + 1))) H
  have S1:=S.alloc (.cells 6 [] [.int .u32 0,.int .u32 0,.str [],.cst (.slice none 0 0),.bool false,.int .u32 0] .nil) (.cells 6 [] (eIxd.cells s.indexes[i]) .nil)
  have hsl:=eIxd.slHi (l:=s.indexes) (i:=i) hil
  simp [L16_1,R16_19,R16_20,f39,f40,f41,hlt,hx,hld,Enc.av]
  generalize hK1 : Tr.put (Tr.put K n _) n _ = K1 at S1 ⊢
  have kn : K1.get n = some (.cells 6 [] (eIxd.cells s.indexes[i]) .nil):=by rw [← hK1]; simp
  clear hK1
  have kn':=kn
  rw [eIxd_c] at kn'
  have k0:=S1.k0
  rw [eSch_c] at k0
  have no : ¬ IxOk s i hlt → ¬ IxsOk s:=fun h h2 => h (h2 i hlt)
  have h23:=table23 s hs s.indexes[i].table
  have hav : eSch.av s = .agg [eTbl.ds s.tables,eIxd.ds s.indexes] 2:=rfl
  rw [hav] at h23
  simp [R16_21,f1,k0,kn']
  refine CalV.pure h23 ?_
  have hcl : (s.table s.indexes[i].table).1.cols.length ≤ lim:=firstD_len (Q:=fun t : Tbl => t.cols.length ≤ lim) (by simp [Tbl.zero,lim]) hs.tc
  have h48:=fun c => places48 (s.table s.indexes[i].table).1 c hcl
  generalize hT : s.table s.indexes[i].table = T at h48 hcl ⊢
  obtain ⟨t,ok⟩:=T
  have S2:=S1.alloc (.cells 4 [] [.int .u32 0,.str [],.cst (.slice none 0 0),.int .u32 0] .nil) (.cells 4 [] (eTbl.cells t) .nil)
  simp [Enc.av]
  generalize hK2 : Tr.put (Tr.put K1 (n + 1) _) (n + 1) _ = K2 at S2 ⊢
  have kn2 : K2.get n = some (.cells 6 [] (eIxd.cells s.indexes[i]) .nil):=by rw [← hK2]; simp [kn]
  have kt : K2.get (n + 1) = some (.cells 4 [] (eTbl.cells t) .nil):=by rw [← hK2]; simp
  clear hK2 kn kn' k0 S1
  have kn':=kn2
  rw [eIxd_c] at kn'
  have k0:=S2.k0
  rw [eSch_c] at k0
  have k1:=S2.k1
  have h48':=h48 s.indexes[i].cols
  simp only [Enc.av] at h48'
  by_cases h1 : s.indexes[i].id ≤ lastI s.indexes i
  ·
   simp [R16_22,kn',f5,h1,R16_23,f2,k1]
   refine hbad (no fun h => absurd h.id (by omega)) _ _ _ S2.re ?_
   simp [f2]
  simp [R16_22,kn',f5,h1]
  refine CalV.pure (name44 s.indexes[i].name) ?_
  by_cases h2 : NameOk s.indexes[i].name
  ·
   cases ok with
   | false =>
    simp [h2,R16_23,f2,k1]
    refine hbad (no fun h => ?_) _ _ _ S2.re ?_
    · have:=h.table; rw [hT] at this; simp at this
    · simp [f2]
   | true =>
   simp [h2,kn',kt]
   refine CalV.pure h48' ?_
   by_cases h3 : PlacesOk t s.indexes[i].cols
   ·
    simp [h3,f1,k0,eSl,oev,hsl]
    refine CalV.same (conIxd (p:=fun d => decide (d.name = s.indexes[i].name)) (first:=[]) (cap:=[.ptr n 0]) (s.indexes.take i) (by simp; unfold lim; omega) fun d _ => ixd50 d s.indexes[i] n K2 (n + 1 + 1) kn2 S2.top) ?_
    by_cases h4 : ∃ t ∈ s.indexes.take i,t.name = s.indexes[i].name
    ·
     have h4' : ((s.indexes.take i).any fun d => decide (d.name = s.indexes[i].name)) = true:=by simpa using h4
     simp [h4',R16_23,f2,k1]
     refine hbad (no fun h => ?_) _ _ _ S2.re ?_
     · obtain ⟨t,ht1,ht2⟩:=h4; exact h.new t ht1 ht2
     · simp [f2]
    ·
     have h4' : ((s.indexes.take i).any fun d => decide (d.name = s.indexes[i].name)) = false:=by
      rw [Bool.eq_false_iff]; intro h; exact h4 (by simpa using h)
     simp [h4',R16_24,R16_25,kn',f1,f2,f39,f40,f41,wrap_nat i (by omega)]
     refine ⟨_,by omega,i + 1,rfl,hlt,by simp [lastI_s hlt],rfl,S2,fun k h hk => ?_⟩
     by_cases e : k = i
     · subst e; exact ⟨by omega,h2,by rw [hT],by rw [hT]; exact h3,fun t ht1 ht2 => h4 ⟨t,ht1,ht2⟩⟩
     · exact hP k h (by omega)
   ·
    simp [h3,R16_23,f2,k1]
    refine hbad (no fun h => h3 ?_) _ _ _ S2.re ?_
    · have:=h.cols; rwa [hT] at this
    simp [f2]
  ·
   simp [h2,R16_23,f2,k1]
   refine hbad (no fun h => h2 h.name) _ _ _ S2.re ?_
   simp [f2]
 ·
  obtain rfl : i = s.indexes.length:=by omega
  simp [L16_1,R16_19,f40,f41]
  refine hok (fun k h => hP k h h) _ _ _ S ?_ ?_
  · simp [f1]
  · simp [f2]
@[simp] theorem map_len (b : Nat) : (AV.map b).len = 1:=rfl
@[simp] theorem map_cells (b : Nat) : (AV.map b).cells = [.map b]:=rfl
@[simp] theorem map_one (b : Nat) : (AV.map b).one = true:=rfl
structure SchOk (s : Sch) : Prop where
 t : s.tables.length ≤ 32
 i : s.indexes.length ≤ 64
 pages : PgOk s.pages
 tabs : TabsOk s.tables
 ixs : IxsOk s
theorem may16 (s : Sch) (hs : s.fine) : FnPure Try.prog 16 [eSch.av s] (.bool (decide (SchOk s))):=by
 refine pureV c16 (by simp) (by simp) (by simp [A16]) fun F hF => ?_
 by_cases h1 : 32 < s.tables.length
 ·
  have : ¬ SchOk s:=fun h => absurd h.t (by omega)
  simp [A16,B16,R16_0,R16_1,R16_2,hF,Enc.av,eSch_c,Enc.len_ds,show (32 : Int) < (s.tables.length : Int) by omega]
  exact .bool (by simp [this])
 have h1' : ¬ (32 : Int) < (s.tables.length : Int):=by omega
 by_cases h2 : 64 < s.indexes.length
 ·
  have : ¬ SchOk s:=fun h => absurd h.i (by omega)
  simp [A16,B16,R16_0,R16_1,R16_2,hF,Enc.av,eSch_c,Enc.len_ds,h1',show (64 : Int) < (s.indexes.length : Int) by omega]
  exact .bool (by simp [this])
 have h2' : ¬ (64 : Int) < (s.indexes.length : Int):=by omega
 simp [A16,B16,R16_0,R16_1,hF,Enc.av,eSch_c,Enc.len_ds,h1',h2',R16_3,R16_4,eMkmap]
 refine CalV.of (pages43 s _ _) ?_
 rintro v K n ⟨rfl,rfl,rfl⟩
 simp
 refine RngV.of ?_
 generalize hF1 : (Fp 24 _ _ : Fr) = F1
 have f1 : F1.get 1 = some (.ptr 0 0):=by rw [← hF1]; simp
 have f2 : F1.get 2 = some (.ptr 1 0):=by rw [← hF1]; simp
 have f3 : F1.get 3 = some (.ptr 3 0):=by rw [← hF1]; simp
 clear hF1 hF F
 refine CallR.mono (pages85 s hs F1 _ _ f2 f3 ?_) ?_
 ·
  refine ⟨by simp [eSch_c],by simp,by simp [mpE],by simp,by simp,by simp,by simp,by omega,fun b hb => ?_⟩
  simp [show ¬ b = 0 by omega,show ¬ b = 1 by omega,show ¬ b = 2 by omega,show ¬ b = 3 by omega,show ¬ b = 4 by omega,show ¬ b = 5 by omega,show ¬ b = 6 by omega]
 ·
  rintro v K n (⟨hp,S⟩ | ⟨hp,X⟩)
  ·
   refine ⟨_,_,_,_,_,_,_,S.k5,by simp,by simp,?_⟩
   have S1 : S16 s (K.put 5 none) n:=⟨by simp [S.k0],by simp [S.k1],by simp [S.k6],S.n7,fun b hb => by
    have:=S.n7
    simp [show ¬ b = 5 by omega,S.top b hb]⟩
   clear S
   generalize Tr.put K 5 none = K1 at S1 ⊢
   have k0:=S1.k0
   rw [eSch_c] at k0
   simp [R16_9,R16_10,f1,k0,Enc.len_ds]
   refine may16a s hs _ _ _ _ S1 (by simp [f1]) (by simp [f2]) (by simp) (by simp) (by simp) (by simp) (fun ht F' K' n' S' g1 g2 => ?_) (fun ht F' K' n' S' g2 => ?_)
   ·
    have k0:=S'.k0
    rw [eSch_c] at k0
    simp [R16_17,R16_18,g1,k0,Enc.len_ds]
    refine may16b s hs _ _ _ _ S' (by simp [g1]) (by simp [g2]) (by simp) (by simp) (by simp) (by simp) (fun hi F3 K3 n3 S3 w1 w2 => ?_) (fun hi F3 K3 n3 S3 w2 => ?_)
    ·
     have : SchOk s:=⟨by omega,by omega,hp,ht,hi⟩
     have k1:=S3.k1
     have k6:=S3.k6
     simp [R16_26,w2,k1,k6]
     exact .bool (by simp [this])
    ·
     have : ¬ SchOk s:=fun h => hi h.ixs
     have k1:=S3.k1
     have k6:=S3.k6
     simp [w2,k1,k6]
     exact .bool (by simp [this])
   ·
    have : ¬ SchOk s:=fun h => ht h.tabs
    have k1:=S'.k1
    have k6:=S'.k6
    simp [g2,k1,k6]
    exact .bool (by simp [this])
  ·
   obtain ⟨k1,⟨nt,G,ps,a,b,k5⟩,k6⟩:=X
   have : ¬ SchOk s:=fun h => hp h.pages
   refine ⟨_,_,_,_,_,_,_,k5,by simp,by simp,?_⟩
   simp [f2,k1,k6]
   exact .bool (by simp [this])
noncomputable def M5 : CT:=.seq (.seq R5_27 (.cond (slotG 107) (.seq R5_28 .ret) .skip)) (.seq R5_29 .ret)
structure OutB (s : Sch) (b : Bnd) (err : Int) (K : Hp) : Prop where
 k2 : K.get 2 = some (.cells 25 [] (outZ 0) .nil)
 k3 : K.get 3 = some (bdS s err)
 k4 : ∃ l,K.get 4 = some (.cells 25 [] l .nil) ∧ l.length = 25 ∧ allOne l = true ∧ ∀ h,FIL h l b.cells
theorem FIL.frzL {h : Hf} : ∀ {l l' : List AV},FIL h l l' → PureL l' → FrzL h l l'
 | [],[],_,_ => .nil
 | [],_ :: _,k,_ => by simp [FIL] at k
 | _ :: _,[],k,_ => by simp [FIL] at k
 | v :: l,v' :: l',k,hp => by
  simp only [filCons] at k
  simp at hp
  refine .cons _ _ _ _ ?_ (FIL.frzL k.2 hp.2)
  rcases k.1 with rfl | h1
  · exact .pure _ hp.1
  · exact h1
theorem outZ_fil (k : Int) (h : Hf) : FIL h (outZ k) (Bnd.cells { kind:=k }):=by
 simp [outZ,Bnd.cells,Tbl.zero,Ixd.zero]
@[simp] theorem outZ_len (k : Int) : (outZ k).length = 25:=rfl
theorem outZ_one (k : Int) : allOne (outZ k) = true:=by simp [outZ]
def bndZ : Bnd:={ kind:=0 }
def finB (r : Bnd × Int) : Bnd × Int:=if r.2 = 0 then r else (bndZ,r.2)
theorem bind5_end (s : Sch) (b : Bnd) (err : Int) (F : Fr) (K : Hp) (n : Nat) (f4 : F.get 4 = some (.ptr 2 0)) (f6 : F.get 6 = some (.ptr 3 0)) (f7 : F.get 7 = some (.ptr 4 0)) (O : OutB s b err K) :
  VC Try.prog M5 F K n [] (RetQ [rCelN 4 25,rTmp 5] fun v1 H' _ => Frz H'.get v1 (.tup [.agg (finB (b,err)).1.cells 25,.int .i64 (finB (b,err)).2])):=by
 obtain ⟨k2,k3,l,k4,hl,ha,hz⟩:=O
 simp only [bdS,bdr] at k3
 have hzo : outZ 0 = [(.int .i64 0),(.str []),(.int .u32 0),(.str []),(.cst (.slice none 0 0)),(.int .u32 0),(.int .u32 0),(.int .u32 0),(.str []),(.cst (.slice none 0 0)),(.bool false),(.int .u32 0),(.cst (.slice none 0 0)),(.cst (.slice none 0 0)),(.cst (.slice none 0 0)),(.cst (.slice none 0 0)),(.cst (.slice none 0 0)),(.cst (.slice none 0 0)),(.cst (.slice none 0 0)),(.cst (.slice none 0 0)),(.cst (.slice none 0 0)),(.cst (.slice none 0 0)),(.bool false),(.bool false),(.int .i64 0)]:=rfl
 have zl:=outZ_len 0
 have zo:=outZ_one 0
 have zf:=outZ_fil 0
 by_cases h0 : err = 0
 ·
  subst h0
  generalize outZ 0 = z at *
  have hp : patch z 0 l = some l:=patch_all (by omega)
  simp [M5,R5_27,R5_29,f4,f6,f7,k2,k3,k4,ha,hp,finB]
  exact .tup _ _ (.cons _ _ _ _ (.agg _ _ _ ((hz _).frzL (by simp))) (.cons _ _ _ _ (.pure _ (by simp)) .nil))
 ·
  simp [M5,R5_27,R5_28,f6,k3,h0,finB]
  rw [← hzo]
  generalize outZ 0 = z at *
  have hp : patch z 0 z = some z:=patch_all rfl
  refine DrwV.of (ce0_ok (P:=Try.prog)) ?_
  simp [clearF_get,f4,f6,k2,k3,zo,hp]
  exact .tup _ _ (.cons _ _ _ _ (.agg _ _ _ ((zf _).frzL (by simp))) (.cons _ _ _ _ (.pure _ (by simp)) .nil))
noncomputable def C5 : CT:=(.seq R5_6 (.cond (slotG 27) R5_7 (.seq R5_8 (.cond (slotG 32) R5_9 (.seq R5_10 (.cond (slotG 39) R5_11 (.seq R5_12 (.cond (slotG 44) (.seq R5_13 (.seq R5_14 (.seq R5_15 R5_16))) (.seq R5_17 (.cond (slotG 67) R5_18 (.seq R5_19 (.cond (slotG 72) (.seq R5_20 (.seq R5_21 (.cond (slotG 83) R5_22 .skip))) (.seq R5_23 (.cond (slotG 92) R5_24 (.seq R5_25 (.cond (slotG 97) R5_26 .skip))))))))))))))))
theorem b5 : B5 = (.seq R5_0 (.seq (.seq R5_1 (.cond (slotG 17) (.seq R5_2 .ret) .skip)) (.seq R5_3 (.seq R5_4 (.seq (.seq R5_5 (.block 0 C5)) M5))))):=rfl
noncomputable def unindexB (s : Sch) (x : Stm) (err : Int) : Bnd × Int:=({ kind:=x.kind,table:=(s.table (s.index x.name).1.table).1,index:=(s.index x.name).1 },keep err 202 (!(s.index x.name).2))
noncomputable def deleteB (s : Sch) (x : Stm) (err : Int) : Bnd × Int :=
 if keep err 200 (!(s.named x.table).2) ≠ 0 then ({ kind:=x.kind,table:=(s.named x.table).1 },keep err 200 (!(s.named x.table).2))
 else ({ kind:=x.kind,table:=(s.named x.table).1,cond:=(condB [(s.named x.table).1.name] [(s.named x.table).1] x.cond 0).1 },(condB [(s.named x.table).1.name] [(s.named x.table).1] x.cond 0).2)
noncomputable def bodyB (s : Sch) (x : Stm) : Bnd × Int :=
 if x.kind = 1 then createB s x 0
 else if x.kind = 2 then ({ kind:=x.kind,table:=(s.named x.table).1 },keep 0 200 (!(s.named x.table).2))
 else if x.kind = 3 then indexB s x 0
 else if x.kind = 4 then unindexB s x 0
 else if x.kind = 5 then insertB s x 0
 else if x.kind = 6 then deleteB s x 0
 else if x.kind = 7 then updateB s x 0
 else if x.kind = 8 then queryB s x.q x.kind 0
 else ({ kind:=x.kind },0)
noncomputable def bindB (s : Sch) (x : Stm) : Bnd × Int:=if SchOk s ∧ x.may = true then finB (bodyB s x) else (bndZ,1)
structure E5 (s : Sch) (x : Stm) (F : Fr) (K : Hp) : Prop where
 f2 : F.get 2 = some (.ptr 0 0)
 f3 : F.get 3 = some (.ptr 1 0)
 f4 : F.get 4 = some (.ptr 2 0)
 f6 : F.get 6 = some (.ptr 3 0)
 f7 : F.get 7 = some (.ptr 4 0)
 f26 : F.get 26 = some (.int .i64 x.kind)
 k0 : K.get 0 = some (.cells 2 [] (eSch.cells s) .nil)
 k1 : K.get 1 = some (.cells 31 [] x.cells .nil)
 k2 : K.get 2 = some (.cells 25 [] (outZ 0) .nil)
 k3 : K.get 3 = some (bdS s 0)
 k4 : K.get 4 = some (.cells 25 [] (outZ x.kind) .nil)
 top : Top K 5
def Fin5 (s : Sch) (x : Stm) (Q : QA) : Prop:=∀ F' K' n',F'.get 4 = some (.ptr 2 0) → F'.get 6 = some (.ptr 3 0) → F'.get 7 = some (.ptr 4 0) → OutB s (bodyB s x).1 (bodyB s x).2 K' → Q .normal F' K' n' []
theorem Bnd.one (b : Bnd) : allOne b.cells = true:=by simp [Bnd.cells,Enc.ds]
theorem outB_put {s : Sch} {b : Bnd} {e : Int} {K : Hp} (k2 : K.get 2 = some (.cells 25 [] (outZ 0) .nil)) : OutB s b e ((K.put 3 (some (bdS s e))).put 4 (some (.cells 25 [] b.cells .nil))) :=
 ⟨by simp [k2],by simp,_,by simp,rfl,b.one,fun h => FIL.refl h _⟩
theorem bind5k1 (s : Sch) (hs : s.fine) (x : Stm) (hx : x.sm) (hk : x.kind = 1) (F : Fr) (K : Hp) (Q : QA) (E : E5 s x F K) (hQ : Fin5 s x Q) : VC Try.prog C5 F K 5 [] Q:=by
 obtain ⟨f2,f3,f4,f6,f7,f26,k0,k1,k2,k3,k4,top⟩:=E
 have hc:=create18 s hs x hx.cols 3 4 0 K 5 (by omega) (by omega) (by omega) k3 k4
 have hb : bodyB s x = createB s x 0:=by simp [bodyB,hk]
 have xl:=x.cells_len
 rw [← hb] at hc
 have hav : x.av = .agg x.cells 31:=Eq.trans rfl rfl
 rw [hav] at hc
 rw [hk] at f26
 generalize x.cells = xs at *
 simp [C5,R5_6,R5_7,f26,f3,f6,f7,k1]
 refine CalV.ok hc ?_
 simp
 exact hQ _ _ _ (by simp [f4]) (by simp [f6]) (by simp [f7]) (outB_put k2)
theorem bind5k3 (s : Sch) (hs : s.fine) (x : Stm) (hx : x.sm) (hk : x.kind = 3) (F : Fr) (K : Hp) (Q : QA) (E : E5 s x F K) (hQ : Fin5 s x Q) : VC Try.prog C5 F K 5 [] Q:=by
 obtain ⟨f2,f3,f4,f6,f7,f26,k0,k1,k2,k3,k4,top⟩:=E
 have hc:=index20 s hs x hx.on 3 4 0 K 5 (by omega) (by omega) (by omega) k3 k4
 have hb : bodyB s x = indexB s x 0:=by simp [bodyB,hk]
 have xl:=x.cells_len
 rw [← hb] at hc
 have hav : x.av = .agg x.cells 31:=Eq.trans rfl rfl
 rw [hav] at hc
 rw [hk] at f26
 generalize x.cells = xs at *
 simp [C5,R5_6,R5_8,R5_10,R5_11,f26,f3,f6,f7,k1]
 refine CalV.ok hc ?_
 simp
 exact hQ _ _ _ (by simp [f4]) (by simp [f6]) (by simp [f7]) (outB_put k2)
theorem bind5k5 (s : Sch) (hs : s.fine) (x : Stm) (hx : x.sm) (hr : ∀ r ∈ x.rows,r.length ≤ lim ∧ ∀ e ∈ r,e.sz ≤ lim ∧ e.may = true) (hk : x.kind = 5) (F : Fr) (K : Hp) (Q : QA) (E : E5 s x F K) (hQ : Fin5 s x Q) : VC Try.prog C5 F K 5 [] Q:=by
 obtain ⟨f2,f3,f4,f6,f7,f26,k0,k1,k2,k3,k4,top⟩:=E
 have hc:=insert24 s hs x hx.rows hr 3 4 0 K 5 (by omega) (by omega) (by omega) k3 k4
 have hb : bodyB s x = insertB s x 0:=by simp [bodyB,hk]
 have xl:=x.cells_len
 rw [← hb] at hc
 have hav : x.av = .agg x.cells 31:=Eq.trans rfl rfl
 rw [hav] at hc
 rw [hk] at f26
 generalize x.cells = xs at *
 simp [C5,R5_6,R5_8,R5_10,R5_12,R5_17,R5_18,f26,f3,f6,f7,k1]
 refine CalV.ok hc ?_
 simp
 exact hQ _ _ _ (by simp [f4]) (by simp [f6]) (by simp [f7]) (outB_put k2)
theorem bind5k7 (s : Sch) (hs : s.fine) (x : Stm) (hx : x.sm) (hr : ∀ y ∈ x.sets,y.e.sz ≤ lim ∧ y.e.may = true) (hcm : x.cond.maybe = true) (hk : x.kind = 7) (F : Fr) (K : Hp) (Q : QA) (E : E5 s x F K) (hQ : Fin5 s x Q) : VC Try.prog C5 F K 5 [] Q:=by
 obtain ⟨f2,f3,f4,f6,f7,f26,k0,k1,k2,k3,k4,top⟩:=E
 have hc:=update27 s hs x hx.sets hr hx.cond hcm 3 4 K 5 (by omega) (by omega) (by omega) k3 k4
 have hb : bodyB s x = updateB s x 0:=by simp [bodyB,hk]
 have xl:=x.cells_len
 rw [← hb] at hc
 have hav : x.av = .agg x.cells 31:=Eq.trans rfl rfl
 rw [hav] at hc
 rw [hk] at f26
 generalize x.cells = xs at *
 simp [C5,R5_6,R5_8,R5_10,R5_12,R5_17,R5_19,R5_23,R5_24,f26,f3,f6,f7,k1]
 refine CalV.ok hc ?_
 simp
 exact hQ _ _ _ (by simp [f4]) (by simp [f6]) (by simp [f7]) (outB_put k2)
theorem bind5k8 (s : Sch) (hs : s.fine) (x : Stm) (hq : x.q.fine s) (hk : x.kind = 8) (F : Fr) (K : Hp) (Q : QA) (E : E5 s x F K) (hQ : Fin5 s x Q) : VC Try.prog C5 F K 5 [] Q:=by
 obtain ⟨f2,f3,f4,f6,f7,f26,k0,k1,k2,k3,k4,top⟩:=E
 have hc:=query28 s hs x.q hq x.kind 3 4 0 K 5 (by omega) (by omega) (by omega) k3 k4
 have hb : bodyB s x = queryB s x.q x.kind 0:=by simp [bodyB,hk]
 have xl:=x.cells_len
 have xq:=x.tq
 rw [← hb] at hc
 have hav : x.q.av = .agg x.q.cells 15:=Eq.trans rfl rfl
 rw [hav] at hc
 rw [hk] at f26
 generalize x.cells = xs at *
 generalize x.q.cells = qs at *
 have hg : grab 31 [] xs .nil 16 15 = some qs:=by simp [xl,xq]
 simp [C5,R5_6,R5_8,R5_10,R5_12,R5_17,R5_19,R5_23,R5_25,R5_26,f26,f3,f6,f7,k1,hg]
 refine CalV.ok hc ?_
 simp
 exact hQ _ _ _ (by simp [f4]) (by simp [f6]) (by simp [f7]) (outB_put k2)
theorem bind5k9 (s : Sch) (x : Stm) (h1 : ¬ x.kind = 1) (h2 : ¬ x.kind = 2) (h3 : ¬ x.kind = 3) (h4 : ¬ x.kind = 4) (h5 : ¬ x.kind = 5) (h6 : ¬ x.kind = 6) (h7 : ¬ x.kind = 7) (h8 : ¬ x.kind = 8) (F : Fr) (K : Hp) (Q : QA) (E : E5 s x F K) (hQ : Fin5 s x Q) : VC Try.prog C5 F K 5 [] Q:=by
 obtain ⟨f2,f3,f4,f6,f7,f26,k0,k1,k2,k3,k4,top⟩:=E
 have hb : bodyB s x = ({ kind:=x.kind },0):=by simp [bodyB,h1,h2,h3,h4,h5,h6,h7,h8]
 have hO : OutB s (bodyB s x).1 (bodyB s x).2 K:=by
  rw [hb]; exact ⟨k2,k3,_,k4,rfl,outZ_one _,outZ_fil _⟩
 generalize x.kind = kk at f26 h1 h2 h3 h4 h5 h6 h7 h8
 simp [C5,R5_6,R5_8,R5_10,R5_12,R5_17,R5_19,R5_23,R5_25,f26,h1,h2,h3,h4,h5,h6,h7,h8]
 exact hQ _ _ _ (by simp [f4]) (by simp [f6]) (by simp [f7]) hO
end Go.Abs
