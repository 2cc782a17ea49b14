/- How a schema and a statement are read. -/
import Derived.Test.YtfdoeenlgkkaiaaBt12
import Derived.Test.YtfdoeenlgkkaiaaAbs5
import Derived.Test.YtfdoeenlgkkaiaaRows
namespace Go.Abs
open Go.Proofs Go.Proofs.Ytfdoeenlgkkaiaa
set_option maxRecDepth 100000
theorem all2_len {α H : Type} {Q : α → Nat → Prop} (hQ : ∀ a n,Q a n → 1 ≤ n) {l : List α} {ds : List (DataW H)} (h : All2 (fun a d => Q a (Rows.uptoBulk d)) l ds) : l.length ≤ Rows.uptoBulkAll ds:=by
 induction h with
 | nil => simp [Rows.uptoBulkAll]
 | cons h1 _ ih => have:=hQ _ _ h1; simp [Rows.uptoBulkAll]; omega
theorem all2_mem {α H : Type} {Q : α → Nat → Prop} (hm : ∀ a m n,m ≤ n → Q a m → Q a n) {l : List α} {ds : List (DataW H)} (h : All2 (fun a d => Q a (Rows.uptoBulk d)) l ds) : ∀ a ∈ l,Q a (Rows.uptoBulkAll ds):=by
 induction h with
 | nil => intro a ha; cases ha
 | cons h1 _ ih =>
  intro a ha
  rcases List.mem_cons.1 ha with rfl | ha
  · exact hm _ _ _ (by simp [Rows.uptoBulkAll]) h1
  · exact hm _ _ _ (by simp [Rows.uptoBulkAll]) (ih a ha)
section
variable {H : Type} {enc : TypeId × Value → H} {w : World} {base : Nat} {spare : Nat → Bool} {held : Bool}
theorem read_list {α : Type} {k : Nat} (E : Enc α k) {Q : α → Nat → Prop} (hk : 0 < k) (h1 : ∀ a n,Q a n → 1 ≤ n) (hm : ∀ a m n,m ≤ n → Q a m → Q a n) {t e : TypeId} {fuel : Nat} {cs : List Value} {x : DataW H × List MemPlace} (ht : Try.prog.underlying t = some (.slice e)) (hs : Try.prog.cellsOf e = k)
  (hel : ∀ n cs y,n < fuel → DataW.trod enc Try.prog w base spare held n e cs = some y → ∃ a,VRs PhN (DofW w) (E.cells a) cs ∧ Q a (Rows.uptoBulk y.1)) (h : DataW.trod enc Try.prog w base spare held fuel t cs = some x) :
  ∃ v l,cs = [v] ∧ VR PhN (DofW w) (E.ds l) v ∧ l.length ≤ Rows.uptoBulk x.1 ∧ 1 ≤ Rows.uptoBulk x.1 ∧ ∀ a ∈ l,Q a (Rows.uptoBulk x.1):=by
 obtain ⟨v,l,e,hv,hr⟩:=read_slice (α:=α) (av:=E.cells) (R:=fun a d => Q a (Rows.uptoBulk d)) ht hs hk E.cells_len hel h
 refine ⟨v,l,e,hv,?_⟩
 rcases hr with ⟨rfl,h2⟩ | ⟨ds,rest,e,ha⟩
 · rw [h2]; simp [Rows.uptoBulk]
 ·
  rw [e]
  have h3:=all2_len h1 ha
  have h4:=all2_mem hm ha
  simp only [Rows.uptoBulk]
  exact ⟨by omega,by omega,fun a ha => hm _ _ _ (by omega) (h4 a ha)⟩
theorem cells3 : Try.prog.cellsOf 3 = 1:=by kernel_rfl
theorem cells2 : Try.prog.cellsOf 2 = 1:=by kernel_rfl
theorem cells4 : Try.prog.cellsOf 4 = 1:=by kernel_rfl
theorem cells9 : Try.prog.cellsOf 9 = 1:=by kernel_rfl
theorem cells31 : Try.prog.cellsOf 31 = 3:=by kernel_rfl
theorem cells32 : Try.prog.cellsOf 32 = 1:=by kernel_rfl
theorem cells34 : Try.prog.cellsOf 34 = 8:=by kernel_rfl
theorem cells99 : Try.prog.cellsOf 99 = 3:=by kernel_rfl
theorem cells44 : Try.prog.cellsOf 44 = 4:=by kernel_rfl
theorem cells47 : Try.prog.cellsOf 47 = 6:=by kernel_rfl
theorem cells22 : Try.prog.cellsOf 22 = 1:=by kernel_rfl
theorem cells23 : Try.prog.cellsOf 23 = 1:=by kernel_rfl
theorem cells26 : Try.prog.cellsOf 26 = 1:=by kernel_rfl
theorem cells45 : Try.prog.cellsOf 45 = 1:=by kernel_rfl
theorem cells35 : Try.prog.cellsOf 35 = 1:=by kernel_rfl
theorem cells36 : Try.prog.cellsOf 36 = 1:=by kernel_rfl
theorem cells37 : Try.prog.cellsOf 37 = 1:=by kernel_rfl
theorem cells73 : Try.prog.cellsOf 73 = 9:=by kernel_rfl
theorem cells68 : Try.prog.cellsOf 68 = 10:=by kernel_rfl
theorem cells145 : Try.prog.cellsOf 145 = 2:=by kernel_rfl
theorem cells39 : Try.prog.cellsOf 39 = 15:=by kernel_rfl
theorem cells42 : Try.prog.cellsOf 42 = 1:=by kernel_rfl
def Rq1 {α : Type} (_ : α) (n : Nat) : Prop:=1 ≤ n
def RqE (e : Ex) (n : Nat) : Prop:=e.sz ≤ n
def RqT (t : Tbl) (n : Nat) : Prop:=1 ≤ n ∧ t.cols.length ≤ n
def RqI (t : Ixd) (n : Nat) : Prop:=1 ≤ n ∧ t.cols.length ≤ n
def RqM (x : Itm) (n : Nat) : Prop:=x.e.sz ≤ n
def RqS (x : Src) (n : Nat) : Prop:=x.cond.sz ≤ n
theorem q1_1 {α : Type} (a : α) (n : Nat) (h : Rq1 a n) : 1 ≤ n:=h
theorem q1_m {α : Type} (a : α) (m n : Nat) (h : m ≤ n) (k : Rq1 a m) : Rq1 a n:=Nat.le_trans k h
theorem qT_1 (a : Tbl) (n : Nat) (h : RqT a n) : 1 ≤ n:=h.1
theorem qT_m (a : Tbl) (m n : Nat) (h : m ≤ n) (k : RqT a m) : RqT a n:=⟨Nat.le_trans k.1 h,Nat.le_trans k.2 h⟩
theorem qI_1 (a : Ixd) (n : Nat) (h : RqI a n) : 1 ≤ n:=h.1
theorem qI_m (a : Ixd) (m n : Nat) (h : m ≤ n) (k : RqI a m) : RqI a n:=⟨Nat.le_trans k.1 h,Nat.le_trans k.2 h⟩
theorem qM_1 (a : Itm) (n : Nat) (h : RqM a n) : 1 ≤ n:=Nat.le_trans a.e.sz_pos h
theorem qM_m (a : Itm) (m n : Nat) (h : m ≤ n) (k : RqM a m) : RqM a n:=Nat.le_trans k h
theorem qS_1 (a : Src) (n : Nat) (h : RqS a n) : 1 ≤ n:=Nat.le_trans a.cond.sz_pos h
theorem qS_m (a : Src) (m n : Nat) (h : m ≤ n) (k : RqS a m) : RqS a n:=Nat.le_trans k h
theorem read_int {fuel : Nat} {cs : List Value} {x : DataW H × List MemPlace} (h : DataW.trod enc Try.prog w base spare held fuel 3 cs = some x) : ∃ a,VRs PhN (DofW w) (eInt.cells a) cs ∧ Rq1 a (Rows.uptoBulk x.1):=by
 obtain ⟨i,e,ey,_⟩:=DataW.trod_int Try.underlying3 h
 subst e ey
 exact ⟨i,.cons _ _ _ _ (.int _ _) .nil,by simp [Rq1,Rows.uptoBulk]⟩
theorem read_val {fuel : Nat} {cs : List Value} {x : DataW H × List MemPlace} (h : DataW.trod enc Try.prog w base spare held fuel 31 cs = some x) : ∃ a : Val,VRs PhN (DofW w) (a.cells) cs ∧ True:=by
 obtain ⟨xs,n,rfl,rfl,hl,hx,hf⟩:=DataW.trod_struct Try.underlying31 h
 rw [cells31] at hl
 match cs,hl with
 | [c0,c1,c2],_ =>
 match xs,hx with
 | [x0,x1,x2],_ =>
 have f0:=hf 0 _ rfl
 have f1:=hf 1 _ rfl
 have f2:=hf 2 _ rfl
 simp [cells2,cells3,cells9] at f0 f1 f2
 obtain ⟨i0,e0,_⟩:=DataW.trod_int Try.underlying3 f0
 obtain ⟨i1,e1,_⟩:=DataW.trod_int Try.underlying2 f1
 obtain ⟨s2,e2,_⟩:=DataW.trod_string Try.underlying9 f2
 simp at e0 e1 e2
 subst e0 e1 e2
 refine ⟨⟨i0,i1,(s2.data.toList.map UInt8.toNat)⟩,?_,?_⟩
 ·
  refine .cons _ _ _ _ (.int _ _) ?_
  refine .cons _ _ _ _ (.int _ _) ?_
  refine .cons _ _ _ _ (.str _ _ rfl) ?_
  exact .nil
 · trivial
theorem all2_sz {l : List Ex} {ds : List (DataW H)} (h : All2 (fun (e : Ex) d => e.sz ≤ Rows.uptoBulk d) l ds) : Ex.szL l ≤ Rows.uptoBulkAll ds:=by
 induction h with
 | nil => simp [Ex.szL,Rows.uptoBulkAll]
 | cons h1 _ ih => simp [Ex.szL,Rows.uptoBulkAll]; omega
theorem read_ex : ∀ (N fuel : Nat) (cs : List Value) (x : DataW H × List MemPlace),fuel ≤ N → DataW.trod enc Try.prog w base spare held fuel 34 cs = some x → ∃ e : Ex,VRs PhN (DofW w) (eEx.cells e) cs ∧ RqE e (Rows.uptoBulk x.1)
 | 0,fuel,cs,x,hN,h => by
  obtain rfl : fuel = 0:=by omega
  simp [DataW.trod] at h
 | N + 1,fuel,cs,x,hN,h => by
  obtain ⟨xs,n,rfl,rfl,hl,hx,hf⟩:=DataW.trod_struct Try.underlying34 h
  rw [cells34] at hl
  match cs,hl with
  | [c0,c1,c2,c3,c4,c5,c6,c7],_ =>
   match xs,hx with
   | [x0,x1,x2,x3,x4,x5],_ =>
    have f0:=hf 0 _ rfl
    have f1:=hf 1 _ rfl
    have f2:=hf 2 _ rfl
    have f3:=hf 3 _ rfl
    have f4:=hf 4 _ rfl
    have f5:=hf 5 _ rfl
    simp [cells3,cells9,cells31,cells32] at f0 f1 f2 f3 f4 f5
    obtain ⟨i0,e0,_⟩:=DataW.trod_int Try.underlying3 f0
    obtain ⟨v1,e1,_⟩:=read_val f1
    obtain ⟨s2,e2,_⟩:=DataW.trod_string Try.underlying9 f2
    obtain ⟨s3,e3,_⟩:=DataW.trod_string Try.underlying9 f3
    obtain ⟨i4,e4,_⟩:=DataW.trod_int Try.underlying3 f4
    obtain ⟨v,l,e5,hv,hr⟩:=read_slice (α:=Ex) (av:=eEx.cells) (R:=fun e d => e.sz ≤ Rows.uptoBulk d) Try.underlying32 cells34 (by omega) Ex.cells_len (fun n' cs' y hn' hy => read_ex N n' cs' y (by omega) hy) f5
    simp at e0 e2 e3 e4 e5
    subst e0 e2 e3 e4 e5
    refine ⟨.mk i0 v1 (s2.data.toList.map UInt8.toNat) (s3.data.toList.map UInt8.toNat) i4 l,?_,?_⟩
    ·
     rw [eEx_c]
     simp only [Ex.cells]
     refine .cons _ _ _ _ (.int _ _) ?_
     refine VRs.append (a:=[.int .i64 v1.kind,.int .i64 v1.num,.str v1.s]) (x:=[c1,c2,c3]) e1 ?_
     refine .cons _ _ _ _ (.str _ _ rfl) (.cons _ _ _ _ (.str _ _ rfl) (.cons _ _ _ _ (.int _ _) (.cons _ _ _ _ ?_ .nil)))
     rw [← eEx_l]; exact hv
    ·
     have : Ex.szL l ≤ Rows.uptoBulk x5.1:=by
      rcases hr with ⟨rfl,_⟩ | ⟨ds,rest,e,ha⟩
      · simp [Ex.szL]
      ·
       rw [e]
       have:=all2_sz ha
       simp [Rows.uptoBulk]; omega
     simp [RqE,Ex.sz,Rows.uptoBulk,Rows.uptoBulkAll]
     omega
theorem read_col {fuel : Nat} {cs : List Value} {x : DataW H × List MemPlace} (h : DataW.trod enc Try.prog w base spare held fuel 99 cs = some x) : ∃ a : Col,VRs PhN (DofW w) (eCol.cells a) cs ∧ Rq1 a (Rows.uptoBulk x.1):=by
 obtain ⟨xs,n,rfl,rfl,hl,hx,hf⟩:=DataW.trod_struct Try.underlying99 h
 rw [cells99] at hl
 match cs,hl with
 | [c0,c1,c2],_ =>
 match xs,hx with
 | [x0,x1,x2],_ =>
 have f0:=hf 0 _ rfl
 have f1:=hf 1 _ rfl
 have f2:=hf 2 _ rfl
 simp [cells3,cells4,cells9] at f0 f1 f2
 obtain ⟨s0,e0,_⟩:=DataW.trod_string Try.underlying9 f0
 obtain ⟨i1,e1,_⟩:=DataW.trod_int Try.underlying3 f1
 obtain ⟨b2,e2,_⟩:=DataW.trod_bool Try.underlying4 f2
 simp at e0 e1 e2
 subst e0 e1 e2
 refine ⟨⟨(s0.data.toList.map UInt8.toNat),i1,b2⟩,?_,?_⟩
 ·
  refine .cons _ _ _ _ (.str _ _ rfl) ?_
  refine .cons _ _ _ _ (.int _ _) ?_
  refine .cons _ _ _ _ (.bool _) ?_
  exact .nil
 · simp [Rq1,Rows.uptoBulk]
theorem read_cols {fuel : Nat} {cs : List Value} {x : DataW H × List MemPlace} (h : DataW.trod enc Try.prog w base spare held fuel 26 cs = some x) : ∃ v l,cs = [v] ∧ VR PhN (DofW w) (eCol.ds l) v ∧ l.length ≤ Rows.uptoBulk x.1 ∧ 1 ≤ Rows.uptoBulk x.1 ∧ ∀ a ∈ l,Rq1 a (Rows.uptoBulk x.1) :=
 read_list eCol (Q:=Rq1) (by omega) q1_1 q1_m Try.underlying26 cells99 (fun n' cs' y hn' hy => read_col hy) h
theorem read_ints {fuel : Nat} {cs : List Value} {x : DataW H × List MemPlace} (h : DataW.trod enc Try.prog w base spare held fuel 45 cs = some x) : ∃ v l,cs = [v] ∧ VR PhN (DofW w) (eInt.ds l) v ∧ l.length ≤ Rows.uptoBulk x.1 ∧ 1 ≤ Rows.uptoBulk x.1 ∧ ∀ a ∈ l,Rq1 a (Rows.uptoBulk x.1) :=
 read_list eInt (Q:=Rq1) (by omega) q1_1 q1_m Try.underlying45 cells3 (fun n' cs' y hn' hy => read_int hy) h
theorem read_tbl {fuel : Nat} {cs : List Value} {x : DataW H × List MemPlace} (h : DataW.trod enc Try.prog w base spare held fuel 44 cs = some x) : ∃ a : Tbl,VRs PhN (DofW w) (eTbl.cells a) cs ∧ RqT a (Rows.uptoBulk x.1):=by
 obtain ⟨xs,n,rfl,rfl,hl,hx,hf⟩:=DataW.trod_struct Try.underlying44 h
 rw [cells44] at hl
 match cs,hl with
 | [c0,c1,c2,c3],_ =>
 match xs,hx with
 | [x0,x1,x2,x3],_ =>
 have f0:=hf 0 _ rfl
 have f1:=hf 1 _ rfl
 have f2:=hf 2 _ rfl
 have f3:=hf 3 _ rfl
 simp [cells9,cells26,cells42] at f0 f1 f2 f3
 obtain ⟨i0,e0,_⟩:=DataW.trod_int Try.underlying42 f0
 obtain ⟨s1,e1,_⟩:=DataW.trod_string Try.underlying9 f1
 obtain ⟨v2,l2,e2,r2,n2,p2,q2⟩:=read_cols f2
 obtain ⟨i3,e3,_⟩:=DataW.trod_int Try.underlying42 f3
 simp at e0 e1 e2 e3
 subst e0 e1 e2 e3
 refine ⟨⟨i0,(s1.data.toList.map UInt8.toNat),l2,i3⟩,?_,?_⟩
 ·
  refine .cons _ _ _ _ (.int _ _) ?_
  refine .cons _ _ _ _ (.str _ _ rfl) ?_
  refine .cons _ _ _ _ (r2) ?_
  refine .cons _ _ _ _ (.int _ _) ?_
  exact .nil
 ·
  simp only [RqT,List.map_cons,List.map_nil,Rows.uptoBulk,Rows.uptoBulkAll] at *
  omega
theorem read_ixd {fuel : Nat} {cs : List Value} {x : DataW H × List MemPlace} (h : DataW.trod enc Try.prog w base spare held fuel 47 cs = some x) : ∃ a : Ixd,VRs PhN (DofW w) (eIxd.cells a) cs ∧ RqI a (Rows.uptoBulk x.1):=by
 obtain ⟨xs,n,rfl,rfl,hl,hx,hf⟩:=DataW.trod_struct Try.underlying47 h
 rw [cells47] at hl
 match cs,hl with
 | [c0,c1,c2,c3,c4,c5],_ =>
 match xs,hx with
 | [x0,x1,x2,x3,x4,x5],_ =>
 have f0:=hf 0 _ rfl
 have f1:=hf 1 _ rfl
 have f2:=hf 2 _ rfl
 have f3:=hf 3 _ rfl
 have f4:=hf 4 _ rfl
 have f5:=hf 5 _ rfl
 simp [cells4,cells9,cells42,cells45] at f0 f1 f2 f3 f4 f5
 obtain ⟨i0,e0,_⟩:=DataW.trod_int Try.underlying42 f0
 obtain ⟨i1,e1,_⟩:=DataW.trod_int Try.underlying42 f1
 obtain ⟨s2,e2,_⟩:=DataW.trod_string Try.underlying9 f2
 obtain ⟨v3,l3,e3,r3,n3,p3,q3⟩:=read_ints f3
 obtain ⟨b4,e4,_⟩:=DataW.trod_bool Try.underlying4 f4
 obtain ⟨i5,e5,_⟩:=DataW.trod_int Try.underlying42 f5
 simp at e0 e1 e2 e3 e4 e5
 subst e0 e1 e2 e3 e4 e5
 refine ⟨⟨i0,i1,(s2.data.toList.map UInt8.toNat),l3,b4,i5⟩,?_,?_⟩
 ·
  refine .cons _ _ _ _ (.int _ _) ?_
  refine .cons _ _ _ _ (.int _ _) ?_
  refine .cons _ _ _ _ (.str _ _ rfl) ?_
  refine .cons _ _ _ _ (r3) ?_
  refine .cons _ _ _ _ (.bool _) ?_
  refine .cons _ _ _ _ (.int _ _) ?_
  exact .nil
 ·
  simp only [RqI,List.map_cons,List.map_nil,Rows.uptoBulk,Rows.uptoBulkAll] at *
  omega
theorem read_itm {fuel : Nat} {cs : List Value} {x : DataW H × List MemPlace} (h : DataW.trod enc Try.prog w base spare held fuel 73 cs = some x) : ∃ a : Itm,VRs PhN (DofW w) (eItm.cells a) cs ∧ RqM a (Rows.uptoBulk x.1):=by
 obtain ⟨xs,n,rfl,rfl,hl,hx,hf⟩:=DataW.trod_struct Try.underlying73 h
 rw [cells73] at hl
 match cs,hl with
 | [c0,c1,c2,c3,c4,c5,c6,c7,c8],_ =>
 match xs,hx with
 | [x0,x1],_ =>
 have f0:=hf 0 _ rfl
 have f1:=hf 1 _ rfl
 simp [cells9,cells34] at f0 f1
 obtain ⟨a0,r0,q0⟩:=read_ex _ _ _ _ (Nat.le_refl _) f0
 obtain ⟨s1,e1,_⟩:=DataW.trod_string Try.underlying9 f1
 simp at e1
 subst e1
 refine ⟨⟨a0,(s1.data.toList.map UInt8.toNat)⟩,?_,?_⟩
 ·
  refine VRs.append (a:=Ex.cells a0) (x:=[c0,c1,c2,c3,c4,c5,c6,c7]) r0 ?_
  refine .cons _ _ _ _ (.str _ _ rfl) ?_
  exact .nil
 ·
  simp only [RqM,RqE,List.map_cons,List.map_nil,Rows.uptoBulk,Rows.uptoBulkAll] at *
  omega
theorem read_src {fuel : Nat} {cs : List Value} {x : DataW H × List MemPlace} (h : DataW.trod enc Try.prog w base spare held fuel 68 cs = some x) : ∃ a : Src,VRs PhN (DofW w) (eSrc.cells a) cs ∧ RqS a (Rows.uptoBulk x.1):=by
 obtain ⟨xs,n,rfl,rfl,hl,hx,hf⟩:=DataW.trod_struct Try.underlying68 h
 rw [cells68] at hl
 match cs,hl with
 | [c0,c1,c2,c3,c4,c5,c6,c7,c8,c9],_ =>
 match xs,hx with
 | [x0,x1,x2],_ =>
 have f0:=hf 0 _ rfl
 have f1:=hf 1 _ rfl
 have f2:=hf 2 _ rfl
 simp [cells9,cells34] at f0 f1 f2
 obtain ⟨s0,e0,_⟩:=DataW.trod_string Try.underlying9 f0
 obtain ⟨s1,e1,_⟩:=DataW.trod_string Try.underlying9 f1
 obtain ⟨a2,r2,q2⟩:=read_ex _ _ _ _ (Nat.le_refl _) f2
 simp at e0 e1
 subst e0 e1
 refine ⟨⟨(s0.data.toList.map UInt8.toNat),(s1.data.toList.map UInt8.toNat),a2⟩,?_,?_⟩
 ·
  refine .cons _ _ _ _ (.str _ _ rfl) ?_
  refine .cons _ _ _ _ (.str _ _ rfl) ?_
  exact r2
 ·
  simp only [RqS,RqE,List.map_cons,List.map_nil,Rows.uptoBulk,Rows.uptoBulkAll] at *
  omega
theorem read_ord {fuel : Nat} {cs : List Value} {x : DataW H × List MemPlace} (h : DataW.trod enc Try.prog w base spare held fuel 145 cs = some x) : ∃ a : Ord,VRs PhN (DofW w) (eOrd.cells a) cs ∧ Rq1 a (Rows.uptoBulk x.1):=by
 obtain ⟨xs,n,rfl,rfl,hl,hx,hf⟩:=DataW.trod_struct Try.underlying145 h
 rw [cells145] at hl
 match cs,hl with
 | [c0,c1],_ =>
 match xs,hx with
 | [x0,x1],_ =>
 have f0:=hf 0 _ rfl
 have f1:=hf 1 _ rfl
 simp [cells4,cells9] at f0 f1
 obtain ⟨s0,e0,_⟩:=DataW.trod_string Try.underlying9 f0
 obtain ⟨b1,e1,_⟩:=DataW.trod_bool Try.underlying4 f1
 simp at e0 e1
 subst e0 e1
 refine ⟨⟨(s0.data.toList.map UInt8.toNat),b1⟩,?_,?_⟩
 ·
  refine .cons _ _ _ _ (.str _ _ rfl) ?_
  refine .cons _ _ _ _ (.bool _) ?_
  exact .nil
 · simp [Rq1,Rows.uptoBulk]
theorem read_tbls {fuel : Nat} {cs : List Value} {x : DataW H × List MemPlace} (h : DataW.trod enc Try.prog w base spare held fuel 22 cs = some x) : ∃ v l,cs = [v] ∧ VR PhN (DofW w) (eTbl.ds l) v ∧ l.length ≤ Rows.uptoBulk x.1 ∧ 1 ≤ Rows.uptoBulk x.1 ∧ ∀ a ∈ l,RqT a (Rows.uptoBulk x.1) :=
 read_list eTbl (Q:=RqT) (by omega) qT_1 qT_m Try.underlying22 cells44 (fun n' cs' y hn' hy => read_tbl hy) h
theorem read_ixds {fuel : Nat} {cs : List Value} {x : DataW H × List MemPlace} (h : DataW.trod enc Try.prog w base spare held fuel 23 cs = some x) : ∃ v l,cs = [v] ∧ VR PhN (DofW w) (eIxd.ds l) v ∧ l.length ≤ Rows.uptoBulk x.1 ∧ 1 ≤ Rows.uptoBulk x.1 ∧ ∀ a ∈ l,RqI a (Rows.uptoBulk x.1) :=
 read_list eIxd (Q:=RqI) (by omega) qI_1 qI_m Try.underlying23 cells47 (fun n' cs' y hn' hy => read_ixd hy) h
theorem read_itms {fuel : Nat} {cs : List Value} {x : DataW H × List MemPlace} (h : DataW.trod enc Try.prog w base spare held fuel 35 cs = some x) : ∃ v l,cs = [v] ∧ VR PhN (DofW w) (eItm.ds l) v ∧ l.length ≤ Rows.uptoBulk x.1 ∧ 1 ≤ Rows.uptoBulk x.1 ∧ ∀ a ∈ l,RqM a (Rows.uptoBulk x.1) :=
 read_list eItm (Q:=RqM) (by omega) qM_1 qM_m Try.underlying35 cells73 (fun n' cs' y hn' hy => read_itm hy) h
theorem read_srcs {fuel : Nat} {cs : List Value} {x : DataW H × List MemPlace} (h : DataW.trod enc Try.prog w base spare held fuel 36 cs = some x) : ∃ v l,cs = [v] ∧ VR PhN (DofW w) (eSrc.ds l) v ∧ l.length ≤ Rows.uptoBulk x.1 ∧ 1 ≤ Rows.uptoBulk x.1 ∧ ∀ a ∈ l,RqS a (Rows.uptoBulk x.1) :=
 read_list eSrc (Q:=RqS) (by omega) qS_1 qS_m Try.underlying36 cells68 (fun n' cs' y hn' hy => read_src hy) h
theorem read_ords {fuel : Nat} {cs : List Value} {x : DataW H × List MemPlace} (h : DataW.trod enc Try.prog w base spare held fuel 37 cs = some x) : ∃ v l,cs = [v] ∧ VR PhN (DofW w) (eOrd.ds l) v ∧ l.length ≤ Rows.uptoBulk x.1 ∧ 1 ≤ Rows.uptoBulk x.1 ∧ ∀ a ∈ l,Rq1 a (Rows.uptoBulk x.1) :=
 read_list eOrd (Q:=Rq1) (by omega) q1_1 q1_m Try.underlying37 cells145 (fun n' cs' y hn' hy => read_ord hy) h
structure RqH (s : Sch) (n : Nat) : Prop where
 t : s.tables.length ≤ n
 i : s.indexes.length ≤ n
 tc : ∀ t ∈ s.tables,t.cols.length ≤ n
 ic : ∀ x ∈ s.indexes,x.cols.length ≤ n
structure RqQ (q : Qry) (n : Nat) : Prop where
 items : q.items.length ≤ n
 item : ∀ y ∈ q.items,y.e.sz ≤ n
 srcs : q.srcs.length ≤ n
 src : ∀ y ∈ q.srcs,y.cond.sz ≤ n
 order : q.order.length ≤ n
 qc : q.cond.sz ≤ n
structure RqX (x : Stm) (n : Nat) : Prop where
 cols : x.cols.length ≤ n
 on : x.on.length ≤ n
 rows : x.rows.length ≤ n
 row : ∀ r ∈ x.rows,r.length ≤ n ∧ ∀ y ∈ r,y.sz ≤ n
 sets : x.sets.length ≤ n
 set : ∀ y ∈ x.sets,y.e.sz ≤ n
 cond : x.cond.sz ≤ n
 q : RqQ x.q n
theorem read_sch {fuel : Nat} {cs : List Value} {x : DataW H × List MemPlace} (h : DataW.trod enc Try.prog w base spare held fuel 25 cs = some x) : ∃ a : Sch,VRs PhN (DofW w) (eSch.cells a) cs ∧ RqH a (Rows.uptoBulk x.1):=by
 obtain ⟨xs,n,rfl,rfl,hl,hx,hf⟩:=DataW.trod_struct Try.underlying25 h
 rw [show Try.prog.cellsOf 25 = 2 by kernel_rfl] at hl
 match cs,hl with
 | [c0,c1],_ =>
 match xs,hx with
 | [x0,x1],_ =>
 have f0:=hf 0 _ rfl
 have f1:=hf 1 _ rfl
 simp [cells22,cells23] at f0 f1
 obtain ⟨v0,l0,e0,r0,n0,p0,q0⟩:=read_tbls f0
 obtain ⟨v1,l1,e1,r1,n1,p1,q1⟩:=read_ixds f1
 simp at e0 e1
 subst e0 e1
 refine ⟨⟨l0,l1⟩,?_,?_⟩
 ·
  refine .cons _ _ _ _ (r0) ?_
  refine .cons _ _ _ _ (r1) ?_
  exact .nil
 ·
  simp only [List.map_cons,List.map_nil,Rows.uptoBulk,Rows.uptoBulkAll] at *
  exact ⟨by simp only; omega,by simp only; omega,fun t ht => by have:=(q0 t ht).2; omega,fun t ht => by have:=(q1 t ht).2; omega⟩
theorem read_qry {fuel : Nat} {cs : List Value} {x : DataW H × List MemPlace} (h : DataW.trod enc Try.prog w base spare held fuel 39 cs = some x) : ∃ a : Qry,VRs PhN (DofW w) (Qry.cells a) cs ∧ RqQ a (Rows.uptoBulk x.1):=by
 obtain ⟨xs,n,rfl,rfl,hl,hx,hf⟩:=DataW.trod_struct Try.underlying39 h
 rw [cells39] at hl
 match cs,hl with
 | [c0,c1,c2,c3,c4,c5,c6,c7,c8,c9,c10,c11,c12,c13,c14],_ =>
 match xs,hx with
 | [x0,x1,x2,x3,x4,x5,x6,x7],_ =>
 have f0:=hf 0 _ rfl
 have f1:=hf 1 _ rfl
 have f2:=hf 2 _ rfl
 have f3:=hf 3 _ rfl
 have f4:=hf 4 _ rfl
 have f5:=hf 5 _ rfl
 have f6:=hf 6 _ rfl
 have f7:=hf 7 _ rfl
 simp [cells3,cells4,cells34,cells35,cells36,cells37] at f0 f1 f2 f3 f4 f5 f6 f7
 obtain ⟨b0,e0,_⟩:=DataW.trod_bool Try.underlying4 f0
 obtain ⟨b1,e1,_⟩:=DataW.trod_bool Try.underlying4 f1
 obtain ⟨v2,l2,e2,r2,n2,p2,q2⟩:=read_itms f2
 obtain ⟨v3,l3,e3,r3,n3,p3,q3⟩:=read_srcs f3
 obtain ⟨a4,r4,q4⟩:=read_ex _ _ _ _ (Nat.le_refl _) f4
 obtain ⟨v5,l5,e5,r5,n5,p5,q5⟩:=read_ords f5
 obtain ⟨b6,e6,_⟩:=DataW.trod_bool Try.underlying4 f6
 obtain ⟨i7,e7,_⟩:=DataW.trod_int Try.underlying3 f7
 simp at e0 e1 e2 e3 e5 e6 e7
 subst e0 e1 e2 e3 e5 e6 e7
 refine ⟨⟨b0,b1,l2,l3,a4,l5,b6,i7⟩,?_,?_⟩
 ·
  simp only [Qry.cells,List.cons_append,List.nil_append]
  refine .cons _ _ _ _ (.bool _) ?_
  refine .cons _ _ _ _ (.bool _) ?_
  refine .cons _ _ _ _ (r2) ?_
  refine .cons _ _ _ _ (r3) ?_
  refine VRs.append (a:=Ex.cells a4) (x:=[c4,c5,c6,c7,c8,c9,c10,c11]) r4 ?_
  refine .cons _ _ _ _ (r5) ?_
  refine .cons _ _ _ _ (.bool _) ?_
  refine .cons _ _ _ _ (.int _ _) ?_
  exact .nil
 ·
  simp only [RqE,List.map_cons,List.map_nil,Rows.uptoBulk,Rows.uptoBulkAll] at *
  exact ⟨by simp only; omega,fun t ht => by have:=q2 t ht; simp only [RqM] at this; omega,by simp only; omega,fun t ht => by have:=q3 t ht; simp only [RqS] at this; omega,by simp only; omega,by simp only; omega⟩
end
end Go.Abs
