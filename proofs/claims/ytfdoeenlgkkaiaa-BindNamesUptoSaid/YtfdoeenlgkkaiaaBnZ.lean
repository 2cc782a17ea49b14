/- A query in which each source has a new name is bound to the same, but for the names of its items: BindNames is true of whatever schema and query. Condition: what is read is of bulk at most 1048576 (the second form of the statement). -/
import Derived.Test.YtfdoeenlgkkaiaaBnR
import Derived.Test.YtfdoeenlgkkaiaaBnJ7
import Derived.Test.YtfdoeenlgkkaiaaRows
namespace Go.Proofs.Ytfdoeenlgkkaiaa
open Go.Abs
open Go.ChangeShapes Go.WideShapes Go.ChangeAt Go.RowKit
set_option maxRecDepth 100000
theorem gb0 (D : Da) : GB D:=fun c x h => by simp [GD,gInt,gRaw] at h
theorem own : ownKnob Try.prog.godebug = none:=by kernel_rfl
theorem laid : laidOutB Try.prog = true:=jLaid
theorem par4 : ∀ t ∈ Try.f4.params.toList,Try.prog.readableRec t = true ∧ t < Try.prog.types.size:=by
 intro t ht
 rw [Try.params4] at ht
 have : t = 25 ∨ t = 39:=by simpa using ht
 rcases this with rfl | rfl
 · exact ⟨by kernel_rfl,of_decide_eq_true (by kernel_rfl)⟩
 · exact ⟨by kernel_rfl,of_decide_eq_true (by kernel_rfl)⟩
theorem contract4 (H : Type) (enc : TypeId × Value → H) (W : World) (args : Array Value) (ds gs : List (DataW H)) (before : List MemPlace)
  (hW : DataW.Whole enc Try.prog Try.f4.params.toList Rows.bindNamesSpec.vars false W args.toList ds gs before) (hk : Rows.uptoSmall H (ds ++ gs) = true) :
  Calls Try.prog 4 args W fun e W' => ∃ v,e = .returned v ∧ Rows.bindNamesSpec.post enc Try.prog Try.f4 false true false false W args v W':=by
 have hW':=hW
 obtain ⟨p,q,hA,hV,rfl,hfz,hnd⟩:=hW
 rw [Try.params4] at hA
 obtain ⟨v0,vs0,d0,ds0,p0,q0,hargs,rfl,rfl,h0,r0⟩:=trodAll_cons hA
 obtain ⟨v1,vs1,d1,ds1,p1,q1,rfl,rfl,rfl,h1,r1⟩:=trodAll_cons r0
 obtain ⟨rfl,rfl,rfl⟩:=trodAll_nil r1
 obtain rfl : args = #[v0,v1]:=by cases args; simp_all
 obtain ⟨rfl,rfl⟩:=trodVars_none hV
 obtain ⟨fuel0,hf0⟩:=h0
 obtain ⟨fuel1,hf1⟩:=h1
 obtain ⟨s,hs,b0⟩:=read_sch (H:=H) hf0
 obtain ⟨x,hx,b1⟩:=read_qry (H:=H) hf1
 have hb : Rows.uptoBulkAll [d0,d1] ≤ 1048576:=of_decide_eq_true hk
 simp only [Rows.uptoBulkAll] at hb
 simp only at b0 b1
 have hv0 : VR PhN (DofW W) (eSch.av s) v0:=read_agg (eSch.cells_len s) (by omega) hs
 have hv1 : VR PhN (DofW W) x.av v1:=read_agg x.cells_len (by omega) hx
 have fs : s.fine:=⟨by have:=b0.t; unfold lim; omega,by have:=b0.i; unfold lim; omega,fun t ht => by have:=b0.tc t ht; unfold lim; omega,fun t ht => by have:=b0.ic t ht; unfold lim; omega⟩
 have fx : (selS x).sm:=⟨by simp [selS,Stm.z],by simp [selS,Stm.z],by simp [selS,Stm.z],by simp [selS,Stm.z],by simp [selS,Stm.z],by simp [selS,Stm.z],by simp [selS,Stm.z,exZ,Ex.sz,Ex.szL,lim],
  by have:=b1.items; simp only [selS]; unfold lim; omega,fun y hy => by have:=b1.item y hy; unfold lim; omega,by have:=b1.srcs; simp only [selS]; unfold lim; omega,fun y hy => by have:=b1.src y hy; unfold lim; omega,by have:=b1.order; simp only [selS]; unfold lim; omega,by have:=b1.qc; simp only [selS]; unfold lim; omega⟩
 refine callsIn_wide.1 ((names4 s fs x fx).run (DofW W) W [v0,v1] (dofW_dat W (gb0 _)) (.cons _ _ _ _ hv0 (.cons _ _ _ _ hv1 .nil)) _ fun D' W' x hkp _ hx => ?_)
 cases hx with
 | bool =>
  exact ⟨_,rfl,law_post laid par4 rfl (tb:=4) (by kernel_rfl) Try.underlying4 rfl hW' hkp.os hkp.out hkp.keep⟩
theorem lifted4 (os : Os) (started : os.Started) (H : Type) (enc : TypeId × Value → H) (F : Stop.Interp) :
  ReturnsInHanded {} Try.checked os 4 .any ((Rows.OpenSpec.upto Rows.bindNamesSpec).pre6 enc Try.prog Try.f4 Rows.bindNamesUptoRow.domain false) (((Rows.OpenSpec.upto Rows.bindNamesSpec).at F).post enc Try.prog Try.f4 false true false false):=by
 refine returnsInHanded_of_cond (C:=Try.checked) (s:=Rows.OpenSpec.upto Rows.bindNamesSpec) (k:=Rows.uptoSmall) rfl own started (by kernel_rfl) Try.func4
  (OpenSpec.witness (enc:=enc) (C:=Try.checked) (s:=Rows.OpenSpec.upto Rows.bindNamesSpec) (k:=Rows.uptoSmall) rfl false ⟨#[],#[.agg #[.slice none 0 0,.slice none 0 0],.agg #[.bool false,.bool false,.slice none 0 0,.slice none 0 0,.int .i64 0,.int .i64 0,.int .i64 0,.string .empty,.string .empty,.string .empty,.int .i64 0,.slice none 0 0,.slice none 0 0,.bool false,.int .i64 0]],[]⟩ 8 (by kernel_rfl) (by kernel_rfl) (by kernel_rfl)
   (x:=([.agg [.nil,.nil],.agg [.lit (.bool false),.lit (.bool false),.nil,.nil,.agg [.lit (.int .i64 0),.agg [.lit (.int .i64 0),.lit (.int .i64 0),.lit (.string [])],.lit (.string []),.lit (.string []),.lit (.int .i64 0),.nil],.nil,.lit (.bool false),.lit (.int .i64 0)]],[],[])) (by kernel_rfl) rfl (by kernel_rfl)) ?_
 intro W base args ds gs before hval hW _ hk _
 exact contract4 H enc W args ds gs before hW hk
theorem names_holds : Rows.BindNamesUptoSaid :=
 OpenClaim.holds_of_cond 4 Try.f4 rfl rfl rfl rfl rfl rfl rfl ⟨rfl,rfl,rfl,rfl,rfl⟩ rfl rfl rfl rfl rfl (by kernel_rfl) Try.func4 closed
  (of_decide_eq_true (by kernel_rfl)) (by unfold Func.isWrapper; first | (rw [if_pos (by decide +kernel)]; kernel_rfl) | (rw [if_neg (by decide +kernel)]; exact ⟨rfl,rfl⟩))
  (fun os started H enc _ F => lifted4 os started H enc F)
end Go.Proofs.Ytfdoeenlgkkaiaa
