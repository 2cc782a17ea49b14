/- at6 makes of a statement what the document says, or tells what is wrong first: zM is true of whatever kz and statement. amG: what is read is of bulk at most 1048576 (the second form of the statement). -/
import Derived.Test.YtfdoeenlgkkaiaaGreatBzR
import Derived.Test.YtfdoeenlgkkaiaaGreatBzJ7
noncomputable section
namespace Go.Proofs.YtfdoeenlgkkaiaaGreat
open Go.Abs
open Go.ChangeShapes Go.WideShapes Go.ChangeAt Go.RowKit
set_option maxRecDepth 100000
theorem gb0 (D:Da):GB D:=λ c x h=>by simp[GD,ajL,aoO]at h
theorem own:ownKnob Tryz.prog.godebug=none:=by kernel_rfl
theorem laid:laidOutB Tryz.prog=true:=acE
theorem auX:∀t∈Tryz.f3.params.toList,Tryz.prog.readableRec t=true/\t<Tryz.prog.types.size:=by
 intro t ht;rw[Tryz.params3]at ht;have:t=25∨t=41:=by simpa using ht
 rcases this with rfl | rfl
 ·exact⟨by kernel_rfl,of_decide_eq_true (by kernel_rfl)⟩
 exact⟨by kernel_rfl,of_decide_eq_true (by kernel_rfl)⟩
theorem Ou (H:Type)(enc:TypeId×Value->H)(W:World)(args:Array Value)(ds gs:List (DataW H))(before:List MemPlace)
  (hW:DataW.Whole enc Tryz.prog Tryz.f3.params.toList Rows.bindBindsSpec.vars false W args.toList ds gs before)(hk:Rows.uptoSmall H (ds++gs)=true):
  Calls Tryz.prog 3 args W λ e W'=>∃v,e=.returned v/\Rows.bindBindsSpec.post enc Tryz.prog Tryz.f3 false true false false W args v W':=by
 have hW':=hW;obtain⟨p,q,hA,hV,rfl,hfz,hnd⟩:=hW;rw[Tryz.params3]at hA;obtain⟨v0,vs0,d0,rK,p0,q0,hargs,rfl,rfl,h0,r0⟩:=trodAll_cons hA;obtain⟨v1,vs1,d1,ds1,p1,q1,rfl,rfl,rfl,h1,r1⟩:=trodAll_cons r0;obtain⟨rfl,rfl,rfl⟩:=trodAll_nil r1;obtain rfl:args=#[v0,v1]:=by cases args;simp_all
 obtain⟨rfl,rfl⟩:=trodVars_none hV;obtain⟨ayc,hf0⟩:=h0;obtain⟨ayb,hf1⟩:=h1;obtain⟨s,hs,b0⟩:=PG (H:=H) hf0;obtain⟨x,hx,b1⟩:=PD (H:=H) hf1;have hb:Rows.uptoBulkAll [d0,d1]<=1048576:=of_decide_eq_true hk;simp only[Rows.uptoBulkAll]at hb;simp only at b0 b1;have hv0:VR jW (eV W) (cw.av s) v0:=Dc (cw.aA s) (by omega) hs;have hv1:VR jW (eV W) x.av v1:=Dc x.aA (by omega) hx;have fs:s.dE:=⟨by have:=b0.t;unfold lim;omega,by have:=b0.i;unfold lim;omega,λ t ht=>by have:=b0.tc t ht;unfold lim;omega,λ t ht=>by have:=b0.ic t ht;unfold lim;omega⟩
 have fx:x.sm:=⟨by have:=b1.ae;unfold lim;omega,by have:=b1.on;unfold lim;omega,by have:=b1.rows;unfold lim;omega,λ r hr=>⟨by have:=(b1.row r hr).1;unfold lim;omega,λ y hy=>by have:=(b1.row r hr).2 y hy;unfold lim;omega⟩,by have:=b1.sets;unfold lim;omega,λ y hy=>by have:=b1.set y hy;unfold lim;omega,by have:=b1.cond;unfold lim;omega,
  by have:=b1.q.items;unfold lim;omega,λ y hy=>by have:=b1.q.item y hy;unfold lim;omega,by have:=b1.q.ab;unfold lim;omega,λ y hy=>by have:=b1.q.src y hy;unfold lim;omega,by have:=b1.q.order;unfold lim;omega,by have:=b1.q.qc;unfold lim;omega⟩
 refine callsIn_wide.1 ((aks s fs ⟨b0.ti,b0.xi⟩ x fx).run (eV W) W [v0,v1] (RN W (gb0 _)) (.cons _ _ _ _ hv0 (.cons _ _ _ _ hv1 .nil)) _ λ D' W' x hkp _ hx=>?_)
 cases hx with
 | bool =>
  exact⟨_,rfl,QN laid auX rfl (tb:=4) (by kernel_rfl) Tryz.underlying4 rfl hW' hkp.os hkp.out hkp.keep⟩
theorem aa2 (os:Os)(started:os.Started)(H:Type)(enc:TypeId×Value->H)(F:Stop.Interp):
  ReturnsInHanded {} Tryz.checked os 3 .any ((Rows.OpenSpec.upto Rows.bindBindsSpec).pre6 enc Tryz.prog Tryz.f3 Rows.bindBindsUptoRow.domain false) (((Rows.OpenSpec.upto Rows.bindBindsSpec).at F).post enc Tryz.prog Tryz.f3 false true false false):=by
 refine returnsInHanded_of_cond (C:=Tryz.checked) (s:=Rows.OpenSpec.upto Rows.bindBindsSpec) (k:=Rows.uptoSmall) rfl own started (by kernel_rfl) Tryz.func3
  (OpenSpec.witness (enc:=enc) (C:=Tryz.checked) (s:=Rows.OpenSpec.upto Rows.bindBindsSpec) (k:=Rows.uptoSmall) rfl false ⟨#[],#[.agg #[.slice none 0 0,.slice none 0 0],.agg #[.int .i64 0,.string .empty,.string .empty,.slice none 0 0,.slice none 0 0,.bool false,.slice none 0 0,.slice none 0 0,.int .i64 0,.int .i64 0,.int .i64 0,.string .empty,.string .empty,.string .empty,.int .i64 0,.slice none 0 0,.bool false,.bool false,.slice none 0 0,.slice none 0 0,.int .i64 0,.int .i64 0,.int .i64 0,.string .empty,.string .empty,.string .empty,.int .i64 0,.slice none 0 0,.slice none 0 0,.bool false,.int .i64 0]],[]⟩ 8 (by kernel_rfl) (by kernel_rfl) (by kernel_rfl)
   (x:=([.agg [.nil,.nil],.agg [.lit (.int .i64 0),.lit (.string []),.lit (.string []),.nil,.nil,.lit (.bool false),.nil,.nil,.agg [.lit (.int .i64 0),.agg [.lit (.int .i64 0),.lit (.int .i64 0),.lit (.string [])],.lit (.string []),.lit (.string []),.lit (.int .i64 0),.nil],.agg [.lit (.bool false),.lit (.bool false),.nil,.nil,.agg [.lit (.int .i64 0),.agg [.lit (.int .i64 0),.lit (.int .i64 0),.lit (.string [])],.lit (.string []),.lit (.string []),.lit (.int .i64 0),.nil],.nil,.lit (.bool false),.lit (.int .i64 0)]]],[],[])) (by kernel_rfl) rfl (by kernel_rfl)) ?_
 intro W base args ds gs before hval hW _ hk _;exact Ou H enc W args ds gs before hW hk
theorem binds_holds:Rows.BindBindsUptoSaid:=
 OpenClaim.holds_of_cond 3 Tryz.f3 rfl rfl rfl rfl rfl rfl rfl ⟨rfl,rfl,rfl,rfl,rfl⟩ rfl rfl rfl rfl rfl (by kernel_rfl) Tryz.func3 closed
  (of_decide_eq_true (by kernel_rfl)) (by unfold Func.isWrapper;first | (rw[if_pos (by decide +kernel)];kernel_rfl) | (rw[if_neg (by decide +kernel)];exact⟨rfl,rfl⟩))
  (λ os started H enc _ F=>aa2 os started H enc F)
end Go.Proofs.YtfdoeenlgkkaiaaGreat
