/- What any program comes to over any world, with any fuel, is what the document says: VMRuns is true of whatever program, world and fuel. ak6: what is read is of bulk at most 1048576 (the second form of the statement). -/
import Derived.Test.YtbdgioomddkglaaGreatVnR
import Derived.Test.YtbdgioomddkglaaGreatVnJ7
noncomputable section
namespace Go.Proofs.YtbdgioomddkglaaGreat
open Go.Abs
open Go.ChangeShapes Go.WideShapes Go.ChangeAt Go.RowKit
set_option maxRecDepth 100000
theorem gb0 (D:Da):GB D:=λ c x h=>by simp[GD,aik,ane]at h
theorem own:ownKnob Tryz.prog.godebug=none:=by kernel_rfl
theorem laid:laidOutB Tryz.prog=true:=adq
theorem arw:∀t∈Tryz.f4.params.toList,Tryz.prog.readableRec t=true/\t<Tryz.prog.types.size:=by
 intro t ht;rw[Tryz.params4]at ht;have:t=24∨t=31∨t=3:=by simpa using ht
 rcases this with rfl|rfl|rfl
 ·exact⟨by kernel_rfl,of_decide_eq_true (by kernel_rfl)⟩
 ·exact⟨by kernel_rfl,of_decide_eq_true (by kernel_rfl)⟩
 exact⟨by kernel_rfl,of_decide_eq_true (by kernel_rfl)⟩
theorem PK (H:Type) (enc:TypeId×Value->H) (W:World) (base:Nat) (args:Array Value) (ds gs:List (DataW H)) (before:List MemPlace)
  (hval:∀(j:Nat) t v,Tryz.f4.params[j]?=some t->args[j]?=some v->Value.okWide Tryz.prog W .any base t v)
  (hW:DataW.Whole enc Tryz.prog Tryz.f4.params.toList Rows.vMRunsSpec.vars false W args.toList ds gs before)(hk:Rows.uptoSmall H (ds++gs)=true):
  Calls Tryz.prog 4 args W λ e W'=>∃v,e=.returned v/\Rows.vMRunsSpec.post enc Tryz.prog Tryz.f4 false true false false W args v W':=by
 have hW':=hW;obtain⟨p,q,hA,hV,rfl,hfz,hnd⟩:=hW;rw[Tryz.params4]at hA hval;obtain⟨v0,vs0,d0,rT,p0,q0,hargs,rfl,rfl,h0,r0⟩:=trodAll_cons hA;obtain⟨v1,vs1,d1,ds1,p1,q1,rfl,rfl,rfl,h1,r1⟩:=trodAll_cons r0;obtain⟨v2,vs2,d2,ds2,p2,q2,rfl,rfl,rfl,h2,r2⟩:=trodAll_cons r1;obtain⟨rfl,rfl,rfl⟩:=trodAll_nil r2;obtain rfl:args=#[v0,v1,v2]:=by cases args;simp_all
 obtain⟨rfl,rfl⟩:=trodVars_none hV;obtain⟨fuel0,hf0⟩:=h0;obtain⟨fuel1,hf1⟩:=h1;obtain⟨auH,hf2⟩:=h2;obtain⟨c,hc,b0,bx⟩:=Q1 (H:=H) hf0;obtain⟨w,hw,b1⟩:=QU (H:=H) hf1;obtain⟨i2,e2,ey2,_⟩:=DataW.trod_int Tryz.underlying3 hf2;have hb:Rows.uptoBulkAll [d0,d1,d2]<=1048576:=of_decide_eq_true hk;simp only[Rows.uptoBulkAll]at hb;simp only at b0 b1;have hv0:VR nR (gQ W) c.av v0:=Ef (by rfl) (by omega) hc;have hv1:VR nR (gQ W) (bw.av w) v1:=Ef (bw.aE w) (by omega) hw
 have hv2:VR nR (gQ W) (.int .i64 i2) v2:=by
  have hv:v2=.int .i64 i2:=by
   cases v2 with
   |agg xs =>
    have hh:=hval 2 3 _ rfl rfl;simp[Value.okWide,Tryz.underlying3,Cell.okWide,Cell.ok]at hh
   |int k a=>simpa[Value.cells]using e2
   |_=>simp[Value.cells]at e2
  rw[hv];exact .int _ _
 have fw:w.aO:=⟨⟨by have:=b1.s.t;unfold bm;omega,by have:=b1.s.i;unfold bm;omega,λ t ht=>by have:=b1.s.tc t ht;unfold bm;omega,λ t ht=>by have:=b1.s.ic t ht;unfold bm;omega⟩,⟨b1.s.ti,b1.s.xi⟩,by have:=b1.l;unfold bm;omega,λ t ht=>by have:=(b1.t t ht).1;unfold bm;omega,λ t ht r hr=>⟨by have:=((b1.t t ht).2 r hr).1;unfold bm;omega,((b1.t t ht).2 r hr).2⟩⟩;refine callsIn_wide.1 ((alu c w i2 fw (by unfold bm;omega) bx).run (gQ W) W [v0,v1,v2] (Tu W (gb0 _)) (.cons _ _ _ _ hv0 (.cons _ _ _ _ hv1 (.cons _ _ _ _ hv2 .nil))) _ λ D' W' x hkp _ hx=>?_)
 cases hx with
 |bool =>
  exact⟨_,rfl,RN laid arw rfl (tb:=4) (by kernel_rfl) Tryz.underlying4 rfl hW' hkp.os hkp.out hkp.keep⟩
theorem lifted4 (os:Os)(started:os.Started)(H:Type)(enc:TypeId×Value->H)(F:Stop.Interp):
  ReturnsInHanded {} Tryz.checked os 4 .any ((Rows.OpenSpec.upto Rows.vMRunsSpec).pre6 enc Tryz.prog Tryz.f4 Rows.vMRunsUptoRow.domain false) (((Rows.OpenSpec.upto Rows.vMRunsSpec).at F).post enc Tryz.prog Tryz.f4 false true false false):=by
 refine returnsInHanded_of_cond (C:=Tryz.checked) (s:=Rows.OpenSpec.upto Rows.vMRunsSpec) (k:=Rows.uptoSmall) rfl own started (by kernel_rfl) Tryz.func4
  (OpenSpec.witness (enc:=enc) (C:=Tryz.checked) (s:=Rows.OpenSpec.upto Rows.vMRunsSpec) (k:=Rows.uptoSmall) rfl false ⟨#[],#[.agg #[.int .i64 0,.int .i64 0,.slice none 0 0],.agg #[.slice none 0 0,.slice none 0 0,.slice none 0 0],.int .i64 0],[]⟩ 8 (by kernel_rfl) (by kernel_rfl) (by kernel_rfl)
   (x:=([.agg [.lit (.int .i64 0),.lit (.int .i64 0),.nil],.agg [.agg [.nil,.nil],.nil],.lit (.int .i64 0)],[],[])) (by kernel_rfl) rfl (by kernel_rfl)) ?_
 intro W base args ds gs before hval hW _ hk _;exact PK H enc W base args ds gs before hval hW hk
theorem vmruns_holds:Rows.VMRunsUptoSaid:=
 OpenClaim.holds_of_cond 4 Tryz.f4 rfl rfl rfl rfl rfl rfl rfl ⟨rfl,rfl,rfl,rfl,rfl⟩ rfl rfl rfl rfl rfl (by kernel_rfl) Tryz.func4 closed
  (of_decide_eq_true (by kernel_rfl)) (by unfold Func.isWrapper;first|(rw[if_pos (by decide +kernel)];kernel_rfl)|(rw[if_neg (by decide +kernel)];exact⟨rfl,rfl⟩))
  (λ os started H enc _ F=>lifted4 os started H enc F)
end Go.Proofs.YtbdgioomddkglaaGreat
