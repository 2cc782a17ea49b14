/- Two tables joined, and joined the other way round, all columns asked for, come to the same iV: ModelTurned is true of whatever world, tables and expression. aoh: what is read is of bulk at most 1048576 (the second form of the statement). -/
import Derived.Test.YtlhafglnokpioaaGreatVnR
import Derived.Test.YtlhafglnokpioaaGreatBt13
import Derived.Test.YtlhafglnokpioaaGreatVmM
import Derived.Test.YtlhafglnokpioaaGreatVnJ7
noncomputable section
namespace Go.Proofs.YtlhafglnokpioaaGreat
open Go.Abs
open Go.ChangeShapes Go.WideShapes Go.ChangeAt Go.RowKit
set_option maxRecDepth 100000
theorem gb0 (D:Da):GB D:=λ c x h=>by simp[GD,alg,aqI]at h
theorem own:ownKnob Tryz.prog.godebug=none:=by kernel_rfl
theorem laid:laidOutB Tryz.prog=true:=ag7
theorem avx:∀t∈Tryz.f5.params.toList,Tryz.prog.readableRec t=true/\t<Tryz.prog.types.size:=by
 intro t ht;rw[Tryz.params5]at ht;have:t=29∨t=9∨t=39:=by simpa using ht
 rcases this with rfl|rfl|rfl
 ·exact⟨by kernel_rfl,of_decide_eq_true (by kernel_rfl)⟩
 ·exact⟨by kernel_rfl,of_decide_eq_true (by kernel_rfl)⟩
 exact⟨by kernel_rfl,of_decide_eq_true (by kernel_rfl)⟩
theorem UQ (H:Type) (enc:TypeId×Value->H) (W:World) (base:Nat) (args:Array Value) (ds gs:List (DataW H)) (before:List MemPlace)
  (hval:∀(j:Nat) t v,Tryz.f5.params[j]?=some t->args[j]?=some v->Value.okWide Tryz.prog W .any base t v)
  (hW:DataW.Whole enc Tryz.prog Tryz.f5.params.toList Rows.modelTurnedSpec.vars false W args.toList ds gs before)(hk:Rows.uptoSmall H (ds++gs)=true):
  Calls Tryz.prog 5 args W λ e W'=>∃v,e=.returned v/\Rows.modelTurnedSpec.post enc Tryz.prog Tryz.f5 false true false false W args v W':=by
 have hW':=hW;obtain⟨p,q,hA,hV,rfl,hfz,hnd⟩:=hW;rw[Tryz.params5]at hA hval;obtain⟨v0,vs0,d0,pW,p0,q0,hargs,rfl,rfl,h0,r0⟩:=trodAll_cons hA;obtain⟨v1,vs1,d1,ds1,p1,q1,rfl,rfl,rfl,h1,r1⟩:=trodAll_cons r0;obtain⟨v2,vs2,d2,ds2,p2,q2,rfl,rfl,rfl,h2,r2⟩:=trodAll_cons r1;obtain⟨v3,vs3,d3,ds3,p3,q3,rfl,rfl,rfl,h3,r3⟩:=trodAll_cons r2;obtain⟨rfl,rfl,rfl⟩:=trodAll_nil r3;obtain rfl:args=#[v0,v1,v2,v3]:=by cases args;simp_all
 obtain⟨rfl,rfl⟩:=trodVars_none hV;obtain⟨fuel0,hf0⟩:=h0;obtain⟨fuel1,hf1⟩:=h1;obtain⟨azf,hf2⟩:=h2;obtain⟨aze,hf3⟩:=h3;obtain⟨w,hw,b0⟩:=WB (H:=H) hf0;obtain⟨s1,e1,ey1,_⟩:=DataW.trod_string Tryz.underlying9 hf1;obtain⟨s2,e2,ey2,_⟩:=DataW.trod_string Tryz.underlying9 hf2;obtain⟨e,he,b3⟩:=aeA (H:=H) hf3;have hb:Rows.uptoBulkAll [d0,d1,d2,d3]<=1048576:=of_decide_eq_true hk;simp only[Rows.uptoBulkAll,RqE]at hb b3;simp only at b0 b3;have hv0:VR mJ (gj W) (oW.av w) v0:=GP (oW.bq w) (by omega) hw
 have str:∀(j:Nat) (v:Value) (s:ByteArray),Tryz.f5.params[j]?=some 9->(#[v0,v1,v2,v3]:Array Value)[j]?=some v->v.cells.toList=[Value.string s]->VR mJ (gj W) (.str (s.data.toList.map UInt8.toNat)) v:=λ j v s hj hv e=>by
  have hv:v=.string s:=by
   cases v with
   |agg xs =>
    have hh:=hval j 9 _ hj hv;simp[Value.okWide,Tryz.underlying9,Cell.okWide,Cell.ok]at hh
   |string a=>simpa[Value.cells]using e
   |_=>simp[Value.cells]at e
  rw[hv];exact .str _ _ rfl
 have hv1:VR mJ (gj W) (.str (s1.data.toList.map UInt8.toNat)) v1:=str 1 v1 s1 rfl rfl e1;have hv2:VR mJ (gj W) (.str (s2.data.toList.map UInt8.toNat)) v2:=str 2 v2 s2 rfl rfl e2;have hv3:VR mJ (gj W) (.agg e.cells 8) v3:=GP e.bq (by omega) he;have fw:w.gG:=⟨⟨by have:=b0.s.t;unfold aU;omega,by have:=b0.s.i;unfold aU;omega,λ t ht=>by have:=b0.s.tc t ht;unfold aU;omega,λ t ht=>by have:=b0.s.ic t ht;unfold aU;omega⟩,⟨b0.s.ti,b0.s.xi⟩,by have:=b0.l;unfold aU;omega,λ t ht=>by have:=(b0.t t ht).1;unfold aU;omega,λ t ht r hr=>⟨by have:=((b0.t t ht).2 r hr).1;unfold aU;omega,((b0.t t ht).2 r hr).2⟩⟩;have hz:wE.sz=1:=by simp[wE,Ex.sz,Ex.rL]
 have hzl:wE.sz<=aU:=by unfold aU;omega
 have hes:e.sz<=aU:=by unfold aU;omega
 have hx:∀(a b:List Nat) (x y:Nat),(eO (qJ a b x y e)).sm:=λ a b x y=>by
  refine⟨?_,?_,?_,?_,?_,?_,hzl,?_,?_,?_,λ s hs=>?_,?_,hzl⟩<;>simp[eO,dE.z,qJ,aU];simp[eO,qJ]at hs
  rcases hs with rfl|rfl
  ·exact hzl
  exact hes
 refine callsIn_wide.1 ((aos agi w fw (s1.data.toList.map UInt8.toNat) (s2.data.toList.map UInt8.toNat) e (hx _ _ _ _) (hx _ _ _ _)).run (gj W) W [v0,v1,v2,v3] (YR W (gb0 _)) (.cons _ _ _ _ hv0 (.cons _ _ _ _ hv1 (.cons _ _ _ _ hv2 (.cons _ _ _ _ hv3 .nil)))) _ λ D' W' x hkp _ hx=>?_)
 cases hx with
 |bool =>
  exact⟨_,rfl,XZ laid avx rfl (tb:=4) (by kernel_rfl) Tryz.underlying4 rfl hW' hkp.os hkp.out hkp.keep⟩
theorem lifted5 (os:Os)(started:os.Started)(H:Type)(enc:TypeId×Value->H)(F:Stop.Interp):
  ReturnsInHanded {} Tryz.checked os 5 .any ((Rows.OpenSpec.upto Rows.modelTurnedSpec).pre6 enc Tryz.prog Tryz.f5 Rows.modelTurnedUptoRow.domain false) (((Rows.OpenSpec.upto Rows.modelTurnedSpec).at F).post enc Tryz.prog Tryz.f5 false true false false):=by
 refine returnsInHanded_of_cond (C:=Tryz.checked) (s:=Rows.OpenSpec.upto Rows.modelTurnedSpec) (k:=Rows.uptoSmall) rfl own started (by kernel_rfl) Tryz.func5
  (OpenSpec.witness (enc:=enc) (C:=Tryz.checked) (s:=Rows.OpenSpec.upto Rows.modelTurnedSpec) (k:=Rows.uptoSmall) rfl false ⟨#[],#[.agg #[.slice none 0 0,.slice none 0 0,.slice none 0 0],.string ⟨#[]⟩,.string ⟨#[]⟩,.agg #[.int .i64 0,.int .i64 0,.int .i64 0,.string ⟨#[]⟩,.string ⟨#[]⟩,.string ⟨#[]⟩,.int .i64 0,.slice none 0 0]],[]⟩ 8 (by kernel_rfl) (by kernel_rfl) (by kernel_rfl)
   (x:=([.agg [.agg [.nil,.nil],.nil],.lit (.string []),.lit (.string []),.agg [.lit (.int .i64 0),.agg [.lit (.int .i64 0),.lit (.int .i64 0),.lit (.string [])],.lit (.string []),.lit (.string []),.lit (.int .i64 0),.nil]],[],[])) (by kernel_rfl) rfl (by kernel_rfl)) ?_
 intro W base args ds gs before hval hW _ hk _;exact UQ H enc W base args ds gs before hval hW hk
theorem turned_holds:Rows.ModelTurnedUptoSaid:=
 OpenClaim.holds_of_cond 5 Tryz.f5 rfl rfl rfl rfl rfl rfl rfl ⟨rfl,rfl,rfl,rfl,rfl⟩ rfl rfl rfl rfl rfl (by kernel_rfl) Tryz.func5 closed
  (of_decide_eq_true (by kernel_rfl)) (by unfold Func.isWrapper;first|(rw[if_pos (by decide +kernel)];kernel_rfl)|(rw[if_neg (by decide +kernel)];exact⟨rfl,rfl⟩))
  (λ os started H enc _ F=>lifted5 os started H enc F)
end Go.Proofs.YtlhafglnokpioaaGreat
