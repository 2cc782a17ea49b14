/- A lN rows with a condition, with its contrary, and with neither of both, are together those of the query without it, each as often: ModelThree is true of whatever world, query and expression. aoz: what is read is of bulk at most 1048576 (the second form of the statement). -/
import Derived.Test.YtlhafglnokpioaaGreatVnR
import Derived.Test.YtlhafglnokpioaaGreatVmM
import Derived.Test.YtlhafglnokpioaaGreatVnJ7
noncomputable section
namespace Go.Proofs.YtlhafglnokpioaaGreat
open Go.Abs
open Go.ChangeShapes Go.WideShapes Go.ChangeAt Go.RowKit
set_option maxRecDepth 100000
theorem gb0 (D:Da):GB D:=λ c x h=>by simp[GD,alv,aqQ]at h
theorem own:ownKnob Tryz.prog.godebug=none:=by kernel_rfl
theorem laid:laidOutB Tryz.prog=true:=aha
theorem avW:∀t∈Tryz.f4.params.toList,Tryz.prog.readableRec t=true/\t<Tryz.prog.types.size:=by
 intro t ht;rw[Tryz.params4]at ht;have:t=29∨t=44∨t=39:=by simpa using ht
 rcases this with rfl|rfl|rfl
 ·exact⟨by kernel_rfl,of_decide_eq_true (by kernel_rfl)⟩
 ·exact⟨by kernel_rfl,of_decide_eq_true (by kernel_rfl)⟩
 exact⟨by kernel_rfl,of_decide_eq_true (by kernel_rfl)⟩
theorem U5 (H:Type)(enc:TypeId×Value->H)(W:World)(base:Nat)(args:Array Value)(ds gs:List (DataW H))(before:List MemPlace)
  (hval:∀(j:Nat) t v,Tryz.f4.params[j]?=some t->args[j]?=some v->Value.okWide Tryz.prog W .any base t v)
  (hW:DataW.Whole enc Tryz.prog Tryz.f4.params.toList Rows.modelThreeSpec.vars false W args.toList ds gs before)(hk:Rows.uptoSmall H (ds++gs)=true):
  Calls Tryz.prog 4 args W λ e W'=>∃v,e=.returned v/\Rows.modelThreeSpec.post enc Tryz.prog Tryz.f4 false true false false W args v W':=by
 have hW':=hW;obtain⟨p,q,hA,hV,rfl,hfz,hnd⟩:=hW;rw[Tryz.params4]at hA hval;obtain⟨v0,vs0,d0,pY,p0,q0,hargs,rfl,rfl,h0,r0⟩:=trodAll_cons hA;obtain⟨v1,vs1,d1,ds1,p1,q1,rfl,rfl,rfl,h1,r1⟩:=trodAll_cons r0;obtain⟨v2,vs2,d2,ds2,p2,q2,rfl,rfl,rfl,h2,r2⟩:=trodAll_cons r1;obtain⟨rfl,rfl,rfl⟩:=trodAll_nil r2;obtain rfl:args=#[v0,v1,v2]:=by cases args;simp_all
 obtain⟨rfl,rfl⟩:=trodVars_none hV;obtain⟨fuel0,hf0⟩:=h0;obtain⟨fuel1,hf1⟩:=h1;obtain⟨azJ,hf2⟩:=h2;obtain⟨w,hw,b0⟩:=WJ (H:=H) hf0;obtain⟨qq,hq,b1⟩:=WO (H:=H) hf1;obtain⟨e,he,b2⟩:=wE (H:=H) hf2;have hb:Rows.uptoBulkAll [d0,d1,d2]<=1048576:=of_decide_eq_true hk;simp only[Rows.uptoBulkAll,RqE]at hb b2;simp only at b0 b1 b2;have hv0:VR lF (fk W) (mX.av w) v0:=xX (mX.bm w) (by omega) hw;have hv1:VR lF (fk W) (.agg qq.cells 15) v1:=xX qq.bm (by omega) hq;have hv2:VR lF (fk W) (.agg e.cells 8) v2:=xX e.bm (by omega) he;have fw:w.gA:=⟨⟨by have:=b0.s.t;unfold aU;omega,by have:=b0.s.i;unfold aU;omega,λ t ht=>by have:=b0.s.tc t ht;unfold aU;omega,λ t ht=>by have:=b0.s.ic t ht;unfold aU;omega⟩,⟨b0.s.ti,b0.s.xi⟩,by have:=b0.l;unfold aU;omega,λ t ht=>by have:=(b0.t t ht).1;unfold aU;omega,λ t ht r hr=>⟨by have:=((b0.t t ht).2 r hr).1;unfold aU;omega,((b0.t t ht).2 r hr).2⟩⟩;have hz:vJ.sz=1:=by simp[vJ,Ex.sz,Ex.ri]
 have one:=b1.one
 have hx:∀c,c=vJ∨c=e∨c=lK 5 e∨c=lK 6 e->(eY (qq.wh c)).sm:=λ c hc=>by
  have hcs:c.sz<=aU:=by
   unfold aU
   rcases hc with rfl|rfl|rfl|rfl
   ·omega
   ·omega
   ·simp[lK,Ex.sz,Ex.ri];omega
   simp[lK,Ex.sz,Ex.ri];omega
  have hzl:vJ.sz<=aU:=by unfold aU;omega
  refine⟨?_,?_,?_,?_,?_,?_,hzl,by have:=b1.items;unfold aU;simp only[eY,bG.wh];omega,λ y hy=>by have:=b1.item y hy;unfold aU;omega,by have:=b1.ar;unfold aU;simp only[eY,bG.wh];omega,λ y hy=>by have:=b1.src y hy;unfold aU;omega,by have:=b1.order;unfold aU;simp only[eY,bG.wh];omega,hcs⟩<;>simp[eY,dE.z]
 refine callsIn_wide.1 ((ajM agp w fw qq e hx (by have:=b1.ar;unfold aU;omega)).run (fk W) W [v0,v1,v2] (Y6 W (gb0 _)) (.cons _ _ _ _ hv0 (.cons _ _ _ _ hv1 (.cons _ _ _ _ hv2 .nil))) _ λ D' W' x hkp _ hx=>?_)
 cases hx with
 |bool =>
  exact⟨_,rfl,Ye laid avW rfl (tb:=4) (by kernel_rfl) Tryz.underlying4 rfl hW' hkp.os hkp.out hkp.keep⟩
theorem lifted4 (os:Os)(started:os.Started)(H:Type)(enc:TypeId×Value->H)(F:Stop.Interp):
  ReturnsInHanded {} Tryz.checked os 4 .any ((Rows.OpenSpec.upto Rows.modelThreeSpec).pre6 enc Tryz.prog Tryz.f4 Rows.modelThreeUptoRow.domain false) (((Rows.OpenSpec.upto Rows.modelThreeSpec).at F).post enc Tryz.prog Tryz.f4 false true false false):=by
 refine returnsInHanded_of_cond (C:=Tryz.checked) (s:=Rows.OpenSpec.upto Rows.modelThreeSpec) (k:=Rows.uptoSmall) rfl own started (by kernel_rfl) Tryz.func4
  (OpenSpec.witness (enc:=enc) (C:=Tryz.checked) (s:=Rows.OpenSpec.upto Rows.modelThreeSpec) (k:=Rows.uptoSmall) rfl false ⟨#[],#[.agg #[.slice none 0 0,.slice none 0 0,.slice none 0 0],.agg #[.bool false,.bool false,.slice none 0 0,.slice none 0 0,.int .i64 0,.int .i64 0,.int .i64 0,.string ⟨#[]⟩,.string ⟨#[]⟩,.string ⟨#[]⟩,.int .i64 0,.slice none 0 0,.slice none 0 0,.bool false,.int .i64 0],.agg #[.int .i64 0,.int .i64 0,.int .i64 0,.string ⟨#[]⟩,.string ⟨#[]⟩,.string ⟨#[]⟩,.int .i64 0,.slice none 0 0]],[]⟩ 8 (by kernel_rfl) (by kernel_rfl) (by kernel_rfl)
   (x:=([.agg [.agg [.nil,.nil],.nil],.agg [.lit (.bool false),.lit (.bool false),.nil,.nil,.agg [.lit (.int .i64 0),.agg [.lit (.int .i64 0),.lit (.int .i64 0),.lit (.string [])],.lit (.string []),.lit (.string []),.lit (.int .i64 0),.nil],.nil,.lit (.bool false),.lit (.int .i64 0)],.agg [.lit (.int .i64 0),.agg [.lit (.int .i64 0),.lit (.int .i64 0),.lit (.string [])],.lit (.string []),.lit (.string []),.lit (.int .i64 0),.nil]],[],[])) (by kernel_rfl) rfl (by kernel_rfl)) ?_
 intro W base args ds gs before hval hW _ hk _;exact U5 H enc W base args ds gs before hval hW hk
theorem three_holds:Rows.ModelThreeUptoSaid:=
 OpenClaim.holds_of_cond 4 Tryz.f4 rfl rfl rfl rfl rfl rfl rfl ⟨rfl,rfl,rfl,rfl,rfl⟩ rfl rfl rfl rfl rfl (by kernel_rfl) Tryz.func4 closed
  (of_decide_eq_true (by kernel_rfl)) (by unfold Func.isWrapper;first|(rw[if_pos (by decide +kernel)];kernel_rfl)|(rw[if_neg (by decide +kernel)];exact⟨rfl,rfl⟩))
  (λ os started H enc _ F=>lifted4 os started H enc F)
end Go.Proofs.YtlhafglnokpioaaGreat
