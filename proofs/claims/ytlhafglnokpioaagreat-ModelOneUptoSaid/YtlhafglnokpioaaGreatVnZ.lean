/- Rows that are put in at once, and one by one, come to the same, and behind a deletion of all there is none: ModelOne is true of whatever world, table and rows. aks: what is read is of bulk at most 1048576 (the second form of the statement). -/
import Derived.Test.YtlhafglnokpioaaGreatVnR
import Derived.Test.YtlhafglnokpioaaGreatVmM
import Derived.Test.YtlhafglnokpioaaGreatVnJ7
noncomputable section
namespace Go.Proofs.YtlhafglnokpioaaGreat
open Go.Abs
open Go.ChangeShapes Go.WideShapes Go.ChangeAt Go.RowKit
set_option maxRecDepth 100000
theorem gb0 (D:Da):GB D:=λ c x h=>by simp[GD,ahx,amK]at h
theorem own:ownKnob Tryz.prog.godebug=none:=by kernel_rfl
theorem laid:laidOutB Tryz.prog=true:=ac'
theorem aq4:∀t∈Tryz.f6.params.toList,Tryz.prog.readableRec t=true/\t<Tryz.prog.types.size:=by
 intro t ht;rw[Tryz.params6]at ht;have:t=29∨t=9∨t=33:=by simpa using ht
 rcases this with rfl|rfl|rfl
 ·exact⟨by kernel_rfl,of_decide_eq_true (by kernel_rfl)⟩
 ·exact⟨by kernel_rfl,of_decide_eq_true (by kernel_rfl)⟩
 exact⟨by kernel_rfl,of_decide_eq_true (by kernel_rfl)⟩
theorem Qc (H:Type) (enc:TypeId×Value->H) (W:World) (base:Nat) (args:Array Value) (ds gs:List (DataW H)) (before:List MemPlace)
  (hval:∀(j:Nat) t v,Tryz.f6.params[j]?=some t->args[j]?=some v->Value.okWide Tryz.prog W .any base t v)
  (hW:DataW.Whole enc Tryz.prog Tryz.f6.params.toList Rows.modelOneSpec.vars false W args.toList ds gs before)(hk:Rows.uptoSmall H (ds++gs)=true):
  Calls Tryz.prog 6 args W λ e W'=>∃v,e=.returned v/\Rows.modelOneSpec.post enc Tryz.prog Tryz.f6 false true false false W args v W':=by
 have hW':=hW;obtain⟨p,q,hA,hV,rfl,hfz,hnd⟩:=hW;rw[Tryz.params6]at hA hval;obtain⟨v0,vs0,d0,nZ,p0,q0,hargs,rfl,rfl,h0,r0⟩:=trodAll_cons hA;obtain⟨v1,vs1,d1,ds1,p1,q1,rfl,rfl,rfl,h1,r1⟩:=trodAll_cons r0;obtain⟨v2,vs2,d2,ds2,p2,q2,rfl,rfl,rfl,h2,r2⟩:=trodAll_cons r1;obtain⟨rfl,rfl,rfl⟩:=trodAll_nil r2;obtain rfl:args=#[v0,v1,v2]:=by cases args;simp_all
 obtain⟨rfl,rfl⟩:=trodVars_none hV;obtain⟨fuel0,hf0⟩:=h0;obtain⟨fuel1,hf1⟩:=h1;obtain⟨auN,hf2⟩:=h2;obtain⟨w,hw,b0⟩:=RD (H:=H) hf0;obtain⟨s1,e1,ey1,_⟩:=DataW.trod_string Tryz.underlying9 hf1;obtain⟨v2',l,e2,r2',n2,p2',b2⟩:=G1 (H:=H) hf2;have hb:Rows.uptoBulkAll [d0,d1,d2]<=1048576:=of_decide_eq_true hk;simp only[Rows.uptoBulkAll]at hb;simp only at b0 n2 p2' b2;have hv0:VR lF (fQ W) (fc.av w) v0:=RN (fc.bf w) (by omega) hw
 have hv1:VR lF (fQ W) (.str (s1.data.toList.map UInt8.toNat)) v1:=by
  have hv:v1=.string s1:=by
   cases v1 with
   |agg xs =>
    have hh:=hval 1 9 _ rfl rfl;simp[Value.okWide,Tryz.underlying9,Cell.okWide,Cell.ok]at hh
   |string a=>simpa[Value.cells]using e1
   |_=>simp[Value.cells]at e1
  rw[hv];exact .str _ _ rfl
 have hv2:VR lF (fQ W) (dA.ds l) v2:=by
  have hv:v2=v2':=by
   cases v2 with
   |agg xs =>
    have hh:=hval 2 33 _ rfl rfl;simp[Value.okWide,Tryz.underlying33,Cell.okWide,Cell.ok]at hh
   |_=>simpa[Value.cells]using e2
  rw[hv];exact r2'
 have fw:w.dz:=⟨⟨by have:=b0.s.t;unfold aM;omega,by have:=b0.s.i;unfold aM;omega,λ t ht=>by have:=b0.s.tc t ht;unfold aM;omega,λ t ht=>by have:=b0.s.ic t ht;unfold aM;omega⟩,⟨b0.s.ti,b0.s.xi⟩,by have:=b0.l;unfold aM;omega,λ t ht=>by have:=(b0.t t ht).1;unfold aM;omega,λ t ht r hr=>⟨by have:=((b0.t t ht).2 r hr).1;unfold aM;omega,((b0.t t ht).2 r hr).2⟩⟩;have hX:ma l:=⟨by unfold aM;omega,λ r hr=>⟨by have:=(b2 r hr).2.1;unfold aM;omega,λ y hy=>by have:=((b2 r hr).2.2 y hy).1;unfold aM;omega⟩,λ r hr y hy=>((b2 r hr).2.2 y hy).2⟩;refine callsIn_wide.1 ((arb aci w fw (s1.data.toList.map UInt8.toNat) l hX).run (fQ W) W [v0,v1,v2] (Uu W (gb0 _)) (.cons _ _ _ _ hv0 (.cons _ _ _ _ hv1 (.cons _ _ _ _ hv2 .nil))) _ λ D' W' x hkp _ hx=>?_)
 cases hx with
 |bool =>
  exact⟨_,rfl,Ta laid aq4 rfl (tb:=4) (by kernel_rfl) Tryz.underlying4 rfl hW' hkp.os hkp.out hkp.keep⟩
theorem lifted6 (os:Os)(started:os.Started)(H:Type)(enc:TypeId×Value->H)(F:Stop.Interp):
  ReturnsInHanded {} Tryz.checked os 6 .any ((Rows.OpenSpec.upto Rows.modelOneSpec).pre6 enc Tryz.prog Tryz.f6 Rows.modelOneUptoRow.domain false) (((Rows.OpenSpec.upto Rows.modelOneSpec).at F).post enc Tryz.prog Tryz.f6 false true false false):=by
 refine returnsInHanded_of_cond (C:=Tryz.checked) (s:=Rows.OpenSpec.upto Rows.modelOneSpec) (k:=Rows.uptoSmall) rfl own started (by kernel_rfl) Tryz.func6
  (OpenSpec.witness (enc:=enc) (C:=Tryz.checked) (s:=Rows.OpenSpec.upto Rows.modelOneSpec) (k:=Rows.uptoSmall) rfl false ⟨#[],#[.agg #[.slice none 0 0,.slice none 0 0,.slice none 0 0],.string ⟨#[]⟩,.slice none 0 0],[]⟩ 8 (by kernel_rfl) (by kernel_rfl) (by kernel_rfl)
   (x:=([.agg [.agg [.nil,.nil],.nil],.lit (.string []),.nil],[],[])) (by kernel_rfl) rfl (by kernel_rfl)) ?_
 intro W base args ds gs before hval hW _ hk _;exact Qc H enc W base args ds gs before hval hW hk
theorem one_holds:Rows.ModelOneUptoSaid:=
 OpenClaim.holds_of_cond 6 Tryz.f6 rfl rfl rfl rfl rfl rfl rfl ⟨rfl,rfl,rfl,rfl,rfl⟩ rfl rfl rfl rfl rfl (by kernel_rfl) Tryz.func6 closed
  (of_decide_eq_true (by kernel_rfl)) (by unfold Func.isWrapper;first|(rw[if_pos (by decide +kernel)];kernel_rfl)|(rw[if_neg (by decide +kernel)];exact⟨rfl,rfl⟩))
  (λ os started H enc _ F=>lifted6 os started H enc F)
end Go.Proofs.YtlhafglnokpioaaGreat
