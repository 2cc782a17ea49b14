/- A part. -/
import Derived.Test.YtlhafglnokpioaaGreatAbs1
import Derived.Laws.Cells
import Derived.ChangeKeysEq
import Derived.Laws.Tables
import Derived.Great.BuildSlice
import Derived.Laws.IdiomStrings
import Derived.Lib.Strings
import Derived.Laws.BytesString
noncomputable section
namespace Go.Abs
open List
inductive C2:Next->Value->Prop
 |value (v):C2 (.value v) v
 |skip:C2 .skip undef
def uw (r:bb)(h:Hf)(n:Nat):Hf:=match r with
 |.val _|.fail=>h
 |.new _ k=>h.set n (some k)
 |.upd _ b k=>h.set b (some k)
 |.mv _ b k=>(h.set b none).set n (some k)
def sB (r:bb)(n:Nat):Nat:=match r with
 |.val _|.fail|.upd _ _ _=>n
 |.new _ _|.mv _ _ _=>n+1
def Pm:bb->AV
 |.val v|.new v _|.upd v _ _|.mv v _ _=>v
 |.fail=>.aX []
def Does (P:Program)(s:Sem Next)(φ:Ph)(D:Da)(h:Hf)(w:World)(n:Nat)(r:bb):Prop:=
 ∃nx cv φ' w',s.run P w=.ok nx w'/\C2 nx cv/\Ext φ D h w n φ' D (uw r h n) w' (sB r n)/\Rel φ' D (uw r h n) w'/\VR φ' D (Pm r) cv
def bC (P:Program)(o:Oper)(e:Eff):Prop:=∀F H n φ D (a:Act) w,Rel φ D H.get w->FR φ D F.get a.tmps->bW φ n (sB (e F H n) n)->e F H n≠.fail ->
 Does P (execOp a.eval o) φ D H.get w n (e F H n)
def GR (g:G)(x:Operand):Prop:=∀F φ D (a:Act),FR φ D F.get a.tmps->∀v,g.f F=some v->VR φ D v (a.eval x)
theorem Does.val {P s φ D h w n v cv}(hr:Rel φ D h w)(e:s.run P w=.ok (.value cv) w)(hv:VR φ D v cv):Does P s φ D h w n (.val v):=
 ⟨_,cv,φ,w,e,.value _,Ext.refl ..,hr,hv⟩
theorem VR.Iu {φ D}:∀ {x:Value} {v},s5 x=some v->VR φ D v x:=by
 intro x v h;unfold s5 at h
 split at h
 ·injection h with h;subst h;exact .int _ _
 ·injection h with h;subst h;exact .bool _
 ·injection h with h;subst h;exact .str _ _ rfl
 split at h
 ·injection h with h;subst h;exact .al _ (by assumption)
 cases h
theorem bO.atoms {φ D}:∀ {xs:List Value} {vs},kV xs=some vs->bO φ D vs xs
 |[],vs,h=>by simp[kV]at h;subst h;exact .nil
 |x :: xs,vs,h=>by
  simp only[kV]at h
  split at h
  ·rename_i a ha
   split at h
   ·rename_i l hl;injection h with h;subst h;exact .cons _ _ _ _ (.Iu ha) (bO.atoms hl)
   cases h
  cases h
theorem VR.uU {φ D}{x:Value} {v}(h:Iq x=some v):VR φ D v x:=by
 unfold Iq at h
 split at h
 ·rename_i cs
  cases hl:kV cs.toList with
  |none=>rw[hl]at h;cases h
  |some l =>
   rw[hl]at h;injection h with h;subst h;have:=bO.atoms (φ:=φ) (D:=D) hl;exact .agg l cs.toList _ this (bI l).symm
 ·injection h with h;subst h;exact .aX _ _ .nil
 ·rename_i t y
  cases hl:s5 y with
  |none=>rw[hl]at h;cases h
  |some l=>rw[hl]at h;injection h with h;subst h;exact .kG _ _ _ (.Iu hl)
 exact .Iu h
theorem gi (t:Nat)(F:Fr):(ar t).f F=F.get t:=Tr.AQ _ _ _ (Nat.lt_succ_self t)
theorem aH {x:Operand}{g:G}(h:bQ x=some g):GR g x:=by
 intro F φ D a hF v hv
 cases x with
 |tmp t =>
  simp only[bQ]at h;injection h with h;subst h;rw[gi]at hv;obtain⟨y,hy,hvy⟩:=hF.1 t v hv;simpa[Act.eval,Array.getD_eq_getD_getElem?,hy]using hvy
 |const c =>
  simp only[bQ]at h
  cases hc:Iq c with
  |none=>rw[hc]at h;cases h
  |some u =>
   rw[hc]at h;injection h with h;subst h;injection hv with hv;subst hv;exact .uU hc
 |func f =>
  simp only[bQ]at h;injection h with h;subst h;injection hv with hv;subst hv;exact .fn _ _ _ _ _ .nil .nil
 |global g =>
  simp only[bQ]at h
  split at h
  ·rename_i l hl;injection h with h;subst h;injection hv with hv;subst hv;exact ahy hF.2 hl
  cases h
section
variable {P:Program}{φ:Ph}{D:Da}{h:Hf}{w:World}{n:Nat}
theorem sM {o:Oper}{x:Operand}{g:G}(hg:bQ x=some g)(c:AV->bb)
  (hc:∀(φ:Ph)(D:Da)(h:Hf)(w:World)(n:Nat)(ρ:Operand->Value)(v:AV)(xv:Value),Rel φ D h w->ρ x=xv->VR φ D v xv->bW φ n (sB (c v) n)->c v≠.fail->Does P (execOp ρ o) φ D h w n (c v)):
  bC P o (e1 c g):=by
 intro F H n φ D a w hr hF hf hne;unfold e1 at hf hne ⊢
 cases hv:g.f F with
 |none=>rw[hv]at hne;exact ai rfl hne
 |some v=>rw[hv]at hf hne;exact hc φ D H.get w n a.eval v _ hr rfl (aH hg F φ D a hF v hv) hf hne
theorem HN {o:Oper}{x y:Operand}{g k:G}(hg:bQ x=some g)(hk:bQ y=some k)(c:AV->AV->bb)
  (hc:∀(φ:Ph)(D:Da)(h:Hf)(w:World)(n:Nat)(ρ:Operand->Value)(v u:AV)(xv yv:Value),Rel φ D h w->ρ x=xv->ρ y=yv->VR φ D v xv->VR φ D u yv->bW φ n (sB (c v u) n)->c v u≠.fail->Does P (execOp ρ o) φ D h w n (c v u)):
  bC P o (e2 c g k):=by
 intro F H n φ D a w hr hF hf hne;unfold e2 at hf hne ⊢
 cases hv:g.f F with
 |none=>rw[hv]at hne;exact ai rfl hne
 |some v =>
  rw[hv]at hf hne;dsimp only at hf hne ⊢
  cases hu:k.f F with
  |none=>rw[hu]at hne;exact ai rfl hne
  |some u=>rw[hu]at hf hne;exact hc φ D H.get w n a.eval v u _ _ hr rfl rfl (aH hg F φ D a hF v hv) (aH hk F φ D a hF u hu) hf hne
theorem SB {o:Oper}{x:Operand}{g:G}(ho:o.op=.move x∨o.op=.assign x)(hg:bQ x=some g):bC P o (ej g):=by
 intro F H n φ D a w hr hF hf hne;unfold ej at hf hne ⊢
 cases hv:g.f F with
 |none=>rw[hv]at hne;exact ai rfl hne
 |some v =>
  refine Does.val hr ?_ (aH hg F φ D a hF v hv)
  rcases ho with ho|ho<;>simp[execOp,ho]
theorem aaZ {o:Oper}{x y z:Operand}{g k l:G}(ho:o.op=.pick x y z) (hg:bQ x=some g) (hk:bQ y=some k) (hl:bQ z=some l):bC P o (wV g k l):=by
 intro F H n φ D a w hr hF hf hne;unfold wV at hf hne ⊢
 cases hv:g.f F with
 |none=>rw[hv]at hne;exact ai rfl hne
 |some v =>
  have fD:=aH hg F φ D a hF v hv;rw[hv]at hf hne
  cases v with
  |bool b =>
   cases hx:a.eval x<;>rw[hx]at fD<;>cases fD
   cases b with
   |true =>
    dsimp only [ej]at hf hne ⊢
    cases hu:k.f F with
    |none=>rw[hu]at hne;exact ai rfl hne
    |some u=>exact Does.val hr (by simp[execOp,ho,hx,asBool]) (aH hk F φ D a hF u hu)
   |false =>
    dsimp only [ej]at hf hne ⊢
    cases hu:l.f F with
    |none=>rw[hu]at hne;exact ai rfl hne
    |some u=>exact Does.val hr (by simp[execOp,ho,hx,asBool]) (aH hl F φ D a hF u hu)
  |_=>exact ai rfl hne
theorem dh:∀ {xs:List Operand}{gs:List G},iS xs=some gs->∀F φ D (a:Act),FR φ D F.get a.tmps->∀vs,evs F gs=some vs->bO φ D vs (xs.map a.eval)
 |[],gs,h=>by
  simp[iS]at h;subst h;intro F φ D a hF vs hv;simp[evs]at hv;subst hv;exact .nil
 |x :: xs,gs,h=>by
  simp only[iS]at h
  split at h
  ·rename_i g hg
   split at h
   ·rename_i l hl;injection h with h;subst h;intro F φ D a hF vs hv;simp only[evs]at hv
    split at hv
    ·rename_i v hgv
     split at hv
     ·rename_i us hus;injection hv with hv;subst hv;exact .cons _ _ _ _ (aH hg F φ D a hF v hgv) (dh hl F φ D a hF us hus)
     cases hv
    cases hv
   cases h
  cases h
theorem aa0 {o:Oper}{x:Operand}{g:G}(ho:o.op=.nilCheck x)(hg:bQ x=some g):bC P o (aU g):=by
 have:aU g=e1 zH g:=rfl;rw[this];refine sM hg _ λ φ D h w n ρ v xv hr hx hv hf hne=>?_;have hv':=hv;unfold zH at hne ⊢
 split at hne
 ·cases hv;exact Does.val hr (by simp[execOp,ho,hx]) hv'
 ·cases hv;exact Does.val hr (by simp[execOp,ho,hx]) hv'
 ·cases hv;exact Does.val hr (by simp[execOp,ho,hx]) hv'
 ·cases hv;exact Does.val hr (by simp[execOp,ho,hx]) hv'
 ·cases hv;exact Does.val hr (by simp[execOp,ho,hx]) hv'
 exact ai rfl hne
theorem alw {o:Oper}{op:UnOp}{t:TypeId}{x:Operand}{g:G}(ho:o.op=.unOp op t x)(hg:bQ x=some g):bC P o (e1 (cUn op) g):=by
 refine sM hg _ λ φ D h w n ρ v xv hr hx hv hf hne=>?_;unfold cUn at hne ⊢
 split at hne
 ·cases hv;cases op<;>first|(exact ai rfl hne)|skip
  exact Does.val hr (by simp[execOp,ho,hx,Op.unary]) (.bool _)
 ·cases hv
  cases op with
  |neg=>simp only[kJ,lT];exact Does.val hr (by simp[execOp,ho,hx,Op.unary,Op.intArith]) (.int _ _)
  |xor=>simp only[kJ,lT];exact Does.val hr (by simp[execOp,ho,hx,Op.unary,Op.intBits]) (.int _ _)
  |_=>exact ai rfl hne
 exact ai rfl hne
theorem Sz {o:Oper}{s d:TypeId}{x:Operand}{g:G}{k j:IntKind}(ho:o.op=.convert s d x)(hg:bQ x=some g)(hs:P.underlying s=some (.int j))(hd:P.underlying d=some (.int k)):
  bC P o (e1 (cw k) g):=by
 refine sM hg _ λ φ D h w n ρ v xv hr hx hv hf hne=>?_;unfold cw at hne ⊢
 split at hne
 ·cases hv
  simp only[kJ,lT];exact Does.val hr (by simp[execOp,ho,hx,convert,run_underlying hs,run_underlying hd,Conv.intToInt]) (.int _ _)
 exact ai rfl hne
theorem G_ {o:Oper}{s d:TypeId}{x:Operand}{g:G}(ho:o.op=.convert s d x)(hg:bQ x=some g)(hs:P.underlying s=some .string)(hd:P.underlying d=some .string):
  bC P o (e1 Ih g):=by
 refine sM hg _ λ φ D h w n ρ v xv hr hx hv hf hne=>?_;unfold Ih at hne ⊢
 split at hne
 ·have hv':=hv;cases hv;exact Does.val hr (by simp[execOp,ho,hx,convert,run_underlying hs,run_underlying hd]) hv'
 exact ai rfl hne
theorem aa2 {o:Oper}{t:TypeId}{d:TypeDesc}{x:Operand}{g:G}(ho:o.op=.makeInterface t x)(hg:bQ x=some g)(hs:P.underlying t=some d)(hd:∀m,d≠.interface m):
  bC P o (e1 (adz t) g):=by
 refine sM hg _ λ φ D h w n ρ v xv hr hx hv hf hne=>?_;refine Does.val hr ?_ (.kG _ _ _ hv);simp only[execOp,ho,hx,Instr.makeInterface,bM,run_underlying hs,bJ]
 cases d<;>first|rfl|exact ai rfl (hd _)
theorem agr {o:Oper}{t xt:TypeId}{ti:TypeInfo}{zv:Value}{z:AV}{ok:Bool}{d:TypeDesc}{x:Operand}{g:G}(ho:o.op=.typeAssert x xt t ok) (hg:bQ x=some g) (hs:P.underlying t=some d) (hd:∀m,d≠.interface m)
  (hi:P.info? t=some ti)(hz:ti.zero=some zv)(hv0:∀ φ D,VR φ D z zv):bC P o (e1 (aii t z ok) g):=by
 have hrz:∀w,(zeroValue t).run P w=.ok zv w:=λ w=>by simp[zeroValue,run_typeInfo w hi,hz]
 refine sM hg _ λ φ D h w n ρ v xv hr hx hv hf hne=>?_;unfold aii at hne ⊢
 split at hne
 ·rename_i u y
  cases hv with
  |kG _ _ cv hy =>
  cases hut:Nat.beq u t with
  |true =>
   have e:=b9 hut;subst e
   cases ok with
   |true =>
    refine Does.val hr (cv:=.tuple #[cv,.bool true]) ?_ (.aX _ _ (.cons _ _ _ _ hy (.cons _ _ _ _ (.bool _) .nil)));simp only[execOp,ho,hx,Instr.typeAssert,bM,run_underlying hs,bJ]
    cases d<;>first|simp|exact ai rfl (hd _)
   |false =>
    refine Does.val hr (cv:=cv) ?_ hy;simp only[execOp,ho,hx,Instr.typeAssert,bM,run_underlying hs,bJ]
    cases d<;>first|simp|exact ai rfl (hd _)
  |false =>
   rw[hut]at hne;have arz:¬u=t:=λ e=>by subst e;simp at hut
   cases ok with
   |true =>
    refine Does.val hr (cv:=.tuple #[zv,.bool false]) ?_ (.aX _ _ (.cons _ _ _ _ (hv0 _ _) (.cons _ _ _ _ (.bool _) .nil)));simp only[execOp,ho,hx,Instr.typeAssert,bM,run_underlying hs,bJ]
    cases d<;>first|simp[arz,hrz]|exact ai rfl (hd _)
   |false=>exact ai rfl hne
 ·cases hv with
  |al _ _ =>
  cases ok with
  |true =>
   refine Does.val hr (cv:=.tuple #[zv,.bool false]) ?_ (.aX _ _ (.cons _ _ _ _ (hv0 _ _) (.cons _ _ _ _ (.bool _) .nil)));simp only[execOp,ho,hx,Instr.typeAssert,bM,run_underlying hs,bJ]
   cases d<;>first|simp[hrz]|exact ai rfl (hd _)
  |false=>exact ai rfl hne
 exact ai rfl hne
theorem aba {o:Oper}{s:TypeId}{i k:Nat}{x:Operand}{g:G}{fs:Array Field}{fd:Field}{ti:TypeInfo}(ho:o.op=.fieldAddr s x i)(hg:bQ x=some g)(hs:P.underlying s=some (.struct fs))
  (hf:fs[i]?=some fd)(hi:P.info? fd.type=some ti)(hz:ti.size=k+1):bC P o (e1 (xn fd.offset) g):=by
 have hsz:(sizeOf fd.type).run P=λ w=>.ok (k+1) w:=by
  funext w;rw[run_sizeOf _ hi];simp[Program.cellsOf,hi,hz]
 refine sM hg _ λ φ D h w n ρ v xv hr hx hv hfr hne=>?_;unfold xn at hne ⊢
 have hadd:∀(cb co:Nat),(⟨cb,co,none⟩:Addr).add fd.offset=⟨cb,co+fd.offset,none⟩:=by
  intro cb co;unfold Addr.add;split<;>simp_all
 split at hne
 ·rename_i b off
  cases hv with
  |ptr _ _ cb co cz hp =>
  simp only[cJ];refine Does.val hr (cv:=.pointer (some ⟨cb,co+off+fd.offset,none⟩)) ?_ ?_
  ·simp[execOp,ho,hx,Instr.fieldAt,run_underlying hs,hf,Instr.sureAddr,fieldPlace,hsz,hadd]
  rw[Nat.add_assoc];exact .ptr _ _ _ _ _ hp
 ·rename_i cs
  cases hv with
  |dp _ cb co cells l hD hl hvs =>
  refine Does.val hr (cv:=.pointer (some ⟨cb,co+fd.offset,none⟩)) ?_ ?_
  ·simp[execOp,ho,hx,Instr.fieldAt,run_underlying hs,hf,Instr.sureAddr,fieldPlace,hsz,hadd]
  refine .dp _ _ _ _ _ hD rfl ?_;have:=hvs.drop fd.offset;rw[hl,drop_take,drop_drop]at this;simpa[Nat.add_comm]using this
 exact ai rfl hne
theorem v8 {t:TypeId}{ti:TypeInfo}(cs:Array Value)(off:Nat)(hi:P.info? t=some ti)(ha:fJ P t=some true)(w:World):
  (part t cs off).run P w=.ok (.agg (cs.extract off (off+ti.size))) w:=by
 unfold part isAgg;unfold fJ at ha
 cases hu:P.underlying t with
 |none=>rw[hu]at ha;cases ha
 |some d=>rw[hu]at ha;cases d<;>simp at ha<;>simp[run_underlying hu,run_sizeOf _ hi,Program.cellsOf,hi]
theorem vZ {t:TypeId}{v:Value}(cs:Array Value)(off:Nat)(ha:fJ P t=some false)(hc:cs[off]?=some v)(w:World):
  (part t cs off).run P w=.ok v w:=by
 unfold part isAgg;unfold fJ at ha
 cases hu:P.underlying t with
 |none=>rw[hu]at ha;cases ha
 |some d=>rw[hu]at ha;cases d<;>simp at ha<;>simp[run_underlying hu,hc]
theorem aa8 {o:Oper}{s:TypeId}{i:Nat}{x:Operand}{g:G}{fs:Array Field}{fd:Field}(ho:o.op=.field s x i)(hg:bQ x=some g)(hs:P.underlying s=some (.struct fs))
  (hf:fs[i]?=some fd)(ha:fJ P fd.type=some false):bC P o (e1 (xk fd.offset) g):=by
 refine sM hg _ λ φ D h w n ρ v xv hr hx hv hfr hne=>?_;unfold xk at hne ⊢
 split at hne
 ·rename_i cs _
  cases hv with
  |agg _ l _ hvs hl =>
  rw[mA]at hne ⊢
  cases hc:cs[fd.offset]? with
  |none=>rw[hc]at hne;exact ai rfl hne
  |some u =>
   obtain⟨y,hy,hu⟩:=hvs.get hc;exact Does.val hr (by simp[execOp,ho,hx,Instr.field,run_underlying hs,hf,asAgg,vZ (P:=P) ⟨l⟩ fd.offset ha (v:=y) (by simpa using hy)]) hu
 exact ai rfl hne
theorem aa7 {o:Oper}{s:TypeId}{i:Nat}{x:Operand}{g:G}{fs:Array Field}{fd:Field}{ti:TypeInfo}(ho:o.op=.field s x i) (hg:bQ x=some g) (hs:P.underlying s=some (.struct fs))
  (hf:fs[i]?=some fd)(ha:fJ P fd.type=some true)(hi:P.info? fd.type=some ti):bC P o (e1 (xj fd.offset ti.size) g):=by
 refine sM hg _ λ φ D h w n ρ v xv hr hx hv hfr hne=>?_;unfold xj at hne ⊢
 split at hne
 ·cases hv with
  |agg cs l n hvs hl =>
  split at hne
  ·rename_i hle;have hle:=dE hle;refine Does.val hr (cv:=.agg ⟨(l.drop fd.offset).take ti.size⟩) ?_ (.agg _ _ _ ((hvs.drop _).take _) (by simp;omega))
   have hex:(⟨l⟩:Array Value).extract fd.offset (fd.offset+ti.size)=⟨(l.drop fd.offset).take ti.size⟩:=by
    apply Array.ext';simp[extract]
   simp[execOp,ho,hx,Instr.field,run_underlying hs,hf,asAgg,v8 (P:=P) ⟨l⟩ fd.offset hi ha,hex]
  exact ai rfl hne
 exact ai rfl hne
theorem agA {o:Oper}{i:Nat}{x:Operand}{g:G}(ho:o.op=.extract x i)(hg:bQ x=some g):bC P o (e1 (mN i) g):=by
 refine sM hg _ λ φ D h w n ρ v xv hr hx hv hfr hne=>?_;unfold mN at hne ⊢
 split at hne
 ·rename_i cs
  cases hv with
  |aX _ l hvs =>
  rw[mA]at hne ⊢
  cases hc:cs[i]? with
  |none=>rw[hc]at hne;exact ai rfl hne
  |some u =>
   obtain⟨y,hy,hu⟩:=hvs.get hc;exact Does.val hr (by simp[execOp,ho,hx,Instr.extract,hy]) hu
 exact ai rfl hne
theorem aa3 {o:Oper}{f:Fn}{xs ys:Array Operand}{gs ks:List G}(ho:o.op=.makeFunc f xs ys)(hx:iS xs.toList=some gs)(hy:iS ys.toList=some ks):bC P o (iH f gs ks):=by
 intro F H n φ D a w hr hF hf hne;unfold iH at hf hne ⊢
 cases hv:evs F gs with
 |none=>rw[hv]at hne;exact ai rfl hne
 |some vs =>
  rw[hv]at hf hne;dsimp only at hf hne ⊢
  cases hu:evs F ks with
  |none=>rw[hu]at hne;exact ai rfl hne
  |some us =>
   have h1:=dh hx F φ D a hF vs hv;have h2:=dh hy F φ D a hF us hu;refine Does.val hr (cv:=.func f (xs.map a.eval) (ys.map a.eval)) (by simp[execOp,ho,Instr.makeFunc]) ?_;have e1:xs.map a.eval=⟨xs.toList.map a.eval⟩:=by apply Array.ext';simp
   have e2:ys.map a.eval=⟨ys.toList.map a.eval⟩:=by apply Array.ext';simp
   rw[e1,e2];exact .fn _ _ _ _ _ h1 h2
end
end Go.Abs
namespace Go.Abs
open List
theorem G9 {x:Value}(h:cO x=true):x.oneCell'=true:=by cases x<;>simp_all [cO,Value.oneCell']
theorem vN {w:World}{cb off:Nat}{c:Array Value}{e:TypeId}{fr:Nat×Nat}(v:Value)(h:w.heap[cb]?=some (.cells c e fr)):
  w.setCell ⟨cb,off,none⟩ v=World.putObj w cb (.cells (c.setIfInBounds off v) e fr):=by
 unfold World.setCell World.putObj
 congr 1
 apply Array.ext_getElem?;intro i;simp only[Array.getElem?_modify,Array.getElem?_setIfInBounds]
 by_cases hi:cb=i
 ·subst hi;obtain⟨hlt,he⟩:=nJ.1 h;simp[hlt,he]
 simp[hi]
theorem vV (w:World)(cb:Nat)(o:Obj)(c:Nat):(World.putObj w cb o).heap[c]?=if c=cb/\cb<w.heap.size then some o else w.heap[c]?:=by
 unfold World.putObj;simp only[Array.getElem?_setIfInBounds]
 by_cases h:cb=c
 ·subst h
  by_cases hl:cb<w.heap.size<;>simp[hl]
 simp[h,Ne.symm h]
theorem oW {w:World}{cb:Nat}(o:Obj)(h:cb<w.heap.size):(World.putObj w cb o).heap[cb]?=some o:=by rw[vV,ao ⟨rfl,h⟩]
theorem yS {w:World}{cb c:Nat}(o:Obj)(h:c≠cb):(World.putObj w cb o).heap[c]?=w.heap[c]?:=by rw[vV,ah (λ e=>h e.1)]
theorem putObj_size (w:World)(cb:Nat)(o:Obj):(World.putObj w cb o).heap.size=w.heap.size:=by simp[World.putObj]
theorem yf (w:World)(cb:Nat)(o o':Obj):World.putObj (World.putObj w cb o) cb o'=World.putObj w cb o':=by
 unfold World.putObj
 congr 1
 apply Array.ext_getElem?;intro i;simp only[Array.getElem?_setIfInBounds,Array.size_setIfInBounds]
 by_cases h:cb=i<;>simp[h]
theorem nL {w:World}{cb:Nat}{o:Obj}(h:w.heap[cb]?=some o):World.putObj w cb o=w:=by
 unfold World.putObj
 have:w.heap.setIfInBounds cb o=w.heap:=by
  apply Array.ext_getElem?;intro i;simp only[Array.getElem?_setIfInBounds]
  by_cases hi:cb=i
  ·subst hi;simp[h];obtain⟨hl,he⟩:=nJ.1 h;simp[hl]
  simp[hi]
 rw[this]
section
variable {P:Program}
theorem rM {w:World}{cb:Nat}{c:Array Value}{e:TypeId}{fr:Nat×Nat}(h:w.heap[cb]?=some (.cells c e fr))(i:Nat):w.cell? ⟨cb,i,none⟩=c[i]?:=by
 simp[World.cell?,h]
theorem mQ (cb o i:Nat):(⟨cb,o,none⟩:Addr).add i=⟨cb,o+i,none⟩:=by
 unfold Addr.add;split<;>simp_all
theorem eG {w:World}{cb o:Nat}{c:Array Value}{e:TypeId}{fr:Nat×Nat}(h:w.heap[cb]?=some (.cells c e fr))(l:List Value)(hl:∀i x,l[i]?=some x->c[o+i]?=some x):
  (loadCells ⟨cb,o,none⟩ l.length).run P w=.ok ⟨l⟩ w:=by
 refine run_loadCells_list w _ l λ j v hv=>?_;rw[mQ,rM h];exact hl j v hv
theorem gG (cb o:Nat) (e:TypeId) (fr:Nat×Nat):∀(vs:List Value) (i:Nat) (c:Array Value) (w:World),w.heap[cb]?=some (.cells c e fr) ->
  (∀j,j<c.size->¬(fr.1<=j/\j<fr.2))->o+i+vs.length<=c.size->(∀v∈vs,cO v=true) ->
  ∃c',(storeCells ⟨cb,o,none⟩ vs i).run P w=.ok () (World.putObj w cb (.cells c' e fr))/\c'.size=c.size /\
   ∀j,c'[j]?=if o+i<=j/\j<o+i+vs.length then vs[j - (o+i)]? else c[j]?
 |[],i,c,w,h,_,_,_=>⟨c,by simp[storeCells,nL h],rfl,λ j=>by rw[ah (by simp)]⟩
 |v :: vs,i,c,w,h,hfr,hl,h1=>by
  have hi:o+i<c.size:=by simp at hl;omega
  have hlt:=(nJ.1 h).1
  have hf:w.frozen? ⟨cb,o+i,none⟩=false:=by
   have:=hfr (o+i) hi;simp only[World.frozen?,h];simp;omega
  have gw:(store ((⟨cb,o,none⟩:Addr).add i) v).run P w=.ok () (World.putObj w cb (.cells (c.setIfInBounds (o+i) v) e fr)):=by
   rw[mQ,run_store P w _ v _ (G9 (h1 v (by simp))),rM h,Array.getElem?_eq_getElem hi];simp[hf,vN v h]
  obtain⟨c',hr,hs,hg⟩:=gG cb o e fr vs (i+1) (c.setIfInBounds (o+i) v) (World.putObj w cb (.cells (c.setIfInBounds (o+i) v) e fr)) (oW _ hlt)
   (by simpa using hfr) (by simp at hl ⊢;omega) (λ x hx=>h1 x (by simp[hx]))
  refine⟨c',?_,by simpa using hs,λ j=>?_⟩
  ·simp only[storeCells,bM,gw,bJ,hr,yf]
  rw[hg j]
  by_cases h2:o+(i+1)<=j/\j<o+(i+1)+vs.length
  ·rw[ao h2,ao (by simp;omega)];obtain⟨k,rfl⟩:∃k,j=o+i+1+k:=⟨j - (o+i+1),by omega⟩;rw[show o+i+1+k - (o+i)=k+1 from by omega,show o+i+1+k - (o+(i+1))=k from by omega];simp
  rw[ah h2,Array.getElem?_setIfInBounds]
  by_cases h3:j=o+i
  ·subst h3;simp[hi]
  rw[ah (by omega),ah (by simp;omega)]
theorem oD:∀ {vs:List AV},aY vs=true->∀v∈vs,v.one=true
 |[],_,v,hv=>by cases hv
 |u::vs,h,v,hv=>by
  simp only[aY,dN]at h
  cases hv with
  |head=>exact h.1
  |tail _ hm=>exact oD h.2 v hm
theorem bO.ones {φ D}:∀ {vs xs},bO φ D vs xs->(∀v∈vs,v.one=true)->∀x∈xs,cO x=true
 |_,_,.nil,_,x,hx=>by cases hx
 |_,_,.cons v y vs ys h k,h1,x,hx=>by
  cases hx with
  |head=>exact h.one (h1 v (by simp))
  |tail _ hm=>exact bO.ones k (λ u hu=>h1 u (by simp[hu])) x hm
theorem aca {φ:Ph}{D:Da}{w:World}{cb:Nat}{c:Array Value}{e:TypeId}{bs:List AV}(h:w.heap[cb]?=some (.cells c e))(hb:bO φ D bs c.toList):
  iQ φ D w (cb,0,c.size) (.cells bs.length [] bs .nil):=by
 refine⟨c,e,(0,0),h,rfl,.inl rfl,λ i v hv=>?_,λ _ _=>rfl,by have:=hb.length;simp at this ⊢;omega⟩;rw[bY]at hv
 split at hv
 ·simp at hv
  cases hb':bs[i]? with
  |none=>rw[hb']at hv;simp[dflt]at hv
  |some u =>
   rw[hb']at hv;simp at hv;subst hv;obtain⟨x,hx,hv⟩:=hb.get hb';exact⟨x,by simpa using hx,hv⟩
 cases hv
theorem KQ (w:World)(o:Obj):(World.newObj w o).heap[w.heap.size]?=some o:=by unfold World.newObj;exact Array.getElem?_push_size
theorem Does.newRow {s:Sem Next}{φ:Ph}{D:Da}{h:Hf}{w:World}{n:Nat}{v:AV}{bs:List AV}{c:Array Value}{e:TypeId}{cv:Value}(hr:Rel φ D h w)(hf:bW φ n (n+1))
  (hrun:s.run P w=.ok (.value cv) (World.newObj w (.cells c e)))(hb:bO φ D bs c.toList)(hv:VR (Ph.set φ n (w.heap.size,0,c.size)) D v cv):
  Does P s φ D h w n (.new v (.cells bs.length [] bs .nil)):=by
 have hn:φ n=none:=hf n (aP _) (by omega)
 obtain⟨h1,h2⟩:=mr hr hf (.cells c e) c.size (.cells bs.length [] bs .nil)
  (aca (KQ w _) (hb.mono (Ph.gj hn) λ _ _ h=>h))
 exact⟨_,cv,_,_,hrun,.value _,h2,h1,hv⟩
theorem j8 {t:TypeId}{z:List AV}(h:mW P t=some z):∃ti zv,P.info? t=some ti/\ti.zero=some zv/\kV zv.cells.toList=some z:=by
 unfold mW at h
 split at h
 ·rename_i i hi
  split at h
  ·rename_i zv hz;exact⟨i,zv,hi,hz,h⟩
  cases h
 cases h
theorem nF {t:TypeId}{ti:TypeInfo}{zv:Value}(hi:P.info? t=some ti)(hz:ti.zero=some zv)(w:World):(zeroValue t).run P w=.ok zv w:=by
 simp[zeroValue,run_typeInfo w hi,hz]
theorem KG {φ:Ph}{D:Da}{n cb cz:Nat}:VR (Ph.set φ n (cb,0,cz)) D (.ptr n 0) (.pointer (some ⟨cb,0,none⟩)):=by
 have:=VR.ptr (φ:=Ph.set φ n (cb,0,cz)) (D:=D) n 0 cb 0 cz (by simp[Ph.set]);simpa using this
theorem SI {o:Oper}{t:TypeId}{z:List AV}(ho:o.op=.alloc t)(hz:mW P t=some z):bC P o (ak z (dF z 0)):=by
 obtain⟨ti,zv,hi,h0,hc⟩:=j8 hz;intro F H n φ D a w hr hF hf hne;unfold ak at hf hne ⊢;rw[bI]at hf ⊢;refine Does.newRow (P:=P) (c:=zv.cells) (e:=t) (cv:=.pointer (some ⟨w.heap.size,0,none⟩)) hr hf ?_ (.atoms hc) KG;simp[execOp,ho,Instr.alloc,nF hi h0,newVar,newRow,World.newObj]
theorem agB {o:Oper}{t:TypeId}{x:Operand}{g:G}(ho:o.op=.box t x)(hg:bQ x=some g):bC P o (Fh g):=by
 intro F H n φ D a w hr hF hf hne;unfold Fh at hf hne ⊢
 cases hv:g.f F with
 |none=>rw[hv]at hne;exact ai rfl hne
 |some v =>
  rw[hv]at hf hne;have fD:=aH hg F φ D a hF v hv;dsimp only at hf hne ⊢;rw[fD.len]at hf ⊢;refine Does.newRow (P:=P) (c:=(a.eval x).cells) (e:=t) (cv:=.pointer (some ⟨w.heap.size,0,none⟩)) hr hf ?_ fD.cells KG;simp[execOp,ho,Instr.box,newVar,newRow,World.newObj]
theorem zM {t:TypeId}(ha:fJ P t=some true)(w:World):(isAgg t).run P w=.ok true w:=by
 unfold isAgg;unfold fJ at ha
 cases hu:P.underlying t with
 |none=>rw[hu]at ha;cases ha
 |some d=>rw[hu]at ha;cases d<;>simp at ha<;>simp[run_underlying hu]
theorem xC {t:TypeId}(ha:fJ P t=some false)(w:World):(isAgg t).run P w=.ok false w:=by
 unfold isAgg;unfold fJ at ha
 cases hu:P.underlying t with
 |none=>rw[hu]at ha;cases ha
 |some d=>rw[hu]at ha;cases d<;>simp at ha<;>simp[run_underlying hu]
theorem bR {t:TypeId}{k:Nat}(h:bS P t=some k)(w:World):(sizeOf t).run P w=.ok k w:=by
 unfold bS at h
 cases hi:P.info? t with
 |none=>rw[hi]at h;cases h
 |some i=>rw[hi]at h;injection h with h;subst h;simp[run_sizeOf w hi,Program.cellsOf,hi]
theorem y8 {φ:Ph}{D:Da}{h:Hf}{w:World}{t:TypeId}{v u:AV}{xv:Value}(hr:Rel φ D h w) (hv:VR φ D v xv) (ha:fJ P t=some false) (H:Hp) (hH:∀b,H.get b=h b) (hc:dP v H=.val u):
  ∃cv,(Instr.loadAt t xv).run P w=.ok cv w/\VR φ D u cv:=by
 unfold dP at hc
 split at hc
 ·rename_i b o
  cases hv with
  |ptr _ _ cb co cz hp =>
  split at hc
  ·rename_i uu z bs tt hb
   split at hc
   ·rename_i y hy;injection hc with hc;subst hc;rw[hH]at hb;obtain⟨_,c,e,fr,hc1,hc2,hc3,hc4,_⟩:=hr.block hb hp;obtain⟨x,hx,tU⟩:=hc4 o y hy;dsimp only at hx;refine⟨x,?_,tU⟩;simp[Instr.loadAt,Instr.sureAddr,loadVar,xC ha,rM hc1,hx]
   cases hc
  cases hc
 ·rename_i y ys;injection hc with hc;subst hc
  cases hv with
  |dp _ cb co cells l hD hl hvs =>
  obtain⟨e,fr,hh⟩:=hr.ep.1 _ _ hD;obtain⟨x,hx,tU⟩:=hvs.get (i:=0) rfl;refine⟨x,?_,tU⟩
  have:cells[co]?=some x:=by
   rw[hl,getElem?_take]at hx
   split at hx
   ·rw[iV]at hx;simpa using hx
   cases hx
  simp[Instr.loadAt,Instr.sureAddr,loadVar,xC ha,rM hh,this]
 cases hc
theorem y7 {φ:Ph}{D:Da}{h:Hf}{w:World}{t:TypeId}{k:Nat}{v u:AV}{xv:Value}(hr:Rel φ D h w) (hv:VR φ D v xv) (ha:fJ P t=some true) (hk:bS P t=some k) (H:Hp) (hH:∀b,H.get b=h b)
  (hc:cZ k v H=.val u):∃cv,(Instr.loadAt t xv).run P w=.ok cv w/\VR φ D u cv:=by
 unfold cZ at hc
 split at hc
 ·rename_i b o
  cases hv with
  |ptr _ _ cb co cz hp =>
  split at hc
  ·rename_i uu z bs tt hb
   split at hc
   ·rename_i l hl;injection hc with hc;subst hc;rw[hH]at hb;obtain⟨_,c,e,fr,hc1,hc2,hc3,hc4,hc5,_⟩:=hr.block hb hp;obtain⟨hlen,hg⟩:=jb hc5 hl;dsimp only at hc4
    have hx:∀i v,l[i]?=some v->∃x,c[co+o+i]?=some x/\VR φ D v x:=by
     intro i v hv;have hi:i<l.length:=(pS.1 hv).1;have:=hc4 (o+i) v (by rw[hg i (by omega)];exact hv);simpa[Nat.add_assoc]using this
    have hsz:co+o+k<=c.size∨k=0:=by
     rcases Nat.eq_zero_or_pos k with h0|h0
     ·exact .inr h0
     left
     obtain⟨x,hx',_⟩:=hx (k - 1) l[k - 1] (cE (by omega));have:=(nJ.1 hx').1;omega
    let xs:=(c.toList.drop (co+o)).take k;have hxl:xs.length=k:=by simp[xs];omega
    have hvs:bO φ D l xs:=by
     refine bO.mz (by omega) λ i v hv=>?_;obtain⟨x,hx1,hx2⟩:=hx i v hv;have hi:i<l.length:=(pS.1 hv).1;exact⟨x,by simp only[xs];rw[getElem?_take,ao (by omega),iV];simpa using hx1,hx2⟩
    refine⟨.agg ⟨xs⟩,?_,.agg _ _ _ hvs hlen⟩
    have hrun:=eG (P:=P) (w:=w) (cb:=cb) (o:=co+o) hc1 xs (λ i x hx=>by
     simp only[xs]at hx;rw[getElem?_take]at hx
     split at hx
     ·rw[iV]at hx;simpa using hx
     cases hx)
    rw[hxl]at hrun;simp[Instr.loadAt,Instr.sureAddr,loadVar,zM ha,bR hk,hrun]
   cases hc
  cases hc
 ·rename_i cs
  split at hc
  ·rename_i hle;have hle:=dE hle;injection hc with hc;subst hc
   cases hv with
   |dp _ cb co cells l hD hl hvs =>
   obtain⟨e,fr,hh⟩:=hr.ep.1 _ _ hD;have hll:=hvs.length;have hvs':=hvs.take k;refine⟨.agg ⟨l.take k⟩,?_,.agg _ _ _ hvs' (by simp;omega)⟩
   have hrun:=eG (P:=P) (w:=w) (cb:=cb) (o:=co) hh (l.take k) (λ i x hx=>by
     rw[getElem?_take]at hx
     split at hx
     ·rw[hl,getElem?_take]at hx
      split at hx
      ·rw[iV]at hx;simpa using hx
      cases hx
     cases hx)
   rw[show (l.take k).length=k by simp;omega]at hrun;simp[Instr.loadAt,Instr.sureAddr,loadVar,zM ha,bR hk,hrun]
  cases hc
 cases hc
theorem SD {o:Oper}{t:TypeId}{x:Operand}{g:G}(ho:o.op=.load t x)(hg:bQ x=some g)(ha:fJ P t=some false):bC P o (sQ g):=by
 intro F H n φ D a w hr hF hf hne;unfold sQ at hf hne ⊢
 cases hv:g.f F with
 |none=>rw[hv]at hne;exact ai rfl hne
 |some v =>
  rw[hv]at hf hne;dsimp only at hf hne ⊢
  have hu:∃u,dP v H=.val u:=by
   unfold dP at hne ⊢
   (repeat' split)<;>first|exact⟨_,rfl⟩|(simp_all;done)
  obtain⟨u,hu⟩:=hu;obtain⟨cv,h1,h2⟩:=y8 (P:=P) hr (aH hg F φ D a hF v hv) ha H (λ _=>rfl) hu;rw[hu];exact Does.val hr (by simp[execOp,ho,h1]) h2
theorem SC {o:Oper}{t:TypeId}{k:Nat}{x:Operand}{g:G}(ho:o.op=.load t x)(hg:bQ x=some g)(ha:fJ P t=some true)(hk:bS P t=some k):bC P o (iI k g):=by
 intro F H n φ D a w hr hF hf hne;unfold iI at hf hne ⊢
 cases hv:g.f F with
 |none=>rw[hv]at hne;exact ai rfl hne
 |some v =>
  rw[hv]at hf hne;dsimp only at hf hne ⊢
  have hu:∃u,cZ k v H=.val u:=by
   unfold cZ at hne ⊢
   (repeat' split)<;>first|exact⟨_,rfl⟩|(simp_all;done)
  obtain⟨u,hu⟩:=hu;obtain⟨cv,h1,h2⟩:=y7 (P:=P) hr (aH hg F φ D a hF v hv) ha hk H (λ _=>rfl) hu;rw[hu];exact Does.val hr (by simp[execOp,ho,h1]) h2
theorem Qh {φ:Ph}{D:Da}{h:Hf}{w:World}{b cb co cz u off:Nat}{z bs:List AV}{t:Ov AV}{vs:List AV}{xs:List Value}(hr:Rel φ D h w) (hb:h b=some (.cells u z bs t)) (hp:φ b=some (cb,co,cz))
  (hv:bO φ D vs xs)(h1:∀v∈vs,v.one=true)(hfit:vs=[]∨co+off+vs.length<=cz)(u':Nat)(hu':co+u'<=cz)(hu:∀i,i<u'->i<u∨(off<=i/\i<off+vs.length))(hne:vs=[]->u'=u)(t0:Ov AV)(ht0:t0=t):
  ∃c' e fr,(storeCells ⟨cb,co+off,none⟩ xs).run P w=.ok () (World.putObj w cb (.cells c' e fr)) /\
   iQ φ D (World.putObj w cb (.cells c' e fr)) (cb,co,cz) (.cells u' z bs (Ov.bD vs off t0)):=by
 subst ht0;obtain⟨hlt,c,e,fr,hc1,hc2,hc3,hc4,hc5,hc6⟩:=hr.block hb hp;dsimp only at hlt hc1 hc2 hc4 hc6;have hlen:=hv.length
 by_cases h0:vs=[]
 ·subst h0;cases hv;refine⟨c,e,fr,by simp[storeCells,nL hc1],?_⟩;rw[nL hc1,hne rfl,Ov.vX];exact⟨c,e,fr,hc1,hc2,hc3,hc4,hc5,hc6⟩
 obtain⟨c',hrun,hs,hg⟩:=gG (P:=P) cb (co+off) e fr xs 0 c w hc1 hc3.at (by rcases hfit with h|h;exact ai h h0;omega) (hv.ones h1);refine⟨c',e,fr,hrun,c',e,fr,oW _ hlt,by simpa[hs]using hc2,by rw[hs];exact hc3,λ i v hi=>?_,λ ht hz=>?_,hu'⟩
 ·have hiu:=pz hi;rw[bY,ao hiu,Ov.bw]at hi;dsimp only;rw[hg (co+i)]
  by_cases ja:off<=i/\i<off+vs.length
  ·rw[ao ja]at hi;rw[ao (by omega)]
   have hvi:vs[i - off]?=some v:=by
    cases hx:vs[i - off]? with
    |none=>rw[List.getElem?_eq_none_iff]at hx;omega
    |some y=>rw[hx]at hi;simpa using hi
   obtain⟨x,hx,tU⟩:=hv.get hvi;exact⟨x,by rw[show co+i - (co+off+0)=i - off from by omega];exact hx,tU⟩
  rw[ah ja]at hi;rw[ah (by omega)];have hu':i<u:=by rcases hu i hiu with h|h;exact h;exact ai h ja
  exact hc4 i v (by rw[bY,ao hu'];exact hi)
 exfalso
 cases vs with
 |nil=>exact h0 rfl
 |cons v r =>
  have:=Ov.bw (v::r) off t0 off;rw[ht,ao (by simp)]at this;simp at this
end
end Go.Abs
namespace Go.Abs
open List
section
variable {P:Program}
theorem Does.upd {s:Sem Next}{φ:Ph}{D:Da}{h:Hf}{w:World}{n b:Nat}{p:Nat×Nat×Nat}{k:br}{v:AV}{nx:Next}{cv:Value}{o:Obj}(hr:Rel φ D h w)(hb:h b≠none)(hp:φ b=some p)
  (hrun:s.run P w=.ok nx (World.putObj w p.1 o))(hnx:C2 nx cv)(hk:iQ φ D (World.putObj w p.1 o) p k)(hv:VR φ D v cv):Does P s φ D h w n (.upd v b k):=by
 obtain⟨h1,h2⟩:=Ky (n:=n) hr hb hp (World.putObj w p.1 o) (λ c hc=>yS _ hc) (putObj_size ..) rfl rfl hk;exact⟨nx,cv,φ,_,hrun,hnx,h2,h1,hv⟩
theorem iW:∀ {cs:List AV}{o:Nat}{vs r:List AV},patch cs o vs=some r->r.length=cs.length/\(vs=[]∨o+vs.length<=cs.length) /\
  ∀j,r[j]?=if o<=j/\j<o+vs.length then vs[j - o]? else cs[j]?
 |cs,o,[],r,h=>by
  have:r=cs:=by cases cs<;>cases o<;>simp[patch]at h<;>simp[h]
  subst this;exact⟨rfl,.inl rfl,λ j=>by rw[ah (by simp)]⟩
 |[],o,_::_,r,h=>by cases o<;>simp[patch]at h
 |c :: cs,0,v::vs,r,h=>by
  simp only[patch]at h
  cases hp:patch cs 0 vs with
  |none=>rw[hp]at h;cases h
  |some r' =>
   rw[hp]at h;injection h with h;subst h;obtain⟨h1,h2,h3⟩:=iW hp;refine⟨by simp[h1],.inr ?_,λ j=>?_⟩
   ·rcases h2 with h2|h2
    ·subst h2;simp
    simp;omega
   cases j with
   |zero=>simp
   |succ j =>
    have:=h3 j;simp at this ⊢;exact this
 |c :: cs,o+1,v::vs,r,h=>by
  simp only[patch]at h
  cases hp:patch cs o (v::vs)with
  |none=>rw[hp]at h;cases h
  |some r' =>
   rw[hp]at h;injection h with h;subst h;obtain⟨h1,h2,h3⟩:=iW hp;refine⟨by simp[h1],.inr ?_,λ j=>?_⟩
   ·rcases h2 with h2|h2
    ·cases h2
    simp at h2 ⊢;omega
   cases j with
   |zero=>rw[ah (by omega)];simp
   |succ j =>
    have:=h3 j
    by_cases hc:o<=j/\j<o+(v::vs).length
    ·rw[ao hc]at this;rw[ao (by omega),show j+1 - (o+1)=j - o from by omega];simpa using this
    rw[ah hc]at this;rw[ah (by omega)];simpa using this
theorem Q7 {φ : Ph}{D:Da}{w:World}{p:Nat×Nat×Nat}{u o:Nat}{z bs:List AV}{t:Ov AV}{vs:List AV}(hi:t=.nil->z=[]->bs.length=u) (_hl:o+vs.length<=u)
  (h:iQ φ D w p (.cells u z bs (Ov.bD vs o t))):iQ φ D w p (ke u z bs t vs o):=by
 unfold ke
 split
 ·split
  ·split
   ·split
    ·rename_i bs' hp;obtain⟨h1,h2,h3⟩:=iW hp;have hb:=hi rfl rfl;obtain⟨c,e,fr,q1,q2,q3,q4,q5,q6⟩:=h;refine⟨c,e,fr,q1,q2,q3,λ i v hv=>q4 i v ?_,λ _ _=>by rw[h1,hb],q6⟩;rw[bY]at hv ⊢
     split at hv
     ·rename_i hiu;rw[ao hiu];have hlt:i<bs'.length:=by rw[h1,hb];exact hiu
      rw[cE hlt]at hv;simp only[Ov.get_nil]at hv;rw[Ov.bw];have h3i:=h3 i;rw[cE hlt]at h3i
      by_cases hc:o<=i/\i<o+vs.length
      ·rw[ao hc]at h3i ⊢;rw[<-h3i];exact hv
      rw[ah hc]at h3i ⊢;simp only[Ov.get_nil];rw[<-h3i];exact hv
     cases hv
    exact h
   exact h
  exact h
 ·exact h
 exact h
theorem SA {o : Oper}{t:TypeId}{k:Nat}{x y:Operand}{g l:G}(ho:o.op=.store t x y) (hg:bQ x=some g) (hl:bQ y=some l) (hk:bS P t=some k):bC P o (dm k g l):=by
 intro F H n φ D a w hr hF hf hne;unfold dm at hf hne ⊢
 cases hv:g.f F with
 |none=>rw[hv]at hne;exact ai rfl hne
 |some v =>
  rw[hv]at hf hne;dsimp only at hf hne ⊢
  cases hu:l.f F with
  |none=>rw[hu]at hne;exact ai rfl hne
  |some u =>
   rw[hu]at hf hne;dsimp only at hf hne ⊢;have fD:=aH hg F φ D a hF v hv;have hur:=aH hl F φ D a hF u hu;unfold fZ at hne ⊢
   split at hne
   ·rename_i b off
    split at hne
    ·rename_i us z bs tt hb
     split at hne
     ·rename_i hc;simp only[dN]at hc;obtain⟨⟨hc1,hc2⟩,hc3⟩:=hc;have hc1:=b9 hc1;have hc2:=dE hc2;generalize hxv:a.eval x=xv at fD
      cases fD with
      |ptr _ _ cb co cz hp =>
      have hcells:=hur.cells;have hlen:u.cells.length=k:=by rw[<-hur.len];exact hc1
      obtain⟨_,c,e,fr,q1,q2,q3,q4,q5,q6⟩:=hr.block hb hp;dsimp only at q6;obtain⟨c',e',fr',hrun,hk'⟩:=Qh (P:=P) (off:=off) hr hb hp hcells (oD hc3) (.inr (by omega)) us q6 (λ i hi=>.inl hi) (λ _=>rfl) tt rfl;have hk':=Q7 (λ a b=>q5 a b) (by omega) hk'
      have hsz:(a.eval y).cells.size=k:=by
       have:=hcells.length;simp at this;omega
      refine Does.upd (P:=P) (nx:=.skip) (cv:=undef) hr (by rw[hb];simp) hp ?_ .skip hk' (.aX _ _ .nil);simp[execOp,ho,hxv,Instr.storeAt,Instr.sureAddr,storeVar,bR hk,hsz,hrun]
     exact ai rfl hne
    exact ai rfl hne
   exact ai rfl hne
theorem EZ (off:Nat):∀(l:List Value)(k:Nat)(cells:Array Value),off+k+l.length<=cells.size ->
  let r:=(l.zipIdx k).foldl (λ cs (x:Value×Nat)=>cs.setIfInBounds (off+x.2) x.1) cells
  r.size=cells.size/\∀j,r[j]?=if off+k<=j/\j<off+k+l.length then l[j - (off+k)]? else cells[j]?
 |[],k,cells,_=>⟨rfl,λ j=>by rw[ah (by simp)];rfl⟩
 |x :: l,k,cells,h=>by
  simp at h;obtain⟨h1,h2⟩:=EZ off l (k+1) (cells.setIfInBounds (off+k) x) (by simp;omega);refine⟨by simpa[zipIdx_cons]using h1,λ j=>?_⟩;have:=h2 j;simp only[zipIdx_cons,foldl_cons];rw[this]
  by_cases hc:off+(k+1)<=j/\j<off+(k+1)+l.length
  ·rw[ao hc,ao (by simp;omega)];obtain⟨i,rfl⟩:∃i,j=off+k+1+i:=⟨j - (off+k+1),by omega⟩;rw[show off+k+1+i - (off+k)=i+1 from by omega,show off+k+1+i - (off+(k+1))=i from by omega];simp
  rw[ah hc,Array.getElem?_setIfInBounds]
  by_cases h3:j=off+k
  ·subst h3;simp;omega
  rw[ah (by omega),ah (by simp;omega)]
theorem qN {φ : Ph}{D:Da}{F:Fr}{a:Act}(hF:FR φ D F.get a.tmps) (place:Nat->Option (Nat×Nat)):∀(parts:List (Nat×Operand)) (ps:List (Nat×Nat×G)) (z cs:List AV) (zc:Array Value),
  fN place parts=some ps->jS F ps z=some cs->bO φ D z zc.toList->∃cc,Instr.fill place zc (parts.map λ x=>(x.1,a.eval x.2))=some cc/\bO φ D cs cc.toList/\cs.length=z.length
 |[],ps,z,cs,zc,hp,hf,hz=>by
  simp[fN]at hp;subst hp;simp[jS]at hf;subst hf;exact⟨zc,rfl,hz,rfl⟩
 |(i, x) :: r,ps,z,cs,zc,hp,hf,hz=>by
  simp only[fN]at hp
  split at hp
  ·rename_i o s hpl
   split at hp
   ·rename_i g hg
    split at hp
    ·rename_i l hl;injection hp with hp;subst hp;simp only[jS]at hf
     split at hf
     ·rename_i v hv
      split at hf
      ·rename_i hlen;simp only[dN]at hlen;obtain⟨hlen,hpos⟩:=hlen;have hlen:=b9 hlen;have hpos:0<s:=dE hpos
       split at hf
       ·rename_i cs' hpa;have fD:=aH hg F φ D a hF v hv;have hc:=fD.cells;have hcl:=hc.length;rw[fD.len]at hlen;obtain⟨q1,q2,q3⟩:=iW hpa;have hzl:=hz.length;have hs:(a.eval x).cells.size=s:=by simp at hcl;omega
        have hfit:o+(a.eval x).cells.size<=zc.size:=by
         rcases q2 with q2|q2
         ·rw[q2]at hlen;simp at hlen;omega
         simp at hcl hzl;omega
        obtain⟨f1,f2⟩:=EZ o (a.eval x).cells.toList 0 zc (by simpa using hfit);generalize hzc:((a.eval x).cells.toList.zipIdx 0).foldl (λ cs (x:Value×Nat)=>cs.setIfInBounds (o+x.2) x.1) zc=zc' at f1 f2
        have hzv:bO φ D cs' zc'.toList:=by
         refine bO.mz (by simp at hzl;simp[q1,f1,hzl]) λ j u hu=>?_;rw[q3 j]at hu;have hfj:=f2 j
         by_cases hc':o<=j/\j<o+v.cells.length
         ·rw[ao hc']at hu;obtain⟨y,hy,hu'⟩:=hc.get hu;rw[ao (by simp at hcl ⊢;omega)]at hfj;exact⟨y,by simp[hfj];simpa using hy,hu'⟩
         rw[ah hc']at hu;obtain⟨y,hy,hu'⟩:=hz.get hu;rw[ah (by simp at hcl ⊢;omega)]at hfj;exact⟨y,by simp[hfj];simpa using hy,hu'⟩
        obtain⟨cc,g1,g2,g3⟩:=qN hF place r l cs' cs zc' hl hf hzv;refine⟨cc,?_,g2,by omega⟩
        have hz':(a.eval x).cells.zipIdx.foldl (λ cs (x:Value×Nat)=>cs.setIfInBounds (o+x.2) x.1) zc=zc':=by
         rw[<-hzc,<-Array.foldl_toList];simp
        simp only[map_cons,Instr.fill,hpl];rw[ah (by simp[hs];omega)];rw[<-g1,<-hz']
       cases hf
      cases hf
     cases hf
    cases hp
   cases hp
  cases hp
end
end Go.Abs
namespace Go.Abs
open List
section
variable {P:Program}
theorem qO {parts:Array (Nat×Operand)}{a:Act}:(parts.map λ(i,x)=>(i,a.eval x)).toList=parts.toList.map λ x=>(x.1,a.eval x.2):=by simp
theorem Em {o:Oper}{t:TypeId}{z:List AV}{parts:Array (Nat×Operand)}{l:List (Nat×Nat×G)}(ho:o.op=.build t parts)(hz:mW P t=some z)(place:Nat->Option (Nat×Nat))(hl:fN place parts.toList=some l)
  (hb:∀(zv:Value)(ti:TypeInfo),P.info? t=some ti->ti.zero=some zv->∀ps,P.built t ps=Instr.fill place zv.cells ps):bC P o (aN z (dF z 0) l):=by
 obtain⟨ti,zv,hi,h0,hc⟩:=j8 hz;intro F H n φ D a w hr hF hf hne;unfold aN at hf hne ⊢
 cases hfp:jS F l z with
 |none=>rw[hfp]at hne;exact ai rfl hne
 |some cs =>
  rw[hfp]at hf hne;dsimp only at hf hne ⊢;obtain⟨cc,h1,h2,h3⟩:=qN hF place parts.toList l z cs zv.cells hl hfp (.atoms hc);rw[bI];refine Does.val hr (cv:=.agg cc) ?_ (.agg _ _ _ h2 h3);have:=run_build (P:=P) w t (parts.map λ(i,x)=>(i,a.eval x)) cc (by rw[hb zv ti hi h0,qO];exact h1);simp only[execOp,ho,bM,this,bJ,cD]
theorem kl (z:List AV):∀k,(rep z k).length=k*z.length
 |0=>by simp[rep]
 |k+1=>by simp[rep,kl z k,Nat.succ_mul,Nat.add_comm]
theorem Kx (z:List AV)(hz:0<z.length):∀k i,i<k*z.length->(rep z k)[i]?=z[i % z.length]?
 |0,i,h=>by omega
 |k + 1,i,h=>by
  rw[Nat.succ_mul]at h;simp only[rep]
  by_cases hi:i<z.length
  ·rw[getElem?_append_left hi,Nat.mod_eq_of_lt hi]
  rw[getElem?_append_right (by omega),Kx z hz k _ (by omega)];rw[Nat.mod_eq_sub_mod (by omega:i>=z.length)]
theorem yA {φ:Ph}{D:Da}{z:List AV}{zc:Array Value}(hz:bO φ D z zc.toList)(hpos:0<z.length)(m:Nat):
  ∀i,i<m->∃x v,((Array.range m).map (zc[· % zc.size]!))[i]?=some x/\z[i % z.length]?=some v/\VR φ D v x:=by
 intro i hi;have hl:=hz.length;simp at hl;have hlt:i % z.length<z.length:=Nat.mod_lt _ hpos;obtain⟨y,hy,hv⟩:=hz.get (cE hlt);refine⟨y,_,?_,cE hlt,hv⟩;simp only[Array.getElem?_map,Array.getElem?_range,hi,if_true,Option.map_some];rw[<-hl];have:zc[i % z.length]?=some y:=by simpa using hy
 rw[getElem!_def,this]
theorem aaw {φ:Ph}{D:Da}{z:List AV}{zc:Array Value}(hz:bO φ D z zc.toList)(hpos:0<z.length)(k:Nat):
  bO φ D (rep z k) ((Array.range (k*z.length)).map (zc[· % zc.size]!)).toList:=by
 refine bO.mz (by simp[kl]) λ i v hv=>?_;have hi:i<k*z.length:=by have:=(pS.1 hv).1;rwa [kl]at this
 rw[Kx z hpos k i hi]at hv;obtain⟨x,u,h1,h2,h3⟩:=yA (φ:=φ) (D:=D) hz hpos (k*z.length) i hi;rw[h2]at hv;injection hv with hv;subst hv;exact⟨x,by rw[Array.getElem?_toList];exact h1,h3⟩
theorem qS {t e:TypeId}(h:ua P t=some e):P.underlying t=some (.slice e):=by
 unfold ua at h
 split at h
 ·rename_i e' he;injection h with h;subst h;exact he
 cases h
theorem vL {φ:Ph}{D:Da}{n cb cz len cap sz:Nat}(h1:len<=cap)(h2:cap*sz<=cz):VR (Ph.set φ n (cb,0,cz)) D (.sl n 0 len sz) (.slice (some ⟨cb,0,none⟩) len cap):=
 .sl _ _ _ _ cb 0 cz _ _ (by simp[Ph.set]) h1 λ _=>⟨rfl,by omega⟩
theorem Px {o:Oper}{t e:TypeId}{z:List AV}{k sz:Nat}{parts:Array (Nat×Operand)}{l:List (Nat×Nat×G)}(ho:o.op=.buildSlice t k parts) (he:ua P t=some e) (hs:bS P e=some sz) (hz:mW P e=some z)
  (hl:fN (λ i=>some (i*sz,sz)) parts.toList=some l)(hzl:z.length=sz)(hk:k*sz<=16777216):bC P o (aK z k sz l):=by
 obtain⟨ti,zv,hi,h0,hc⟩:=j8 hz;intro F H n φ D a w hr hF hf hne;unfold aK at hf hne ⊢
 cases hfp:jS F l (rep z k)with
 |none=>rw[hfp]at hne;exact ai rfl hne
 |some cs =>
  rw[hfp]at hf hne;dsimp only at hf hne ⊢;have hti:ti.size=sz:=by simpa[bS,hi]using hs
  have hu:=qS he
  have hz':bO φ D (rep z k) ((Array.range (k*sz)).map ((if k*sz=0 then #[]else zv.cells)[· % (if k*sz=0 then #[]else zv.cells).size]!)).toList:=by
   rcases Nat.eq_zero_or_pos (k*sz)with h00|hpos
   ·rw[ao h00];have:rep z k=[]:=eq_nil_of_length_eq_zero (by rw[kl,hzl];exact h00);rw[this,h00];simpa using bO.nil
   rw[ah (by omega)];have hp:0<z.length:=by rcases Nat.eq_zero_or_pos z.length with h|h;rw[<-hzl,h]at hpos;simp at hpos;exact h
   have:=aaw (φ:=φ) (D:=D) (.atoms hc) hp k;rw[hzl]at this;exact this
  obtain⟨cc,h1,h2,h3⟩:=qN hF (λ i=>some (i*sz,sz)) parts.toList l (rep z k) cs _ hl hfp hz';have hlen:cs.length=k*sz:=by rw[h3,kl,hzl]
  have hcl:=h2.length;have:=Does.newRow (P:=P) (s:=execOp a.eval o) (v:=.sl n 0 k sz) (bs:=cs) (c:=cc) (e:=e) (cv:=.slice (some ⟨w.heap.size,0,none⟩) k k) hr hf ?_ h2 (vL (aP _) (by simp at hcl;omega))
  ·rw[hlen]at this;exact this
  have hsmall:¬k*sz>2 ^ 24:=by omega
  by_cases h00:k*sz=0
  ·rw[ao h00]at h1
   have hrun:(Instr.buildSlice t k (parts.map λ(i,x)=>(i,a.eval x))).run P w=.ok (.slice (some ⟨w.heap.size,0,none⟩) k k) (World.newObj w (.cells cc e)):=by
    have h1':=h1;rw[<-qO]at h1';simp only[Instr.buildSlice,bM,run_underlying hu,bJ,bR hs];rw[ah hsmall,ao h00];simp only[bM,cD,bJ];rw[h1'];simp[newRow,World.newObj]
   simp only[execOp,ho,bM,hrun,bJ,cD]
  rw[ah h00]at h1
  have hrun:(Instr.buildSlice t k (parts.map λ(i,x)=>(i,a.eval x))).run P w=.ok (.slice (some ⟨w.heap.size,0,none⟩) k k) (World.newObj w (.cells cc e)):=by
   have h1':=h1;rw[<-qO]at h1';simp only[Instr.buildSlice,bM,run_underlying hu,bJ,bR hs];rw[ah hsmall,ah h00];simp only[bM,cD,bJ,nF hi h0];rw[h1'];simp[newRow,World.newObj]
  simp only[execOp,ho,bM,hrun,bJ,cD]
theorem agz {o:Oper}{t e:TypeId}{sz:Nat}{x y:Operand}{g k:G}(ho:o.op=.indexAddr t x y) (hg:bQ x=some g) (hk:bQ y=some k) (hu:P.underlying t=some (.slice e)) (hs:bS P e=some sz):bC P o (e2 (e9 sz) g k):=by
 refine HN hg hk _ λ φ D h w n ρ v u xv yv hr hx hy hv huv hf hne=>?_;unfold e9 at hne ⊢
 split at hne
 ·rename_i b off len s kk i
  split at hne
  ·rename_i hc;simp only[dN]at hc;have hc1:i<len:=dE hc.1;have hc2:=b9 hc.2;subst hc2;cases huv
   cases hv with
   |sl _ _ _ _ cb co cz cap ad hp hle hex =>
   obtain⟨rfl,hfit⟩:=hex (by omega);rw[cJ];refine Does.val hr (cv:=.pointer (some ⟨cb,co+(off+i*s),none⟩)) ?_ (.ptr _ _ _ _ _ hp);simp only[execOp,ho,hx,hy,Instr.indexAt,bM,asIntOf,cD,bJ,run_underlying hu];simp[bR hs,mQ,Nat.add_assoc,hc1]
  exact ai rfl hne
 ·rename_i cs len s kk i
  split at hne
  ·rename_i hc;simp only[dN]at hc;have hc1:i<len:=dE hc.1;have hc2:=b9 hc.2;subst hc2;cases huv
   cases hv with
   |ds _ _ _ cap cb co cells l hD hl hcs hvs hle =>
    refine Does.val hr (cv:=.pointer (some ⟨cb,co+i*s,none⟩)) ?_ ?_
    ·simp only[execOp,ho,hx,hy,Instr.indexAt,bM,asIntOf,cD,bJ,run_underlying hu];simp[bR hs,mQ,hc1]
    refine .dp _ _ _ _ _ hD rfl ?_;have:=hvs.drop (i*s);rw[hl,drop_take,drop_drop]at this;have he:(cs.drop (i*s)).length=len*s - i*s:=by simp[hcs]
    rw[he,Nat.add_comm co]
    rwa [Nat.add_comm co]at this
   |nZ=>omega
   |rH=>omega
  exact ai rfl hne
 exact ai rfl hne
theorem SE {o:Oper}{t e:TypeId}{kk sz:Nat}{x y:Operand}{g k:G}(ho:o.op=.indexAddr t x y) (hg:bQ x=some g) (hk:bQ y=some k) (hu:P.underlying t=some (.array kk e)) (hs:bS P e=some sz):bC P o (e2 (f_ kk sz) g k):=by
 refine HN hg hk _ λ φ D h w n ρ v u xv yv hr hx hy hv huv hf hne=>?_;unfold f_ at hne ⊢
 split at hne
 ·rename_i b off j i
  split at hne
  ·rename_i hc;have hc1:i<kk:=dE hc;cases huv
   cases hv with
   |ptr _ _ cb co cz hp =>
   rw[cJ];refine Does.val hr (cv:=.pointer (some ⟨cb,co+(off+i*sz),none⟩)) ?_ (.ptr _ _ _ _ _ hp);simp only[execOp,ho,hx,hy,Instr.indexAt,bM,asIntOf,cD,bJ,run_underlying hu,Instr.sureAddr];simp[bR hs,mQ,Nat.add_assoc,hc1]
  exact ai rfl hne
 ·rename_i cs j i
  split at hne
  ·rename_i hc;have hc1:i<kk:=dE hc;cases huv
   cases hv with
   |dp _ cb co cells l hD hl hvs =>
    refine Does.val hr (cv:=.pointer (some ⟨cb,co+i*sz,none⟩)) ?_ ?_
    ·simp only[execOp,ho,hx,hy,Instr.indexAt,bM,asIntOf,cD,bJ,run_underlying hu,Instr.sureAddr];simp[bR hs,mQ,hc1]
    refine .dp _ _ _ _ _ hD rfl ?_;have:=hvs.drop (i*sz);rw[hl,drop_take,drop_drop]at this;rw[length_drop,Nat.add_comm co]
    rwa [Nat.add_comm co]at this
  exact ai rfl hne
 exact ai rfl hne
theorem agx {o:Oper}{t e:TypeId}{kk sz:Nat}{ag:Bool}{x y:Operand}{g k:G}(ho:o.op=.index t x y) (hg:bQ x=some g) (hk:bQ y=some k) (hu:P.underlying t=some (.array kk e)) (hs:bS P e=some sz) (ha:fJ P e=some ag):
  bC P o (e2 (UN kk sz ag) g k):=by
 refine HN hg hk _ λ φ D h w n ρ v u xv yv hr hx hy hv huv hf hne=>?_;unfold UN at hne ⊢
 split at hne
 ·rename_i j i
  split at hne
  ·rename_i hc;have hc1:i<kk:=dE hc;cases huv
   obtain⟨ti,hi,hsz⟩:∃ti,P.info? e=some ti/\ti.size=sz:=by
    unfold bS at hs
    cases hi:P.info? e with
    |none=>rw[hi]at hs;cases hs
    |some ti=>rw[hi]at hs;injection hs with hs;exact⟨ti,rfl,hs⟩
   split at hne
   ·rename_i ha';rw[cJ]at hne ⊢;unfold xj at hne ⊢
    split at hne
    ·cases hv with
     |agg cs l n hvs hl =>
     split at hne
     ·rename_i hle;have hle:=dE hle;refine Does.val hr (cv:=.agg ⟨(l.drop (i*sz)).take sz⟩) ?_ (.agg _ _ _ ((hvs.drop _).take _) (by simp;omega))
      have hex:(⟨l⟩:Array Value).extract (i*sz) (i*sz+sz)=⟨(l.drop (i*sz)).take sz⟩:=by
       apply Array.ext';simp[extract]
      simp only[execOp,ho,hx,hy,Instr.index,bM,asIntOf,cD,bJ,run_underlying hu];simp[bR hs,hc1,v8 (P:=P) ⟨l⟩ (i*sz) hi ha,hsz,hex]
     exact ai rfl hne
    exact ai rfl hne
   rename_i ha';rw[cJ]at hne ⊢;unfold xk at hne ⊢
   split at hne
   ·rename_i cs _
    cases hv with
    |agg _ l _ hvs hl =>
    rw[mA]at hne ⊢
    cases hcc:cs[i*sz]? with
    |none=>rw[hcc]at hne;exact ai rfl hne
    |some u =>
     obtain⟨z,hz,hzu⟩:=hvs.get hcc;refine Does.val hr (cv:=z) ?_ hzu;simp only[execOp,ho,hx,hy,Instr.index,bM,asIntOf,cD,bJ,run_underlying hu];simp[bR hs,hc1,vZ (P:=P) ⟨l⟩ (i*sz) ha (v:=z) (by simpa using hz)]
   exact ai rfl hne
  exact ai rfl hne
 exact ai rfl hne
end
end Go.Abs
namespace Go.Abs
open List
section
variable {P:Program}
theorem nat?_spec {φ:Ph}{D:Da}{v:AV}{x:Value}{n:Nat}(h:nat? v=some n)(hv:VR φ D v x):∃k,x=.int k (Int.ofNat n):=by
 unfold nat? at h
 split at h
 ·injection h with h;subst h;cases hv;exact⟨_,rfl⟩
 cases h
def BR (φ:Ph)(D:Da):Option AV->Option Value->Prop
 |none,none=>True
 |some v,some x=>VR φ D v x
 |_,_=>False
theorem qz {x:Option Operand}{g:Option G}(h:nN x=some g){F:Fr}{φ:Ph}{D:Da}{a:Act}(hF:FR φ D F.get a.tmps){v:Option AV}(hv:uN F g=some v):BR φ D v (x.map a.eval):=by
 cases x with
 |none =>
  simp only[nN]at h;injection h with h;subst h;simp only[uN]at hv;injection hv with hv;subst hv;trivial
 |some x =>
  simp only[nN]at h
  cases ho:bQ x with
  |none=>rw[ho]at h;cases h
  |some g' =>
   rw[ho]at h;injection h with h;subst h;simp only[uN]at hv
   cases hg:g'.f F with
   |none=>rw[hg]at hv;cases hv
   |some u=>rw[hg]at hv;injection hv with hv;subst hv;exact aH ho F φ D a hF u hg
theorem UW {len:Nat}{lo hi mx:Option AV}{φ:Ph}{D:Da}{lo' hi' mx':Option Value}(h1:BR φ D lo lo')(h2:BR φ D hi hi')(h3:BR φ D mx mx')(hm:mx=none∨hi≠none)
  (isSlice:Bool)(cap:Nat)(hc:len<=cap)(w:World)(m h' l':Nat)(hm1:bnd len mx=some m)(hh:bnd len hi=some h')(hl:bnd 0 lo=some l')(c1:l'<=h')(c2:h'<=len)(c3:h'<=m)(c4:m<=len):
  ∃m,(Instr.sliceBounds isSlice len cap lo' hi' mx').run P w=.ok (l',h',m) w/\l'<=h'/\h'<=len/\h'<=m/\m<=cap:=by
 have bound:∀(v:Option AV) (x:Option Value) (n:Nat),BR φ D v x->(∃u,v=some u/\nat? u=some n)->∃k,x=some (.int k (Int.ofNat n)):=by
  intro v x n hv ⟨u,e,hu⟩;subst e
  cases x with
  |none=>exact hv.elim
  |some y=>obtain⟨k,rfl⟩:=nat?_spec hu hv;exact⟨k,rfl⟩
 have Ac:∀(k:IntKind) (n y:Nat) (code:BoundsCode),n<=y->(Instr.sliceBound (.int k (n:Int)) y code).run P w=.ok n w:=by
  intro k n y code hle;simp[Instr.sliceBound,asIntOf,hle]
 have hlo:(lo'=none/\l'=0)∨∃k,lo'=some (.int k (Int.ofNat l')):=by
  cases lo with
  |none=>cases lo' with
   |none=>simp[bnd]at hl;exact .inl ⟨rfl,hl.symm⟩
   |some x=>exact h1.elim
  |some u=>exact .inr (bound _ _ _ h1 ⟨u,rfl,hl⟩)
 have hhi:(hi'=none/\h'=len)∨∃k,hi'=some (.int k (Int.ofNat h')):=by
  cases hi with
  |none=>cases hi' with
   |none=>simp[bnd]at hh;exact .inl ⟨rfl,hh.symm⟩
   |some x=>exact h2.elim
  |some u=>exact .inr (bound _ _ _ h2 ⟨u,rfl,hh⟩)
 have hmx:(mx'=none/\m=len)∨∃k k2,mx'=some (.int k (Int.ofNat m))/\hi'=some (.int k2 (Int.ofNat h')):=by
  cases mx with
  |none=>cases mx' with
   |none=>simp[bnd]at hm1;exact .inl ⟨rfl,hm1.symm⟩
   |some x=>exact h3.elim
  |some u =>
   obtain⟨k,hk⟩:=bound _ _ _ h3 ⟨u,rfl,hm1⟩
   cases hi with
   |none=>simp at hm
   |some y=>obtain⟨k2,hk2⟩:=bound _ _ _ h2 ⟨y,rfl,hh⟩;exact .inr ⟨k,k2,hk,hk2⟩
 rcases hmx with⟨rfl,rfl⟩|⟨k,k2,rfl,rfl⟩
 ·refine⟨cap,?_,c1,c2,by omega,aP _⟩
  rcases hhi with⟨rfl,rfl⟩|⟨k,rfl⟩<;>rcases hlo with⟨rfl,rfl⟩|⟨j,rfl⟩
  ·simp[Instr.sliceBounds]
  ·simp[Instr.sliceBounds,Ac j _ _ _ c1]
  ·simp[Instr.sliceBounds,Ac k h' cap _ (by omega)]
  simp[Instr.sliceBounds,Ac k h' cap _ (by omega),Ac j _ _ _ c1]
 refine⟨m,?_,c1,c2,c3,by omega⟩
 rcases hlo with⟨rfl,rfl⟩|⟨j,rfl⟩
 ·simp[Instr.sliceBounds,Ac k m cap _ (by omega),Ac k2 h' m _ c3]
 simp[Instr.sliceBounds,Ac k m cap _ (by omega),Ac k2 h' m _ c3,Ac j _ _ _ c1]
theorem lX {len:Nat}{lo hi mx:Option AV}{l h:Nat}(hb:Br len lo hi mx=some (l,h)){φ:Ph}{D:Da}{lo' hi' mx':Option Value}(h1:BR φ D lo lo') (h2:BR φ D hi hi') (h3:BR φ D mx mx') (hm:mx=none∨hi≠none)
  (isSlice:Bool)(cap:Nat)(hc:len<=cap)(w:World):∃m,(Instr.sliceBounds isSlice len cap lo' hi' mx').run P w=.ok (l,h,m) w/\l<=h/\h<=len/\h<=m/\m<=cap:=by
 unfold Br at hb
 split at hb
 ·rename_i m hm1
  split at hb
  ·rename_i h' hh
   split at hb
   ·rename_i l' hl
    split at hb
    ·rename_i hc1;simp only[dN]at hc1;have c1:=dE hc1.1.1.1;have c2:=dE hc1.1.1.2;have c3:=dE hc1.1.2;have c4:=dE hc1.2;injection hb with hb;injection hb with e1 e2;subst e1 e2;clear hc1;exact UW h1 h2 h3 hm isSlice cap hc w m h' l' hm1 hh hl c1 c2 c3 c4
    cases hb
   cases hb
  cases hb
 cases hb
theorem anf {o:Oper}{x:Operand}{g:G}{lo hi mx:Option Operand}{gl gh gm:Option G}(hg:bQ x=some g) (hl:nN lo=some gl) (hh:nN hi=some gh) (hm:nN mx=some gm) (c:Hp->Option AV->Option AV->Option AV->AV->bb)
  (hc:∀(φ:Ph)(D:Da)(H:Hp)(w:World)(n:Nat)(ρ:Operand->Value)(l h m:Option AV)(v:AV)(xv:Value),Rel φ D H.get w->ρ x=xv->VR φ D v xv->BR φ D l (lo.map ρ)->BR φ D h (hi.map ρ)->BR φ D m (mx.map ρ)->(gh=none->h=none)->(gm=none->m=none)->(gh≠none->h≠none)->c H l h m v≠.fail ->
   ∃u,c H l h m v=.val u/\Does P (execOp ρ o) φ D H.get w n (.val u)):
  bC P o (λ F H n=>Bd (c H) g gl gh gm F H n):=by
 intro F H n φ D a w hr hF hf hne;dsimp only at hf hne ⊢;unfold Bd at hf hne ⊢
 cases h1:uN F gl with
 |none=>rw[h1]at hne;exact ai rfl hne
 |some l =>
  rw[h1]at hne hf;dsimp only at hne hf ⊢
  cases h2:uN F gh with
  |none=>rw[h2]at hne;exact ai rfl hne
  |some h =>
   rw[h2]at hne hf;dsimp only at hne hf ⊢
   cases h3:uN F gm with
   |none=>rw[h3]at hne;exact ai rfl hne
   |some m =>
    rw[h3]at hne hf;dsimp only at hne hf ⊢
    cases hv:g.f F with
    |none=>rw[hv]at hne;exact ai rfl hne
    |some v =>
     rw[hv]at hne hf;dsimp only at hne hf ⊢
     obtain⟨u,hu,hd⟩:=hc φ D H w n a.eval l h m v _ hr rfl (aH hg F φ D a hF v hv) (qz hl hF h1) (qz hh hF h2) (qz hm hF h3)
      (λ e=>by subst e;simp[uN]at h2;exact h2.symm) (λ e=>by subst e;simp[uN]at h3;exact h3.symm)
      (λ e=>by cases gh with
       |none=>exact ai rfl e
       |some y=>simp only[uN]at h2;cases hy:y.f F<;>rw[hy]at h2<;>simp at h2;rw[<-h2];simp) hne
     rw[hu];exact hd
theorem ags {o:Oper}{t e:TypeId}{sz:Nat}{x:Operand}{g:G}{lo hi mx:Option Operand}{gl gh gm:Option G}(ho:o.op=.slice t x lo hi mx) (hg:bQ x=some g) (hl:nN lo=some gl) (hh:nN hi=some gh) (hm:nN mx=some gm)
  (hu:P.underlying t=some (.slice e))(hs:bS P e=some sz)(hmx:gm=none∨gh≠none):bC P o (Bd (mL sz) g gl gh gm):=by
 refine anf hg hl hh hm (λ _=>mL sz) λ φ D H w n ρ l h m v xv hr hx hv b1 b2 b3 n1 n2 n3 hne=>?_
 have TN:m=none∨h≠none:=by
  rcases hmx with e|e
  ·exact .inl (n2 e)
  exact .inr (n3 e)
 unfold mL at hne ⊢
 split at hne
 ·rename_i b off len s
  split at hne
  ·rename_i l' h' hb
   split at hne
   ·rename_i hs';have hs':=b9 hs';subst hs';simp only[cJ];refine⟨_,rfl,?_⟩
    cases hv with
    |sl _ _ _ _ cb co cz cap ad hp hle hex =>
    obtain⟨mm,hrun,q1,q2,q3,q4⟩:=lX (P:=P) hb b1 b2 b3 TN true cap hle w;refine Does.val hr (cv:=.slice (some (if mm=l' then ad else ad.add (l'*s))) (h' - l') (mm - l')) ?_ ?_
    ·simp only[execOp,ho,hx,Instr.sliceAt,bM,run_underlying hu,bJ,Instr.slice,hrun,bR hs,cD]
     by_cases hml:mm=l'<;>simp[hml]
    refine .sl _ _ _ _ cb co cz _ _ hp (by omega) λ hpos=>?_;obtain⟨e1,e2⟩:=hex (by omega);subst e1;rw[ah (by omega),mQ];refine⟨by rw[Nat.add_assoc],?_⟩;have:(mm - l')*s+l'*s<=cap*s:=by rw[<-Nat.add_mul];exact Ai _ (by omega)
    omega
   exact ai rfl hne
  exact ai rfl hne
 ·rename_i cs len s
  split at hne
  ·rename_i l' h' hb
   split at hne
   ·rename_i hs';have hs':=b9 hs';subst hs';refine⟨_,rfl,?_⟩
    cases hv with
    |ds _ _ _ cap cb co cells ll hD hll hcs hvs hle =>
     obtain⟨mm,hrun,q1,q2,q3,q4⟩:=lX (P:=P) hb b1 b2 b3 TN true cap hle w;refine Does.val hr (cv:=.slice (some (if mm=l' then ⟨cb,co,none⟩else (⟨cb,co,none⟩:Addr).add (l'*s))) (h' - l') (mm - l')) ?_ ?_
     ·simp only[execOp,ho,hx,Instr.sliceAt,bM,run_underlying hu,bJ,Instr.slice,hrun,bR hs,cD]
      by_cases hml:mm=l'<;>simp[hml]
     by_cases hz:h' - l'=0
     ·rw[hz];simp only[Nat.zero_mul,take_zero];exact .nZ _ _ _
     rw[ah (by omega),mQ];have hmul:(h' - l')*s+l'*s<=len*s:=by rw[<-Nat.add_mul];exact Ai _ (by omega)
     refine .ds _ _ _ _ _ _ _ _ hD rfl (by simp[hcs];omega) ?_ (by omega);have:=(hvs.drop (l'*s)).take ((h' - l')*s);rw[hll,drop_take,drop_drop,take_take]at this;rw[show min ((h' - l')*s) (len*s - l'*s)=(h' - l')*s from by omega]at this;exact this
    |nZ _ cap ad =>
     obtain⟨mm,hrun,q1,q2,q3,q4⟩:=lX (P:=P) hb b1 b2 b3 TN true cap (Nat.zero_le _) w;refine Does.val hr (cv:=.slice (some (if mm=l' then ad else ad.add (l'*s))) (h' - l') (mm - l')) ?_ ?_
     ·simp only[execOp,ho,hx,Instr.sliceAt,bM,run_underlying hu,bJ,Instr.slice,hrun,bR hs,cD]
      by_cases hml:mm=l'<;>simp[hml]
     rw[show h' - l'=0 from by omega];simp;exact .nZ _ _ _
    |rH =>
     obtain⟨mm,hrun,q1,q2,q3,q4⟩:=lX (P:=P) hb b1 b2 b3 TN true 0 (Nat.zero_le _) w;have e1:l'=0:=by omega
     have e2:h'=0:=by omega
     have e3:mm=0:=by omega
     subst e1 e2 e3;refine Does.val hr (cv:=.slice none 0 0) ?_ (by simp;exact .rH _);simp only[execOp,ho,hx,Instr.sliceAt,bM,run_underlying hu,bJ,Instr.slice,hrun,bR hs,cD];simp
   exact ai rfl hne
  exact ai rfl hne
 ·split at hne
  ·rename_i hb;refine⟨_,rfl,?_⟩
   cases hv with
   |al _ hat =>
   rename_i x2;obtain⟨l',h'⟩:=x2;obtain⟨mm,hrun,q1,q2,q3,q4⟩:=lX (P:=P) hb b1 b2 b3 TN true 0 (aP _) w;have e1:l'=0:=by omega
   have e2:h'=0:=by omega
   have e3:mm=0:=by omega
   subst e1 e2 e3;refine Does.val hr (cv:=.slice none 0 0) ?_ (.al _ hat);simp only[execOp,ho,hx,Instr.sliceAt,bM,run_underlying hu,bJ,Instr.slice,hrun,bR hs,cD];simp
  exact ai rfl hne
 exact ai rfl hne
theorem kE {s:ByteArray}{l:List Nat}(h:s.data.toList.map UInt8.toNat=l):s.size=l.length:=by
 rw[<-h,length_map,Array.length_toList];rfl
end
end Go.Abs
namespace Go.Abs
open List
section
variable {P:Program}
theorem toList_data (s:ByteArray):s.data.toList=s.toList:=(Lib.toList_data s).symm
theorem blt_eq (a b:Nat):Nat.blt a b=decide (a<b):=by
 by_cases h:a<b
 ·rw[decide_eq_true h];exact uv h
 rw[decide_eq_false h]
 cases hb:Nat.blt a b with
 |false=>rfl
 |true=>exact ai (dE hb) h
theorem beq_eq (a b:Nat):Nat.beq a b=decide (a=b):=by
 by_cases h:a=b
 ·subst h;simp
 rw[decide_eq_false h]
 cases hb:Nat.beq a b with
 |false=>rfl
 |true=>exact ai (b9 hb) h
theorem akE (a b:UInt8):(a == b)=decide (a.toNat=b.toNat):=by
 by_cases h:a=b
 ·subst h;simp
 have:a.toNat≠b.toNat:=λ e=>h (UInt8.toNat_inj.1 e);simp[h,this]
theorem La:∀(a b:List UInt8),Op.bytesLess a b=jx (a.map UInt8.toNat) (b.map UInt8.toNat)
 |[],[]=>rfl
 |[],_::_=>rfl
 |_::_,[]=>rfl
 |a::x,b::y=>by
  simp only[Op.bytesLess,map_cons,jx,La x y,blt_eq,beq_eq,akE,UInt8.lt_iff_toNat_lt]
theorem eJ:∀(a b:List Nat),eQ a b=(a == b)
 |[],[]=>rfl
 |[],_::_=>rfl
 |_::_,[]=>rfl
 |a :: x,b::y=>by
  simp only[eQ,cons_beq_cons]
  cases hb:Nat.beq a b with
  |true=>have:=b9 hb;subst this;simp[eJ x y]
  |false =>
   have:¬a=b:=λ e=>by subst e;simp at hb
   simp[this]
theorem HM (a b:List UInt8):(a == b)=eQ (a.map UInt8.toNat) (b.map UInt8.toNat):=by
 rw[eJ]
 by_cases h:a=b
 ·subst h;simp
 have:a.map UInt8.toNat≠b.map UInt8.toNat:=λ e=>h (List.map_inj_right (λ x y hxy=>UInt8.toNat_inj.1 hxy) |>.1 e);rw[beq_eq_false_iff_ne.2 h,beq_eq_false_iff_ne.2 this]
theorem SH {o:Oper}{arr e:TypeId}{k:Nat}{x:Operand}{g:G}(ho:o.op=.sliceToArrayPointer arr x)(hg:bQ x=some g)(hu:P.underlying arr=some (.array k e)):bC P o (e1 (Il k) g):=by
 refine sM hg _ λ φ D h w n ρ v xv hr hx hv hf hne=>?_;unfold Il at hne ⊢
 split at hne
 ·rename_i b off len s
  split at hne
  ·rename_i hc;simp only[dN]at hc;have hc1:=dE hc.1;have hc2:0<k:=dE hc.2
   cases hv with
   |sl _ _ _ _ cb co cz cap ad hp hle hex =>
   obtain⟨rfl,_⟩:=hex (by omega);refine Does.val hr (cv:=.pointer (some ⟨cb,co+off,none⟩)) ?_ (.ptr _ _ _ _ _ hp);have hlt:¬len<k:=by omega
   simp[execOp,ho,hx,Instr.arrayAt,run_underlying hu,hlt]
  exact ai rfl hne
 exact ai rfl hne
theorem agy {o:Oper}{t:TypeId}{x y:Operand}{g k:G}(ho:o.op=.index t x y) (hg:bQ x=some g) (hk:bQ y=some k) (hu:P.underlying t=some .string):bC P o (e2 xh g k):=by
 refine HN hg hk _ λ φ D h w n ρ v u xv yv hr hx hy hv huv hf hne=>?_;unfold xh at hne ⊢
 split at hne
 ·rename_i l kk i;rw[mA]at hne ⊢
  cases hc:l[i]? with
  |none=>rw[hc]at hne;exact ai rfl hne
  |some c =>
   cases huv
   cases hv with
   |str bs _ hs =>
   have hb:∃b:UInt8,bs.data[i]?=some b/\b.toNat=c:=by
    rw[<-hs,getElem?_map]at hc
    cases hd:bs.data.toList[i]? with
    |none=>rw[hd]at hc;cases hc
    |some b=>rw[hd]at hc;injection hc with hc;exact⟨b,by simpa using hd,hc⟩
   obtain⟨b,hb,hbc⟩:=hb
   have hb':bs[i]?=some b:=by
    have hlt:=(nJ.1 hb);obtain⟨h1,h2⟩:=hlt;have:i<bs.size:=h1;simp only[getElem?,decidableGetElem?];rw[dif_pos this]
    congr 1
   refine Does.val hr (cv:=.int .u8 (Int.ofNat c)) ?_ (.int _ _);simp only[execOp,ho,hx,hy,Instr.index,bM,asIntOf,cD,bJ,run_underlying hu];simp[hb',hbc]
 exact ai rfl hne
theorem ye {φ:Ph}{D:Da}{v:AV}{x:Value}{k:Nat}(h:sliceLen v=some k)(hv:VR φ D v x)(w:World):(Builtin.lenOf x).run P w=.ok k w:=by
 unfold sliceLen at h
 split at h
 ·injection h with h;subst h;cases hv;simp[Builtin.lenOf]
 ·injection h with h;subst h;cases hv<;>simp[Builtin.lenOf]
 ·injection h with h;subst h
  cases hv with
  |al _ hat=>simp[atom]at hat;split at hat<;>simp_all [Builtin.lenOf]
 ·rw[bI]at h;injection h with h;subst h
  cases hv with
  |str s _ hs=>simp[Builtin.lenOf,kE hs]
 cases h
theorem fB {s:Sem Next}{φ:Ph}{D:Da}{h:Hf}{w:World}{n:Nat}{k:IntKind}{i:Int}(hr:Rel φ D h w)(hrun:s.run P w=.ok (.value (.int k i)) w):Does P s φ D h w n (kJ k i):=by
 unfold kJ;rw[lT];exact Does.val hr hrun (.int _ _)
theorem HL {op:BinOp}{t:TypeId}{x y:Operand}{a b:Value}(h:op≠.eql/\op≠.neq)(w:World):(eqGuard op t x y a b).run P w=.ok () w:=by
 obtain⟨h1,h2⟩:=h
 cases op<;>first|exact ai rfl h1|exact ai rfl h2|(simp[eqGuard])
theorem agC {o:Oper}{op:BinOp}{t u:TypeId}{x y:Operand}{g k:G}(ho:o.op=.binOp op t x y u) (hg:bQ x=some g) (hk:bQ y=some k) (hop:op≠.eql/\op≠.neq):bC P o (e2 (dq op) g k):=by
 refine HN hg hk _ λ φ D h w n ρ v u xv yv hr hx hy hv huv hf hne=>?_;clear hf
 revert hne
 have hrun:∀r,(binOp op t xv yv).run P w=.ok r w->(execOp ρ o).run P w=.ok (.value r) w:=by
  intro r hr';simp only[execOp,ho,hx,hy,bM,HL hop,bJ,hr',cD]
 have arith:op=.sub∨op=.mul∨op=.quo∨op=.rem∨op=.and∨op=.or∨op=.xor∨op=.andNot->uz (dw op) v u≠.fail->Does P (execOp ρ o) φ D h w n (uz (dw op) v u):=by
  intro hop' hne;unfold uz at hne ⊢
  split at hne
  ·rename_i kk a j b
   split at hne
   ·rename_i e;subst e;rw[ao rfl];cases hv;cases huv
    rcases hop' with rfl|rfl|rfl|rfl|rfl|rfl|rfl|rfl
    ·exact fB hr (hrun _ (by simp[binOp,Op.intArith]))
    ·exact fB hr (hrun _ (by simp[binOp,Op.intArith]))
    ·simp only[dw]at hne ⊢
     by_cases hb:b=0
     ·simp[hb]at hne
     rw[ah hb];exact fB hr (hrun _ (by simp[binOp,Op.intDiv,hb]))
    ·simp only[dw]at hne ⊢
     by_cases hb:b=0
     ·simp[hb]at hne
     rw[ah hb];exact fB hr (hrun _ (by simp[binOp,Op.intDiv,hb]))
    ·exact fB hr (hrun _ (by simp[binOp,Op.intBits]))
    ·exact fB hr (hrun _ (by simp[binOp,Op.intBits]))
    ·exact fB hr (hrun _ (by simp[binOp,Op.intBits]))
    exact fB hr (hrun _ (by simp[binOp,Op.intBits]))
   exact ai rfl hne
  exact ai rfl hne
 have cmp:op=.lss∨op=.leq∨op=.gtr∨op=.geq->pU op v u≠.fail->Does P (execOp ρ o) φ D h w n (pU op v u):=by
  intro hop' hne;unfold pU at hne ⊢
  split at hne
  ·rename_i kk a j b
   split at hne
   ·rename_i e;subst e;rw[ao rfl];cases hv;cases huv
    rcases hop' with rfl|rfl|rfl|rfl
    ·exact Does.val hr (hrun _ (by simp[binOp,Op.intCmp])) (.bool _)
    ·exact Does.val hr (hrun _ (by simp[binOp,Op.intCmp])) (.bool _)
    ·exact Does.val hr (hrun _ (by simp[binOp,Op.intCmp])) (.bool _)
    exact Does.val hr (hrun _ (by simp[binOp,Op.intCmp])) (.bool _)
   exact ai rfl hne
  ·rename_i a b
   cases hv with
   |str s _ hs =>
   cases huv with
   |str s' _ hs' =>
   have hl:Op.bytesLess s.toList s'.toList=jx a b:=by rw[La,<-toList_data,<-toList_data,hs,hs']
   have he:(s.toList == s'.toList)=eQ a b:=by rw[HM,<-toList_data,<-toList_data,hs,hs']
   rcases hop' with rfl|rfl|rfl|rfl
   ·exact Does.val hr (hrun _ (by simp[binOp,Op.stringOp,hl])) (.bool _)
   ·exact Does.val hr (hrun _ (by simp[binOp,Op.stringOp,hl,he])) (.bool _)
   ·exact Does.val hr (hrun _ (by simp[binOp,Op.stringOp,hl,he])) (.bool _)
   exact Does.val hr (hrun _ (by simp[binOp,Op.stringOp,hl])) (.bool _)
  exact ai rfl hne
 have shift:op=.shl∨op=.shr->fH op v u≠.fail->Does P (execOp ρ o) φ D h w n (fH op v u):=by
  intro hop' hne;unfold fH at hne ⊢
  split at hne
  ·rename_i kk a j b;cases hv;cases huv;have hb:¬(Int.ofNat b)<0:=by simp
   rcases hop' with rfl|rfl
   ·exact fB hr (hrun _ (by simp only[binOp,Op.shift];rw[ah hb];rfl))
   exact fB hr (hrun _ (by simp only[binOp,Op.shift];rw[ah hb];rfl))
  exact ai rfl hne
 have add:op=.add->yq v u≠.fail->Does P (execOp ρ o) φ D h w n (yq v u):=by
  intro hop' hne;subst hop';unfold yq at hne ⊢
  split at hne
  ·rename_i kk a j b
   split at hne
   ·rename_i e;subst e;rw[ao rfl];cases hv;cases huv;exact fB hr (hrun _ (by simp[binOp,Op.intArith]))
   exact ai rfl hne
  ·rename_i a b
   split at hne
   ·rename_i hle;have hle:=dE hle;rw[bI,bI]at hle
    cases hv with
    |str s _ hs =>
    cases huv with
    |str s' _ hs' =>
    have hsz:¬(((s.size+s'.size:Nat):Int)>IntKind.i64.max):=by
     rw[kE hs,kE hs'];have:IntKind.i64.max=9223372036854775807:=by decide
     rw[this];unfold big at hle;omega
    refine Does.val hr (hrun (.string (s++s')) ?_) (.str _ _ ?_)
    ·simp only[binOp,Op.stringOp];rw[ah hsz];rfl
    rw[<-hs,<-hs',ByteArray.data_append];simp
   exact ai rfl hne
  exact ai rfl hne
 intro hne
 cases op with
 |eql=>exact ai rfl hop.1
 |neq=>exact ai rfl hop.2
 |add=>exact add rfl hne
 |lss=>exact cmp (by simp) hne
 |leq=>exact cmp (by simp) hne
 |gtr=>exact cmp (by simp) hne
 |geq=>exact cmp (by simp) hne
 |shl=>exact shift (by simp) hne
 |shr=>exact shift (by simp) hne
 |_=>exact arith (by simp) hne
end
end Go.Abs
namespace Go.Abs
open List
section
variable {P:Program}
theorem mX {φ:Ph}{D:Da}{w:World}{H:Hp}{sz k:Nat}{v:AV}{x:Value}{l:List AV}(hr:Rel φ D H.get w) (hv:VR φ D v x) (h:aV H sz v=some l) (hk:sliceLen v=some k):
  l.length=k*sz/\∃xs,bO φ D l xs/\(∀dr:Nat,(Builtin.firstCells sz k x).run P {w with drawn:=dr}=.ok ⟨xs⟩ {w with drawn:=dr})/\(Builtin.lenOf x).run P w=.ok k w:=by
 have hlen:=ye (P:=P) hk hv w;unfold aV at h
 split at h
 ·rename_i b o len s;simp only[sliceLen]at hk;injection hk with hk;subst hk
  cases hs:Nat.beq s sz with
  |false=>rw[hs]at h;cases h
  |true =>
   rw[hs]at h;have hs:=b9 hs;subst hs;dsimp only [cond]at h
   split at h
   ·rename_i u z bs t hb
    cases hv with
    |sl _ _ _ _ cb co cz cap ad hp hle hex =>
    obtain⟨_,c,e,fr,q1,q2,q3,q4,q5,q6⟩:=hr.block hb hp;dsimp only at q1 q2 q4;obtain⟨g1,g2⟩:=jb q5 h;refine⟨g1,?_⟩
    have hx:∀i v,l[i]?=some v->∃x,c[co+o+i]?=some x/\VR φ D v x:=by
     intro i v hv;have hi:i<l.length:=(pS.1 hv).1;have:=q4 (o+i) v (by rw[g2 i (by omega)];exact hv);simpa[Nat.add_assoc]using this
    let xs:=(c.toList.drop (co+o)).take (len*s)
    have hsz:co+o+len*s<=c.size∨len*s=0:=by
     rcases Nat.eq_zero_or_pos (len*s)with h0|h0
     ·exact .inr h0
     left
     obtain⟨x,hx',_⟩:=hx (len*s - 1) l[len*s - 1] (cE (by omega));have:=(nJ.1 hx').1;omega
    have hxl:xs.length=len*s:=by simp[xs];omega
    have hvs:bO φ D l xs:=by
     refine bO.mz (by omega) λ i v hv=>?_;obtain⟨x,hx1,hx2⟩:=hx i v hv;have hi:i<l.length:=(pS.1 hv).1;exact⟨x,by simp only[xs];rw[getElem?_take,ao (by omega),iV];simpa using hx1,hx2⟩
    refine⟨xs,hvs,λ dr=>?_,hlen⟩
    rcases Nat.eq_zero_or_pos cap with h0|h0
    ·have:len=0:=by omega
     subst this;have:xs=[]:=eq_nil_of_length_eq_zero (by simpa using hxl);rw[this];simp[Builtin.firstCells,loadCells,loadCellsFrom]
    obtain⟨rfl,_⟩:=hex h0
    have hrun:=eG (P:=P) (w:={w with drawn:=dr}) (cb:=cb) (o:=co+o) q1 xs (λ i x hx=>by
     simp only[xs]at hx;rw[getElem?_take]at hx
     split at hx
     ·rw[iV]at hx;simpa using hx
     cases hx)
    rw[hxl]at hrun;simp only[Builtin.firstCells];exact hrun
   cases h
 ·rename_i cs len s;simp only[sliceLen]at hk;injection hk with hk;subst hk
  cases hs:Nat.beq s sz with
  |false =>
   rw[hs]at h
   cases hz:Nat.beq len 0 with
   |false=>rw[hz]at h;cases h
   |true =>
    rw[hz]at h;have hz:=b9 hz;subst hz;simp only[Bool.false_or,cond_true]at h;injection h with h;subst h
    cases hv with
    |ds _ _ _ cap cb co cells ll hD hll hcs hvs hle =>
     have:cs=[]:=eq_nil_of_length_eq_zero (by simpa using hcs);subst this;exact⟨by simp,[],.nil,λ dr=>by simp[Builtin.firstCells,loadCells,loadCellsFrom],hlen⟩
    |nZ=>exact⟨by simp,[],.nil,λ dr=>by simp[Builtin.firstCells,loadCells,loadCellsFrom],hlen⟩
    |rH=>exact⟨by simp,[],.nil,λ dr=>by simp[Builtin.firstCells],hlen⟩
  |true =>
   rw[hs]at h;have hs:=b9 hs;subst hs;simp only[Bool.true_or,cond_true]at h;injection h with h;subst h
   cases hv with
   |ds _ _ _ cap cb co cells ll hD hll hcs hvs hle =>
    refine⟨hcs,ll,hvs,λ dr=>?_,hlen⟩;obtain⟨e,fr,hh⟩:=hr.ep.1 _ _ hD
    have hrun:=eG (P:=P) (w:={w with drawn:=dr}) (cb:=cb) (o:=co) hh ll (λ i x hx=>by
      rw[hll,getElem?_take]at hx
      split at hx
      ·rw[iV]at hx;simpa using hx
      cases hx)
    rw[<-hvs.length,hcs]at hrun;simp only[Builtin.firstCells];exact hrun
   |nZ=>exact⟨by simp,[],.nil,λ dr=>by simp[Builtin.firstCells,loadCells,loadCellsFrom],hlen⟩
   |rH=>exact⟨by simp,[],.nil,λ dr=>by simp[Builtin.firstCells],hlen⟩
 ·injection h with h;subst h;simp only[sliceLen]at hk;injection hk with hk;subst hk
  cases hv with
  |al _ hat=>exact⟨by simp,[],.nil,λ dr=>by simp[Builtin.firstCells],hlen⟩
 ·rename_i bs
  cases hs:Nat.beq sz 1 with
  |false=>rw[hs]at h;cases h
  |true =>
   rw[hs]at h;have hs:=b9 hs;subst hs;dsimp only [cond]at h;injection h with h;subst h;simp only[sliceLen,bI]at hk;injection hk with hk;subst hk
   cases hv with
   |str s _ hs =>
   have hl:=kE hs;refine⟨by simp[QW],s.data.toList.map λ b=>.int .u8 b.toNat,?_,λ dr=>?_,hlen⟩
   ·rw[<-hs];unfold QW;refine bO.mz (by simp) λ i v hv=>?_;simp only[getElem?_map,map_map]at hv ⊢
    cases hd:s.data.toList[i]? with
    |none=>rw[hd]at hv;cases hv
    |some b=>rw[hd]at hv;simp at hv;subst hv;exact⟨_,rfl,.int _ _⟩
   simp only[Builtin.firstCells];rw[<-hl]
   have:(s.extract 0 s.size).data=s.data:=by
    rw[ByteArray.data_extract];show s.data.extract 0 s.data.size=s.data;simp
   rw[this];simp only[cD]
   congr 1
   apply Array.ext';simp
 cases h
theorem mO {φ:Ph}{D:Da}:∀ {l:List AV}{xs:List Value}{bs:List Nat},bO φ D l xs->bytesOf l=some bs->∃ns:List Int,xs=ns.map (.int .u8)/\bs=ns.map λ n=>n.toNat % 256
 |[],xs,bs,h,hb=>by
  cases h
  simp[bytesOf]at hb;subst hb;exact⟨[],rfl,rfl⟩
 |v :: l,xs,bs,h,hb=>by
  cases h with
  |cons _ x _ xs h1 h2 =>
  unfold bytesOf at hb
  split at hb
  ·rename_i heq;cases heq
  ·rename_i n r heq;injection heq with e1 e2;subst e1 e2
   cases hr:bytesOf l with
   |none=>rw[hr]at hb;cases hb
   |some bs' =>
    rw[hr]at hb;injection hb with hb;subst hb;obtain⟨ns,rfl,rfl⟩:=mO h2 hr;cases h1;exact⟨n::ns,rfl,rfl⟩
  cases hb
theorem wO:∀(ns:List Int)(s:ByteArray),(ns.foldl (λ r n=>r.push (UInt8.ofNat n.toNat)) s).data.toList.map UInt8.toNat=s.data.toList.map UInt8.toNat++ns.map λ n=>n.toNat % 256
 |[],s=>by simp
 |n::ns,s=>by
  simp only[foldl_cons,map_cons];rw[wO ns,ByteArray.data_push];simp
theorem agD {o:Oper}{s d e:TypeId}{x:Operand}{g:G}(ho:o.op=.convert s d x) (hg:bQ x=some g) (hs:P.underlying s=some (.slice e)) (hd:P.underlying d=some .string) (he:P.underlying e=some (.int .u8)):bC P o (HS g):=by
 intro F H n φ D a w hr hF hf hne;unfold HS at hf hne ⊢
 cases hv:g.f F with
 |none=>rw[hv]at hne;exact ai rfl hne
 |some v =>
  rw[hv]at hf hne;dsimp only at hf hne ⊢;have fD:=aH hg F φ D a hF v hv;have hns:∀l,v≠.str l:=by rintro l rfl;exact hne rfl
  have hcb:Ik v H=(match aV H 1 v with
   |some l=>match bytesOf l with
    |some bs=>.val (.str bs)
    |none=>.fail
   |none=>.fail):=by
   unfold Ik;split
   ·exact ai rfl (hns _)
   rfl
  rw[hcb]at hf hne ⊢
  cases hc:aV H 1 v with
  |none=>rw[hc]at hne;exact ai rfl hne
  |some l =>
   rw[hc]at hf hne;dsimp only at hf hne ⊢
   cases hb:bytesOf l with
   |none=>rw[hb]at hne;exact ai rfl hne
   |some bs =>
    dsimp only
    have hk:∃k,sliceLen v=some k:=by
     unfold aV at hc;unfold sliceLen
     split at hc<;>first|exact⟨_,rfl⟩|cases hc
    obtain⟨k,hk⟩:=hk;obtain⟨h1,xs,h2,h3',h4⟩:=mX (P:=P) hr fD hc hk;have h3:(Builtin.firstCells 1 k (a.eval x)).run P w=.ok ⟨xs⟩ w:=h3' w.drawn;clear h3';obtain⟨ns,rfl,rfl⟩:=mO h2 hb;simp only[Nat.mul_one]at h1;generalize hxv:a.eval x=xv at *
    have hshape:(∃ad len cap,xv=.slice (some ad) len cap/\len=k)∨xv=.slice none 0 0:=by
     cases fD with
     |sl=>left;simp only[sliceLen]at hk;injection hk with hk;exact⟨_,_,_,rfl,hk⟩
     |ds=>left;simp only[sliceLen]at hk;injection hk with hk;exact⟨_,_,_,rfl,hk⟩
     |nZ=>left;simp only[sliceLen]at hk;injection hk with hk;exact⟨_,_,_,rfl,hk⟩
     |rH=>right;rfl
     |str=>exact ai rfl (hns _)
     |al _ hat=>right;unfold sliceLen at hk;split at hk<;>simp_all [atom];split at hat<;>simp_all
     |_=>simp[sliceLen]at hk
    have hrun:∃st,(Conv.bytesToString xv).run P w=.ok (.string st) w/\st.data.toList.map UInt8.toNat=ns.map λ n=>n.toNat % 256:=by
     rcases hshape with⟨ad,len,cap,rfl,rfl⟩|rfl
     ·simp only[Builtin.firstCells,Nat.mul_one]at h3;refine⟨_,run_bytesToString w ad len cap ns h3,?_⟩;rw[wO];rfl
     refine⟨ByteArray.empty,by simp[Conv.bytesToString],?_⟩;simp only[Builtin.firstCells,cD]at h3;injection h3 with h3;have:ns.map (Value.int .u8)=[]:=by have:=congrArg Array.toList h3;simpa using this.symm
     have:ns=[]:=by simpa using this
     subst this;rfl
    obtain⟨st,gw,hbytes⟩:=hrun;refine Does.val hr (cv:=.string st) ?_ (.str _ _ hbytes)
    have hconv:(convert s d xv).run P w=.ok (.string st) w:=by
     obtain⟨aa,ll,cc,rfl⟩:∃aa ll cc,xv=.slice aa ll cc:=by
      rcases hshape with⟨ad,len,cap,rfl,_⟩|rfl
      ·exact⟨_,_,_,rfl⟩
      exact⟨_,_,_,rfl⟩
     rw[run_convert_bytes_string w s d e aa ll cc hs he hd];exact gw
    simp only[execOp,ho,hxv,bM,hconv,bJ,cD]
end
end Go.Abs
namespace Go.Abs
open List
section
variable {P:Program}
theorem RB {φ:Ph}{D:Da}{h:Hf}{w:World}(hr:Rel φ D h w)(k:Nat):Rel φ D h {w with drawn:=k}:=
 ⟨λ b kk hb=>let ⟨p,a,c,d⟩:=hr.blk b kk hb;⟨p,a,c,d.mono (λ _ _ h=>h) (λ _ _ h=>h) rfl⟩,hr.inj,hr.sep,hr.ep⟩
theorem Ua {φ D h w n φ' D' h' w' n'}(k:Nat)(e:Ext φ D h {w with drawn:=k} n φ' D' h' w' n'):Ext φ D h w n φ' D' h' w' n':=
 ⟨e.le,e.phi,e.new,e.ep,e.size,e.keep,e.live,e.jW,e.hid,e.os,e.out⟩
theorem uK {φ:Ph}{D:Da}{h:Hf}{w:World}{n:Nat}(hr:Rel φ D h w)(hf:bW φ n (n+1))(c:Array Value)(e:TypeId)(fr:Nat×Nat)(hfr:Nfr c.size fr)(k:br)
  (u:Nat)(z bs:List AV)(t:Ov AV)(hk:k=.cells u z bs t)(hc:∀i v,gz u z bs t i=some v->∃x,c[i]?=some x/\VR φ D v x)(hi:t=.nil->z=[]->bs.length=u)(hu:u<=c.size)(d:Nat):
  Rel (φ.set n (w.heap.size,0,c.size)) D (h.set n (some k)) (World.newObj {w with drawn:=d} (.cells c e fr)) /\
   Ext φ D h w n (φ.set n (w.heap.size,0,c.size)) D (h.set n (some k)) (World.newObj {w with drawn:=d} (.cells c e fr)) (n+1):=by
 have hn:φ n=none:=hf n (aP _) (by omega)
 obtain⟨h1,h2⟩:=mr (RB hr d) hf (.cells c e fr) c.size k (by
  subst hk;refine⟨c,e,fr,KQ _ _,rfl,hfr,λ i v hv=>?_,hi,by simpa using hu⟩;obtain⟨x,hx,hv'⟩:=hc i v hv;exact⟨x,by simpa using hx,hv'.mono (Ph.gj hn) λ _ _ h=>h⟩)
 exact⟨h1,Ua _ h2⟩
theorem agu {o:Oper}{s d e:TypeId}{x:Operand}{g:G}(ho:o.op=.convert s d x) (hg:bQ x=some g) (hs:P.underlying s=some .string) (hd:P.underlying d=some (.slice e)) (he:P.underlying e=some (.int .u8)):bC P o (Qb g):=by
 intro F H n φ D a w hr hF hf hne;unfold Qb at hf hne ⊢
 cases hv:g.f F with
 |none=>rw[hv]at hne;exact ai rfl hne
 |some v =>
  rw[hv]at hf hne;have fD:=aH hg F φ D a hF v hv
  cases v with
  |str l =>
   dsimp only at hf hne ⊢;generalize hxv:a.eval x=xv at fD
   cases fD with
   |str st _ gw =>
   rw[bI]at hf ⊢;have hrun:=run_bytes_of_string (P:=P) w s d e st hs hd he
   have hcap:st.size<=grownCap w st.size 0 e:=by
    unfold grownCap;simp[Question.cut]
   generalize hgc:grownCap w st.size 0 e=gc at hrun hcap;have hlen:=kE gw
   have amh:(bytesRow st gc).size=gc:=by
    unfold bytesRow;simp[show st.data.size=st.size from rfl];omega
   have ami:∀i,i<l.length->∃b:UInt8,st.data.toList[i]?=some b/\(bytesRow st gc)[i]?=some (.int .u8 b.toNat):=by
    intro i hi;have hi':i<st.data.toList.length:=by rw[Array.length_toList];show i<st.size;omega
    refine⟨st.data.toList[i],cE hi',?_⟩;unfold bytesRow;rw[Array.getElem?_append_left (by simpa using hi')];simp at hi';simp[hi']
   obtain⟨h1,h2⟩:=uK hr hf (bytesRow st gc) e ((bytesRow st gc).size,(bytesRow st gc).size+1) (.inr (aP _)) (.cells l.length [] (QW l) .nil) l.length [] (QW l) .nil rfl
    (λ i v hv=>by
     rw[bY]at hv
     split at hv
     ·rename_i hi;simp at hv;obtain⟨b,hb1,hb2⟩:=ami i hi;refine⟨_,hb2,?_⟩
      have:(QW l)[i]?=some (.int .u8 (Int.ofNat b.toNat)):=by
       unfold QW;rw[<-gw];simp only[getElem?_map,hb1,Option.map_some]
      rw[this]at hv;simp at hv;subst hv;exact .int _ _
     cases hv) (λ _ _=>by simp[QW]) (by rw[amh];omega) (w.drawn+1)
   refine⟨.value (.slice (some ⟨w.heap.size,0,none⟩) st.size gc),_,_,_,?_,.value _,h2,h1,?_⟩
   ·have:w.drew.alloc (.cells (bytesRow st gc) e ((bytesRow st gc).size,(bytesRow st gc).size+1))=World.newObj {w with drawn:=w.drawn+1} (.cells (bytesRow st gc) e ((bytesRow st gc).size,(bytesRow st gc).size+1)):=rfl;rw[<-this];simp only[execOp,ho,hxv,bM,hrun,bJ,cD]
   simp only[Pm];rw[hlen];exact vL (by omega) (by rw[amh];omega)
  |_=>exact ai rfl hne
theorem aa1 {o:Oper}{t e:TypeId}{z:List AV}{sz fP:Nat}{x y:Operand}{g k:G}(ho:o.op=.makeSlice t x y) (hg:bQ x=some g) (hk:bQ y=some k) (he:ua P t=some e) (hz:mW P e=some z) (hs:bS P e=some sz)
  (hb:sY P e=some fP)(hzl:z.length=sz):bC P o (zy z sz fP g k):=by
 obtain⟨ti,zv,hi,h0,hc⟩:=j8 hz;have hu:=qS he;have hby:ti.bytes=fP:=by simpa[sY,hi]using hb
 intro F H n φ D a w hr hF hf hne;unfold zy at hf hne ⊢
 cases hv:g.f F with
 |none=>rw[hv]at hne;exact ai rfl hne
 |some v =>
  rw[hv]at hf hne;dsimp only at hf hne ⊢
  cases hv2:k.f F with
  |none=>rw[hv2]at hne;exact ai rfl hne
  |some u =>
   rw[hv2]at hf hne;dsimp only at hf hne ⊢;have fD:=aH hg F φ D a hF v hv;have hur:=aH hk F φ D a hF u hv2;unfold LQ at hf hne ⊢
   split at hne
   ·rename_i k1 l k2 c
    split at hne
    ·rename_i hcond;dsimp only at hf;rw[hcond]at hf;dsimp only at hf;simp only[dN]at hcond;obtain⟨⟨c1,c2⟩,c3⟩:=hcond;have c1:=dE c1;have c2:=dE c2;have c3:=dE c3;unfold big at c2;generalize hxv:a.eval x=xv at fD;generalize hyv:a.eval y=yv at hur;cases fD;cases hur
     have hz':∀i,i<c*sz->∃xx v,((Array.range (c*sz)).map ((if c*sz=0 then #[]else zv.cells)[· % (if c*sz=0 then #[]else zv.cells).size]!))[i]?=some xx/\z[i % z.length]?=some v/\VR φ D v xx:=by
      intro i hi';rw[ah (by omega)]
      have hp:0<z.length:=by
       rcases Nat.eq_zero_or_pos z.length with h|h
       ·rw[<-hzl,h]at hi';simp at hi'
       exact h
      exact yA (.atoms hc) hp (c*sz) i hi'
     generalize hcc:(Array.range (c*sz)).map ((if c*sz=0 then #[]else zv.cells)[· % (if c*sz=0 then #[]else zv.cells).size]!)=cc at hz';have hccs:cc.size=c*sz:=by rw[<-hcc];simp
     have hdf:∀i v,dflt z i=some v->z[i % z.length]?=some v:=by
      intro i v hv
      cases z with
      |nil=>cases hv
      |cons z0 r=>cases r with
       |nil=>have hv':some z0=some v:=hv;simpa[Nat.mod_one]using hv'
       |cons z1 r=>exact hv
     obtain⟨h1,h2⟩:=uK hr hf cc e (0,0) (.inl rfl) (.cells (c*sz) z [] .nil) (c*sz) z [] .nil rfl
      (λ i v hv=>by
       rw[bY]at hv
       split at hv
       ·rename_i hi';simp at hv;obtain⟨xx,v',q1,q2,q3⟩:=hz' i hi';rw[hdf i v hv]at q2;injection q2 with q2;subst q2;exact⟨xx,q1,q3⟩
       cases hv) (λ _ hz0=>by subst hz0;simp at hzl;subst hzl;simp) (by omega) w.drawn
     refine⟨.value (.slice (some ⟨w.heap.size,0,none⟩) l c),_,_,_,?_,.value _,h2,h1,vL c1 (by omega)⟩
     have hw1:IntKind.i64.wrap (Int.ofNat l)=Int.ofNat l:=by
      have hp:(2:Int) ^ IntKind.i64.bits=18446744073709551616:=by decide
      have hp2:(2:Int) ^ (IntKind.i64.bits - 1)=9223372036854775808:=by decide
      unfold IntKind.wrap;rw[hp,hp2];have hm:(Int.ofNat l) % 18446744073709551616=Int.ofNat l:=Int.emod_eq_of_lt (Int.natCast_nonneg _) (by simp;omega);rw[hm];simp;omega
     have hw2:IntKind.i64.wrap (Int.ofNat c)=Int.ofNat c:=by
      have hp:(2:Int) ^ IntKind.i64.bits=18446744073709551616:=by decide
      have hp2:(2:Int) ^ (IntKind.i64.bits - 1)=9223372036854775808:=by decide
      unfold IntKind.wrap;rw[hp,hp2];have hm:(Int.ofNat c) % 18446744073709551616=Int.ofNat c:=Int.emod_eq_of_lt (Int.natCast_nonneg _) (by simp;omega);rw[hm];simp;omega
     have hbig:¬(((fP:Nat):Int)*(Int.ofNat c)>2 ^ 48):=by
      have:((fP:Nat):Int)*(Int.ofNat c)=((fP*c:Nat):Int):=by simp
      rw[this];omega
     have hrun:(Instr.makeSlice t (.int k1 (Int.ofNat l)) (.int k2 (Int.ofNat c))).run P w=.ok (.slice (some ⟨w.heap.size,0,none⟩) l c) (World.newObj {w with drawn:=w.drawn} (.cells cc e (0,0))):=by
      unfold Instr.makeSlice;simp only[bM,run_underlying hu,bJ,asInt,asIntOf,cD,run_typeInfo w hi,hw1,hw2,hby];rw[ah (by simp;omega)];simp only[bM,run_askRoom,bJ,bR hs,show (Int.ofNat c).toNat=c from rfl,show (Int.ofNat l).toNat=l from rfl]
      by_cases hz0:c*sz=0
      ·rw[ao hz0];rw[ao hz0]at hcc;simp only[bM,cD,bJ];rw[hcc];simp[newRow,World.newObj]
      rw[ah hz0];rw[ah hz0]at hcc;simp only[bM,nF hi h0,cD,bJ];rw[hcc];simp[newRow,World.newObj]
     simp only[execOp,ho,hxv,hyv,bM,hrun,bJ,cD]
    exact ai rfl hne
   exact ai rfl hne
end
end Go.Abs
namespace Go.Abs
open List
section
variable {P:Program}
theorem Hj (need cap:Nat)(h:cap<need):Builtin.nextslicecap need cap<=4*need+4096:=by
 unfold Builtin.nextslicecap;have grow:∀r c,Builtin.growBy need r c<=c+r*0∨True:=λ _ _=>.inr trivial;have g1:∀c,c<=need->c+(c+768) / 4<=2*need+192:=by intro c hc;omega
 have g2:∀r c,c<=2*need+192->Builtin.growBy need r c<=2*need+192:=by
  intro r
  induction r with
  |zero=>intro c hc;exact hc
  |succ r ih =>
   intro c hc;simp only[Builtin.growBy]
   split
   ·exact hc
   exact ih _ (g1 c (by omega))
 clear grow
 split
 ·omega
 split
 ·omega
 have:=g2 4 cap (by omega);omega
theorem abd {fP need cap:Nat}(hb:fP<=4096)(hn:need<=1073741824)(hc:cap<need):¬Builtin.nextslicecap need cap*fP>2 ^ 48:=by
 have h1:=Hj need cap hc;have h2:Builtin.nextslicecap need cap*fP<=(4*need+4096)*4096:=Nat.mul_le_mul h1 hb;omega
theorem pY {ats:Array TypeId}{args:Array Value}{t u ty e:TypeId}{d:TypeDesc}{sz len cap m:Nat}{ad:Addr}{x:Value}{xs:List Value}{w w':World}(h0:ats[0]?=some t)(h1:ats[1]?=some u)(a0:args[0]?=some (.slice (some ad) len cap))(a1:args[1]?=some x)
  (hu:P.underlying t=some (.slice e))(hd:P.underlying u=some d)(hnd:∀k,d≠.int k)(hs:bS P e=some sz)(hm:(Builtin.lenOf x).run P w=.ok m w)(hx:(Builtin.firstCells sz m x).run P w=.ok ⟨xs⟩ w)(hle:len+m<=cap)
  (gw:(storeCells (ad.add (len*sz)) xs).run P w=.ok () w'):(Builtin.append_ ats ty args).run P w=.ok (.slice (some ad) (len+m) cap) w':=by
 have hz:(match d with|.int _=>true|_=>false)=false:=by cases d<;>first|rfl|exact ai rfl (hnd _)
 unfold Builtin.append_;simp only[h0,h1,a0,a1,bM,run_underlying hu,bJ,bR hs,run_underlying hd,cD,Bool.false_eq_true,if_false,hm];simp only[Bool.not_false,if_true,ao hle,bM,hx,bJ,gw,cD]
theorem su {ats:Array TypeId}{args:Array Value}{t u ty e:TypeId}{d:TypeDesc}{sz:Nat}{x:Value}{xs:List Value}{w:World}(h0:ats[0]?=some t)(h1:ats[1]?=some u)(a0:args[0]?=some (.slice none 0 0))(a1:args[1]?=some x)
  (hu:P.underlying t=some (.slice e))(hd:P.underlying u=some d)(hnd:∀k,d≠.int k)(hs:bS P e=some sz)(hm:(Builtin.lenOf x).run P w=.ok 0 w)(hx:(Builtin.firstCells sz 0 x).run P w=.ok ⟨xs⟩ w):
  (Builtin.append_ ats ty args).run P w=.ok (.slice none 0 0) w:=by
 have hz:(match d with|.int _=>true|_=>false)=false:=by cases d<;>first|rfl|exact ai rfl (hnd _)
 unfold Builtin.append_;simp only[h0,h1,a0,a1,bM,run_underlying hu,bJ,bR hs,run_underlying hd,cD,Bool.false_eq_true,if_false,hm];simp only[Nat.add_zero,aP,Bool.not_false,if_true,bM,hx,bJ,cD]
theorem tL {ats:Array TypeId}{args:Array Value}{t u ty e:TypeId}{d:TypeDesc}{ti:TypeInfo}{zv:Value}{sz len cap m:Nat}{base:Option Addr}{x:Value}{xs ys:List Value}{w:World}(h0:ats[0]?=some t)(h1:ats[1]?=some u)(a0:args[0]?=some (.slice base len cap))(a1:args[1]?=some x)
  (hu:P.underlying t=some (.slice e))(hd:P.underlying u=some d)(hnd:∀k,d≠.int k)(hi:P.info? e=some ti)(hs:ti.size=sz)(hz0:ti.zero=some zv)(hzs:zv.cells.size=sz)(hby:ti.bytes<=4096)(hn:len+m<=1073741824)
  (hm:(Builtin.lenOf x).run P w=.ok m w)(hx:∀dr:Nat,(Builtin.firstCells sz m x).run P {w with drawn:=dr}=.ok ⟨xs⟩ {w with drawn:=dr})(hy:∀dr:Nat,(Builtin.firstCells sz len (.slice base len cap)).run P {w with drawn:=dr}=.ok ⟨ys⟩ {w with drawn:=dr})(hxl:xs.length=m*sz)(hyl:ys.length=len*sz)(hlt:cap<len+m):
  ∃nc rest dr,len+m<=nc/\((⟨ys++xs⟩:Array Value)++rest).size=nc*sz /\
   (Builtin.append_ ats ty args).run P w=.ok (.slice (some ⟨w.heap.size,0,none⟩) (len+m) nc) (World.newObj {w with drawn:=dr} (.cells ((⟨ys++xs⟩:Array Value)++rest) e (0,0))):=by
 have hz:(match d with|.int _=>true|_=>false)=false:=by cases d<;>first|rfl|exact ai rfl (hnd _)
 have hsz:bS P e=some sz:=by simp[bS,hi,hs]
 let q:=Question.appendCap (len+m) cap e;let nc:=q.cut (w.tape w.drawn q);have hnc:len+m<=nc:=by simp only[nc,q,Question.cut];omega
 refine⟨nc,Builtin.zeroCells zv.cells (nc - (len+m)),w.drawn+1,hnc,?_,?_⟩
 ·have:(Builtin.zeroCells zv.cells (nc - (len+m))).size=(nc - (len+m))*sz:=by simp[Builtin.zeroCells,hzs]
  rw[Array.size_append,this];simp only[size_toArray,length_append,hxl,hyl];rw[<-Nat.add_mul,<-Nat.add_mul]
  congr 1
  omega
 unfold Builtin.append_;simp only[h0,h1,a0,a1,bM,run_underlying hu,bJ,bR hsz,run_underlying hd,cD,Bool.false_eq_true,if_false,hm];rw[ah (by omega)]
 have hno:¬(((len+m:Nat):Int)>IntKind.i64.max/\(False∨ti.bytes=0)):=by
  have:IntKind.i64.max=9223372036854775807:=by decide
  rw[this];omega
 rw[bM,run_typeInfo w hi,bJ,ah hno,bM,run_typeInfo w hi,bJ,ah (abd hby hn hlt)]
 have hch:(choose (Question.appendCap (len+m) cap e)).run P w=.ok nc {w with drawn:=w.drawn+1}:=by
  rw[run_choose];rfl
 rw[bM,hch,bJ];simp only[bM,run_typeInfo _ hi,bJ,run_askRoom,hy,Bool.not_false,if_true,hx,nF hi hz0,newRow,run_newObj,cD,World.newObj];simp
theorem fO {ρ:Operand->Value}{o:Oper}{b:Builtin}{c:Call}(ho:o.op=.call c)(hc:c.callee=.builtin b)(w:World):
  ∃cs,(execOp ρ o).run P w=(builtin b c.argTypes o.type cs (c.args.map ρ)).run P w:=
 ⟨_,by simp only[execOp,ho,resolve,hc,bM,cD,bJ,invoke];rfl⟩
theorem Does.row {s:Sem Next}{φ:Ph}{D:Da}{h:Hf}{w:World}{n dr:Nat}{c:Array Value}{e:TypeId}{v:AV}{u:Nat}{z bs:List AV}{t:Ov AV}{cv:Value}(hr:Rel φ D h w)(hf:bW φ n (n+1))
  (hrun:s.run P w=.ok (.value cv) (World.newObj {w with drawn:=dr} (.cells c e (0,0))))(hc:∀i v,gz u z bs t i=some v->∃x,c[i]?=some x/\VR φ D v x)(hi:t=.nil->z=[]->bs.length=u)(hu:u<=c.size)
  (hv:VR (Ph.set φ n (w.heap.size,0,c.size)) D v cv):Does P s φ D h w n (.new v (.cells u z bs t)):=by
 obtain⟨h1,h2⟩:=uK hr hf c e (0,0) (.inl rfl) (.cells u z bs t) u z bs t rfl hc hi hu dr;exact⟨_,cv,_,_,hrun,.value _,h2,h1,hv⟩
theorem old_cells {φ:Ph}{D:Da}{h:Hf}{w:World}{b cb co cz o len cap sz u:Nat}{z bs:List AV}{t:Ov AV}{ad:Addr}(hr:Rel φ D h w) (hb:h b=some (.cells u z bs t)) (hp:φ b=some (cb,co,cz)) (hle:len<=cap) (hex:0<cap->ad=⟨cb,co+o,none⟩/\co+o+cap*sz<=cz):
  ∃ys:List Value,ys.length=len*sz/\(∀dr:Nat,(Builtin.firstCells sz len (.slice (some ad) len cap)).run P {w with drawn:=dr}=.ok ⟨ys⟩ {w with drawn:=dr})/\∀i v,i<len*sz->gz u z bs t (o+i)=some v->∃x,ys[i]?=some x/\VR φ D v x:=by
 obtain⟨_,c,e,fr,q1,q2,q3,q4,q5,q6⟩:=hr.block hb hp;dsimp only at q1 q2 q4 q6
 rcases Nat.eq_zero_or_pos cap with h0|h0
 ·have:len=0:=by omega
  subst this;exact⟨[],by simp,λ dr=>by simp[Builtin.firstCells,loadCells,loadCellsFrom],λ i v hi=>by omega⟩
 obtain⟨rfl,hfit⟩:=hex h0;have hm:len*sz<=cap*sz:=Ai _ hle;let xs:=(c.toList.drop (co+o)).take (len*sz);have hxl:xs.length=len*sz:=by simp[xs];omega
 refine⟨xs,hxl,λ dr=>?_,λ i v hi hg=>?_⟩
 ·have hrun:=eG (P:=P) (w:={w with drawn:=dr}) (cb:=cb) (o:=co+o) q1 xs (λ i x hx=>by
   simp only[xs]at hx;rw[getElem?_take]at hx
   split at hx
   ·rw[iV]at hx;simpa using hx
   cases hx)
  rw[hxl]at hrun;simp only[Builtin.firstCells];exact hrun
 obtain⟨x,hx,hv⟩:=q4 (o+i) v hg;refine⟨x,?_,hv⟩;simp only[xs];rw[getElem?_take,ao hi,iV];simpa[Nat.add_assoc]using hx
theorem Rel.Tc {s:Sem Next}{φ:Ph}{D:Da}{h:Hf}{w:World}{n dr b:Nat}{c:Array Value}{e:TypeId}{v:AV}{u:Nat}{z bs:List AV}{t:Ov AV}{cv:Value}(hr:Rel φ D h w)(hf:bW φ n (n+1))
  (hrun:s.run P w=.ok (.value cv) (World.newObj {w with drawn:=dr} (.cells c e (0,0))))(hc:∀i v,gz u z bs t i=some v->∃x,c[i]?=some x/\VR φ D v x)(hi:t=.nil->z=[]->bs.length=u)(hu:u<=c.size)
  (hv:VR (Ph.set φ n (w.heap.size,0,c.size)) D v cv):Does P s φ D h w n (.mv v b (.cells u z bs t)):=by
 obtain⟨k1,k2⟩:=RA (n:=n) (b:=b) hr;obtain⟨h1,h2⟩:=uK k1 hf c e (0,0) (.inl rfl) (.cells u z bs t) u z bs t rfl hc hi hu dr;exact⟨_,cv,_,_,hrun,.value _,k2.trans h2,h1,hv⟩
theorem U7 {s:Sem Next}{ats:Array TypeId}{args:Array Value}{t u ty e:TypeId}{d:TypeDesc}{ti:TypeInfo}{zv x:Value}{xs:List Value}{new:List AV}{sz len cap m b cb co cz off us u' n:Nat}{zz bs z' bs':List AV}{tt t':Ov AV}{ad:Addr}
  {φ:Ph}{D:Da}{h:Hf}{w:World}(hr:Rel φ D h w) (hf:bW φ n (n+1)) (hbk:h b=some (.cells us zz bs tt)) (hp:φ b=some (cb,co,cz)) (hle:len<=cap) (hex:0<cap->ad=⟨cb,co+off,none⟩/\co+off+cap*sz<=cz)
  (wG:∀(r:Value)(w':World),(Builtin.append_ ats ty args).run P w=.ok r w'->s.run P w=.ok (.value r) w')
  (h0:ats[0]?=some t)(h1:ats[1]?=some u)(a0:args[0]?=some (.slice (some ad) len cap))(a1:args[1]?=some x)
  (hu:P.underlying t=some (.slice e))(hd:P.underlying u=some d)(hnd:∀k,d≠.int k)(hi:P.info? e=some ti)(hs:ti.size=sz)(hz0:ti.zero=some zv)(hzs:zv.cells.size=sz)(hby:ti.bytes<=4096)(hn:len+m<=1073741824)(hm0:0<m)
  (hm:(Builtin.lenOf x).run P w=.ok m w)(hx:∀dr:Nat,(Builtin.firstCells sz m x).run P {w with drawn:=dr}=.ok ⟨xs⟩ {w with drawn:=dr})(hxs:bO φ D new xs)(hnl:new.length=m*sz)(hone:∀v∈new,v.one=true)
  (hu':u'=(len+m)*sz)(hcont:∀i v,gz u' z' bs' t' i=some v->(i<len*sz/\gz us zz bs tt (off+i)=some v)∨(len*sz<=i/\new[i - len*sz]?=some v))(hinv:t'=.nil->z'=[]->bs'.length=u'):
  Does P s φ D h w n (.mv (.sl n 0 (len+m) sz) b (.cells u' z' bs' t')):=by
 have hxl:xs.length=m*sz:=by rw[<-hxs.length,hnl]
 have hsz:bS P e=some sz:=by simp[bS,hi,hs]
 have hmul:(len+m)*sz=len*sz+m*sz:=Nat.add_mul _ _ _;have hn0:φ n=none:=hf n (aP _) (by omega)
 by_cases hcap:len+m<=cap
 ·obtain⟨rfl,hfit⟩:=hex (by omega);obtain⟨hlt,c,ee,fr,q1,q2,q3,q4,q5,q6⟩:=hr.block hbk hp;dsimp only at q1 q2 q4 q6 hlt;have hcm:(len+m)*sz<=cap*sz:=Ai _ hcap;obtain⟨c',gw,hcs,hcg⟩:=gG (P:=P) cb (co+off+len*sz) ee fr xs 0 c w q1 q3.at (by omega) (hxs.ones hone);have hrun:=pY (P:=P) (ty:=ty) (w':=World.putObj w cb (.cells c' ee fr)) h0 h1 a0 a1 hu hd hnd hsz hm (hx w.drawn) hcap (by rw[mQ];exact gw)
  have hbr:iQ (Ph.set φ n (cb,co+off,cz)) D (World.putObj w cb (.cells c' ee fr)) (cb,co+off,cz) (.cells u' z' bs' t'):=by
   refine⟨c',ee,fr,oW _ hlt,by dsimp only;omega,by rw[hcs];exact q3,λ i v hv=>?_,hinv,by dsimp only;omega⟩;have hiu:=pz hv
   rcases hcont i v hv with⟨k1,k2⟩|⟨k1,k2⟩
   ·obtain⟨x,hx1,hx2⟩:=q4 (off+i) v k2;refine⟨x,?_,hx2.mono (Ph.gj hn0) λ _ _ h=>h⟩;dsimp only;rw[hcg,ah (by omega)];rw[show co+off+i=co+(off+i)from by omega];exact hx1
   obtain⟨x,hx1,hx2⟩:=hxs.get k2;refine⟨x,?_,hx2.mono (Ph.gj hn0) λ _ _ h=>h⟩;dsimp only;have:i - len*sz<new.length:=(pS.1 k2).1;rw[hcg,ao (by omega)];rw[show co+off+i - (co+off+len*sz+0)=i - len*sz from by omega];exact hx1
  obtain⟨r1,r2⟩:=Rz (n:=n) (q:=(cb,co+off,cz)) hr hf (by rw[hbk];simp) hp rfl (World.putObj w cb (.cells c' ee fr)) (λ _ hc=>yS _ hc) (putObj_size ..) rfl rfl hbr;refine⟨_,_,_,_,wG _ _ hrun,.value _,r2,r1,?_⟩;exact .sl _ _ _ _ cb (co+off) cz _ _ (by simp[Ph.set]) hcap λ _=>⟨rfl,by omega⟩
 obtain⟨ys,y1,y2,y3⟩:=old_cells (P:=P) (o:=off) (sz:=sz) hr hbk hp hle hex;obtain⟨nc,rest,dr,g1,g2,g3⟩:=tL (P:=P) (ty:=ty) h0 h1 a0 a1 hu hd hnd hi hs hz0 hzs hby hn hm hx y2 hxl y1 (by omega);have arK:(len+m)*sz<=nc*sz:=Ai _ g1;refine Rel.Tc (P:=P) hr hf (wG _ _ g3) (λ i v hv=>?_) hinv (by rw[g2];omega) (vL g1 (by rw[g2];exact aP _));have hiu:=pz hv
 rcases hcont i v hv with⟨k1,k2⟩|⟨k1,k2⟩
 ·obtain⟨x,hx1,hx2⟩:=y3 i v k1 k2;refine⟨x,?_,hx2⟩;rw[Array.getElem?_append_left (by simp;omega)];simp only[getElem?_toArray];rw[getElem?_append_left (by omega)];exact hx1
 obtain⟨x,hx1,hx2⟩:=hxs.get k2;refine⟨x,?_,hx2⟩;have:i - len*sz<new.length:=(pS.1 k2).1;rw[Array.getElem?_append_left (by simp;omega)];simp only[getElem?_toArray];rw[getElem?_append_right (by omega),y1];exact hx1
theorem agE {o:Oper}{c:Call}{t u e:TypeId}{d:TypeDesc}{z:List AV}{sz fP:Nat}{x y:Operand}{g k:G}(ho:o.op=.call c) (hcb:c.callee=.builtin .append) (h0:c.argTypes[0]?=some t) (h1:c.argTypes[1]?=some u)
  (a0:c.args[0]?=some x)(a1:c.args[1]?=some y)(hg:bQ x=some g)(hk:bQ y=some k)(he:ua P t=some e)(hd:P.underlying u=some d)(hnd:∀k,d≠.int k)(hz:mW P e=some z)(hs:bS P e=some sz)
  (hb:sY P e=some fP)(hzl:z.length=sz):bC P o (db sz fP g k):=by
 obtain⟨ti,zv,hi,hz0,hc⟩:=j8 hz;have hu:=qS he;have hby:ti.bytes=fP:=by simpa[sY,hi]using hb
 have hsz:ti.size=sz:=by simpa[bS,hi]using hs
 have hzs:zv.cells.size=sz:=by
  have:=(bO.atoms (φ:=λ _=>none) (D:=λ _=>none) hc).length;simp at this;omega
 intro F H n φ D a w hr hF hf hne;unfold db at hf hne ⊢
 cases hv:g.f F with
 |none=>rw[hv]at hne;exact ai rfl hne
 |some s =>
 rw[hv]at hf hne;dsimp only at hf hne ⊢
 cases hv2:k.f F with
 |none=>rw[hv2]at hne;exact ai rfl hne
 |some v =>
 rw[hv2]at hf hne;dsimp only at hf hne ⊢;have hsr:=aH hg F φ D a hF s hv;have fD:=aH hk F φ D a hF v hv2;unfold iM at hf hne ⊢
 cases hsc:aV H sz v with
 |none=>rw[hsc]at hne;exact ai rfl hne
 |some new =>
 rw[hsc]at hf hne;dsimp only at hf hne ⊢
 cases hsl:sliceLen v with
 |none=>rw[hsl]at hne;exact ai rfl hne
 |some m =>
 rw[hsl]at hf hne;dsimp only at hf hne ⊢;obtain⟨hnl,xs,hxs,hxd,hlr⟩:=mX (P:=P) hr fD hsc hsl;have hxr:(Builtin.firstCells sz m (a.eval y)).run P w=.ok ⟨xs⟩ w:=hxd w.drawn;have hxl:xs.length=m*sz:=by rw[<-hxs.length,hnl]
 generalize hsv:a.eval x=sv at hsr;have A0:(c.args.map a.eval)[0]?=some sv:=by simp[a0,hsv]
 have A1:(c.args.map a.eval)[1]?=some (a.eval y):=by simp[a1]
 have wG:∀(r:Value) (w':World),(Builtin.append_ c.argTypes o.type (c.args.map a.eval)).run P w=.ok r w'->(execOp a.eval o).run P w=.ok (.value r) w':=by
  intro r w' h;obtain⟨cs,e⟩:=fO (P:=P) (ρ:=a.eval) ho hcb w;rw[e];simp only[builtin,bM,h,bJ,cD]
 unfold lW at hf hne ⊢
 split at hne
 ·rename_i b off len q
  cases hsr with
  |sl _ _ _ _ cb co cz cap ad hp hle hex =>
  split at hne
  ·
   rename_i hm0;have hm0:=b9 hm0;subst hm0;have:xs=[]:=eq_nil_of_length_eq_zero (by simpa using hxl);subst this;refine Does.val hr (cv:=.slice (some ad) (len+0) cap) (wG _ _ (pY h0 h1 A0 A1 hu hd hnd hs hlr hxr (by omega) (by simp[storeCells]))) ?_;exact .sl _ _ _ _ cb co cz _ _ hp hle hex
  rename_i hm0
  split at hne
  ·rename_i hcond;dsimp only at hf;rw[hm0]at hf;dsimp only at hf;rw[hcond]at hf;dsimp only at hf;simp only[dN]at hcond;obtain⟨⟨⟨⟨c1,c2⟩,c3⟩,c4⟩,c5⟩:=hcond;have c1:=b9 c1;have c2:0<sz:=dE c2;have c3:=dE c3;have c4:=dE c4;unfold big at c3;subst c1
   have TP:0<m:=by
    rcases Nat.eq_zero_or_pos m with h|h
    ·subst h;simp at hm0
    exact h
   unfold FM at hf hne ⊢
   split at hne
   ·rename_i us zz bs tt hbk;obtain⟨hbl,cc,ee,fr,p1,p2,p3,p4,p5,p6⟩:=hr.block hbk hp;have key:=λ u' z' bs' t' (hfn:bW φ n (n+1))=>U7 (P:=P) (s:=execOp a.eval o) (ty:=o.type) (u':=u') (z':=z') (bs':=bs') (t':=t') hr hfn hbk hp hle hex wG h0 h1 A0 A1 hu hd hnd hi hsz hz0 hzs (by omega) c3 TP hlr hxd hxs hnl (oD c5);have hmul:(len+m)*q=len*q+m*q:=Nat.add_mul _ _ _;have hmq:0<m*q:=Nat.mul_pos TP c2;rw[hbk]at hf;dsimp only at hf
    split at hne
    ·rename_i hc2;rw[hc2]at hf;simp only[cJ]at hf;have hfn:bW φ n (n+1):=hf;simp only[dN]at hc2;obtain⟨d1,d2⟩:=hc2;have d1:=b9 d1;have d2:=dE d2;subst d1;simp only[cJ];refine key _ _ _ _ hfn rfl (λ i v hv=>?_) (λ ht=>?_)
     ·have hiu:=pz hv;rw[bY,ao hiu,Ov.bw]at hv
      by_cases ja:len*q<=i/\i<len*q+new.length
      ·rw[ao ja]at hv
       right
       refine⟨ja.1,?_⟩
       cases hx:new[i - len*q]? with
       |none=>rw[List.getElem?_eq_none_iff]at hx;omega
       |some y=>rw[hx]at hv;simpa using hv
      rw[ah ja]at hv
      left
      refine⟨by omega,?_⟩;rw[qw,bY,ao (by omega)];exact hv
     exfalso
     cases new with
     |nil=>simp at hnl;omega
     |cons v0 r =>
      have:=Ov.bw (v0::r) (len*q) tt (len*q);rw[ht,ao (by simp)]at this;simp at this
    rename_i hcf;rw[hcf]at hf;dsimp only at hf
    split at hne
    ·rename_i old hold;rw[hold]at hf;have hfn:bW φ n (n+1):=hf;obtain⟨g1,g2⟩:=jb p5 hold;refine key _ _ _ _ hfn rfl (λ i v hv=>?_) (λ _ _=>by simp;omega);have hiu:=pz hv;rw[bY,ao hiu]at hv;simp only[Ov.get_nil]at hv
     have hv':(old++new)[i]?=some v:=by
      cases hx:(old++new)[i]? with
      |none=>rw[hx]at hv;simp[dflt]at hv
      |some y=>rw[hx]at hv;simpa using hv
     by_cases ja:i<len*q
     ·left
      rw[getElem?_append_left (by omega)]at hv';exact⟨ja,by rw[g2 i ja];exact hv'⟩
     right
     rw[getElem?_append_right (by omega),g1]at hv';exact⟨by omega,hv'⟩
    exact ai rfl hne
   exact ai rfl hne
  exact ai rfl hne
 ·cases hsr with
  |al _ hat =>
  split at hne
  ·rename_i hm0;have hm0:=b9 hm0;subst hm0;exact Does.val hr (wG _ _ (su h0 h1 A0 A1 hu hd hnd hs hlr hxr)) (.al _ hat)
  rename_i hm0
  split at hne
  ·rename_i hcond;rw[hm0]at hf;dsimp only at hf;rw[hcond]at hf;simp only[dN]at hcond;obtain⟨⟨⟨c2,c3⟩,c4⟩,c5⟩:=hcond;have c2:0<sz:=dE c2;have c3:=dE c3;have c4:=dE c4;unfold big at c3
   have TP:0<m:=by
    rcases Nat.eq_zero_or_pos m with h|h
    ·subst h;simp at hm0
    exact h
   obtain⟨nc,rest,dr,g1,g2,g3⟩:=tL (P:=P) (ty:=o.type) (ys:=[]) h0 h1 A0 A1 hu hd hnd hi hsz hz0 hzs (by omega) (by omega) hlr hxd (λ dr=>by simp[Builtin.firstCells]) hxl (by simp) (by omega);have arK:m*sz<=nc*sz:=Ai _ (by omega);simp only[qw]at g1 g3;refine Does.row (P:=P) hr hf (wG _ _ g3) (λ i v hv=>?_) (λ _ _=>hnl) (by rw[g2];omega) (vL g1 (by rw[g2];exact aP _));have hiu:=pz hv;rw[bY,ao hiu]at hv;simp only[Ov.get_nil]at hv
   have hv':new[i]?=some v:=by
    cases hx:new[i]? with
    |none=>rw[hx]at hv;simp[dflt]at hv
    |some y=>rw[hx]at hv;simpa using hv
   obtain⟨x,hx1,hx2⟩:=hxs.get hv';refine⟨x,?_,hx2⟩;rw[Array.getElem?_append_left (by simp;omega)];simpa using hx1
  exact ai rfl hne
 exact ai rfl hne
end
end Go.Abs
namespace Go.Abs
open List
section
variable {P:Program}
end
end Go.Abs
