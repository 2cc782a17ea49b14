/- A part. -/
import Derived.Test.YtlhafglnokpioaaGreatAbs1
import Derived.Laws.Cells
import Derived.ChangeKeysEq
import Derived.Laws.Tables
import Derived.Great.BuildSlice
import Derived.Laws.IdiomStrings
import Derived.Lib.Strings
import Derived.Laws.BytesString
noncomputable section
namespace Go.Abs
open List
inductive FN:Next->Value->Prop
 |value (v):FN (.value v) v
 |skip:FN .skip undef
def yx (r:bw)(h:Hf)(n:Nat):Hf:=match r with
 |.val _|.fail=>h
 |.new _ k=>h.set n (some k)
 |.upd _ b k=>h.set b (some k)
 |.mv _ b k=>(h.set b none).set n (some k)
def wv (r:bw)(n:Nat):Nat:=match r with
 |.val _|.fail|.upd _ _ _=>n
 |.new _ _|.mv _ _ _=>n+1
def Xr:bw->AV
 |.val v|.new v _|.upd v _ _|.mv v _ _=>v
 |.fail=>.bo []
def Does (P:Program)(s:Sem Next)(φ:Ph)(D:Da)(h:Hf)(w:World)(n:Nat)(r:bw):Prop:=
 ∃nx cv φ' w',s.run P w=.ok nx w'/\FN nx cv/\Ext φ D h w n φ' D (yx r h n) w' (wv r n)/\Rel φ' D (yx r h n) w'/\VR φ' D (Xr r) cv
def cj (P:Program)(o:Oper)(e:Eff):Prop:=∀F H n φ D (a:Act) w,Rel φ D H.get w->FR φ D F.get a.tmps->cU φ n (wv (e F H n) n)->e F H n≠.fail ->
 Does P (execOp a.eval o) φ D H.get w n (e F H n)
def GR (g:G)(x:Operand):Prop:=∀F φ D (a:Act),FR φ D F.get a.tmps->∀v,g.f F=some v->VR φ D v (a.eval x)
theorem Does.val {P s φ D h w n v cv}(hr:Rel φ D h w)(e:s.run P w=.ok (.value cv) w)(hv:VR φ D v cv):Does P s φ D h w n (.val v):=
 ⟨_,cv,φ,w,e,.value _,Ext.refl ..,hr,hv⟩
theorem VR.KG {φ D}:∀ {x:Value} {v},vf x=some v->VR φ D v x:=by
 intro x v h;unfold vf at h
 split at h
 ·injection h with h;subst h;exact .int _ _
 ·injection h with h;subst h;exact .bool _
 ·injection h with h;subst h;exact .str _ _ rfl
 split at h
 ·injection h with h;subst h;exact .aV _ (by assumption)
 cases h
theorem bW.atoms {φ D}:∀ {xs:List Value} {vs},mc xs=some vs->bW φ D vs xs
 |[],vs,h=>by simp[mc]at h;subst h;exact .nil
 |x :: xs,vs,h=>by
  simp only[mc]at h
  split at h
  ·rename_i a ha
   split at h
   ·rename_i l hl;injection h with h;subst h;exact .cons _ _ _ _ (.KG ha) (bW.atoms hl)
   cases h
  cases h
theorem VR.DV {φ D}{x:Value} {v}(h:U0 x=some v):VR φ D v x:=by
 unfold U0 at h
 split at h
 ·rename_i cs
  cases hl:mc cs.toList with
  |none=>rw[hl]at h;cases h
  |some l =>
   rw[hl]at h;injection h with h;subst h;have:=bW.atoms (φ:=φ) (D:=D) hl;exact .agg l cs.toList _ this (bM l).symm
 ·injection h with h;subst h;exact .bo _ _ .nil
 ·rename_i t y
  cases hl:vf y with
  |none=>rw[hl]at h;cases h
  |some l=>rw[hl]at h;injection h with h;subst h;exact .oO _ _ _ (.KG hl)
 exact .KG h
theorem gU (t:Nat)(F:Fr):(aA t).f F=F.get t:=Tr.DK _ _ _ (Nat.lt_succ_self t)
theorem aW {x:Operand}{g:G}(h:dD x=some g):GR g x:=by
 intro F φ D a hF v hv
 cases x with
 |tmp t =>
  simp only[dD]at h;injection h with h;subst h;rw[gU]at hv;obtain⟨y,hy,hvy⟩:=hF.1 t v hv;simpa[Act.eval,Array.getD_eq_getD_getElem?,hy]using hvy
 |const c =>
  simp only[dD]at h
  cases hc:U0 c with
  |none=>rw[hc]at h;cases h
  |some u =>
   rw[hc]at h;injection h with h;subst h;injection hv with hv;subst hv;exact .DV hc
 |func f =>
  simp only[dD]at h;injection h with h;subst h;injection hv with hv;subst hv;exact .fn _ _ _ _ _ .nil .nil
 |global g =>
  simp only[dD]at h
  split at h
  ·rename_i l hl;injection h with h;subst h;injection hv with hv;subst hv;exact alh hF.2 hl
  cases h
section
variable {P:Program}{φ:Ph}{D:Da}{h:Hf}{w:World}{n:Nat}
theorem JX {o:Oper}{x:Operand}{g:G}(hg:dD x=some g)(c:AV->bw)
  (hc:∀(φ:Ph)(D:Da)(h:Hf)(w:World)(n:Nat)(ρ:Operand->Value)(v:AV)(xv:Value),Rel φ D h w->ρ x=xv->VR φ D v xv->cU φ n (wv (c v) n)->c v≠.fail->Does P (execOp ρ o) φ D h w n (c v)):
  cj P o (e1 c g):=by
 intro F H n φ D a w hr hF hf hne;unfold e1 at hf hne ⊢
 cases hv:g.f F with
 |none=>rw[hv]at hne;exact ar rfl hne
 |some v=>rw[hv]at hf hne;exact hc φ D H.get w n a.eval v _ hr rfl (aW hg F φ D a hF v hv) hf hne
theorem JW {o:Oper}{x y:Operand}{g k:G}(hg:dD x=some g)(hk:dD y=some k)(c:AV->AV->bw)
  (hc:∀(φ:Ph)(D:Da)(h:Hf)(w:World)(n:Nat)(ρ:Operand->Value)(v u:AV)(xv yv:Value),Rel φ D h w->ρ x=xv->ρ y=yv->VR φ D v xv->VR φ D u yv->cU φ n (wv (c v u) n)->c v u≠.fail->Does P (execOp ρ o) φ D h w n (c v u)):
  cj P o (e2 c g k):=by
 intro F H n φ D a w hr hF hf hne;unfold e2 at hf hne ⊢
 cases hv:g.f F with
 |none=>rw[hv]at hne;exact ar rfl hne
 |some v =>
  rw[hv]at hf hne;dsimp only at hf hne ⊢
  cases hu:k.f F with
  |none=>rw[hu]at hne;exact ar rfl hne
  |some u=>rw[hu]at hf hne;exact hc φ D H.get w n a.eval v u _ _ hr rfl rfl (aW hg F φ D a hF v hv) (aW hk F φ D a hF u hu) hf hne
theorem Xw {o:Oper}{x:Operand}{g:G}(ho:o.op=.move x∨o.op=.assign x)(hg:dD x=some g):cj P o (eL g):=by
 intro F H n φ D a w hr hF hf hne;unfold eL at hf hne ⊢
 cases hv:g.f F with
 |none=>rw[hv]at hne;exact ar rfl hne
 |some v =>
  refine Does.val hr ?_ (aW hg F φ D a hF v hv)
  rcases ho with ho|ho<;>simp[execOp,ho]
theorem ae0 {o:Oper}{x y z:Operand}{g k l:G}(ho:o.op=.pick x y z) (hg:dD x=some g) (hk:dD y=some k) (hl:dD z=some l):cj P o (y5 g k l):=by
 intro F H n φ D a w hr hF hf hne;unfold y5 at hf hne ⊢
 cases hv:g.f F with
 |none=>rw[hv]at hne;exact ar rfl hne
 |some v =>
  have je:=aW hg F φ D a hF v hv;rw[hv]at hf hne
  cases v with
  |bool b =>
   cases hx:a.eval x<;>rw[hx]at je<;>cases je
   cases b with
   |true =>
    dsimp only [eL]at hf hne ⊢
    cases hu:k.f F with
    |none=>rw[hu]at hne;exact ar rfl hne
    |some u=>exact Does.val hr (by simp[execOp,ho,hx,asBool]) (aW hk F φ D a hF u hu)
   |false =>
    dsimp only [eL]at hf hne ⊢
    cases hu:l.f F with
    |none=>rw[hu]at hne;exact ar rfl hne
    |some u=>exact Does.val hr (by simp[execOp,ho,hx,asBool]) (aW hl F φ D a hF u hu)
  |_=>exact ar rfl hne
theorem dT:∀ {xs:List Operand}{gs:List G},mn xs=some gs->∀F φ D (a:Act),FR φ D F.get a.tmps->∀vs,evs F gs=some vs->bW φ D vs (xs.map a.eval)
 |[],gs,h=>by
  simp[mn]at h;subst h;intro F φ D a hF vs hv;simp[evs]at hv;subst hv;exact .nil
 |x :: xs,gs,h=>by
  simp only[mn]at h
  split at h
  ·rename_i g hg
   split at h
   ·rename_i l hl;injection h with h;subst h;intro F φ D a hF vs hv;simp only[evs]at hv
    split at hv
    ·rename_i v hgv
     split at hv
     ·rename_i us hus;injection hv with hv;subst hv;exact .cons _ _ _ _ (aW hg F φ D a hF v hgv) (dT hl F φ D a hF us hus)
     cases hv
    cases hv
   cases h
  cases h
theorem ae1 {o:Oper}{x:Operand}{g:G}(ho:o.op=.nilCheck x)(hg:dD x=some g):cj P o (aY g):=by
 have:aY g=e1 Cb g:=rfl;rw[this];refine JX hg _ λ φ D h w n ρ v xv hr hx hv hf hne=>?_;have hv':=hv;unfold Cb at hne ⊢
 split at hne
 ·cases hv;exact Does.val hr (by simp[execOp,ho,hx]) hv'
 ·cases hv;exact Does.val hr (by simp[execOp,ho,hx]) hv'
 ·cases hv;exact Does.val hr (by simp[execOp,ho,hx]) hv'
 ·cases hv;exact Does.val hr (by simp[execOp,ho,hx]) hv'
 ·cases hv;exact Does.val hr (by simp[execOp,ho,hx]) hv'
 exact ar rfl hne
theorem apk {o:Oper}{op:UnOp}{t:TypeId}{x:Operand}{g:G}(ho:o.op=.unOp op t x)(hg:dD x=some g):cj P o (e1 (cUn op) g):=by
 refine JX hg _ λ φ D h w n ρ v xv hr hx hv hf hne=>?_;unfold cUn at hne ⊢
 split at hne
 ·cases hv;cases op<;>first|(exact ar rfl hne)|skip
  exact Does.val hr (by simp[execOp,ho,hx,Op.unary]) (.bool _)
 ·cases hv
  cases op with
  |neg=>simp only[kY,mX];exact Does.val hr (by simp[execOp,ho,hx,Op.unary,Op.intArith]) (.int _ _)
  |xor=>simp only[kY,mX];exact Does.val hr (by simp[execOp,ho,hx,Op.unary,Op.intBits]) (.int _ _)
  |_=>exact ar rfl hne
 exact ar rfl hne
theorem Xu {o:Oper}{s d:TypeId}{x:Operand}{g:G}{k j:IntKind}(ho:o.op=.convert s d x)(hg:dD x=some g)(hs:P.underlying s=some (.int j))(hd:P.underlying d=some (.int k)):
  cj P o (e1 (bV k) g):=by
 refine JX hg _ λ φ D h w n ρ v xv hr hx hv hf hne=>?_;unfold bV at hne ⊢
 split at hne
 ·cases hv
  simp only[kY,mX];exact Does.val hr (by simp[execOp,ho,hx,convert,run_underlying hs,run_underlying hd,Conv.intToInt]) (.int _ _)
 exact ar rfl hne
theorem ae7 {o:Oper}{s:TypeId}{i k:Nat}{x:Operand}{g:G}{fs:Array Field}{fd:Field}{ti:TypeInfo}(ho:o.op=.fieldAddr s x i)(hg:dD x=some g)(hs:P.underlying s=some (.struct fs))
  (hf:fs[i]?=some fd)(hi:P.info? fd.type=some ti)(hz:ti.size=k+1):cj P o (e1 (zj fd.offset) g):=by
 have hsz:(sizeOf fd.type).run P=λ w=>.ok (k+1) w:=by
  funext w;rw[run_sizeOf _ hi];simp[Program.cellsOf,hi,hz]
 refine JX hg _ λ φ D h w n ρ v xv hr hx hv hfr hne=>?_;unfold zj at hne ⊢
 have hadd:∀(cb co:Nat),(⟨cb,co,none⟩:Addr).add fd.offset=⟨cb,co+fd.offset,none⟩:=by
  intro cb co;unfold Addr.add;split<;>simp_all
 split at hne
 ·rename_i b off
  cases hv with
  |ptr _ _ cb co cz hp =>
  simp only[db];refine Does.val hr (cv:=.pointer (some ⟨cb,co+off+fd.offset,none⟩)) ?_ ?_
  ·simp[execOp,ho,hx,Instr.fieldAt,run_underlying hs,hf,Instr.sureAddr,fieldPlace,hsz,hadd]
  rw[Nat.add_assoc];exact .ptr _ _ _ _ _ hp
 ·rename_i cs
  cases hv with
  |dp _ cb co cells l hD hl hvs =>
  refine Does.val hr (cv:=.pointer (some ⟨cb,co+fd.offset,none⟩)) ?_ ?_
  ·simp[execOp,ho,hx,Instr.fieldAt,run_underlying hs,hf,Instr.sureAddr,fieldPlace,hsz,hadd]
  refine .dp _ _ _ _ _ hD rfl ?_;have:=hvs.drop fd.offset;rw[hl,drop_take,drop_drop]at this;simpa[Nat.add_comm]using this
 exact ar rfl hne
theorem GZ {t:TypeId}{ti:TypeInfo}(cs:Array Value)(off:Nat)(hi:P.info? t=some ti)(ha:hU P t=some true)(w:World):
  (part t cs off).run P w=.ok (.agg (cs.extract off (off+ti.size))) w:=by
 unfold part isAgg;unfold hU at ha
 cases hu:P.underlying t with
 |none=>rw[hu]at ha;cases ha
 |some d=>rw[hu]at ha;cases d<;>simp at ha<;>simp[run_underlying hu,run_sizeOf _ hi,Program.cellsOf,hi]
theorem GY {t:TypeId}{v:Value}(cs:Array Value)(off:Nat)(ha:hU P t=some false)(hc:cs[off]?=some v)(w:World):
  (part t cs off).run P w=.ok v w:=by
 unfold part isAgg;unfold hU at ha
 cases hu:P.underlying t with
 |none=>rw[hu]at ha;cases ha
 |some d=>rw[hu]at ha;cases d<;>simp at ha<;>simp[run_underlying hu,hc]
theorem akl {o:Oper}{i:Nat}{x:Operand}{g:G}(ho:o.op=.extract x i)(hg:dD x=some g):cj P o (e1 (kS i) g):=by
 refine JX hg _ λ φ D h w n ρ v xv hr hx hv hfr hne=>?_;unfold kS at hne ⊢
 split at hne
 ·rename_i cs
  cases hv with
  |bo _ l hvs =>
  rw[nK]at hne ⊢
  cases hc:cs[i]? with
  |none=>rw[hc]at hne;exact ar rfl hne
  |some u =>
   obtain⟨y,hy,hu⟩:=hvs.get hc;exact Does.val hr (by simp[execOp,ho,hx,Instr.extract,hy]) hu
 exact ar rfl hne
theorem ae3 {o:Oper}{f:Fn}{xs ys:Array Operand}{gs ks:List G}(ho:o.op=.makeFunc f xs ys)(hx:mn xs.toList=some gs)(hy:mn ys.toList=some ks):cj P o (jr f gs ks):=by
 intro F H n φ D a w hr hF hf hne;unfold jr at hf hne ⊢
 cases hv:evs F gs with
 |none=>rw[hv]at hne;exact ar rfl hne
 |some vs =>
  rw[hv]at hf hne;dsimp only at hf hne ⊢
  cases hu:evs F ks with
  |none=>rw[hu]at hne;exact ar rfl hne
  |some us =>
   have h1:=dT hx F φ D a hF vs hv;have h2:=dT hy F φ D a hF us hu;refine Does.val hr (cv:=.func f (xs.map a.eval) (ys.map a.eval)) (by simp[execOp,ho,Instr.makeFunc]) ?_;have e1:xs.map a.eval=⟨xs.toList.map a.eval⟩:=by apply Array.ext';simp
   have e2:ys.map a.eval=⟨ys.toList.map a.eval⟩:=by apply Array.ext';simp
   rw[e1,e2];exact .fn _ _ _ _ _ h1 h2
end
end Go.Abs
namespace Go.Abs
open List
theorem Jq {x:Value}(h:fS x=true):x.oneCell'=true:=by cases x<;>simp_all [fS,Value.oneCell']
theorem xR {w:World}{cb off:Nat}{c:Array Value}{e:TypeId}{fr:Nat×Nat}(v:Value)(h:w.heap[cb]?=some (.cells c e fr)):
  w.setCell ⟨cb,off,none⟩ v=World.putObj w cb (.cells (c.setIfInBounds off v) e fr):=by
 unfold World.setCell World.putObj
 congr 1
 apply Array.ext_getElem?;intro i;simp only[Array.getElem?_modify,Array.getElem?_setIfInBounds]
 by_cases hi:cb=i
 ·subst hi;obtain⟨hlt,he⟩:=uJ.1 h;simp[hlt,he]
 simp[hi]
theorem yj (w:World)(cb:Nat)(o:Obj)(c:Nat):(World.putObj w cb o).heap[c]?=if c=cb/\cb<w.heap.size then some o else w.heap[c]?:=by
 unfold World.putObj;simp only[Array.getElem?_setIfInBounds]
 by_cases h:cb=c
 ·subst h
  by_cases hl:cb<w.heap.size<;>simp[hl]
 simp[h,Ne.symm h]
theorem uK {w:World}{cb:Nat}(o:Obj)(h:cb<w.heap.size):(World.putObj w cb o).heap[cb]?=some o:=by rw[yj,aw ⟨rfl,h⟩]
theorem AX {w:World}{cb c:Nat}(o:Obj)(h:c≠cb):(World.putObj w cb o).heap[c]?=w.heap[c]?:=by rw[yj,ai (λ e=>h e.1)]
theorem putObj_size (w:World)(cb:Nat)(o:Obj):(World.putObj w cb o).heap.size=w.heap.size:=by simp[World.putObj]
theorem Ac (w:World)(cb:Nat)(o o':Obj):World.putObj (World.putObj w cb o) cb o'=World.putObj w cb o':=by
 unfold World.putObj
 congr 1
 apply Array.ext_getElem?;intro i;simp only[Array.getElem?_setIfInBounds,Array.size_setIfInBounds]
 by_cases h:cb=i<;>simp[h]
theorem pK {w:World}{cb:Nat}{o:Obj}(h:w.heap[cb]?=some o):World.putObj w cb o=w:=by
 unfold World.putObj
 have:w.heap.setIfInBounds cb o=w.heap:=by
  apply Array.ext_getElem?;intro i;simp only[Array.getElem?_setIfInBounds]
  by_cases hi:cb=i
  ·subst hi;simp[h];obtain⟨hl,he⟩:=uJ.1 h;simp[hl]
  simp[hi]
 rw[this]
section
variable {P:Program}
theorem w_ {w:World}{cb:Nat}{c:Array Value}{e:TypeId}{fr:Nat×Nat}(h:w.heap[cb]?=some (.cells c e fr))(i:Nat):w.cell? ⟨cb,i,none⟩=c[i]?:=by
 simp[World.cell?,h]
theorem oo (cb o i:Nat):(⟨cb,o,none⟩:Addr).add i=⟨cb,o+i,none⟩:=by
 unfold Addr.add;split<;>simp_all
theorem eV {w:World}{cb o:Nat}{c:Array Value}{e:TypeId}{fr:Nat×Nat}(h:w.heap[cb]?=some (.cells c e fr))(l:List Value)(hl:∀i x,l[i]?=some x->c[o+i]?=some x):
  (loadCells ⟨cb,o,none⟩ l.length).run P w=.ok ⟨l⟩ w:=by
 refine run_loadCells_list w _ l λ j v hv=>?_;rw[oo,w_ h];exact hl j v hv
theorem ij (cb o:Nat) (e:TypeId) (fr:Nat×Nat):∀(vs:List Value) (i:Nat) (c:Array Value) (w:World),w.heap[cb]?=some (.cells c e fr) ->
  (∀j,j<c.size->¬(fr.1<=j/\j<fr.2))->o+i+vs.length<=c.size->(∀v∈vs,fS v=true) ->
  ∃c',(storeCells ⟨cb,o,none⟩ vs i).run P w=.ok () (World.putObj w cb (.cells c' e fr))/\c'.size=c.size /\
   ∀j,c'[j]?=if o+i<=j/\j<o+i+vs.length then vs[j - (o+i)]? else c[j]?
 |[],i,c,w,h,_,_,_=>⟨c,by simp[storeCells,pK h],rfl,λ j=>by rw[ai ah]⟩
 |v :: vs,i,c,w,h,hfr,hl,h1=>by
  have hi:o+i<c.size:=by simp at hl;omega
  have hlt:=(uJ.1 h).1
  have hf:w.frozen? ⟨cb,o+i,none⟩=false:=by
   have:=hfr (o+i) hi;simp only[World.frozen?,h];simp;omega
  have hst:(store ((⟨cb,o,none⟩:Addr).add i) v).run P w=.ok () (World.putObj w cb (.cells (c.setIfInBounds (o+i) v) e fr)):=by
   rw[oo,run_store P w _ v _ (Jq (h1 v ah)),w_ h,Array.getElem?_eq_getElem hi];simp[hf,xR v h]
  obtain⟨c',hr,hs,hg⟩:=ij cb o e fr vs (i+1) (c.setIfInBounds (o+i) v) (World.putObj w cb (.cells (c.setIfInBounds (o+i) v) e fr)) (uK _ hlt)
   (by simpa using hfr) (by simp at hl ⊢;omega) (λ x hx=>h1 x (by simp[hx]))
  refine⟨c',?_,by simpa using hs,λ j=>?_⟩
  ·simp only[storeCells,cL,hst,cy,hr,Ac]
  rw[hg j]
  by_cases h2:o+(i+1)<=j/\j<o+(i+1)+vs.length
  ·rw[aw h2,aw (by simp;omega)];obtain⟨k,rfl⟩:∃k,j=o+i+1+k:=⟨j - (o+i+1),ae⟩;rw[show o+i+1+k - (o+i)=k+1 from by omega,show o+i+1+k - (o+(i+1))=k from ae];simp
  rw[ai h2,Array.getElem?_setIfInBounds]
  by_cases h3:j=o+i
  ·subst h3;simp[hi]
  rw[ai ae,ai (by simp;omega)]
theorem qa:∀ {vs:List AV},br vs=true->∀v∈vs,v.one=true
 |[],_,v,hv=>by cases hv
 |u::vs,h,v,hv=>by
  simp only[br,dS]at h
  cases hv with
  |head=>exact h.1
  |tail _ hm=>exact qa h.2 v hm
theorem bW.ones {φ D}:∀ {vs xs},bW φ D vs xs->(∀v∈vs,v.one=true)->∀x∈xs,fS x=true
 |_,_,.nil,_,x,hx=>by cases hx
 |_,_,.cons v y vs ys h k,h1,x,hx=>by
  cases hx with
  |head=>exact h.one (h1 v ah)
  |tail _ hm=>exact bW.ones k (λ u hu=>h1 u (by simp[hu])) x hm
theorem agc {φ:Ph}{D:Da}{w:World}{cb:Nat}{c:Array Value}{e:TypeId}{bs:List AV}(h:w.heap[cb]?=some (.cells c e))(hb:bW φ D bs c.toList):
  jc φ D w (cb,0,c.size) (.cells bs.length [] bs .nil):=by
 refine⟨c,e,(0,0),h,rfl,.inl rfl,λ i v hv=>?_,λ _ _=>rfl,by have:=hb.length;simp at this ⊢;omega⟩;rw[cD]at hv
 split at hv
 ·simp at hv
  cases hb':bs[i]? with
  |none=>rw[hb']at hv;simp[dflt]at hv
  |some u =>
   rw[hb']at hv;simp at hv;subst hv;obtain⟨x,hx,hv⟩:=hb.get hb';exact⟨x,by simpa using hx,hv⟩
 cases hv
theorem OQ (w:World)(o:Obj):(World.newObj w o).heap[w.heap.size]?=some o:=by unfold World.newObj;exact Array.getElem?_push_size
theorem Does.newRow {s:Sem Next}{φ:Ph}{D:Da}{h:Hf}{w:World}{n:Nat}{v:AV}{bs:List AV}{c:Array Value}{e:TypeId}{cv:Value}(hr:Rel φ D h w)(hf:cU φ n (n+1))
  (hrun:s.run P w=.ok (.value cv) (World.newObj w (.cells c e)))(hb:bW φ D bs c.toList)(hv:VR (Ph.set φ n (w.heap.size,0,c.size)) D v cv):
  Does P s φ D h w n (.new v (.cells bs.length [] bs .nil)):=by
 have hn:φ n=none:=hf n (aK _) ae
 obtain⟨h1,h2⟩:=nF hr hf (.cells c e) c.size (.cells bs.length [] bs .nil)
  (agc (OQ w _) (hb.mono (Ph.gV hn) λ _ _ h=>h))
 exact⟨_,cv,_,_,hrun,.value _,h2,h1,hv⟩
theorem kX {t:TypeId}{z:List AV}(h:oJ P t=some z):∃ti zv,P.info? t=some ti/\ti.zero=some zv/\mc zv.cells.toList=some z:=by
 unfold oJ at h
 split at h
 ·rename_i i hi
  split at h
  ·rename_i zv hz;exact⟨i,zv,hi,hz,h⟩
  cases h
 cases h
theorem pI {t:TypeId}{ti:TypeInfo}{zv:Value}(hi:P.info? t=some ti)(hz:ti.zero=some zv)(w:World):(zeroValue t).run P w=.ok zv w:=by
 simp[zeroValue,run_typeInfo w hi,hz]
theorem OG {φ:Ph}{D:Da}{n cb cz:Nat}:VR (Ph.set φ n (cb,0,cz)) D (.ptr n 0) (.pointer (some ⟨cb,0,none⟩)):=by
 have:=VR.ptr (φ:=Ph.set φ n (cb,0,cz)) (D:=D) n 0 cb 0 cz (by simp[Ph.set]);simpa using this
theorem XB {o:Oper}{t:TypeId}{z:List AV}(ho:o.op=.alloc t)(hz:oJ P t=some z):cj P o (au z (eC z 0)):=by
 obtain⟨ti,zv,hi,h0,hc⟩:=kX hz;intro F H n φ D a w hr hF hf hne;unfold au at hf hne ⊢;rw[bM]at hf ⊢;refine Does.newRow (P:=P) (c:=zv.cells) (e:=t) (cv:=.pointer (some ⟨w.heap.size,0,none⟩)) hr hf ?_ (.atoms hc) OG;simp[execOp,ho,Instr.alloc,pI hi h0,newVar,newRow,World.newObj]
theorem akm {o:Oper}{t:TypeId}{x:Operand}{g:G}(ho:o.op=.box t x)(hg:dD x=some g):cj P o (HV g):=by
 intro F H n φ D a w hr hF hf hne;unfold HV at hf hne ⊢
 cases hv:g.f F with
 |none=>rw[hv]at hne;exact ar rfl hne
 |some v =>
  rw[hv]at hf hne;have je:=aW hg F φ D a hF v hv;dsimp only at hf hne ⊢;rw[je.len]at hf ⊢;refine Does.newRow (P:=P) (c:=(a.eval x).cells) (e:=t) (cv:=.pointer (some ⟨w.heap.size,0,none⟩)) hr hf ?_ je.cells OG;simp[execOp,ho,Instr.box,newVar,newRow,World.newObj]
theorem Cj {t:TypeId}(ha:hU P t=some true)(w:World):(isAgg t).run P w=.ok true w:=by
 unfold isAgg;unfold hU at ha
 cases hu:P.underlying t with
 |none=>rw[hu]at ha;cases ha
 |some d=>rw[hu]at ha;cases d<;>simp at ha<;>simp[run_underlying hu]
theorem zw {t:TypeId}(ha:hU P t=some false)(w:World):(isAgg t).run P w=.ok false w:=by
 unfold isAgg;unfold hU at ha
 cases hu:P.underlying t with
 |none=>rw[hu]at ha;cases ha
 |some d=>rw[hu]at ha;cases d<;>simp at ha<;>simp[run_underlying hu]
theorem bY {t:TypeId}{k:Nat}(h:cu P t=some k)(w:World):(sizeOf t).run P w=.ok k w:=by
 unfold cu at h
 cases hi:P.info? t with
 |none=>rw[hi]at h;cases h
 |some i=>rw[hi]at h;injection h with h;subst h;simp[run_sizeOf w hi,Program.cellsOf,hi]
theorem Bi {φ:Ph}{D:Da}{h:Hf}{w:World}{t:TypeId}{v u:AV}{xv:Value}(hr:Rel φ D h w) (hv:VR φ D v xv) (ha:hU P t=some false) (H:Hp) (hH:∀b,H.get b=h b) (hc:cE v H=.val u):
  ∃cv,(Instr.loadAt t xv).run P w=.ok cv w/\VR φ D u cv:=by
 unfold cE at hc
 split at hc
 ·rename_i b o
  cases hv with
  |ptr _ _ cb co cz hp =>
  split at hc
  ·rename_i uu z bs tt hb
   split at hc
   ·rename_i y hy;injection hc with hc;subst hc;rw[hH]at hb;obtain⟨_,c,e,fr,hc1,hc2,hc3,hc4,_⟩:=hr.block hb hp;obtain⟨x,hx,yK⟩:=hc4 o y hy;dsimp only at hx;refine⟨x,?_,yK⟩;simp[Instr.loadAt,Instr.sureAddr,loadVar,zw ha,w_ hc1,hx]
   cases hc
  cases hc
 ·rename_i y ys;injection hc with hc;subst hc
  cases hv with
  |dp _ cb co cells l hD hl hvs =>
  obtain⟨e,fr,hh⟩:=hr.eS.1 _ _ hD;obtain⟨x,hx,yK⟩:=hvs.get (i:=0) rfl;refine⟨x,?_,yK⟩
  have:cells[co]?=some x:=by
   rw[hl,getElem?_take]at hx
   split at hx
   ·rw[lj]at hx;simpa using hx
   cases hx
  simp[Instr.loadAt,Instr.sureAddr,loadVar,zw ha,w_ hh,this]
 cases hc
theorem Bh {φ:Ph}{D:Da}{h:Hf}{w:World}{t:TypeId}{k:Nat}{v u:AV}{xv:Value}(hr:Rel φ D h w) (hv:VR φ D v xv) (ha:hU P t=some true) (hk:cu P t=some k) (H:Hp) (hH:∀b,H.get b=h b)
  (hc:eD k v H=.val u):∃cv,(Instr.loadAt t xv).run P w=.ok cv w/\VR φ D u cv:=by
 unfold eD at hc
 split at hc
 ·rename_i b o
  cases hv with
  |ptr _ _ cb co cz hp =>
  split at hc
  ·rename_i uu z bs tt hb
   split at hc
   ·rename_i l hl;injection hc with hc;subst hc;rw[hH]at hb;obtain⟨_,c,e,fr,hc1,hc2,hc3,hc4,hc5,_⟩:=hr.block hb hp;obtain⟨hlen,hg⟩:=kW hc5 hl;dsimp only at hc4
    have hx:∀i v,l[i]?=some v->∃x,c[co+o+i]?=some x/\VR φ D v x:=by
     intro i v hv;have hi:i<l.length:=(nH.1 hv).1;have:=hc4 (o+i) v (by rw[hg i ae];exact hv);simpa[Nat.add_assoc]using this
    have hsz:co+o+k<=c.size∨k=0:=by
     rcases Nat.eq_zero_or_pos k with h0|h0
     ·exact .inr h0
     left
     obtain⟨x,hx',_⟩:=hx (k - 1) l[k - 1] (cX ae);have:=(uJ.1 hx').1;omega
    let xs:=(c.toList.drop (co+o)).take k;have hxl:xs.length=k:=by simp[xs];omega
    have hvs:bW φ D l xs:=by
     refine bW.pO ae λ i v hv=>?_;obtain⟨x,hx1,hx2⟩:=hx i v hv;have hi:i<l.length:=(nH.1 hv).1;exact⟨x,by simp only[xs];rw[getElem?_take,aw ae,lj];simpa using hx1,hx2⟩
    refine⟨.agg ⟨xs⟩,?_,.agg _ _ _ hvs hlen⟩
    have hrun:=eV (P:=P) (w:=w) (cb:=cb) (o:=co+o) hc1 xs (λ i x hx=>by
     simp only[xs]at hx;rw[getElem?_take]at hx
     split at hx
     ·rw[lj]at hx;simpa using hx
     cases hx)
    rw[hxl]at hrun;simp[Instr.loadAt,Instr.sureAddr,loadVar,Cj ha,bY hk,hrun]
   cases hc
  cases hc
 ·rename_i cs
  split at hc
  ·rename_i hle;have hle:=eF hle;injection hc with hc;subst hc
   cases hv with
   |dp _ cb co cells l hD hl hvs =>
   obtain⟨e,fr,hh⟩:=hr.eS.1 _ _ hD;have hll:=hvs.length;have hvs':=hvs.take k;refine⟨.agg ⟨l.take k⟩,?_,.agg _ _ _ hvs' (by simp;omega)⟩
   have hrun:=eV (P:=P) (w:=w) (cb:=cb) (o:=co) hh (l.take k) (λ i x hx=>by
     rw[getElem?_take]at hx
     split at hx
     ·rw[hl,getElem?_take]at hx
      split at hx
      ·rw[lj]at hx;simpa using hx
      cases hx
     cases hx)
   rw[show (l.take k).length=k by simp;omega]at hrun;simp[Instr.loadAt,Instr.sureAddr,loadVar,Cj ha,bY hk,hrun]
  cases hc
 cases hc
theorem Xy {o:Oper}{t:TypeId}{x:Operand}{g:G}(ho:o.op=.load t x)(hg:dD x=some g)(ha:hU P t=some false):cj P o (u0 g):=by
 intro F H n φ D a w hr hF hf hne;unfold u0 at hf hne ⊢
 cases hv:g.f F with
 |none=>rw[hv]at hne;exact ar rfl hne
 |some v =>
  rw[hv]at hf hne;dsimp only at hf hne ⊢
  have hu:∃u,cE v H=.val u:=by
   unfold cE at hne ⊢
   (repeat' split)<;>first|exact⟨_,rfl⟩|(simp_all;done)
  obtain⟨u,hu⟩:=hu;obtain⟨cv,h1,h2⟩:=Bi (P:=P) hr (aW hg F φ D a hF v hv) ha H (λ _=>rfl) hu;rw[hu];exact Does.val hr (by simp[execOp,ho,h1]) h2
theorem Xx {o:Oper}{t:TypeId}{k:Nat}{x:Operand}{g:G}(ho:o.op=.load t x)(hg:dD x=some g)(ha:hU P t=some true)(hk:cu P t=some k):cj P o (iS k g):=by
 intro F H n φ D a w hr hF hf hne;unfold iS at hf hne ⊢
 cases hv:g.f F with
 |none=>rw[hv]at hne;exact ar rfl hne
 |some v =>
  rw[hv]at hf hne;dsimp only at hf hne ⊢
  have hu:∃u,eD k v H=.val u:=by
   unfold eD at hne ⊢
   (repeat' split)<;>first|exact⟨_,rfl⟩|(simp_all;done)
  obtain⟨u,hu⟩:=hu;obtain⟨cv,h1,h2⟩:=Bh (P:=P) hr (aW hg F φ D a hF v hv) ha hk H (λ _=>rfl) hu;rw[hu];exact Does.val hr (by simp[execOp,ho,h1]) h2
theorem UW {φ:Ph}{D:Da}{h:Hf}{w:World}{b cb co cz u off:Nat}{z bs:List AV}{t:Ov AV}{vs:List AV}{xs:List Value}(hr:Rel φ D h w) (hb:h b=some (.cells u z bs t)) (hp:φ b=some (cb,co,cz))
  (hv:bW φ D vs xs)(h1:∀v∈vs,v.one=true)(hfit:vs=[]∨co+off+vs.length<=cz)(u':Nat)(hu':co+u'<=cz)(hu:∀i,i<u'->i<u∨(off<=i/\i<off+vs.length))(hne:vs=[]->u'=u)(t0:Ov AV)(ht0:t0=t):
  ∃c' e fr,(storeCells ⟨cb,co+off,none⟩ xs).run P w=.ok () (World.putObj w cb (.cells c' e fr)) /\
   jc φ D (World.putObj w cb (.cells c' e fr)) (cb,co,cz) (.cells u' z bs (Ov.bO vs off t0)):=by
 subst ht0;obtain⟨hlt,c,e,fr,hc1,hc2,hc3,hc4,hc5,hc6⟩:=hr.block hb hp;dsimp only at hlt hc1 hc2 hc4 hc6;have hlen:=hv.length
 by_cases h0:vs=[]
 ·subst h0;cases hv;refine⟨c,e,fr,by simp[storeCells,pK hc1],?_⟩;rw[pK hc1,hne rfl,Ov.yn];exact⟨c,e,fr,hc1,hc2,hc3,hc4,hc5,hc6⟩
 obtain⟨c',hrun,hs,hg⟩:=ij (P:=P) cb (co+off) e fr xs 0 c w hc1 hc3.at (by rcases hfit with h|h;exact ar h h0;omega) (hv.ones h1);refine⟨c',e,fr,hrun,c',e,fr,uK _ hlt,by simpa[hs]using hc2,by rw[hs];exact hc3,λ i v hi=>?_,λ ht hz=>?_,hu'⟩
 ·have hiu:=qK hi;rw[cD,aw hiu,Ov.bF]at hi;dsimp only;rw[hg (co+i)]
  by_cases jm:off<=i/\i<off+vs.length
  ·rw[aw jm]at hi;rw[aw ae]
   have hvi:vs[i - off]?=some v:=by
    cases hx:vs[i - off]? with
    |none=>rw[List.getElem?_eq_none_iff]at hx;omega
    |some y=>rw[hx]at hi;simpa using hi
   obtain⟨x,hx,yK⟩:=hv.get hvi;exact⟨x,by rw[show co+i - (co+off+0)=i - off from by omega];exact hx,yK⟩
  rw[ai jm]at hi;rw[ai ae];have hu':i<u:=by rcases hu i hiu with h|h;exact h;exact ar h jm
  exact hc4 i v (by rw[cD,aw hu'];exact hi)
 exfalso
 cases vs with
 |nil=>exact h0 rfl
 |cons v r =>
  have:=Ov.bF (v::r) off t0 off;rw[ht,aw ah]at this;simp at this
end
end Go.Abs
namespace Go.Abs
open List
section
variable {P:Program}
theorem Does.upd {s:Sem Next}{φ:Ph}{D:Da}{h:Hf}{w:World}{n b:Nat}{p:Nat×Nat×Nat}{k:bG}{v:AV}{nx:Next}{cv:Value}{o:Obj}(hr:Rel φ D h w)(hb:h b≠none)(hp:φ b=some p)
  (hrun:s.run P w=.ok nx (World.putObj w p.1 o))(hnx:FN nx cv)(hk:jc φ D (World.putObj w p.1 o) p k)(hv:VR φ D v cv):Does P s φ D h w n (.upd v b k):=by
 obtain⟨h1,h2⟩:=Oy (n:=n) hr hb hp (World.putObj w p.1 o) (λ c hc=>AX _ hc) (putObj_size ..) rfl rfl hk;exact⟨nx,cv,φ,_,hrun,hnx,h2,h1,hv⟩
theorem jw:∀ {cs:List AV}{o:Nat}{vs r:List AV},patch cs o vs=some r->r.length=cs.length/\(vs=[]∨o+vs.length<=cs.length) /\
  ∀j,r[j]?=if o<=j/\j<o+vs.length then vs[j - o]? else cs[j]?
 |cs,o,[],r,h=>by
  have:r=cs:=by cases cs<;>cases o<;>simp[patch]at h<;>simp[h]
  subst this;exact⟨rfl,.inl rfl,λ j=>by rw[ai ah]⟩
 |[],o,_::_,r,h=>by cases o<;>simp[patch]at h
 |c :: cs,0,v::vs,r,h=>by
  simp only[patch]at h
  cases hp:patch cs 0 vs with
  |none=>rw[hp]at h;cases h
  |some r' =>
   rw[hp]at h;injection h with h;subst h;obtain⟨h1,h2,h3⟩:=jw hp;refine⟨by simp[h1],.inr ?_,λ j=>?_⟩
   ·rcases h2 with h2|h2
    ·subst h2;simp
    simp;omega
   cases j with
   |zero=>simp
   |succ j =>
    have:=h3 j;simp at this ⊢;exact this
 |c :: cs,o+1,v::vs,r,h=>by
  simp only[patch]at h
  cases hp:patch cs o (v::vs)with
  |none=>rw[hp]at h;cases h
  |some r' =>
   rw[hp]at h;injection h with h;subst h;obtain⟨h1,h2,h3⟩:=jw hp;refine⟨by simp[h1],.inr ?_,λ j=>?_⟩
   ·rcases h2 with h2|h2
    ·cases h2
    simp at h2 ⊢;omega
   cases j with
   |zero=>rw[ai ae];simp
   |succ j =>
    have:=h3 j
    by_cases hc:o<=j/\j<o+(v::vs).length
    ·rw[aw hc]at this;rw[aw ae,show j+1 - (o+1)=j - o from by omega];simpa using this
    rw[ai hc]at this;rw[ai ae];simpa using this
theorem VI {φ : Ph}{D:Da}{w:World}{p:Nat×Nat×Nat}{u o:Nat}{z bs:List AV}{t:Ov AV}{vs:List AV}(hi:t=.nil->z=[]->bs.length=u) (_hl:o+vs.length<=u)
  (h:jc φ D w p (.cells u z bs (Ov.bO vs o t))):jc φ D w p (mN u z bs t vs o):=by
 unfold mN
 split
 ·split
  ·split
   ·split
    ·rename_i bs' hp;obtain⟨h1,h2,h3⟩:=jw hp;have hb:=hi rfl rfl;obtain⟨c,e,fr,q1,q2,q3,q4,q5,q6⟩:=h;refine⟨c,e,fr,q1,q2,q3,λ i v hv=>q4 i v ?_,λ _ _=>by rw[h1,hb],q6⟩;rw[cD]at hv ⊢
     split at hv
     ·rename_i hiu;rw[aw hiu];have hlt:i<bs'.length:=by rw[h1,hb];exact hiu
      rw[cX hlt]at hv;simp only[Ov.get_nil]at hv;rw[Ov.bF];have h3i:=h3 i;rw[cX hlt]at h3i
      by_cases hc:o<=i/\i<o+vs.length
      ·rw[aw hc]at h3i ⊢;rw[<-h3i];exact hv
      rw[ai hc]at h3i ⊢;simp only[Ov.get_nil];rw[<-h3i];exact hv
     cases hv
    exact h
   exact h
  exact h
 ·exact h
 exact h
theorem Xv {o : Oper}{t:TypeId}{k:Nat}{x y:Operand}{g l:G}(ho:o.op=.store t x y) (hg:dD x=some g) (hl:dD y=some l) (hk:cu P t=some k):cj P o (dz k g l):=by
 intro F H n φ D a w hr hF hf hne;unfold dz at hf hne ⊢
 cases hv:g.f F with
 |none=>rw[hv]at hne;exact ar rfl hne
 |some v =>
  rw[hv]at hf hne;dsimp only at hf hne ⊢
  cases hu:l.f F with
  |none=>rw[hu]at hne;exact ar rfl hne
  |some u =>
   rw[hu]at hf hne;dsimp only at hf hne ⊢;have je:=aW hg F φ D a hF v hv;have hur:=aW hl F φ D a hF u hu;unfold mF at hne ⊢
   split at hne
   ·rename_i b off
    split at hne
    ·rename_i us z bs tt hb
     split at hne
     ·rename_i hc;simp only[dS]at hc;obtain⟨⟨hc1,hc2⟩,hc3⟩:=hc;have hc1:=cT hc1;have hc2:=eF hc2;generalize hxv:a.eval x=xv at je
      cases je with
      |ptr _ _ cb co cz hp =>
      have hcells:=hur.cells;have hlen:u.cells.length=k:=by rw[<-hur.len];exact hc1
      obtain⟨_,c,e,fr,q1,q2,q3,q4,q5,q6⟩:=hr.block hb hp;dsimp only at q6;obtain⟨c',e',fr',hrun,hk'⟩:=UW (P:=P) (off:=off) hr hb hp hcells (qa hc3) (.inr ae) us q6 (λ i hi=>.inl hi) (λ _=>rfl) tt rfl;have hk':=VI (λ a b=>q5 a b) ae hk'
      have hsz:(a.eval y).cells.size=k:=by
       have:=hcells.length;simp at this;omega
      refine Does.upd (P:=P) (nx:=.skip) (cv:=undef) hr (by rw[hb];simp) hp ?_ .skip hk' (.bo _ _ .nil);simp[execOp,ho,hxv,Instr.storeAt,Instr.sureAddr,storeVar,bY hk,hsz,hrun]
     exact ar rfl hne
    exact ar rfl hne
   exact ar rfl hne
theorem HJ (off:Nat):∀(l:List Value)(k:Nat)(cells:Array Value),off+k+l.length<=cells.size ->
  let r:=(l.zipIdx k).foldl (λ cs (x:Value×Nat)=>cs.setIfInBounds (off+x.2) x.1) cells
  r.size=cells.size/\∀j,r[j]?=if off+k<=j/\j<off+k+l.length then l[j - (off+k)]? else cells[j]?
 |[],k,cells,_=>⟨rfl,λ j=>by rw[ai ah];rfl⟩
 |x :: l,k,cells,h=>by
  simp at h;obtain⟨h1,h2⟩:=HJ off l (k+1) (cells.setIfInBounds (off+k) x) (by simp;omega);refine⟨by simpa[zipIdx_cons]using h1,λ j=>?_⟩;have:=h2 j;simp only[zipIdx_cons,foldl_cons];rw[this]
  by_cases hc:off+(k+1)<=j/\j<off+(k+1)+l.length
  ·rw[aw hc,aw (by simp;omega)];obtain⟨i,rfl⟩:∃i,j=off+k+1+i:=⟨j - (off+k+1),ae⟩;rw[show off+k+1+i - (off+k)=i+1 from by omega,show off+k+1+i - (off+(k+1))=i from ae];simp
  rw[ai hc,Array.getElem?_setIfInBounds]
  by_cases h3:j=off+k
  ·subst h3;simp;omega
  rw[ai ae,ai (by simp;omega)]
theorem sL {φ : Ph}{D:Da}{F:Fr}{a:Act}(hF:FR φ D F.get a.tmps) (place:Nat->Option (Nat×Nat)):∀(parts:List (Nat×Operand)) (ps:List (Nat×Nat×G)) (z cs:List AV) (zc:Array Value),
  gi place parts=some ps->kC F ps z=some cs->bW φ D z zc.toList->∃cc,Instr.fill place zc (parts.map λ x=>(x.1,a.eval x.2))=some cc/\bW φ D cs cc.toList/\cs.length=z.length
 |[],ps,z,cs,zc,hp,hf,hz=>by
  simp[gi]at hp;subst hp;simp[kC]at hf;subst hf;exact⟨zc,rfl,hz,rfl⟩
 |(i, x) :: r,ps,z,cs,zc,hp,hf,hz=>by
  simp only[gi]at hp
  split at hp
  ·rename_i o s hpl
   split at hp
   ·rename_i g hg
    split at hp
    ·rename_i l hl;injection hp with hp;subst hp;simp only[kC]at hf
     split at hf
     ·rename_i v hv
      split at hf
      ·rename_i hlen;simp only[dS]at hlen;obtain⟨hlen,hpos⟩:=hlen;have hlen:=cT hlen;have hpos:0<s:=eF hpos
       split at hf
       ·rename_i cs' hpa;have je:=aW hg F φ D a hF v hv;have hc:=je.cells;have hcl:=hc.length;rw[je.len]at hlen;obtain⟨q1,q2,q3⟩:=jw hpa;have hzl:=hz.length;have hs:(a.eval x).cells.size=s:=by simp at hcl;omega
        have hfit:o+(a.eval x).cells.size<=zc.size:=by
         rcases q2 with q2|q2
         ·rw[q2]at hlen;simp at hlen;omega
         simp at hcl hzl;omega
        obtain⟨f1,f2⟩:=HJ o (a.eval x).cells.toList 0 zc (by simpa using hfit);generalize hzc:((a.eval x).cells.toList.zipIdx 0).foldl (λ cs (x:Value×Nat)=>cs.setIfInBounds (o+x.2) x.1) zc=zc' at f1 f2
        have hzv:bW φ D cs' zc'.toList:=by
         refine bW.pO (by simp at hzl;simp[q1,f1,hzl]) λ j u hu=>?_;rw[q3 j]at hu;have hfj:=f2 j
         by_cases hc':o<=j/\j<o+v.cells.length
         ·rw[aw hc']at hu;obtain⟨y,hy,hu'⟩:=hc.get hu;rw[aw (by simp at hcl ⊢;omega)]at hfj;exact⟨y,by simp[hfj];simpa using hy,hu'⟩
         rw[ai hc']at hu;obtain⟨y,hy,hu'⟩:=hz.get hu;rw[ai (by simp at hcl ⊢;omega)]at hfj;exact⟨y,by simp[hfj];simpa using hy,hu'⟩
        obtain⟨cc,g1,g2,g3⟩:=sL hF place r l cs' cs zc' hl hf hzv;refine⟨cc,?_,g2,ae⟩
        have hz':(a.eval x).cells.zipIdx.foldl (λ cs (x:Value×Nat)=>cs.setIfInBounds (o+x.2) x.1) zc=zc':=by
         rw[<-hzc,<-Array.foldl_toList];simp
        simp only[map_cons,Instr.fill,hpl];rw[ai (by simp[hs];omega)];rw[<-g1,<-hz']
       cases hf
      cases hf
     cases hf
    cases hp
   cases hp
  cases hp
end
end Go.Abs
namespace Go.Abs
open List
section
variable {P:Program}
theorem sN {parts:Array (Nat×Operand)}{a:Act}:(parts.map λ(i,x)=>(i,a.eval x)).toList=parts.toList.map λ x=>(x.1,a.eval x.2):=ah
theorem G8 {o:Oper}{t:TypeId}{z:List AV}{parts:Array (Nat×Operand)}{l:List (Nat×Nat×G)}(ho:o.op=.build t parts)(hz:oJ P t=some z)(place:Nat->Option (Nat×Nat))(hl:gi place parts.toList=some l)
  (hb:∀(zv:Value)(ti:TypeInfo),P.info? t=some ti->ti.zero=some zv->∀ps,P.built t ps=Instr.fill place zv.cells ps):cj P o (aI z (eC z 0) l):=by
 obtain⟨ti,zv,hi,h0,hc⟩:=kX hz;intro F H n φ D a w hr hF hf hne;unfold aI at hf hne ⊢
 cases hfp:kC F l z with
 |none=>rw[hfp]at hne;exact ar rfl hne
 |some cs =>
  rw[hfp]at hf hne;dsimp only at hf hne ⊢;obtain⟨cc,h1,h2,h3⟩:=sL hF place parts.toList l z cs zv.cells hl hfp (.atoms hc);rw[bM];refine Does.val hr (cv:=.agg cc) ?_ (.agg _ _ _ h2 h3);have:=run_build (P:=P) w t (parts.map λ(i,x)=>(i,a.eval x)) cc (by rw[hb zv ti hi h0,sN];exact h1);simp only[execOp,ho,cL,this,cy,dB]
theorem lh (z:List AV):∀k,(rep z k).length=k*z.length
 |0=>by simp[rep]
 |k+1=>by simp[rep,lh z k,Nat.succ_mul,Nat.add_comm]
theorem Ox (z:List AV)(hz:0<z.length):∀k i,i<k*z.length->(rep z k)[i]?=z[i % z.length]?
 |0,i,h=>ae
 |k + 1,i,h=>by
  rw[Nat.succ_mul]at h;simp only[rep]
  by_cases hi:i<z.length
  ·rw[getElem?_append_left hi,Nat.mod_eq_of_lt hi]
  rw[getElem?_append_right ae,Ox z hz k _ ae];rw[Nat.mod_eq_sub_mod (by omega:i>=z.length)]
theorem Ar {φ:Ph}{D:Da}{z:List AV}{zc:Array Value}(hz:bW φ D z zc.toList)(hpos:0<z.length)(m:Nat):
  ∀i,i<m->∃x v,((Array.range m).map (zc[· % zc.size]!))[i]?=some x/\z[i % z.length]?=some v/\VR φ D v x:=by
 intro i hi;have hl:=hz.length;simp at hl;have hlt:i % z.length<z.length:=Nat.mod_lt _ hpos;obtain⟨y,hy,hv⟩:=hz.get (cX hlt);refine⟨y,_,?_,cX hlt,hv⟩;simp only[Array.getElem?_map,Array.getElem?_range,hi,if_true,Option.map_some];rw[<-hl];have:zc[i % z.length]?=some y:=by simpa using hy
 rw[getElem!_def,this]
theorem aex {φ:Ph}{D:Da}{z:List AV}{zc:Array Value}(hz:bW φ D z zc.toList)(hpos:0<z.length)(k:Nat):
  bW φ D (rep z k) ((Array.range (k*z.length)).map (zc[· % zc.size]!)).toList:=by
 refine bW.pO (by simp[lh]) λ i v hv=>?_;have hi:i<k*z.length:=by have:=(nH.1 hv).1;rwa [lh]at this
 rw[Ox z hpos k i hi]at hv;obtain⟨x,u,h1,h2,h3⟩:=Ar (φ:=φ) (D:=D) hz hpos (k*z.length) i hi;rw[h2]at hv;injection hv with hv;subst hv;exact⟨x,by rw[Array.getElem?_toList];exact h1,h3⟩
theorem sS {t e:TypeId}(h:vV P t=some e):P.underlying t=some (.slice e):=by
 unfold vV at h
 split at h
 ·rename_i e' he;injection h with h;subst h;exact he
 cases h
theorem xP {φ:Ph}{D:Da}{n cb cz len cap sz:Nat}(h1:len<=cap)(h2:cap*sz<=cz):VR (Ph.set φ n (cb,0,cz)) D (.sl n 0 len sz) (.slice (some ⟨cb,0,none⟩) len cap):=
 .sl _ _ _ _ cb 0 cz _ _ (by simp[Ph.set]) h1 λ _=>⟨rfl,ae⟩
theorem Ue {o:Oper}{t e:TypeId}{z:List AV}{k sz:Nat}{parts:Array (Nat×Operand)}{l:List (Nat×Nat×G)}(ho:o.op=.buildSlice t k parts) (he:vV P t=some e) (hs:cu P e=some sz) (hz:oJ P e=some z)
  (hl:gi (λ i=>some (i*sz,sz)) parts.toList=some l)(hzl:z.length=sz)(hk:k*sz<=16777216):cj P o (aO z k sz l):=by
 obtain⟨ti,zv,hi,h0,hc⟩:=kX hz;intro F H n φ D a w hr hF hf hne;unfold aO at hf hne ⊢
 cases hfp:kC F l (rep z k)with
 |none=>rw[hfp]at hne;exact ar rfl hne
 |some cs =>
  rw[hfp]at hf hne;dsimp only at hf hne ⊢;have hti:ti.size=sz:=by simpa[cu,hi]using hs
  have hu:=sS he
  have hz':bW φ D (rep z k) ((Array.range (k*sz)).map ((if k*sz=0 then #[]else zv.cells)[· % (if k*sz=0 then #[]else zv.cells).size]!)).toList:=by
   rcases Nat.eq_zero_or_pos (k*sz)with h00|hpos
   ·rw[aw h00];have:rep z k=[]:=eq_nil_of_length_eq_zero (by rw[lh,hzl];exact h00);rw[this,h00];simpa using bW.nil
   rw[ai ae];have hp:0<z.length:=by rcases Nat.eq_zero_or_pos z.length with h|h;rw[<-hzl,h]at hpos;simp at hpos;exact h
   have:=aex (φ:=φ) (D:=D) (.atoms hc) hp k;rw[hzl]at this;exact this
  obtain⟨cc,h1,h2,h3⟩:=sL hF (λ i=>some (i*sz,sz)) parts.toList l (rep z k) cs _ hl hfp hz';have hlen:cs.length=k*sz:=by rw[h3,lh,hzl]
  have hcl:=h2.length;have:=Does.newRow (P:=P) (s:=execOp a.eval o) (v:=.sl n 0 k sz) (bs:=cs) (c:=cc) (e:=e) (cv:=.slice (some ⟨w.heap.size,0,none⟩) k k) hr hf ?_ h2 (xP (aK _) (by simp at hcl;omega))
  ·rw[hlen]at this;exact this
  have hsmall:¬k*sz>2 ^ 24:=ae
  by_cases h00:k*sz=0
  ·rw[aw h00]at h1
   have hrun:(Instr.buildSlice t k (parts.map λ(i,x)=>(i,a.eval x))).run P w=.ok (.slice (some ⟨w.heap.size,0,none⟩) k k) (World.newObj w (.cells cc e)):=by
    have h1':=h1;rw[<-sN]at h1';simp only[Instr.buildSlice,cL,run_underlying hu,cy,bY hs];rw[ai hsmall,aw h00];simp only[cL,dB,cy];rw[h1'];simp[newRow,World.newObj]
   simp only[execOp,ho,cL,hrun,cy,dB]
  rw[ai h00]at h1
  have hrun:(Instr.buildSlice t k (parts.map λ(i,x)=>(i,a.eval x))).run P w=.ok (.slice (some ⟨w.heap.size,0,none⟩) k k) (World.newObj w (.cells cc e)):=by
   have h1':=h1;rw[<-sN]at h1';simp only[Instr.buildSlice,cL,run_underlying hu,cy,bY hs];rw[ai hsmall,ai h00];simp only[cL,dB,cy,pI hi h0];rw[h1'];simp[newRow,World.newObj]
  simp only[execOp,ho,cL,hrun,cy,dB]
theorem akk {o:Oper}{t e:TypeId}{sz:Nat}{x y:Operand}{g k:G}(ho:o.op=.indexAddr t x y) (hg:dD x=some g) (hk:dD y=some k) (hu:P.underlying t=some (.slice e)) (hs:cu P e=some sz):cj P o (e2 (cK sz) g k):=by
 refine JW hg hk _ λ φ D h w n ρ v u xv yv hr hx hy hv huv hf hne=>?_;unfold cK at hne ⊢
 split at hne
 ·rename_i b off len s kk i
  split at hne
  ·rename_i hc;simp only[dS]at hc;have hc1:i<len:=eF hc.1;have hc2:=cT hc.2;subst hc2;cases huv
   cases hv with
   |sl _ _ _ _ cb co cz cap ad hp hle hex =>
   obtain⟨rfl,hfit⟩:=hex ae;rw[db];refine Does.val hr (cv:=.pointer (some ⟨cb,co+(off+i*s),none⟩)) ?_ (.ptr _ _ _ _ _ hp);simp only[execOp,ho,hx,hy,Instr.indexAt,cL,asIntOf,dB,cy,run_underlying hu];simp[bY hs,oo,Nat.add_assoc,hc1]
  exact ar rfl hne
 ·rename_i cs len s kk i
  split at hne
  ·rename_i hc;simp only[dS]at hc;have hc1:i<len:=eF hc.1;have hc2:=cT hc.2;subst hc2;cases huv
   cases hv with
   |ds _ _ _ cap cb co cells l hD hl hcs hvs hle =>
    refine Does.val hr (cv:=.pointer (some ⟨cb,co+i*s,none⟩)) ?_ ?_
    ·simp only[execOp,ho,hx,hy,Instr.indexAt,cL,asIntOf,dB,cy,run_underlying hu];simp[bY hs,oo,hc1]
    refine .dp _ _ _ _ _ hD rfl ?_;have:=hvs.drop (i*s);rw[hl,drop_take,drop_drop]at this;have he:(cs.drop (i*s)).length=len*s - i*s:=by simp[hcs]
    rw[he,Nat.add_comm co]
    rwa [Nat.add_comm co]at this
   |pW=>omega
   |tW=>omega
  exact ar rfl hne
 exact ar rfl hne
theorem Xz {o:Oper}{t e:TypeId}{kk sz:Nat}{x y:Operand}{g k:G}(ho:o.op=.indexAddr t x y) (hg:dD x=some g) (hk:dD y=some k) (hu:P.underlying t=some (.array kk e)) (hs:cu P e=some sz):cj P o (e2 (gJ kk sz) g k):=by
 refine JW hg hk _ λ φ D h w n ρ v u xv yv hr hx hy hv huv hf hne=>?_;unfold gJ at hne ⊢
 split at hne
 ·rename_i b off j i
  split at hne
  ·rename_i hc;have hc1:i<kk:=eF hc;cases huv
   cases hv with
   |ptr _ _ cb co cz hp =>
   rw[db];refine Does.val hr (cv:=.pointer (some ⟨cb,co+(off+i*sz),none⟩)) ?_ (.ptr _ _ _ _ _ hp);simp only[execOp,ho,hx,hy,Instr.indexAt,cL,asIntOf,dB,cy,run_underlying hu,Instr.sureAddr];simp[bY hs,oo,Nat.add_assoc,hc1]
  exact ar rfl hne
 ·rename_i cs j i
  split at hne
  ·rename_i hc;have hc1:i<kk:=eF hc;cases huv
   cases hv with
   |dp _ cb co cells l hD hl hvs =>
    refine Does.val hr (cv:=.pointer (some ⟨cb,co+i*sz,none⟩)) ?_ ?_
    ·simp only[execOp,ho,hx,hy,Instr.indexAt,cL,asIntOf,dB,cy,run_underlying hu,Instr.sureAddr];simp[bY hs,oo,hc1]
    refine .dp _ _ _ _ _ hD rfl ?_;have:=hvs.drop (i*sz);rw[hl,drop_take,drop_drop]at this;rw[length_drop,Nat.add_comm co]
    rwa [Nat.add_comm co]at this
  exact ar rfl hne
 exact ar rfl hne
theorem aki {o:Oper}{t e:TypeId}{kk sz:Nat}{ag:Bool}{x y:Operand}{g k:G}(ho:o.op=.index t x y) (hg:dD x=some g) (hk:dD y=some k) (hu:P.underlying t=some (.array kk e)) (hs:cu P e=some sz) (ha:hU P e=some ag):
  cj P o (e2 (Y6 kk sz ag) g k):=by
 refine JW hg hk _ λ φ D h w n ρ v u xv yv hr hx hy hv huv hf hne=>?_;unfold Y6 at hne ⊢
 split at hne
 ·rename_i j i
  split at hne
  ·rename_i hc;have hc1:i<kk:=eF hc;cases huv
   obtain⟨ti,hi,hsz⟩:∃ti,P.info? e=some ti/\ti.size=sz:=by
    unfold cu at hs
    cases hi:P.info? e with
    |none=>rw[hi]at hs;cases hs
    |some ti=>rw[hi]at hs;injection hs with hs;exact⟨ti,rfl,hs⟩
   split at hne
   ·rename_i ha';rw[db]at hne ⊢;unfold PX at hne ⊢
    split at hne
    ·cases hv with
     |agg cs l n hvs hl =>
     split at hne
     ·rename_i hle;have hle:=eF hle;refine Does.val hr (cv:=.agg ⟨(l.drop (i*sz)).take sz⟩) ?_ (.agg _ _ _ ((hvs.drop _).take _) (by simp;omega))
      have hex:(⟨l⟩:Array Value).extract (i*sz) (i*sz+sz)=⟨(l.drop (i*sz)).take sz⟩:=by
       apply Array.ext';simp[extract]
      simp only[execOp,ho,hx,hy,Instr.index,cL,asIntOf,dB,cy,run_underlying hu];simp[bY hs,hc1,GZ (P:=P) ⟨l⟩ (i*sz) hi ha,hsz,hex]
     exact ar rfl hne
    exact ar rfl hne
   rename_i ha';rw[db]at hne ⊢;unfold PY at hne ⊢
   split at hne
   ·rename_i cs _
    cases hv with
    |agg _ l _ hvs hl =>
    rw[nK]at hne ⊢
    cases hcc:cs[i*sz]? with
    |none=>rw[hcc]at hne;exact ar rfl hne
    |some u =>
     obtain⟨z,hz,hzu⟩:=hvs.get hcc;refine Does.val hr (cv:=z) ?_ hzu;simp only[execOp,ho,hx,hy,Instr.index,cL,asIntOf,dB,cy,run_underlying hu];simp[bY hs,hc1,GY (P:=P) ⟨l⟩ (i*sz) ha (v:=z) (by simpa using hz)]
   exact ar rfl hne
  exact ar rfl hne
 exact ar rfl hne
end
end Go.Abs
namespace Go.Abs
open List
section
variable {P:Program}
theorem nat?_spec {φ:Ph}{D:Da}{v:AV}{x:Value}{n:Nat}(h:nat? v=some n)(hv:VR φ D v x):∃k,x=.int k (Int.ofNat n):=by
 unfold nat? at h
 split at h
 ·injection h with h;subst h;cases hv;exact⟨_,rfl⟩
 cases h
def BR (φ:Ph)(D:Da):Option AV->Option Value->Prop
 |none,none=>True
 |some v,some x=>VR φ D v x
 |_,_=>False
theorem rV {x:Option Operand}{g:Option G}(h:pN x=some g){F:Fr}{φ:Ph}{D:Da}{a:Act}(hF:FR φ D F.get a.tmps){v:Option AV}(hv:vM F g=some v):BR φ D v (x.map a.eval):=by
 cases x with
 |none =>
  simp only[pN]at h;injection h with h;subst h;simp only[vM]at hv;injection hv with hv;subst hv;trivial
 |some x =>
  simp only[pN]at h
  cases ho:dD x with
  |none=>rw[ho]at h;cases h
  |some g' =>
   rw[ho]at h;injection h with h;subst h;simp only[vM]at hv
   cases hg:g'.f F with
   |none=>rw[hg]at hv;cases hv
   |some u=>rw[hg]at hv;injection hv with hv;subst hv;exact aW ho F φ D a hF u hg
theorem Zb {len:Nat}{lo hi mx:Option AV}{φ:Ph}{D:Da}{lo' hi' mx':Option Value}(h1:BR φ D lo lo')(h2:BR φ D hi hi')(h3:BR φ D mx mx')(hm:mx=none∨hi≠none)
  (isSlice:Bool)(cap:Nat)(hc:len<=cap)(w:World)(m h' l':Nat)(hm1:bnd len mx=some m)(hh:bnd len hi=some h')(hl:bnd 0 lo=some l')(c1:l'<=h')(c2:h'<=len)(c3:h'<=m)(c4:m<=len):
  ∃m,(Instr.sliceBounds isSlice len cap lo' hi' mx').run P w=.ok (l',h',m) w/\l'<=h'/\h'<=len/\h'<=m/\m<=cap:=by
 have bound:∀(v:Option AV) (x:Option Value) (n:Nat),BR φ D v x->(∃u,v=some u/\nat? u=some n)->∃k,x=some (.int k (Int.ofNat n)):=by
  intro v x n hv ⟨u,e,hu⟩;subst e
  cases x with
  |none=>exact hv.elim
  |some y=>obtain⟨k,rfl⟩:=nat?_spec hu hv;exact⟨k,rfl⟩
 have C0:∀(k:IntKind) (n y:Nat) (code:BoundsCode),n<=y->(Instr.sliceBound (.int k (n:Int)) y code).run P w=.ok n w:=by
  intro k n y code hle;simp[Instr.sliceBound,asIntOf,hle]
 have hlo:(lo'=none/\l'=0)∨∃k,lo'=some (.int k (Int.ofNat l')):=by
  cases lo with
  |none=>cases lo' with
   |none=>simp[bnd]at hl;exact .inl ⟨rfl,hl.symm⟩
   |some x=>exact h1.elim
  |some u=>exact .inr (bound _ _ _ h1 ⟨u,rfl,hl⟩)
 have hhi:(hi'=none/\h'=len)∨∃k,hi'=some (.int k (Int.ofNat h')):=by
  cases hi with
  |none=>cases hi' with
   |none=>simp[bnd]at hh;exact .inl ⟨rfl,hh.symm⟩
   |some x=>exact h2.elim
  |some u=>exact .inr (bound _ _ _ h2 ⟨u,rfl,hh⟩)
 have hmx:(mx'=none/\m=len)∨∃k k2,mx'=some (.int k (Int.ofNat m))/\hi'=some (.int k2 (Int.ofNat h')):=by
  cases mx with
  |none=>cases mx' with
   |none=>simp[bnd]at hm1;exact .inl ⟨rfl,hm1.symm⟩
   |some x=>exact h3.elim
  |some u =>
   obtain⟨k,hk⟩:=bound _ _ _ h3 ⟨u,rfl,hm1⟩
   cases hi with
   |none=>simp at hm
   |some y=>obtain⟨k2,hk2⟩:=bound _ _ _ h2 ⟨y,rfl,hh⟩;exact .inr ⟨k,k2,hk,hk2⟩
 rcases hmx with⟨rfl,rfl⟩|⟨k,k2,rfl,rfl⟩
 ·refine⟨cap,?_,c1,c2,ae,aK _⟩
  rcases hhi with⟨rfl,rfl⟩|⟨k,rfl⟩<;>rcases hlo with⟨rfl,rfl⟩|⟨j,rfl⟩
  ·simp[Instr.sliceBounds]
  ·simp[Instr.sliceBounds,C0 j _ _ _ c1]
  ·simp[Instr.sliceBounds,C0 k h' cap _ ae]
  simp[Instr.sliceBounds,C0 k h' cap _ ae,C0 j _ _ _ c1]
 refine⟨m,?_,c1,c2,c3,ae⟩
 rcases hlo with⟨rfl,rfl⟩|⟨j,rfl⟩
 ·simp[Instr.sliceBounds,C0 k m cap _ ae,C0 k2 h' m _ c3]
 simp[Instr.sliceBounds,C0 k m cap _ ae,C0 k2 h' m _ c3,C0 j _ _ _ c1]
theorem mY {len:Nat}{lo hi mx:Option AV}{l h:Nat}(hb:vd len lo hi mx=some (l,h)){φ:Ph}{D:Da}{lo' hi' mx':Option Value}(h1:BR φ D lo lo') (h2:BR φ D hi hi') (h3:BR φ D mx mx') (hm:mx=none∨hi≠none)
  (isSlice:Bool)(cap:Nat)(hc:len<=cap)(w:World):∃m,(Instr.sliceBounds isSlice len cap lo' hi' mx').run P w=.ok (l,h,m) w/\l<=h/\h<=len/\h<=m/\m<=cap:=by
 unfold vd at hb
 split at hb
 ·rename_i m hm1
  split at hb
  ·rename_i h' hh
   split at hb
   ·rename_i l' hl
    split at hb
    ·rename_i hc1;simp only[dS]at hc1;have c1:=eF hc1.1.1.1;have c2:=eF hc1.1.1.2;have c3:=eF hc1.1.2;have c4:=eF hc1.2;injection hb with hb;injection hb with e1 e2;subst e1 e2;clear hc1;exact Zb h1 h2 h3 hm isSlice cap hc w m h' l' hm1 hh hl c1 c2 c3 c4
    cases hb
   cases hb
  cases hb
 cases hb
theorem aq_ {o:Oper}{x:Operand}{g:G}{lo hi mx:Option Operand}{gl gh gm:Option G}(hg:dD x=some g) (hl:pN lo=some gl) (hh:pN hi=some gh) (hm:pN mx=some gm) (c:Hp->Option AV->Option AV->Option AV->AV->bw)
  (hc:∀(φ:Ph)(D:Da)(H:Hp)(w:World)(n:Nat)(ρ:Operand->Value)(l h m:Option AV)(v:AV)(xv:Value),Rel φ D H.get w->ρ x=xv->VR φ D v xv->BR φ D l (lo.map ρ)->BR φ D h (hi.map ρ)->BR φ D m (mx.map ρ)->(gh=none->h=none)->(gm=none->m=none)->(gh≠none->h≠none)->c H l h m v≠.fail ->
   ∃u,c H l h m v=.val u/\Does P (execOp ρ o) φ D H.get w n (.val u)):
  cj P o (λ F H n=>wH (c H) g gl gh gm F H n):=by
 intro F H n φ D a w hr hF hf hne;dsimp only at hf hne ⊢;unfold wH at hf hne ⊢
 cases h1:vM F gl with
 |none=>rw[h1]at hne;exact ar rfl hne
 |some l =>
  rw[h1]at hne hf;dsimp only at hne hf ⊢
  cases h2:vM F gh with
  |none=>rw[h2]at hne;exact ar rfl hne
  |some h =>
   rw[h2]at hne hf;dsimp only at hne hf ⊢
   cases h3:vM F gm with
   |none=>rw[h3]at hne;exact ar rfl hne
   |some m =>
    rw[h3]at hne hf;dsimp only at hne hf ⊢
    cases hv:g.f F with
    |none=>rw[hv]at hne;exact ar rfl hne
    |some v =>
     rw[hv]at hne hf;dsimp only at hne hf ⊢
     obtain⟨u,hu,hd⟩:=hc φ D H w n a.eval l h m v _ hr rfl (aW hg F φ D a hF v hv) (rV hl hF h1) (rV hh hF h2) (rV hm hF h3)
      (λ e=>by subst e;simp[vM]at h2;exact h2.symm) (λ e=>by subst e;simp[vM]at h3;exact h3.symm)
      (λ e=>by cases gh with
       |none=>exact ar rfl e
       |some y=>simp only[vM]at h2;cases hy:y.f F<;>rw[hy]at h2<;>simp at h2;rw[<-h2];simp) hne
     rw[hu];exact hd
theorem ake {o:Oper}{t e:TypeId}{sz:Nat}{x:Operand}{g:G}{lo hi mx:Option Operand}{gl gh gm:Option G}(ho:o.op=.slice t x lo hi mx) (hg:dD x=some g) (hl:pN lo=some gl) (hh:pN hi=some gh) (hm:pN mx=some gm)
  (hu:P.underlying t=some (.slice e))(hs:cu P e=some sz)(hmx:gm=none∨gh≠none):cj P o (wH (ja sz) g gl gh gm):=by
 refine aq_ hg hl hh hm (λ _=>ja sz) λ φ D H w n ρ l h m v xv hr hx hv b1 b2 b3 n1 n2 n3 hne=>?_
 have Yn:m=none∨h≠none:=by
  rcases hmx with e|e
  ·exact .inl (n2 e)
  exact .inr (n3 e)
 unfold ja at hne ⊢
 split at hne
 ·rename_i b off len s
  split at hne
  ·rename_i l' h' hb
   split at hne
   ·rename_i hs';have hs':=cT hs';subst hs';simp only[db];refine⟨_,rfl,?_⟩
    cases hv with
    |sl _ _ _ _ cb co cz cap ad hp hle hex =>
    obtain⟨mm,hrun,q1,q2,q3,q4⟩:=mY (P:=P) hb b1 b2 b3 Yn true cap hle w;refine Does.val hr (cv:=.slice (some (if mm=l' then ad else ad.add (l'*s))) (h' - l') (mm - l')) ?_ ?_
    ·simp only[execOp,ho,hx,Instr.sliceAt,cL,run_underlying hu,cy,Instr.slice,hrun,bY hs,dB]
     by_cases hml:mm=l'<;>simp[hml]
    refine .sl _ _ _ _ cb co cz _ _ hp ae λ hpos=>?_;obtain⟨e1,e2⟩:=hex ae;subst e1;rw[ai ae,oo];refine⟨by rw[Nat.add_assoc],?_⟩;have:(mm - l')*s+l'*s<=cap*s:=by rw[<-Nat.add_mul];exact C6 _ ae
    omega
   exact ar rfl hne
  exact ar rfl hne
 ·rename_i cs len s
  split at hne
  ·rename_i l' h' hb
   split at hne
   ·rename_i hs';have hs':=cT hs';subst hs';refine⟨_,rfl,?_⟩
    cases hv with
    |ds _ _ _ cap cb co cells ll hD hll hcs hvs hle =>
     obtain⟨mm,hrun,q1,q2,q3,q4⟩:=mY (P:=P) hb b1 b2 b3 Yn true cap hle w;refine Does.val hr (cv:=.slice (some (if mm=l' then ⟨cb,co,none⟩else (⟨cb,co,none⟩:Addr).add (l'*s))) (h' - l') (mm - l')) ?_ ?_
     ·simp only[execOp,ho,hx,Instr.sliceAt,cL,run_underlying hu,cy,Instr.slice,hrun,bY hs,dB]
      by_cases hml:mm=l'<;>simp[hml]
     by_cases hz:h' - l'=0
     ·rw[hz];simp only[Nat.zero_mul,take_zero];exact .pW _ _ _
     rw[ai ae,oo];have hmul:(h' - l')*s+l'*s<=len*s:=by rw[<-Nat.add_mul];exact C6 _ ae
     refine .ds _ _ _ _ _ _ _ _ hD rfl (by simp[hcs];omega) ?_ ae;have:=(hvs.drop (l'*s)).take ((h' - l')*s);rw[hll,drop_take,drop_drop,take_take]at this;rw[show min ((h' - l')*s) (len*s - l'*s)=(h' - l')*s from ae]at this;exact this
    |pW _ cap ad =>
     obtain⟨mm,hrun,q1,q2,q3,q4⟩:=mY (P:=P) hb b1 b2 b3 Yn true cap (Nat.zero_le _) w;refine Does.val hr (cv:=.slice (some (if mm=l' then ad else ad.add (l'*s))) (h' - l') (mm - l')) ?_ ?_
     ·simp only[execOp,ho,hx,Instr.sliceAt,cL,run_underlying hu,cy,Instr.slice,hrun,bY hs,dB]
      by_cases hml:mm=l'<;>simp[hml]
     rw[show h' - l'=0 from by omega];simp;exact .pW _ _ _
    |tW =>
     obtain⟨mm,hrun,q1,q2,q3,q4⟩:=mY (P:=P) hb b1 b2 b3 Yn true 0 (Nat.zero_le _) w;have e1:l'=0:=ae;have e2:h'=0:=ae;have e3:mm=0:=ae;subst e1 e2 e3;refine Does.val hr (cv:=.slice none 0 0) ?_ (by simp;exact .tW _);simp only[execOp,ho,hx,Instr.sliceAt,cL,run_underlying hu,cy,Instr.slice,hrun,bY hs,dB];simp
   exact ar rfl hne
  exact ar rfl hne
 ·split at hne
  ·rename_i hb;refine⟨_,rfl,?_⟩
   cases hv with
   |aV _ hat =>
   rename_i x2;obtain⟨l',h'⟩:=x2;obtain⟨mm,hrun,q1,q2,q3,q4⟩:=mY (P:=P) hb b1 b2 b3 Yn true 0 (aK _) w;have e1:l'=0:=ae;have e2:h'=0:=ae;have e3:mm=0:=ae;subst e1 e2 e3;refine Does.val hr (cv:=.slice none 0 0) ?_ (.aV _ hat);simp only[execOp,ho,hx,Instr.sliceAt,cL,run_underlying hu,cy,Instr.slice,hrun,bY hs,dB];simp
  exact ar rfl hne
 exact ar rfl hne
theorem lL {s:ByteArray}{l:List Nat}(h:s.data.toList.map UInt8.toNat=l):s.size=l.length:=by
 rw[<-h,length_map,Array.length_toList];rfl
end
end Go.Abs
namespace Go.Abs
open List
section
variable {P:Program}
theorem toList_data (s:ByteArray):s.data.toList=s.toList:=(Lib.toList_data s).symm
theorem blt_eq (a b:Nat):Nat.blt a b=decide (a<b):=by
 by_cases h:a<b
 ·rw[decide_eq_true h];exact wq h
 rw[decide_eq_false h]
 cases hb:Nat.blt a b with
 |false=>rfl
 |true=>exact ar (eF hb) h
theorem beq_eq (a b:Nat):Nat.beq a b=decide (a=b):=by
 by_cases h:a=b
 ·subst h;simp
 rw[decide_eq_false h]
 cases hb:Nat.beq a b with
 |false=>rfl
 |true=>exact ar (cT hb) h
theorem aop (a b:UInt8):(a == b)=decide (a.toNat=b.toNat):=by
 by_cases h:a=b
 ·subst h;simp
 have:a.toNat≠b.toNat:=λ e=>h (UInt8.toNat_inj.1 e);simp[h,this]
theorem OZ:∀(a b:List UInt8),Op.bytesLess a b=jL (a.map UInt8.toNat) (b.map UInt8.toNat)
 |[],[]=>rfl
 |[],_::_=>rfl
 |_::_,[]=>rfl
 |a::x,b::y=>by
  simp only[Op.bytesLess,map_cons,jL,OZ x y,blt_eq,beq_eq,aop,UInt8.lt_iff_toNat_lt]
theorem fB:∀(a b:List Nat),fk a b=(a == b)
 |[],[]=>rfl
 |[],_::_=>rfl
 |_::_,[]=>rfl
 |a :: x,b::y=>by
  simp only[fk,cons_beq_cons]
  cases hb:Nat.beq a b with
  |true=>have:=cT hb;subst this;simp[fB x y]
  |false =>
   have:¬a=b:=λ e=>by subst e;simp at hb
   simp[this]
theorem JV (a b:List UInt8):(a == b)=fk (a.map UInt8.toNat) (b.map UInt8.toNat):=by
 rw[fB]
 by_cases h:a=b
 ·subst h;simp
 have:a.map UInt8.toNat≠b.map UInt8.toNat:=λ e=>h (List.map_inj_right (λ x y hxy=>UInt8.toNat_inj.1 hxy) |>.1 e);rw[beq_eq_false_iff_ne.2 h,beq_eq_false_iff_ne.2 this]
theorem akj {o:Oper}{t:TypeId}{x y:Operand}{g k:G}(ho:o.op=.index t x y) (hg:dD x=some g) (hk:dD y=some k) (hu:P.underlying t=some .string):cj P o (e2 oZ g k):=by
 refine JW hg hk _ λ φ D h w n ρ v u xv yv hr hx hy hv huv hf hne=>?_;unfold oZ at hne ⊢
 split at hne
 ·rename_i l kk i;rw[nK]at hne ⊢
  cases hc:l[i]? with
  |none=>rw[hc]at hne;exact ar rfl hne
  |some c =>
   cases huv
   cases hv with
   |str bs _ hs =>
   have hb:∃b:UInt8,bs.data[i]?=some b/\b.toNat=c:=by
    rw[<-hs,getElem?_map]at hc
    cases hd:bs.data.toList[i]? with
    |none=>rw[hd]at hc;cases hc
    |some b=>rw[hd]at hc;injection hc with hc;exact⟨b,by simpa using hd,hc⟩
   obtain⟨b,hb,hbc⟩:=hb
   have hb':bs[i]?=some b:=by
    have hlt:=(uJ.1 hb);obtain⟨h1,h2⟩:=hlt;have:i<bs.size:=h1;simp only[getElem?,decidableGetElem?];rw[dif_pos this]
    congr 1
   refine Does.val hr (cv:=.int .u8 (Int.ofNat c)) ?_ (.int _ _);simp only[execOp,ho,hx,hy,Instr.index,cL,asIntOf,dB,cy,run_underlying hu];simp[hb',hbc]
 exact ar rfl hne
theorem Ab {φ:Ph}{D:Da}{v:AV}{x:Value}{k:Nat}(h:sliceLen v=some k)(hv:VR φ D v x)(w:World):(Builtin.lenOf x).run P w=.ok k w:=by
 unfold sliceLen at h
 split at h
 ·injection h with h;subst h;cases hv;simp[Builtin.lenOf]
 ·injection h with h;subst h;cases hv<;>simp[Builtin.lenOf]
 ·injection h with h;subst h
  cases hv with
  |aV _ hat=>simp[atom]at hat;split at hat<;>simp_all [Builtin.lenOf]
 ·rw[bM]at h;injection h with h;subst h
  cases hv with
  |str s _ hs=>simp[Builtin.lenOf,lL hs]
 cases h
theorem fO {s:Sem Next}{φ:Ph}{D:Da}{h:Hf}{w:World}{n:Nat}{k:IntKind}{i:Int}(hr:Rel φ D h w)(hrun:s.run P w=.ok (.value (.int k i)) w):Does P s φ D h w n (kY k i):=by
 unfold kY;rw[mX];exact Does.val hr hrun (.int _ _)
theorem JU {op:BinOp}{t:TypeId}{x y:Operand}{a b:Value}(h:op≠.eql/\op≠.neq)(w:World):(eqGuard op t x y a b).run P w=.ok () w:=by
 obtain⟨h1,h2⟩:=h
 cases op<;>first|exact ar rfl h1|exact ar rfl h2|(simp[eqGuard])
theorem akn {o:Oper}{op:BinOp}{t u:TypeId}{x y:Operand}{g k:G}(ho:o.op=.binOp op t x y u) (hg:dD x=some g) (hk:dD y=some k) (hop:op≠.eql/\op≠.neq):cj P o (e2 (bR op) g k):=by
 refine JW hg hk _ λ φ D h w n ρ v u xv yv hr hx hy hv huv hf hne=>?_;clear hf
 revert hne
 have hrun:∀r,(binOp op t xv yv).run P w=.ok r w->(execOp ρ o).run P w=.ok (.value r) w:=by
  intro r hr';simp only[execOp,ho,hx,hy,cL,JU hop,cy,hr',dB]
 have arith:op=.sub∨op=.mul∨op=.quo∨op=.rem∨op=.and∨op=.or∨op=.xor∨op=.andNot->uQ (bS op) v u≠.fail->Does P (execOp ρ o) φ D h w n (uQ (bS op) v u):=by
  intro hop' hne;unfold uQ at hne ⊢
  split at hne
  ·rename_i kk a j b
   split at hne
   ·rename_i e;subst e;rw[aw rfl];cases hv;cases huv
    rcases hop' with rfl|rfl|rfl|rfl|rfl|rfl|rfl|rfl
    ·exact fO hr (hrun _ (by simp[binOp,Op.intArith]))
    ·exact fO hr (hrun _ (by simp[binOp,Op.intArith]))
    ·simp only[bS]at hne ⊢
     by_cases hb:b=0
     ·simp[hb]at hne
     rw[ai hb];exact fO hr (hrun _ (by simp[binOp,Op.intDiv,hb]))
    ·simp only[bS]at hne ⊢
     by_cases hb:b=0
     ·simp[hb]at hne
     rw[ai hb];exact fO hr (hrun _ (by simp[binOp,Op.intDiv,hb]))
    ·exact fO hr (hrun _ (by simp[binOp,Op.intBits]))
    ·exact fO hr (hrun _ (by simp[binOp,Op.intBits]))
    ·exact fO hr (hrun _ (by simp[binOp,Op.intBits]))
    exact fO hr (hrun _ (by simp[binOp,Op.intBits]))
   exact ar rfl hne
  exact ar rfl hne
 have cmp:op=.lss∨op=.leq∨op=.gtr∨op=.geq->rp op v u≠.fail->Does P (execOp ρ o) φ D h w n (rp op v u):=by
  intro hop' hne;unfold rp at hne ⊢
  split at hne
  ·rename_i kk a j b
   split at hne
   ·rename_i e;subst e;rw[aw rfl];cases hv;cases huv
    rcases hop' with rfl|rfl|rfl|rfl
    ·exact Does.val hr (hrun _ (by simp[binOp,Op.intCmp])) (.bool _)
    ·exact Does.val hr (hrun _ (by simp[binOp,Op.intCmp])) (.bool _)
    ·exact Does.val hr (hrun _ (by simp[binOp,Op.intCmp])) (.bool _)
    exact Does.val hr (hrun _ (by simp[binOp,Op.intCmp])) (.bool _)
   exact ar rfl hne
  ·rename_i a b
   cases hv with
   |str s _ hs =>
   cases huv with
   |str s' _ hs' =>
   have hl:Op.bytesLess s.toList s'.toList=jL a b:=by rw[OZ,<-toList_data,<-toList_data,hs,hs']
   have he:(s.toList == s'.toList)=fk a b:=by rw[JV,<-toList_data,<-toList_data,hs,hs']
   rcases hop' with rfl|rfl|rfl|rfl
   ·exact Does.val hr (hrun _ (by simp[binOp,Op.stringOp,hl])) (.bool _)
   ·exact Does.val hr (hrun _ (by simp[binOp,Op.stringOp,hl,he])) (.bool _)
   ·exact Does.val hr (hrun _ (by simp[binOp,Op.stringOp,hl,he])) (.bool _)
   exact Does.val hr (hrun _ (by simp[binOp,Op.stringOp,hl])) (.bool _)
  exact ar rfl hne
 have shift:op=.shl∨op=.shr->eR op v u≠.fail->Does P (execOp ρ o) φ D h w n (eR op v u):=by
  intro hop' hne;unfold eR at hne ⊢
  split at hne
  ·rename_i kk a j b;cases hv;cases huv;have hb:¬(Int.ofNat b)<0:=ah
   rcases hop' with rfl|rfl
   ·exact fO hr (hrun _ (by simp only[binOp,Op.shift];rw[ai hb];rfl))
   exact fO hr (hrun _ (by simp only[binOp,Op.shift];rw[ai hb];rfl))
  exact ar rfl hne
 have add:op=.add->Ak v u≠.fail->Does P (execOp ρ o) φ D h w n (Ak v u):=by
  intro hop' hne;subst hop';unfold Ak at hne ⊢
  split at hne
  ·rename_i kk a j b
   split at hne
   ·rename_i e;subst e;rw[aw rfl];cases hv;cases huv;exact fO hr (hrun _ (by simp[binOp,Op.intArith]))
   exact ar rfl hne
  ·rename_i a b
   split at hne
   ·rename_i hle;have hle:=eF hle;rw[bM,bM]at hle
    cases hv with
    |str s _ hs =>
    cases huv with
    |str s' _ hs' =>
    have hsz:¬(((s.size+s'.size:Nat):Int)>IntKind.i64.max):=by
     rw[lL hs,lL hs'];have:IntKind.i64.max=9223372036854775807:=by decide
     rw[this];unfold big at hle;omega
    refine Does.val hr (hrun (.string (s++s')) ?_) (.str _ _ ?_)
    ·simp only[binOp,Op.stringOp];rw[ai hsz];rfl
    rw[<-hs,<-hs',ByteArray.data_append];simp
   exact ar rfl hne
  exact ar rfl hne
 intro hne
 cases op with
 |eql=>exact ar rfl hop.1
 |neq=>exact ar rfl hop.2
 |add=>exact add rfl hne
 |lss=>exact cmp ah hne
 |leq=>exact cmp ah hne
 |gtr=>exact cmp ah hne
 |geq=>exact cmp ah hne
 |shl=>exact shift ah hne
 |shr=>exact shift ah hne
 |_=>exact arith ah hne
end
end Go.Abs
namespace Go.Abs
open List
section
variable {P:Program}
theorem oL {φ:Ph}{D:Da}{w:World}{H:Hp}{sz k:Nat}{v:AV}{x:Value}{l:List AV}(hr:Rel φ D H.get w) (hv:VR φ D v x) (h:aX H sz v=some l) (hk:sliceLen v=some k):
  l.length=k*sz/\∃xs,bW φ D l xs/\(∀dr:Nat,(Builtin.firstCells sz k x).run P {w with drawn:=dr}=.ok ⟨xs⟩ {w with drawn:=dr})/\(Builtin.lenOf x).run P w=.ok k w:=by
 have hlen:=Ab (P:=P) hk hv w;unfold aX at h
 split at h
 ·rename_i b o len s;simp only[sliceLen]at hk;injection hk with hk;subst hk
  cases hs:Nat.beq s sz with
  |false=>rw[hs]at h;cases h
  |true =>
   rw[hs]at h;have hs:=cT hs;subst hs;dsimp only [cond]at h
   split at h
   ·rename_i u z bs t hb
    cases hv with
    |sl _ _ _ _ cb co cz cap ad hp hle hex =>
    obtain⟨_,c,e,fr,q1,q2,q3,q4,q5,q6⟩:=hr.block hb hp;dsimp only at q1 q2 q4;obtain⟨g1,g2⟩:=kW q5 h;refine⟨g1,?_⟩
    have hx:∀i v,l[i]?=some v->∃x,c[co+o+i]?=some x/\VR φ D v x:=by
     intro i v hv;have hi:i<l.length:=(nH.1 hv).1;have:=q4 (o+i) v (by rw[g2 i ae];exact hv);simpa[Nat.add_assoc]using this
    let xs:=(c.toList.drop (co+o)).take (len*s)
    have hsz:co+o+len*s<=c.size∨len*s=0:=by
     rcases Nat.eq_zero_or_pos (len*s)with h0|h0
     ·exact .inr h0
     left
     obtain⟨x,hx',_⟩:=hx (len*s - 1) l[len*s - 1] (cX ae);have:=(uJ.1 hx').1;omega
    have hxl:xs.length=len*s:=by simp[xs];omega
    have hvs:bW φ D l xs:=by
     refine bW.pO ae λ i v hv=>?_;obtain⟨x,hx1,hx2⟩:=hx i v hv;have hi:i<l.length:=(nH.1 hv).1;exact⟨x,by simp only[xs];rw[getElem?_take,aw ae,lj];simpa using hx1,hx2⟩
    refine⟨xs,hvs,λ dr=>?_,hlen⟩
    rcases Nat.eq_zero_or_pos cap with h0|h0
    ·have:len=0:=ae;subst this;have:xs=[]:=eq_nil_of_length_eq_zero (by simpa using hxl);rw[this];simp[Builtin.firstCells,loadCells,loadCellsFrom]
    obtain⟨rfl,_⟩:=hex h0
    have hrun:=eV (P:=P) (w:={w with drawn:=dr}) (cb:=cb) (o:=co+o) q1 xs (λ i x hx=>by
     simp only[xs]at hx;rw[getElem?_take]at hx
     split at hx
     ·rw[lj]at hx;simpa using hx
     cases hx)
    rw[hxl]at hrun;simp only[Builtin.firstCells];exact hrun
   cases h
 ·rename_i cs len s;simp only[sliceLen]at hk;injection hk with hk;subst hk
  cases hs:Nat.beq s sz with
  |false =>
   rw[hs]at h
   cases hz:Nat.beq len 0 with
   |false=>rw[hz]at h;cases h
   |true =>
    rw[hz]at h;have hz:=cT hz;subst hz;simp only[Bool.false_or,cond_true]at h;injection h with h;subst h
    cases hv with
    |ds _ _ _ cap cb co cells ll hD hll hcs hvs hle =>
     have:cs=[]:=eq_nil_of_length_eq_zero (by simpa using hcs);subst this;exact⟨ah,[],.nil,λ dr=>by simp[Builtin.firstCells,loadCells,loadCellsFrom],hlen⟩
    |pW=>exact⟨ah,[],.nil,λ dr=>by simp[Builtin.firstCells,loadCells,loadCellsFrom],hlen⟩
    |tW=>exact⟨ah,[],.nil,λ dr=>by simp[Builtin.firstCells],hlen⟩
  |true =>
   rw[hs]at h;have hs:=cT hs;subst hs;simp only[Bool.true_or,cond_true]at h;injection h with h;subst h
   cases hv with
   |ds _ _ _ cap cb co cells ll hD hll hcs hvs hle =>
    refine⟨hcs,ll,hvs,λ dr=>?_,hlen⟩;obtain⟨e,fr,hh⟩:=hr.eS.1 _ _ hD
    have hrun:=eV (P:=P) (w:={w with drawn:=dr}) (cb:=cb) (o:=co) hh ll (λ i x hx=>by
      rw[hll,getElem?_take]at hx
      split at hx
      ·rw[lj]at hx;simpa using hx
      cases hx)
    rw[<-hvs.length,hcs]at hrun;simp only[Builtin.firstCells];exact hrun
   |pW=>exact⟨ah,[],.nil,λ dr=>by simp[Builtin.firstCells,loadCells,loadCellsFrom],hlen⟩
   |tW=>exact⟨ah,[],.nil,λ dr=>by simp[Builtin.firstCells],hlen⟩
 ·injection h with h;subst h;simp only[sliceLen]at hk;injection hk with hk;subst hk
  cases hv with
  |aV _ hat=>exact⟨ah,[],.nil,λ dr=>by simp[Builtin.firstCells],hlen⟩
 ·rename_i bs
  cases hs:Nat.beq sz 1 with
  |false=>rw[hs]at h;cases h
  |true =>
   rw[hs]at h;have hs:=cT hs;subst hs;dsimp only [cond]at h;injection h with h;subst h;simp only[sliceLen,bM]at hk;injection hk with hk;subst hk
   cases hv with
   |str s _ hs =>
   have hl:=lL hs;refine⟨by simp[Vx],s.data.toList.map λ b=>.int .u8 b.toNat,?_,λ dr=>?_,hlen⟩
   ·rw[<-hs];unfold Vx;refine bW.pO ah λ i v hv=>?_;simp only[getElem?_map,map_map]at hv ⊢
    cases hd:s.data.toList[i]? with
    |none=>rw[hd]at hv;cases hv
    |some b=>rw[hd]at hv;simp at hv;subst hv;exact⟨_,rfl,.int _ _⟩
   simp only[Builtin.firstCells];rw[<-hl]
   have:(s.extract 0 s.size).data=s.data:=by
    rw[ByteArray.data_extract];show s.data.extract 0 s.data.size=s.data;simp
   rw[this];simp only[dB]
   congr 1
   apply Array.ext';simp
 cases h
theorem ub {φ:Ph}{D:Da}:∀ {l:List AV}{xs:List Value}{bs:List Nat},bW φ D l xs->bytesOf l=some bs->∃ns:List Int,xs=ns.map (.int .u8)/\bs=ns.map λ n=>n.toNat % 256
 |[],xs,bs,h,hb=>by
  cases h
  simp[bytesOf]at hb;subst hb;exact⟨[],rfl,rfl⟩
 |v :: l,xs,bs,h,hb=>by
  cases h with
  |cons _ x _ xs h1 h2 =>
  unfold bytesOf at hb
  split at hb
  ·rename_i heq;cases heq
  ·rename_i n r heq;injection heq with e1 e2;subst e1 e2
   cases hr:bytesOf l with
   |none=>rw[hr]at hb;cases hb
   |some bs' =>
    rw[hr]at hb;injection hb with hb;subst hb;obtain⟨ns,rfl,rfl⟩:=ub h2 hr;cases h1;exact⟨n::ns,rfl,rfl⟩
  cases hb
theorem yR:∀(ns:List Int)(s:ByteArray),(ns.foldl (λ r n=>r.push (UInt8.ofNat n.toNat)) s).data.toList.map UInt8.toNat=s.data.toList.map UInt8.toNat++ns.map λ n=>n.toNat % 256
 |[],s=>ah
 |n::ns,s=>by
  simp only[foldl_cons,map_cons];rw[yR ns,ByteArray.data_push];simp
theorem ako {o:Oper}{s d e:TypeId}{x:Operand}{g:G}(ho:o.op=.convert s d x) (hg:dD x=some g) (hs:P.underlying s=some (.slice e)) (hd:P.underlying d=some .string) (he:P.underlying e=some (.int .u8)):cj P o (J1 g):=by
 intro F H n φ D a w hr hF hf hne;unfold J1 at hf hne ⊢
 cases hv:g.f F with
 |none=>rw[hv]at hne;exact ar rfl hne
 |some v =>
  rw[hv]at hf hne;dsimp only at hf hne ⊢;have je:=aW hg F φ D a hF v hv;have hns:∀l,v≠.str l:=by rintro l rfl;exact hne rfl
  have hcb:KB v H=(match aX H 1 v with
   |some l=>match bytesOf l with
    |some bs=>.val (.str bs)
    |none=>.fail
   |none=>.fail):=by
   unfold KB;split
   ·exact ar rfl (hns _)
   rfl
  rw[hcb]at hf hne ⊢
  cases hc:aX H 1 v with
  |none=>rw[hc]at hne;exact ar rfl hne
  |some l =>
   rw[hc]at hf hne;dsimp only at hf hne ⊢
   cases hb:bytesOf l with
   |none=>rw[hb]at hne;exact ar rfl hne
   |some bs =>
    dsimp only
    have hk:∃k,sliceLen v=some k:=by
     unfold aX at hc;unfold sliceLen
     split at hc<;>first|exact⟨_,rfl⟩|cases hc
    obtain⟨k,hk⟩:=hk;obtain⟨h1,xs,h2,h3',h4⟩:=oL (P:=P) hr je hc hk;have h3:(Builtin.firstCells 1 k (a.eval x)).run P w=.ok ⟨xs⟩ w:=h3' w.drawn;clear h3';obtain⟨ns,rfl,rfl⟩:=ub h2 hb;simp only[Nat.mul_one]at h1;generalize hxv:a.eval x=xv at *
    have hshape:(∃ad len cap,xv=.slice (some ad) len cap/\len=k)∨xv=.slice none 0 0:=by
     cases je with
     |sl=>left;simp only[sliceLen]at hk;injection hk with hk;exact⟨_,_,_,rfl,hk⟩
     |ds=>left;simp only[sliceLen]at hk;injection hk with hk;exact⟨_,_,_,rfl,hk⟩
     |pW=>left;simp only[sliceLen]at hk;injection hk with hk;exact⟨_,_,_,rfl,hk⟩
     |tW=>right;rfl
     |str=>exact ar rfl (hns _)
     |aV _ hat=>right;unfold sliceLen at hk;split at hk<;>simp_all [atom];split at hat<;>simp_all
     |_=>simp[sliceLen]at hk
    have hrun:∃st,(Conv.bytesToString xv).run P w=.ok (.string st) w/\st.data.toList.map UInt8.toNat=ns.map λ n=>n.toNat % 256:=by
     rcases hshape with⟨ad,len,cap,rfl,rfl⟩|rfl
     ·simp only[Builtin.firstCells,Nat.mul_one]at h3;refine⟨_,run_bytesToString w ad len cap ns h3,?_⟩;rw[yR];rfl
     refine⟨ByteArray.empty,by simp[Conv.bytesToString],?_⟩;simp only[Builtin.firstCells,dB]at h3;injection h3 with h3;have:ns.map (Value.int .u8)=[]:=by have:=congrArg Array.toList h3;simpa using this.symm
     have:ns=[]:=by simpa using this
     subst this;rfl
    obtain⟨st,hst,hbytes⟩:=hrun;refine Does.val hr (cv:=.string st) ?_ (.str _ _ hbytes)
    have hconv:(convert s d xv).run P w=.ok (.string st) w:=by
     obtain⟨aa,ll,cc,rfl⟩:∃aa ll cc,xv=.slice aa ll cc:=by
      rcases hshape with⟨ad,len,cap,rfl,_⟩|rfl
      ·exact⟨_,_,_,rfl⟩
      exact⟨_,_,_,rfl⟩
     rw[run_convert_bytes_string w s d e aa ll cc hs he hd];exact hst
    simp only[execOp,ho,hxv,cL,hconv,cy,dB]
end
end Go.Abs
namespace Go.Abs
open List
section
variable {P:Program}
theorem WA {φ:Ph}{D:Da}{h:Hf}{w:World}(hr:Rel φ D h w)(k:Nat):Rel φ D h {w with drawn:=k}:=
 ⟨λ b kk hb=>let ⟨p,a,c,d⟩:=hr.blk b kk hb;⟨p,a,c,d.mono (λ _ _ h=>h) (λ _ _ h=>h) rfl⟩,hr.inj,hr.sep,hr.eS⟩
theorem YD {φ D h w n φ' D' h' w' n'}(k:Nat)(e:Ext φ D h {w with drawn:=k} n φ' D' h' w' n'):Ext φ D h w n φ' D' h' w' n':=
 ⟨e.le,e.phi,e.new,e.eS,e.size,e.keep,e.live,e.kR,e.hid,e.os,e.out⟩
theorem wQ {φ:Ph}{D:Da}{h:Hf}{w:World}{n:Nat}(hr:Rel φ D h w)(hf:cU φ n (n+1))(c:Array Value)(e:TypeId)(fr:Nat×Nat)(hfr:Nfr c.size fr)(k:bG)
  (u:Nat)(z bs:List AV)(t:Ov AV)(hk:k=.cells u z bs t)(hc:∀i v,gZ u z bs t i=some v->∃x,c[i]?=some x/\VR φ D v x)(hi:t=.nil->z=[]->bs.length=u)(hu:u<=c.size)(d:Nat):
  Rel (φ.set n (w.heap.size,0,c.size)) D (h.set n (some k)) (World.newObj {w with drawn:=d} (.cells c e fr)) /\
   Ext φ D h w n (φ.set n (w.heap.size,0,c.size)) D (h.set n (some k)) (World.newObj {w with drawn:=d} (.cells c e fr)) (n+1):=by
 have hn:φ n=none:=hf n (aK _) ae
 obtain⟨h1,h2⟩:=nF (WA hr d) hf (.cells c e fr) c.size k (by
  subst hk;refine⟨c,e,fr,OQ _ _,rfl,hfr,λ i v hv=>?_,hi,by simpa using hu⟩;obtain⟨x,hx,hv'⟩:=hc i v hv;exact⟨x,by simpa using hx,hv'.mono (Ph.gV hn) λ _ _ h=>h⟩)
 exact⟨h1,YD _ h2⟩
theorem akf {o:Oper}{s d e:TypeId}{x:Operand}{g:G}(ho:o.op=.convert s d x) (hg:dD x=some g) (hs:P.underlying s=some .string) (hd:P.underlying d=some (.slice e)) (he:P.underlying e=some (.int .u8)):cj P o (UO g):=by
 intro F H n φ D a w hr hF hf hne;unfold UO at hf hne ⊢
 cases hv:g.f F with
 |none=>rw[hv]at hne;exact ar rfl hne
 |some v =>
  rw[hv]at hf hne;have je:=aW hg F φ D a hF v hv
  cases v with
  |str l =>
   dsimp only at hf hne ⊢;generalize hxv:a.eval x=xv at je
   cases je with
   |str st _ hst =>
   rw[bM]at hf ⊢;have hrun:=run_bytes_of_string (P:=P) w s d e st hs hd he
   have hcap:st.size<=grownCap w st.size 0 e:=by
    unfold grownCap;simp[Question.cut]
   generalize hgc:grownCap w st.size 0 e=gc at hrun hcap;have hlen:=lL hst
   have aqk:(bytesRow st gc).size=gc:=by
    unfold bytesRow;simp[show st.data.size=st.size from rfl];omega
   have aql:∀i,i<l.length->∃b:UInt8,st.data.toList[i]?=some b/\(bytesRow st gc)[i]?=some (.int .u8 b.toNat):=by
    intro i hi;have hi':i<st.data.toList.length:=by rw[Array.length_toList];show i<st.size;omega
    refine⟨st.data.toList[i],cX hi',?_⟩;unfold bytesRow;rw[Array.getElem?_append_left (by simpa using hi')];simp at hi';simp[hi']
   obtain⟨h1,h2⟩:=wQ hr hf (bytesRow st gc) e ((bytesRow st gc).size,(bytesRow st gc).size+1) (.inr (aK _)) (.cells l.length [] (Vx l) .nil) l.length [] (Vx l) .nil rfl
    (λ i v hv=>by
     rw[cD]at hv
     split at hv
     ·rename_i hi;simp at hv;obtain⟨b,hb1,hb2⟩:=aql i hi;refine⟨_,hb2,?_⟩
      have:(Vx l)[i]?=some (.int .u8 (Int.ofNat b.toNat)):=by
       unfold Vx;rw[<-hst];simp only[getElem?_map,hb1,Option.map_some]
      rw[this]at hv;simp at hv;subst hv;exact .int _ _
     cases hv) (λ _ _=>by simp[Vx]) (by rw[aqk];omega) (w.drawn+1)
   refine⟨.value (.slice (some ⟨w.heap.size,0,none⟩) st.size gc),_,_,_,?_,.value _,h2,h1,?_⟩
   ·have:w.drew.alloc (.cells (bytesRow st gc) e ((bytesRow st gc).size,(bytesRow st gc).size+1))=World.newObj {w with drawn:=w.drawn+1} (.cells (bytesRow st gc) e ((bytesRow st gc).size,(bytesRow st gc).size+1)):=rfl;rw[<-this];simp only[execOp,ho,hxv,cL,hrun,cy,dB]
   simp only[Xr];rw[hlen];exact xP ae (by rw[aqk];omega)
  |_=>exact ar rfl hne
theorem ae2 {o:Oper}{t e:TypeId}{z:List AV}{sz gq:Nat}{x y:Operand}{g k:G}(ho:o.op=.makeSlice t x y) (hg:dD x=some g) (hk:dD y=some k) (he:vV P t=some e) (hz:oJ P e=some z) (hs:cu P e=some sz)
  (hb:vc P e=some gq)(hzl:z.length=sz):cj P o (BL z sz gq g k):=by
 obtain⟨ti,zv,hi,h0,hc⟩:=kX hz;have hu:=sS he;have hby:ti.bytes=gq:=by simpa[vc,hi]using hb
 intro F H n φ D a w hr hF hf hne;unfold BL at hf hne ⊢
 cases hv:g.f F with
 |none=>rw[hv]at hne;exact ar rfl hne
 |some v =>
  rw[hv]at hf hne;dsimp only at hf hne ⊢
  cases hv2:k.f F with
  |none=>rw[hv2]at hne;exact ar rfl hne
  |some u =>
   rw[hv2]at hf hne;dsimp only at hf hne ⊢;have je:=aW hg F φ D a hF v hv;have hur:=aW hk F φ D a hF u hv2;unfold PU at hf hne ⊢
   split at hne
   ·rename_i k1 l k2 c
    split at hne
    ·rename_i hcond;dsimp only at hf;rw[hcond]at hf;dsimp only at hf;simp only[dS]at hcond;obtain⟨⟨c1,c2⟩,c3⟩:=hcond;have c1:=eF c1;have c2:=eF c2;have c3:=eF c3;unfold big at c2;generalize hxv:a.eval x=xv at je;generalize hyv:a.eval y=yv at hur;cases je;cases hur
     have hz':∀i,i<c*sz->∃xx v,((Array.range (c*sz)).map ((if c*sz=0 then #[]else zv.cells)[· % (if c*sz=0 then #[]else zv.cells).size]!))[i]?=some xx/\z[i % z.length]?=some v/\VR φ D v xx:=by
      intro i hi';rw[ai ae]
      have hp:0<z.length:=by
       rcases Nat.eq_zero_or_pos z.length with h|h
       ·rw[<-hzl,h]at hi';simp at hi'
       exact h
      exact Ar (.atoms hc) hp (c*sz) i hi'
     generalize hcc:(Array.range (c*sz)).map ((if c*sz=0 then #[]else zv.cells)[· % (if c*sz=0 then #[]else zv.cells).size]!)=cc at hz';have hccs:cc.size=c*sz:=by rw[<-hcc];simp
     have hdf:∀i v,dflt z i=some v->z[i % z.length]?=some v:=by
      intro i v hv
      cases z with
      |nil=>cases hv
      |cons z0 r=>cases r with
       |nil=>have hv':some z0=some v:=hv;simpa[Nat.mod_one]using hv'
       |cons z1 r=>exact hv
     obtain⟨h1,h2⟩:=wQ hr hf cc e (0,0) (.inl rfl) (.cells (c*sz) z [] .nil) (c*sz) z [] .nil rfl
      (λ i v hv=>by
       rw[cD]at hv
       split at hv
       ·rename_i hi';simp at hv;obtain⟨xx,v',q1,q2,q3⟩:=hz' i hi';rw[hdf i v hv]at q2;injection q2 with q2;subst q2;exact⟨xx,q1,q3⟩
       cases hv) (λ _ hz0=>by subst hz0;simp at hzl;subst hzl;simp) ae w.drawn
     refine⟨.value (.slice (some ⟨w.heap.size,0,none⟩) l c),_,_,_,?_,.value _,h2,h1,xP c1 ae⟩
     have hw1:IntKind.i64.wrap (Int.ofNat l)=Int.ofNat l:=by
      have hp:(2:Int) ^ IntKind.i64.bits=18446744073709551616:=by decide
      have hp2:(2:Int) ^ (IntKind.i64.bits - 1)=9223372036854775808:=by decide
      unfold IntKind.wrap;rw[hp,hp2];have hm:(Int.ofNat l) % 18446744073709551616=Int.ofNat l:=Int.emod_eq_of_lt (Int.natCast_nonneg _) (by simp;omega);rw[hm];simp;omega
     have hw2:IntKind.i64.wrap (Int.ofNat c)=Int.ofNat c:=by
      have hp:(2:Int) ^ IntKind.i64.bits=18446744073709551616:=by decide
      have hp2:(2:Int) ^ (IntKind.i64.bits - 1)=9223372036854775808:=by decide
      unfold IntKind.wrap;rw[hp,hp2];have hm:(Int.ofNat c) % 18446744073709551616=Int.ofNat c:=Int.emod_eq_of_lt (Int.natCast_nonneg _) (by simp;omega);rw[hm];simp;omega
     have hbig:¬(((gq:Nat):Int)*(Int.ofNat c)>2 ^ 48):=by
      have:((gq:Nat):Int)*(Int.ofNat c)=((gq*c:Nat):Int):=ah;rw[this];omega
     have hrun:(Instr.makeSlice t (.int k1 (Int.ofNat l)) (.int k2 (Int.ofNat c))).run P w=.ok (.slice (some ⟨w.heap.size,0,none⟩) l c) (World.newObj {w with drawn:=w.drawn} (.cells cc e (0,0))):=by
      unfold Instr.makeSlice;simp only[cL,run_underlying hu,cy,asInt,asIntOf,dB,run_typeInfo w hi,hw1,hw2,hby];rw[ai (by simp;omega)];simp only[cL,run_askRoom,cy,bY hs,show (Int.ofNat c).toNat=c from rfl,show (Int.ofNat l).toNat=l from rfl]
      by_cases hz0:c*sz=0
      ·rw[aw hz0];rw[aw hz0]at hcc;simp only[cL,dB,cy];rw[hcc];simp[newRow,World.newObj]
      rw[ai hz0];rw[ai hz0]at hcc;simp only[cL,pI hi h0,dB,cy];rw[hcc];simp[newRow,World.newObj]
     simp only[execOp,ho,hxv,hyv,cL,hrun,cy,dB]
    exact ar rfl hne
   exact ar rfl hne
end
end Go.Abs
namespace Go.Abs
open List
section
variable {P:Program}
theorem Jv (need cap:Nat)(h:cap<need):Builtin.nextslicecap need cap<=4*need+4096:=by
 unfold Builtin.nextslicecap;have grow:∀r c,Builtin.growBy need r c<=c+r*0∨True:=λ _ _=>.inr trivial;have g1:∀c,c<=need->c+(c+768) / 4<=2*need+192:=by intro c hc;omega
 have g2:∀r c,c<=2*need+192->Builtin.growBy need r c<=2*need+192:=by
  intro r
  induction r with
  |zero=>intro c hc;exact hc
  |succ r ih =>
   intro c hc;simp only[Builtin.growBy]
   split
   ·exact hc
   exact ih _ (g1 c ae)
 clear grow
 split
 ·omega
 split
 ·omega
 have:=g2 4 cap ae;omega
theorem ae' {gq need cap:Nat}(hb:gq<=4096)(hn:need<=1073741824)(hc:cap<need):¬Builtin.nextslicecap need cap*gq>2 ^ 48:=by
 have h1:=Jv need cap hc;have h2:Builtin.nextslicecap need cap*gq<=(4*need+4096)*4096:=Nat.mul_le_mul h1 hb;omega
theorem rC {ats:Array TypeId}{args:Array Value}{t u ty e:TypeId}{d:TypeDesc}{sz len cap m:Nat}{ad:Addr}{x:Value}{xs:List Value}{w w':World}(h0:ats[0]?=some t)(h1:ats[1]?=some u)(a0:args[0]?=some (.slice (some ad) len cap))(a1:args[1]?=some x)
  (hu:P.underlying t=some (.slice e))(hd:P.underlying u=some d)(hnd:∀k,d≠.int k)(hs:cu P e=some sz)(hm:(Builtin.lenOf x).run P w=.ok m w)(hx:(Builtin.firstCells sz m x).run P w=.ok ⟨xs⟩ w)(hle:len+m<=cap)
  (hst:(storeCells (ad.add (len*sz)) xs).run P w=.ok () w'):(Builtin.append_ ats ty args).run P w=.ok (.slice (some ad) (len+m) cap) w':=by
 have hz:(match d with|.int _=>true|_=>false)=false:=by cases d<;>first|rfl|exact ar rfl (hnd _)
 unfold Builtin.append_;simp only[h0,h1,a0,a1,cL,run_underlying hu,cy,bY hs,run_underlying hd,dB,Bool.false_eq_true,if_false,hm];simp only[Bool.not_false,if_true,aw hle,cL,hx,cy,hst,dB]
theorem uH {ats:Array TypeId}{args:Array Value}{t u ty e:TypeId}{d:TypeDesc}{sz:Nat}{x:Value}{xs:List Value}{w:World}(h0:ats[0]?=some t)(h1:ats[1]?=some u)(a0:args[0]?=some (.slice none 0 0))(a1:args[1]?=some x)
  (hu:P.underlying t=some (.slice e))(hd:P.underlying u=some d)(hnd:∀k,d≠.int k)(hs:cu P e=some sz)(hm:(Builtin.lenOf x).run P w=.ok 0 w)(hx:(Builtin.firstCells sz 0 x).run P w=.ok ⟨xs⟩ w):
  (Builtin.append_ ats ty args).run P w=.ok (.slice none 0 0) w:=by
 have hz:(match d with|.int _=>true|_=>false)=false:=by cases d<;>first|rfl|exact ar rfl (hnd _)
 unfold Builtin.append_;simp only[h0,h1,a0,a1,cL,run_underlying hu,cy,bY hs,run_underlying hd,dB,Bool.false_eq_true,if_false,hm];simp only[Nat.add_zero,aK,Bool.not_false,if_true,cL,hx,cy,dB]
theorem vG {ats:Array TypeId}{args:Array Value}{t u ty e:TypeId}{d:TypeDesc}{ti:TypeInfo}{zv:Value}{sz len cap m:Nat}{base:Option Addr}{x:Value}{xs ys:List Value}{w:World}(h0:ats[0]?=some t)(h1:ats[1]?=some u)(a0:args[0]?=some (.slice base len cap))(a1:args[1]?=some x)
  (hu:P.underlying t=some (.slice e))(hd:P.underlying u=some d)(hnd:∀k,d≠.int k)(hi:P.info? e=some ti)(hs:ti.size=sz)(hz0:ti.zero=some zv)(hzs:zv.cells.size=sz)(hby:ti.bytes<=4096)(hn:len+m<=1073741824)
  (hm:(Builtin.lenOf x).run P w=.ok m w)(hx:∀dr:Nat,(Builtin.firstCells sz m x).run P {w with drawn:=dr}=.ok ⟨xs⟩ {w with drawn:=dr})(hy:∀dr:Nat,(Builtin.firstCells sz len (.slice base len cap)).run P {w with drawn:=dr}=.ok ⟨ys⟩ {w with drawn:=dr})(hxl:xs.length=m*sz)(hyl:ys.length=len*sz)(hlt:cap<len+m):
  ∃nc rest dr,len+m<=nc/\((⟨ys++xs⟩:Array Value)++rest).size=nc*sz /\
   (Builtin.append_ ats ty args).run P w=.ok (.slice (some ⟨w.heap.size,0,none⟩) (len+m) nc) (World.newObj {w with drawn:=dr} (.cells ((⟨ys++xs⟩:Array Value)++rest) e (0,0))):=by
 have hz:(match d with|.int _=>true|_=>false)=false:=by cases d<;>first|rfl|exact ar rfl (hnd _)
 have hsz:cu P e=some sz:=by simp[cu,hi,hs]
 let q:=Question.appendCap (len+m) cap e;let nc:=q.cut (w.tape w.drawn q);have hnc:len+m<=nc:=by simp only[nc,q,Question.cut];omega
 refine⟨nc,Builtin.zeroCells zv.cells (nc - (len+m)),w.drawn+1,hnc,?_,?_⟩
 ·have:(Builtin.zeroCells zv.cells (nc - (len+m))).size=(nc - (len+m))*sz:=by simp[Builtin.zeroCells,hzs]
  rw[Array.size_append,this];simp only[size_toArray,length_append,hxl,hyl];rw[<-Nat.add_mul,<-Nat.add_mul]
  congr 1
  omega
 unfold Builtin.append_;simp only[h0,h1,a0,a1,cL,run_underlying hu,cy,bY hsz,run_underlying hd,dB,Bool.false_eq_true,if_false,hm];rw[ai ae]
 have hno:¬(((len+m:Nat):Int)>IntKind.i64.max/\(False∨ti.bytes=0)):=by
  have:IntKind.i64.max=9223372036854775807:=by decide
  rw[this];omega
 rw[cL,run_typeInfo w hi,cy,ai hno,cL,run_typeInfo w hi,cy,ai (ae' hby hn hlt)]
 have hch:(choose (Question.appendCap (len+m) cap e)).run P w=.ok nc {w with drawn:=w.drawn+1}:=by
  rw[run_choose];rfl
 rw[cL,hch,cy];simp only[cL,run_typeInfo _ hi,cy,run_askRoom,hy,Bool.not_false,if_true,hx,pI hi hz0,newRow,run_newObj,dB,World.newObj];simp
theorem iZ {ρ:Operand->Value}{o:Oper}{b:Builtin}{c:Call}(ho:o.op=.call c)(hc:c.callee=.builtin b)(w:World):
  ∃cs,(execOp ρ o).run P w=(builtin b c.argTypes o.type cs (c.args.map ρ)).run P w:=
 ⟨_,by simp only[execOp,ho,resolve,hc,cL,dB,cy,invoke];rfl⟩
theorem Does.row {s:Sem Next}{φ:Ph}{D:Da}{h:Hf}{w:World}{n dr:Nat}{c:Array Value}{e:TypeId}{v:AV}{u:Nat}{z bs:List AV}{t:Ov AV}{cv:Value}(hr:Rel φ D h w)(hf:cU φ n (n+1))
  (hrun:s.run P w=.ok (.value cv) (World.newObj {w with drawn:=dr} (.cells c e (0,0))))(hc:∀i v,gZ u z bs t i=some v->∃x,c[i]?=some x/\VR φ D v x)(hi:t=.nil->z=[]->bs.length=u)(hu:u<=c.size)
  (hv:VR (Ph.set φ n (w.heap.size,0,c.size)) D v cv):Does P s φ D h w n (.new v (.cells u z bs t)):=by
 obtain⟨h1,h2⟩:=wQ hr hf c e (0,0) (.inl rfl) (.cells u z bs t) u z bs t rfl hc hi hu dr;exact⟨_,cv,_,_,hrun,.value _,h2,h1,hv⟩
theorem old_cells {φ:Ph}{D:Da}{h:Hf}{w:World}{b cb co cz o len cap sz u:Nat}{z bs:List AV}{t:Ov AV}{ad:Addr}(hr:Rel φ D h w) (hb:h b=some (.cells u z bs t)) (hp:φ b=some (cb,co,cz)) (hle:len<=cap) (hex:0<cap->ad=⟨cb,co+o,none⟩/\co+o+cap*sz<=cz):
  ∃ys:List Value,ys.length=len*sz/\(∀dr:Nat,(Builtin.firstCells sz len (.slice (some ad) len cap)).run P {w with drawn:=dr}=.ok ⟨ys⟩ {w with drawn:=dr})/\∀i v,i<len*sz->gZ u z bs t (o+i)=some v->∃x,ys[i]?=some x/\VR φ D v x:=by
 obtain⟨_,c,e,fr,q1,q2,q3,q4,q5,q6⟩:=hr.block hb hp;dsimp only at q1 q2 q4 q6
 rcases Nat.eq_zero_or_pos cap with h0|h0
 ·have:len=0:=ae;subst this;exact⟨[],ah,λ dr=>by simp[Builtin.firstCells,loadCells,loadCellsFrom],λ i v hi=>ae⟩
 obtain⟨rfl,hfit⟩:=hex h0;have hm:len*sz<=cap*sz:=C6 _ hle;let xs:=(c.toList.drop (co+o)).take (len*sz);have hxl:xs.length=len*sz:=by simp[xs];omega
 refine⟨xs,hxl,λ dr=>?_,λ i v hi hg=>?_⟩
 ·have hrun:=eV (P:=P) (w:={w with drawn:=dr}) (cb:=cb) (o:=co+o) q1 xs (λ i x hx=>by
   simp only[xs]at hx;rw[getElem?_take]at hx
   split at hx
   ·rw[lj]at hx;simpa using hx
   cases hx)
  rw[hxl]at hrun;simp only[Builtin.firstCells];exact hrun
 obtain⟨x,hx,hv⟩:=q4 (o+i) v hg;refine⟨x,?_,hv⟩;simp only[xs];rw[getElem?_take,aw hi,lj];simpa[Nat.add_assoc]using hx
theorem Rel.X1 {s:Sem Next}{φ:Ph}{D:Da}{h:Hf}{w:World}{n dr b:Nat}{c:Array Value}{e:TypeId}{v:AV}{u:Nat}{z bs:List AV}{t:Ov AV}{cv:Value}(hr:Rel φ D h w)(hf:cU φ n (n+1))
  (hrun:s.run P w=.ok (.value cv) (World.newObj {w with drawn:=dr} (.cells c e (0,0))))(hc:∀i v,gZ u z bs t i=some v->∃x,c[i]?=some x/\VR φ D v x)(hi:t=.nil->z=[]->bs.length=u)(hu:u<=c.size)
  (hv:VR (Ph.set φ n (w.heap.size,0,c.size)) D v cv):Does P s φ D h w n (.mv v b (.cells u z bs t)):=by
 obtain⟨k1,k2⟩:=V' (n:=n) (b:=b) hr;obtain⟨h1,h2⟩:=wQ k1 hf c e (0,0) (.inl rfl) (.cells u z bs t) u z bs t rfl hc hi hu dr;exact⟨_,cv,_,_,hrun,.value _,k2.trans h2,h1,hv⟩
theorem Zk {s:Sem Next}{ats:Array TypeId}{args:Array Value}{t u ty e:TypeId}{d:TypeDesc}{ti:TypeInfo}{zv x:Value}{xs:List Value}{new:List AV}{sz len cap m b cb co cz off us u' n:Nat}{zz bs z' bs':List AV}{tt t':Ov AV}{ad:Addr}
  {φ:Ph}{D:Da}{h:Hf}{w:World}(hr:Rel φ D h w) (hf:cU φ n (n+1)) (hbk:h b=some (.cells us zz bs tt)) (hp:φ b=some (cb,co,cz)) (hle:len<=cap) (hex:0<cap->ad=⟨cb,co+off,none⟩/\co+off+cap*sz<=cz)
  (yN:∀(r:Value)(w':World),(Builtin.append_ ats ty args).run P w=.ok r w'->s.run P w=.ok (.value r) w')
  (h0:ats[0]?=some t)(h1:ats[1]?=some u)(a0:args[0]?=some (.slice (some ad) len cap))(a1:args[1]?=some x)
  (hu:P.underlying t=some (.slice e))(hd:P.underlying u=some d)(hnd:∀k,d≠.int k)(hi:P.info? e=some ti)(hs:ti.size=sz)(hz0:ti.zero=some zv)(hzs:zv.cells.size=sz)(hby:ti.bytes<=4096)(hn:len+m<=1073741824)(hm0:0<m)
  (hm:(Builtin.lenOf x).run P w=.ok m w)(hx:∀dr:Nat,(Builtin.firstCells sz m x).run P {w with drawn:=dr}=.ok ⟨xs⟩ {w with drawn:=dr})(hxs:bW φ D new xs)(hnl:new.length=m*sz)(hone:∀v∈new,v.one=true)
  (hu':u'=(len+m)*sz)(hcont:∀i v,gZ u' z' bs' t' i=some v->(i<len*sz/\gZ us zz bs tt (off+i)=some v)∨(len*sz<=i/\new[i - len*sz]?=some v))(hinv:t'=.nil->z'=[]->bs'.length=u'):
  Does P s φ D h w n (.mv (.sl n 0 (len+m) sz) b (.cells u' z' bs' t')):=by
 have hxl:xs.length=m*sz:=by rw[<-hxs.length,hnl]
 have hsz:cu P e=some sz:=by simp[cu,hi,hs]
 have hmul:(len+m)*sz=len*sz+m*sz:=Nat.add_mul _ _ _;have hn0:φ n=none:=hf n (aK _) ae
 by_cases hcap:len+m<=cap
 ·obtain⟨rfl,hfit⟩:=hex ae;obtain⟨hlt,c,ee,fr,q1,q2,q3,q4,q5,q6⟩:=hr.block hbk hp;dsimp only at q1 q2 q4 q6 hlt;have hcm:(len+m)*sz<=cap*sz:=C6 _ hcap;obtain⟨c',hst,hcs,hcg⟩:=ij (P:=P) cb (co+off+len*sz) ee fr xs 0 c w q1 q3.at ae (hxs.ones hone);have hrun:=rC (P:=P) (ty:=ty) (w':=World.putObj w cb (.cells c' ee fr)) h0 h1 a0 a1 hu hd hnd hsz hm (hx w.drawn) hcap (by rw[oo];exact hst)
  have hbr:jc (Ph.set φ n (cb,co+off,cz)) D (World.putObj w cb (.cells c' ee fr)) (cb,co+off,cz) (.cells u' z' bs' t'):=by
   refine⟨c',ee,fr,uK _ hlt,by dsimp only;omega,by rw[hcs];exact q3,λ i v hv=>?_,hinv,by dsimp only;omega⟩;have hiu:=qK hv
   rcases hcont i v hv with⟨k1,k2⟩|⟨k1,k2⟩
   ·obtain⟨x,hx1,hx2⟩:=q4 (off+i) v k2;refine⟨x,?_,hx2.mono (Ph.gV hn0) λ _ _ h=>h⟩;dsimp only;rw[hcg,ai ae];rw[show co+off+i=co+(off+i)from by omega];exact hx1
   obtain⟨x,hx1,hx2⟩:=hxs.get k2;refine⟨x,?_,hx2.mono (Ph.gV hn0) λ _ _ h=>h⟩;dsimp only;have:i - len*sz<new.length:=(nH.1 k2).1;rw[hcg,aw ae];rw[show co+off+i - (co+off+len*sz+0)=i - len*sz from by omega];exact hx1
  obtain⟨r1,r2⟩:=V9 (n:=n) (q:=(cb,co+off,cz)) hr hf (by rw[hbk];simp) hp rfl (World.putObj w cb (.cells c' ee fr)) (λ _ hc=>AX _ hc) (putObj_size ..) rfl rfl hbr;refine⟨_,_,_,_,yN _ _ hrun,.value _,r2,r1,?_⟩;exact .sl _ _ _ _ cb (co+off) cz _ _ (by simp[Ph.set]) hcap λ _=>⟨rfl,ae⟩
 obtain⟨ys,y1,y2,y3⟩:=old_cells (P:=P) (o:=off) (sz:=sz) hr hbk hp hle hex;obtain⟨nc,rest,dr,g1,g2,g3⟩:=vG (P:=P) (ty:=ty) h0 h1 a0 a1 hu hd hnd hi hs hz0 hzs hby hn hm hx y2 hxl y1 ae;have awg:(len+m)*sz<=nc*sz:=C6 _ g1;refine Rel.X1 (P:=P) hr hf (yN _ _ g3) (λ i v hv=>?_) hinv (by rw[g2];omega) (xP g1 (by rw[g2];exact aK _));have hiu:=qK hv
 rcases hcont i v hv with⟨k1,k2⟩|⟨k1,k2⟩
 ·obtain⟨x,hx1,hx2⟩:=y3 i v k1 k2;refine⟨x,?_,hx2⟩;rw[Array.getElem?_append_left (by simp;omega)];simp only[getElem?_toArray];rw[getElem?_append_left ae];exact hx1
 obtain⟨x,hx1,hx2⟩:=hxs.get k2;refine⟨x,?_,hx2⟩;have:i - len*sz<new.length:=(nH.1 k2).1;rw[Array.getElem?_append_left (by simp;omega)];simp only[getElem?_toArray];rw[getElem?_append_right ae,y1];exact hx1
theorem akp {o:Oper}{c:Call}{t u e:TypeId}{d:TypeDesc}{z:List AV}{sz gq:Nat}{x y:Operand}{g k:G}(ho:o.op=.call c) (hcb:c.callee=.builtin .append) (h0:c.argTypes[0]?=some t) (h1:c.argTypes[1]?=some u)
  (a0:c.args[0]?=some x)(a1:c.args[1]?=some y)(hg:dD x=some g)(hk:dD y=some k)(he:vV P t=some e)(hd:P.underlying u=some d)(hnd:∀k,d≠.int k)(hz:oJ P e=some z)(hs:cu P e=some sz)
  (hb:vc P e=some gq)(hzl:z.length=sz):cj P o (dG sz gq g k):=by
 obtain⟨ti,zv,hi,hz0,hc⟩:=kX hz;have hu:=sS he;have hby:ti.bytes=gq:=by simpa[vc,hi]using hb
 have hsz:ti.size=sz:=by simpa[cu,hi]using hs
 have hzs:zv.cells.size=sz:=by
  have:=(bW.atoms (φ:=λ _=>none) (D:=λ _=>none) hc).length;simp at this;omega
 intro F H n φ D a w hr hF hf hne;unfold dG at hf hne ⊢
 cases hv:g.f F with
 |none=>rw[hv]at hne;exact ar rfl hne
 |some s =>
 rw[hv]at hf hne;dsimp only at hf hne ⊢
 cases hv2:k.f F with
 |none=>rw[hv2]at hne;exact ar rfl hne
 |some v =>
 rw[hv2]at hf hne;dsimp only at hf hne ⊢;have hsr:=aW hg F φ D a hF s hv;have je:=aW hk F φ D a hF v hv2;unfold jh at hf hne ⊢
 cases hsc:aX H sz v with
 |none=>rw[hsc]at hne;exact ar rfl hne
 |some new =>
 rw[hsc]at hf hne;dsimp only at hf hne ⊢
 cases hsl:sliceLen v with
 |none=>rw[hsl]at hne;exact ar rfl hne
 |some m =>
 rw[hsl]at hf hne;dsimp only at hf hne ⊢;obtain⟨hnl,xs,hxs,hxd,hlr⟩:=oL (P:=P) hr je hsc hsl;have hxr:(Builtin.firstCells sz m (a.eval y)).run P w=.ok ⟨xs⟩ w:=hxd w.drawn;have hxl:xs.length=m*sz:=by rw[<-hxs.length,hnl]
 generalize hsv:a.eval x=sv at hsr;have A0:(c.args.map a.eval)[0]?=some sv:=by simp[a0,hsv]
 have A1:(c.args.map a.eval)[1]?=some (a.eval y):=by simp[a1]
 have yN:∀(r:Value) (w':World),(Builtin.append_ c.argTypes o.type (c.args.map a.eval)).run P w=.ok r w'->(execOp a.eval o).run P w=.ok (.value r) w':=by
  intro r w' h;obtain⟨cs,e⟩:=iZ (P:=P) (ρ:=a.eval) ho hcb w;rw[e];simp only[builtin,cL,h,cy,dB]
 unfold oR at hf hne ⊢
 split at hne
 ·rename_i b off len q
  cases hsr with
  |sl _ _ _ _ cb co cz cap ad hp hle hex =>
  split at hne
  ·
   rename_i hm0;have hm0:=cT hm0;subst hm0;have:xs=[]:=eq_nil_of_length_eq_zero (by simpa using hxl);subst this;refine Does.val hr (cv:=.slice (some ad) (len+0) cap) (yN _ _ (rC h0 h1 A0 A1 hu hd hnd hs hlr hxr ae (by simp[storeCells]))) ?_;exact .sl _ _ _ _ cb co cz _ _ hp hle hex
  rename_i hm0
  split at hne
  ·rename_i hcond;dsimp only at hf;rw[hm0]at hf;dsimp only at hf;rw[hcond]at hf;dsimp only at hf;simp only[dS]at hcond;obtain⟨⟨⟨⟨c1,c2⟩,c3⟩,c4⟩,c5⟩:=hcond;have c1:=cT c1;have c2:0<sz:=eF c2;have c3:=eF c3;have c4:=eF c4;unfold big at c3;subst c1
   have Yo:0<m:=by
    rcases Nat.eq_zero_or_pos m with h|h
    ·subst h;simp at hm0
    exact h
   unfold Ih at hf hne ⊢
   split at hne
   ·rename_i us zz bs tt hbk;obtain⟨hbl,cc,ee,fr,p1,p2,p3,p4,p5,p6⟩:=hr.block hbk hp;have key:=λ u' z' bs' t' (hfn:cU φ n (n+1))=>Zk (P:=P) (s:=execOp a.eval o) (ty:=o.type) (u':=u') (z':=z') (bs':=bs') (t':=t') hr hfn hbk hp hle hex yN h0 h1 A0 A1 hu hd hnd hi hsz hz0 hzs ae c3 Yo hlr hxd hxs hnl (qa c5);have hmul:(len+m)*q=len*q+m*q:=Nat.add_mul _ _ _;have hmq:0<m*q:=Nat.mul_pos Yo c2;rw[hbk]at hf;dsimp only at hf
    split at hne
    ·rename_i hc2;rw[hc2]at hf;simp only[db]at hf;have hfn:cU φ n (n+1):=hf;simp only[dS]at hc2;obtain⟨d1,d2⟩:=hc2;have d1:=cT d1;have d2:=eF d2;subst d1;simp only[db];refine key _ _ _ _ hfn rfl (λ i v hv=>?_) (λ ht=>?_)
     ·have hiu:=qK hv;rw[cD,aw hiu,Ov.bF]at hv
      by_cases jm:len*q<=i/\i<len*q+new.length
      ·rw[aw jm]at hv
       right
       refine⟨jm.1,?_⟩
       cases hx:new[i - len*q]? with
       |none=>rw[List.getElem?_eq_none_iff]at hx;omega
       |some y=>rw[hx]at hv;simpa using hv
      rw[ai jm]at hv
      left
      refine⟨ae,?_⟩;rw[q7,cD,aw ae];exact hv
     exfalso
     cases new with
     |nil=>simp at hnl;omega
     |cons v0 r =>
      have:=Ov.bF (v0::r) (len*q) tt (len*q);rw[ht,aw ah]at this;simp at this
    rename_i hcf;rw[hcf]at hf;dsimp only at hf
    split at hne
    ·rename_i old hold;rw[hold]at hf;have hfn:cU φ n (n+1):=hf;obtain⟨g1,g2⟩:=kW p5 hold;refine key _ _ _ _ hfn rfl (λ i v hv=>?_) (λ _ _=>by simp;omega);have hiu:=qK hv;rw[cD,aw hiu]at hv;simp only[Ov.get_nil]at hv
     have hv':(old++new)[i]?=some v:=by
      cases hx:(old++new)[i]? with
      |none=>rw[hx]at hv;simp[dflt]at hv
      |some y=>rw[hx]at hv;simpa using hv
     by_cases jm:i<len*q
     ·left
      rw[getElem?_append_left ae]at hv';exact⟨jm,by rw[g2 i jm];exact hv'⟩
     right
     rw[getElem?_append_right ae,g1]at hv';exact⟨ae,hv'⟩
    exact ar rfl hne
   exact ar rfl hne
  exact ar rfl hne
 ·cases hsr with
  |aV _ hat =>
  split at hne
  ·rename_i hm0;have hm0:=cT hm0;subst hm0;exact Does.val hr (yN _ _ (uH h0 h1 A0 A1 hu hd hnd hs hlr hxr)) (.aV _ hat)
  rename_i hm0
  split at hne
  ·rename_i hcond;rw[hm0]at hf;dsimp only at hf;rw[hcond]at hf;simp only[dS]at hcond;obtain⟨⟨⟨c2,c3⟩,c4⟩,c5⟩:=hcond;have c2:0<sz:=eF c2;have c3:=eF c3;have c4:=eF c4;unfold big at c3
   have Yo:0<m:=by
    rcases Nat.eq_zero_or_pos m with h|h
    ·subst h;simp at hm0
    exact h
   obtain⟨nc,rest,dr,g1,g2,g3⟩:=vG (P:=P) (ty:=o.type) (ys:=[]) h0 h1 A0 A1 hu hd hnd hi hsz hz0 hzs ae ae hlr hxd (λ dr=>by simp[Builtin.firstCells]) hxl ah ae;have awg:m*sz<=nc*sz:=C6 _ ae;simp only[q7]at g1 g3;refine Does.row (P:=P) hr hf (yN _ _ g3) (λ i v hv=>?_) (λ _ _=>hnl) (by rw[g2];omega) (xP g1 (by rw[g2];exact aK _));have hiu:=qK hv;rw[cD,aw hiu]at hv;simp only[Ov.get_nil]at hv
   have hv':new[i]?=some v:=by
    cases hx:new[i]? with
    |none=>rw[hx]at hv;simp[dflt]at hv
    |some y=>rw[hx]at hv;simpa using hv
   obtain⟨x,hx1,hx2⟩:=hxs.get hv';refine⟨x,?_,hx2⟩;rw[Array.getElem?_append_left (by simp;omega)];simpa using hx1
  exact ar rfl hne
 exact ar rfl hne
end
end Go.Abs
namespace Go.Abs
open List
section
variable {P:Program}
end
end Go.Abs
