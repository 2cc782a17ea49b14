/- A part. -/
import Derived.Test.YtlhafglnokpioaaGreatAbs4
import Derived.ChangeArms
import Derived.Carry
import Derived.OpenShut
import Derived.ProofKit
import Derived.JoinedCond
import Derived.WalkKit
noncomputable section
namespace Go.Abs
open List
mutual
def Pure:AV->Prop
 |.int _ _=>True
 |.bool _=>True
 |.str _=>True
 |.al _=>True
 |.agg cs _=>aJ cs
 |.aX cs=>aJ cs
 |.ds cs _ _=>aJ cs
 |.dp cs=>aJ cs
 |.fn _ a b=>aJ a/\aJ b
 |.kG _ v=>Pure v
 |.ptr _ _=>False
 |.sl _ _ _ _=>False
 |.map _=>False
 |.jv _=>False
def aJ:List AV->Prop
 |[]=>True
 |v::r=>Pure v/\aJ r
end
mutual
theorem Pure.out {φ φ':Ph}{D:Da}:∀ {v:AV}{x:Value},Pure v->VR φ D v x->VR φ' D v x
 |.int _ _,_,_,.int _ _=>.int _ _
 |.bool _,_,_,.bool _=>.bool _
 |.str _,_,_,.str _ _ e=>.str _ _ e
 |.al _,_,_,.al _ e=>.al _ e
 |.agg _ _,_,h,.agg _ _ _ a b=>.agg _ _ _ (aJ.uh (by simpa only [Pure]using h) a) b
 |.aX _,_,h,.aX _ _ a=>.aX _ _ (aJ.uh (by simpa only [Pure]using h) a)
 |.ds _ _ _,_,h,.ds _ _ _ _ _ _ _ _ a b c d e=>.ds _ _ _ _ _ _ _ _ a b c (aJ.uh (by simpa only [Pure]using h) d) e
 |.ds _ _ _,_,_,.nZ _ _ _=>.nZ _ _ _
 |.ds _ _ _,_,_,.rH _=>.rH _
 |.dp _,_,h,.dp _ _ _ _ _ a b c=>.dp _ _ _ _ _ a b (aJ.uh (by simpa only [Pure]using h) c)
 |.fn _ _ _,_,h,.fn _ _ _ _ _ a b=>.fn _ _ _ _ _ (aJ.uh (by simp only[Pure]at h;exact h.1) a) (aJ.uh (by simp only[Pure]at h;exact h.2) b)
 |.kG _ _,_,h,.kG _ _ _ a=>.kG _ _ _ (Pure.out (by simpa only [Pure]using h) a)
theorem aJ.uh {φ φ':Ph}{D:Da}:∀ {vs:List AV}{xs:List Value},aJ vs->bO φ D vs xs->bO φ' D vs xs
 |[],_,_,.nil=>.nil
 |_::_,_,h,.cons _ _ _ _ h1 h2=>.cons _ _ _ _ (Pure.out (by simp only[aJ]at h;exact h.1) h1) (aJ.uh (by simp only[aJ]at h;exact h.2) h2)
end
@[simp] theorem ak_ (k:IntKind)(i:Int):Pure (.int k i):=by simp only[Pure]
@[simp] theorem ajl (b:Bool):Pure (.bool b):=by simp only[Pure]
@[simp] theorem ak9 (l:List Nat):Pure (.str l):=by simp only[Pure]
@[simp] theorem ak' (v:Value):Pure (.al v):=by simp only[Pure]
@[simp] theorem ao3 (cs:List AV)(len sz:Nat):Pure (.ds cs len sz)=aJ cs:=by simp only[Pure]
@[simp] theorem ao4 (cs:List AV):Pure (.dp cs)=aJ cs:=by simp only[Pure]
@[simp] theorem ala (cs:List AV)(n:Nat):Pure (.agg cs n)=aJ cs:=by simp only[Pure]
@[simp] theorem ak8 (cs:List AV):Pure (.aX cs)=aJ cs:=by simp only[Pure]
@[simp] theorem ao2 (f:Fn)(a b:List AV):Pure (.fn f a b)=(aJ a/\aJ b):=by simp only[Pure]
@[simp] theorem Pe:aJ []:=by simp only[aJ]
@[simp] theorem qx (v:AV)(r:List AV):aJ (v::r)=(Pure v/\aJ r):=by simp only[aJ]
@[simp] theorem aaL (a b:List AV):aJ (a++b)=(aJ a/\aJ b):=by
 induction a with
 |nil=>simp
 |cons v r ih=>simp[ih,and_assoc]
theorem aJ.mem {a:List AV}(h:aJ a):∀v∈a,Pure v:=by
 induction a with
 |nil=>intro v hv;simp at hv
 |cons u r ih =>
  simp only[qx]at h;intro v hv
  cases hv with
  |head=>exact h.1
  |tail _ hm=>exact ih h.2 v hm
theorem aJ.nO {a:List AV}(h:∀v∈a,Pure v):aJ a:=by
 induction a with
 |nil=>simp
 |cons v r ih=>simp only[qx];exact⟨h v (by simp),ih λ u hu=>h u (by simp[hu])⟩
section
variable {P:Program}
def bc (P:Program) (g:FuncId) (args:List AV) (H:Hp) (n:Nat) (v:AV) (H':Hp) (n':Nat):Prop:=
 (∃ fn b, P.funcs[g]? = some fn ∧ fn.body = some b ∧ (fn.name == "runtime.NumGoroutine") = false) ∧ n ≤ n' ∧
  ∀ φ D w xs,Rel φ D H.get w->bO φ D args xs->bW φ n n'->∀R:Ending->World->Prop,
   (∀ φ' D' w' x,Ext φ D H.get w n φ' D' H'.get w' n'->Rel φ' D' H'.get w'->VR φ' D' v x->R (.returned x) w')->CallsIn Fence.wide 0 P g ⟨xs⟩ w R
theorem P1 {ce:Ce}(hce:gX P ce){g:FuncId}{args:List AV}{H:Hp}{n:Nat}{v:AV}{H':Hp}{n':Nat}(h:lu P ce g args H n=.mk v H' n'):bc P g args H n v H' n':=
 qK hce h (.ret ..)
def lF:Ph:=λ _=>none
structure Kept (D D':Da)(w w':World):Prop where
 ep:∀c x,D c=some x->D' c=some x
 size:w.heap.size<=w'.heap.size
 keep:∀c,c<w.heap.size->w'.heap[c]?=w.heap[c]?
 jW:∀c,D' c≠none->D c≠none∨w.heap.size<=c
 os:w'.os=w.os
 out:w'.output=w.output
structure ae (P:Program)(g:FuncId)(args:List AV)(v:AV):Prop where
 body : ∃ fn b, P.funcs[g]? = some fn ∧ fn.body = some b ∧ (fn.name == "runtime.NumGoroutine") = false
 alg:aJ args
 ak7:Pure v
 run:∀D w xs,Dat D w->bO lF D args xs->∀R:Ending->World->Prop,(∀D' w' x,Kept D D' w w'->Dat D' w'->VR lF D' v x->R (.returned x) w')->CallsIn Fence.wide 0 P g ⟨xs⟩ w R
theorem ae.Ig {g:FuncId}{args:List AV}{v:AV}(h:ae P g args v) (H:Hp) (n:Nat):bc P g args H n v H n:=by
 refine⟨h.body,aP _,λ φ D w xs hr hv _ R hR=>?_⟩;refine h.run D w xs hr.ep (h.alg.uh hv) R λ D' w' x hk hd hx=>?_;refine hR φ D' w' x ⟨aP _,λ _ _ h=>h,λ _ a b=>ai a b,hk.ep,hk.size,λ c hc _=>hk.keep c hc,λ b p hb hp=>.inr ⟨b,p,hb,hp,rfl⟩,λ c hc=>(hk.jW c hc).elim .inl λ h=>.inr (.inl h),λ _ h=>.inl h,hk.os,hk.out⟩ ?_ (h.ak7.out hx);refine⟨λ b k hb=>?_,hr.inj,λ b p hb hp=>?_,hd⟩
 ·obtain⟨p,hp,hl,hk'⟩:=hr.blk b k hb;exact⟨p,hp,Nat.lt_of_lt_of_le hl hk.size,hk'.mono (λ _ _ h=>h) hk.ep (hk.keep _ hl)⟩
 cases hD:D' p.1 with
 |none=>rfl
 |some x =>
  rcases hk.jW p.1 (by rw[hD];simp)with h1|h1
  ·exact ai (hr.sep b p hb hp) h1
  cases hx:H.get b with
  |none=>exact ai hx hb
  |some k=>have:=(hr.block hx hp).1;omega
mutual
inductive eY (h:Hf):AV->AV->Prop
 |pure (v):Pure v->eY h v v
 |nil (sz):eY h (.al (.slice none 0 0)) (.ds [] 0 (sz+1))
 |sl (b o len sz u z bs t cs cs'):h b=some (.cells u z bs t)->fX u z bs t o (len*sz)=some cs->bh h cs cs'->eY h (.sl b o len sz) (.ds cs' len sz)
 |ptr (b o sz u z bs t cs cs'):h b=some (.cells u z bs t)->fX u z bs t o sz=some cs->bh h cs cs'->eY h (.ptr b o) (.dp cs')
 |agg (cs cs' n):bh h cs cs'->eY h (.agg cs n) (.agg cs' n)
 |aX (cs cs'):bh h cs cs'->eY h (.aX cs) (.aX cs')
inductive bh (h:Hf):List AV->List AV->Prop
 |nil:bh h [] []
 |cons (v v' vs vs'):eY h v v'->bh h vs vs'->bh h (v::vs) (v'::vs')
end
theorem bh.length {h:Hf}:∀ {vs vs'},bh h vs vs'->vs'.length=vs.length
 |_,_,.nil=>rfl
 |_,_,.cons _ _ _ _ _ k=>by simp[bh.length k]
mutual
theorem eY.mC {h:Hf}:∀ {v v'},eY h v v'->Pure v'
 |_,_,.pure _ k=>k
 |_,_,.nil _=>by simp
 |_,_,.sl _ _ _ _ _ _ _ _ _ _ _ _ k=>by simpa using bh.mC k
 |_,_,.ptr _ _ _ _ _ _ _ _ _ _ _ k=>by simpa using bh.mC k
 |_,_,.agg _ _ _ k=>by simpa using bh.mC k
 |_,_,.aX _ _ k=>by simpa using bh.mC k
theorem bh.mC {h:Hf}:∀ {v v'},bh h v v'->aJ v'
 |_,_,.nil=>Pe
 |_,_,.cons _ _ _ _ a b=>by simpa using⟨eY.mC a,bh.mC b⟩
end
open Classical in
def shut (φ:Ph) (D:Da) (h:Hf) (w:World):Da:=λ c=>match D c with
 |some x=>some x
 |none=>if ∃b p,h b≠none/\φ b=some p/\p.1=c then (match w.heap[c]? with
  |some (.cells x _ _)=>some x
  |_=>none)else none
theorem eP {φ:Ph}{D:Da}{h:Hf}{w:World}:∀c x,D c=some x->shut φ D h w c=some x:=by
 intro c x hx;unfold shut;rw[hx]
theorem lI {φ:Ph}{D:Da}{h:Hf}{w:World}(hd:Dat D w):Dat (shut φ D h w) w:=by
 refine⟨λ c x hx=>?_,hd.2.mono eP⟩;unfold shut at hx
 split at hx
 ·rename_i y hy;injection hx with hx;subst hx;exact hd.1 c _ hy
 split at hx
 ·split at hx
  ·rename_i y e fr hy;injection hx with hx;subst hx;exact⟨e,fr,hy⟩
  cases hx
 cases hx
theorem yJ {φ:Ph}{D:Da}{h:Hf}{w:World}(hr:Rel φ D h w){b:Nat} {p}{x:Array Value} {e fr}(hb:h b≠none)(hp:φ b=some p)(hx:w.heap[p.1]?=some (.cells x e fr)):shut φ D h w p.1=some x:=by
 unfold shut;rw[hr.sep b p hb hp];dsimp only;rw[ao ⟨b,p,hb,hp,rfl⟩,hx]
mutual
theorem eY.vr {φ:Ph}{D:Da}{h:Hf}{w:World}(hr:Rel φ D h w):∀ {v v' x},eY h v v'->VR φ D v x->VR lF (shut φ D h w) v' x
 |_,_,_,.pure v k,hx=>k.out (hx.mono (λ _ _ h=>h) eP)
 |_,_,_,.nil sz,hx=>by cases hx;exact .rH _
 |_,_,_,.sl b o len sz u z bs t cs cs' hb hg k,hx=>by
  cases hx with
  |sl _ _ _ _ cb co cz cap ad hp hle had =>
  obtain⟨hlt,c,e,fr,q1,q2,q3,q4,q5,q6⟩:=hr.block hb hp;obtain⟨g1,g2⟩:=jb q5 hg
  by_cases hc:0<cap
  ·obtain⟨rfl,hfit⟩:=had hc;refine .ds _ _ _ _ _ _ _ _ (yJ hr (by rw[hb];simp) hp q1) rfl (by rw[bh.length k,g1]) ?_ hle;refine bh.uh hr k (bO.mz ?_ λ i v hv=>?_)
   ·dsimp only at q1 q2 q3 q4 q5 q6;have hm:len*sz<=cap*sz:=Ai _ hle;rw[length_take,length_drop,g1,Array.length_toList];omega
   have hi:i<len*sz:=by rw[<-g1];exact(pS.1 hv).1
   have:=g2 i hi;rw[hv]at this;obtain⟨x,hx,tU⟩:=q4 _ _ this;dsimp only at hx;refine⟨x,?_,tU⟩;rw[getElem?_take,ao hi,iV];rw[show co+o+i=co+(o+i)from by omega];simpa using hx
  have hc0:cap=0:=by omega
  have hl0:len=0:=by omega
  subst hc0 hl0
  have:cs'=[]:=by
   have:=bh.length k;simp at g1;subst g1;simpa using this
  subst this;exact .nZ _ _ _
 |_,_,_,.ptr b o sz u z bs t cs cs' hb hg k,hx=>by
  cases hx with
  |ptr _ _ cb co cz hp =>
  obtain⟨hlt,c,e,fr,q1,q2,q3,q4,q5,q6⟩:=hr.block hb hp;obtain⟨g1,g2⟩:=jb q5 hg;dsimp only at q1 q2 q3 q4 q5 q6
  have hat:∀i v,cs[i]?=some v->∃x,c.toList[co+o+i]?=some x/\VR φ D v x:=λ i v hv=>by
   have hi:i<sz:=by rw[<-g1];exact(pS.1 hv).1
   have:=g2 i hi;rw[hv]at this;obtain⟨x,hx,tU⟩:=q4 _ _ this;refine⟨x,?_,tU⟩;rw[show co+o+i=co+(o+i)from by omega];simpa using hx
  refine .dp _ _ _ _ _ (yJ hr (by rw[hb];simp) hp q1) rfl (bh.uh hr k (bO.mz ?_ λ i v hv=>?_))
  ·rw[bh.length k,length_take,length_drop]
   rcases Nat.eq_zero_or_pos cs.length with h0|h0
   ·omega
   obtain⟨x,hx,_⟩:=hat (cs.length - 1) _ (cE (by omega));have:=(pS.1 hx).1;rw[Array.length_toList]at this ⊢;omega
  obtain⟨x,hx,tU⟩:=hat i v hv;refine⟨x,?_,tU⟩;have hi:i<cs.length:=(pS.1 hv).1;rw[bh.length k,getElem?_take,ao hi,iV];exact hx
 |_,_,_,.agg cs cs' n k,hx=>by
  cases hx with
  |agg _ l _ a b=>exact .agg _ _ _ (bh.uh hr k a) (by rw[bh.length k,b])
 |_,_,_,.aX cs cs' k,hx=>by
  cases hx with
  |aX _ l a=>exact .aX _ _ (bh.uh hr k a)
theorem bh.uh {φ:Ph}{D:Da}{h:Hf}{w:World}(hr:Rel φ D h w):∀ {vs vs' xs},bh h vs vs'->bO φ D vs xs->bO lF (shut φ D h w) vs' xs
 |_,_,_,.nil,.nil=>.nil
 |_,_,_,.cons _ _ _ _ a b,.cons _ _ _ _ c d=>.cons _ _ _ _ (eY.vr hr a c) (bh.uh hr b d)
end
theorem ri {D:Da}{w:World}(hd:Dat D w):Rel lF D (Tr.nil:Hp).get w:=
 ⟨λ b k hb=>by simp at hb,λ b c p q hb=>by simp at hb,λ b p hb=>by simp at hb,hd⟩
theorem ae.of {ce:Ce}(hce:gX P ce){g:FuncId}{args:List AV}{v:AV}(hp:aJ args)(h:∃v1 H' n',lu P ce g args .nil 0=.mk v1 H' n'/\eY H'.get v1 v):ae P g args v:=by
 obtain⟨v1,H',n',h1,h2⟩:=h;obtain⟨hb,hn,hs⟩:=P1 hce h1;refine⟨hb,hp,h2.mC,λ D w xs hd hv R hR=>?_⟩;refine hs lF D w xs (ri hd) hv (λ _ _ _=>rfl) R λ φ' D' w' x aS hrel hx=>?_;refine hR (shut φ' D' H'.get w') w' x ⟨λ c x hx=>eP c x (aS.ep c x hx),aS.size,λ c hc=>aS.keep c hc λ b p hb=>by simp at hb,λ c hc=>?_,aS.os,aS.out⟩ (lI hrel.ep) (h2.vr hrel hx);unfold shut at hc
 split at hc
 ·rename_i y hy
  rcases aS.jW c (by rw[hy];simp)with h|h|⟨b0,p0,hh,_⟩
  ·exact .inl h
  ·exact .inr h
  simp at hh
 split at hc
 ·rename_i hex;obtain⟨b,p,hb,hp,rfl⟩:=hex
  rcases aS.live b p hb hp with h|⟨b0,p0,hh,_⟩
  ·exact .inr h
  simp at hh
 exact ai rfl hc
def wo:iT->iT
 |.mk v H n=>.mk v H n
 |_=>.fail
def yp (f:FuncId->List AV->Hp->Nat->iT):Ce:={call:=λ g args H n=>wo (f g args H n),code:=λ _ _ _ _ _=>.fail,dcall:=λ _ _ _ _ _=>.fail}
theorem Bn {f:FuncId->List AV->Hp->Nat->iT}(h:∀g args H n v H' n',f g args H n=.mk v H' n'->bc P g args H n v H' n'):gX P (yp f):=by
 refine⟨λ g args H n v H' n' e=>?_,λ g args H n v H' n' e=>?_,λ _ _ _ _ _ _ _ _ _ _ e=>(by cases e),λ _ _ _ _ _ _ _ _ e=>(by cases e)⟩
 ·have e:wo (f g args H n)=.mk v H' n':=e
  cases hc:f g args H n with
  |mk v1 H1 n1=>rw[hc]at e;cases e;exact h g args H n v H' n' hc
  |fail=>rw[hc]at e;cases e
  |qX v1 H1 n1=>rw[hc]at e;cases e
 have e:wo (f g args H n)=.qX v H' n':=e
 cases hc:f g args H n with
 |mk v1 H1 n1=>rw[hc]at e;cases e
 |fail=>rw[hc]at e;cases e
 |qX v1 H1 n1=>rw[hc]at e;cases e
@[simp] theorem alI (v:AV)(H:Hp)(n:Nat):wo (.mk v H n)=.mk v H n:=Eq.trans rfl rfl
structure Fam where
 {α:Type}
 dom:α->Prop
 enc:α->List AV
 val:α->AV
open Classical in
end
end Go.Abs
namespace Go.Abs
open List
abbrev QA:=nz->Fr->Hp->Nat->List Dm->Prop
def Ev (r:Mc)(Q:QA):Prop:=match r with
 |.mk (.panic _) _ _ _ _=>False
 |.mk o F H n m=>Q o F H n m
 |.fail=>False
def EvC (r:iT)(R:AV->Hp->Nat->Prop):Prop:=match r with
 |.mk v H n=>R v H n
 |_=>False
def zO (r:bb)(H:Hp)(n:Nat)(k:AV->Hp->Nat->Prop):Prop:=match r with
 |.fail=>False
 |.val v=>k v H n
 |.new v b=>k v (H.put n (some b)) (n+1)
 |.upd v b x=>k v (H.put b (some x)) n
 |.mv v b x=>k v ((H.put b none).put n (some x)) (n+1)
def acs (b:K)(ce:Ce)(Q:QA):QA:=λ o F H n m=>match o with
 |.normal=>Ev (b.f ce F H n m) Q
 |.exit i=>Q (.exit i) F H n m
 |.ret=>Q .ret F H n m
 |.panic _=>False
def fy (i:Nat)(Q:QA):QA:=λ o F H n m=>match o with
 |.normal=>Q .normal F H n m
 |.exit j=>if i=j then Q .normal F H n m else Q (.exit j) F H n m
 |.ret=>Q .ret F H n m
 |.panic _=>False
def iO (res:List (Fr->Hp->Option AV)) (R:AV->Hp->Nat->Prop):QA:=λ o F H n m=>match o with
 |.exit _=>False
 |.panic _=>False
 |_ => match ei m H with
  |some H'=>match uT F H' res with
   |some vs=>R (uj vs) H' n
   |none=>False
  |none=>False
def oM (v:Option AV)(p q:Prop):Prop:=match v with
 |some (.bool true)=>p
 |some (.bool false)=>q
 |_=>False
def OG (v:Option AV)(a b:K)(ce:Ce)(F:Fr)(H:Hp)(n:Nat)(m:List Dm)(Q:QA):Prop:=oM v (Ev (a.f ce F H n m) Q) (Ev (b.f ce F H n m) Q)
def e_ (v:Option AV)(want:Bool)(p q:Prop):Prop:=match v with
 |some (.bool b)=>bif b == want then p else q
 |some _=>q
 |none=>False
def rY {α:Type}(o:Option α)(k:α->Prop):Prop:=match o with
 |some x=>k x
 |none=>False
section
variable {ce:Ce}{F:Fr}{H:Hp}{n:Nat}{m:List Dm}{Q:QA}
@[simp] theorem asy:Ev (.mk .normal F H n m) Q=Q .normal F H n m:=propext Iff.rfl
@[simp] theorem asz (i:Nat):Ev (.mk (.exit i) F H n m) Q=Q (.exit i) F H n m:=propext Iff.rfl
@[simp] theorem asw:Ev (.mk .ret F H n m) Q=Q .ret F H n m:=propext Iff.rfl
@[simp] theorem asx (v:AV):Ev (.mk (.panic v) F H n m) Q=False:=propext Iff.rfl
@[simp] theorem asK (v:AV)(R:AV->Hp->Nat->Prop):EvC (.mk v H n) R=R v H n:=propext Iff.rfl
@[simp] theorem am9 (k:AV->Hp->Nat->Prop):zO .fail H n k=False:=propext Iff.rfl
@[simp] theorem ap4 (v:AV)(k:AV->Hp->Nat->Prop):zO (.val v) H n k=k v H n:=propext Iff.rfl
@[simp] theorem ap6 (v:AV)(b:br)(k:AV->Hp->Nat->Prop):zO (.new v b) H n k=k v (H.put n (some b)) (n+1):=propext Iff.rfl
@[simp] theorem ap5 (v:AV)(b:Nat)(x:br)(k:AV->Hp->Nat->Prop):zO (.upd v b x) H n k=k v (H.put b (some x)) n:=propext Iff.rfl
@[simp] theorem asJ (v:AV)(b:Nat)(x:br)(k:AV->Hp->Nat->Prop):zO (.mv v b x) H n k=k v ((H.put b none).put n (some x)) (n+1):=propext Iff.rfl
@[simp] theorem acT (b:K):acs b ce Q .normal F H n m=Ev (b.f ce F H n m) Q:=propext Iff.rfl
@[simp] theorem ajf (b:K)(i:Nat):acs b ce Q (.exit i) F H n m=Q (.exit i) F H n m:=propext Iff.rfl
@[simp] theorem akS (b:K):acs b ce Q .ret F H n m=Q .ret F H n m:=propext Iff.rfl
@[simp] theorem adE (i:Nat):fy i Q .normal F H n m=Q .normal F H n m:=propext Iff.rfl
@[simp] theorem aj1 (i j:Nat):fy i Q (.exit j) F H n m=if i=j then Q .normal F H n m else Q (.exit j) F H n m:=propext Iff.rfl
@[simp] theorem an_ (i:Nat):fy i Q .ret F H n m=Q .ret F H n m:=propext Iff.rfl
@[simp] theorem ah2 (p q:Prop):oM (some (.bool true)) p q=p:=propext Iff.rfl
@[simp] theorem adr (p q:Prop):oM (some (.bool false)) p q=q:=propext Iff.rfl
@[simp] theorem ar' (p q:Prop):e_ (some (.bool true)) true p q=p:=propext Iff.rfl
@[simp] theorem asa (p q:Prop):e_ (some (.bool false)) true p q=q:=propext Iff.rfl
@[simp] theorem apI (p q:Prop):e_ (some (.bool true)) false p q=q:=propext Iff.rfl
@[simp] theorem apJ (p q:Prop):e_ (some (.bool false)) false p q=p:=propext Iff.rfl
@[simp] theorem amD (l:List AV)(b:Bool)(p q:Prop):e_ (some (.aX l)) b p q=q:=propext Iff.rfl
@[simp] theorem rq {α:Type}(x:α)(k:α->Prop):rY (some x) k=k x:=propext Iff.rfl
@[simp] theorem alp {α:Type}(k:α->Prop):rY none k=False:=propext Iff.rfl
@[simp] theorem ak1 (res:List (Fr->Hp->Option AV))(R:AV->Hp->Nat->Prop):iO res R .ret F H n m=rY (ei m H) λ H'=>rY (uT F H' res) λ vs=>R (uj vs) H' n:=by
 unfold iO rY;dsimp only;split<;>first|(split<;>simp_all)|simp_all
@[simp] theorem acX (res:List (Fr->Hp->Option AV))(R:AV->Hp->Nat->Prop):iO res R .normal F H n m=rY (ei m H) λ H'=>rY (uT F H' res) λ vs=>R (uj vs) H' n:=by
 unfold iO rY;dsimp only;split<;>first|(split<;>simp_all)|simp_all
theorem ahG {r:Mc}(h:Ev r Q):∃o F H n m,r=.mk o F H n m/\Q o F H n m:=by
 cases r with
 |fail=>exact ai h id
 |mk o F H n m=>cases o<;>first|exact ai h id|exact⟨_,_,_,_,_,rfl,h⟩
@[simp] theorem asF:Ev (Fa.f ce F H n m) Q=Q .normal F H n m:=propext Iff.rfl
@[simp] theorem asu (a b:K):Ev ((GZ a b).f ce F H n m) Q=Ev (a.f ce F H n m) (acs b ce Q):=by
 simp only[GZ]
 cases h:a.f ce F H n m with
 |fail=>simp[Ev]
 |mk o F' H' n' m'=>cases o<;>rfl
@[simp] theorem ah1 (a b:K):OG (some (.bool true)) a b ce F H n m Q=Ev (a.f ce F H n m) Q:=propext Iff.rfl
@[simp] theorem adq (a b:K):OG (some (.bool false)) a b ce F H n m Q=Ev (b.f ce F H n m) Q:=propext Iff.rfl
@[simp] theorem apW (g:G)(a b:K):Ev ((zB g a b).f ce F H n m) Q=OG (g.f F) a b ce F H n m Q:=by
 simp only[zB,OG]
 cases g.f F with
 |none=>rfl
 |some v=>cases v with
  |bool b=>cases b<;>rfl
  |_=>rfl
@[simp] theorem am5 (i:Nat)(b:K):Ev ((sZ i b).f ce F H n m) Q=Ev (b.f ce F H n m) (fy i Q):=by
 simp only[sZ]
 cases h:b.f ce F H n m with
 |fail=>simp[Ev]
 |mk o F' H' n' m' =>
  cases o with
  |normal=>rfl
  |ret=>rfl
  |panic v=>rfl
  |exit j =>
   dsimp only
   cases hij:Nat.beq i j with
   |true=>have:=b9 hij;subst this;simp
   |false =>
    have:¬i=j:=λ e=>by rw[e]at hij;simp at hij
    simp[this]
@[simp] theorem apU (i:Nat):Ev ((Lx i).f ce F H n m) Q=Q (.exit i) F H n m:=propext Iff.rfl
@[simp] theorem asv:Ev (aav.f ce F H n m) Q=Q .ret F H n m:=propext Iff.rfl
def uE (I:Nat->Fr->Hp->Nat->List Dm->Prop)(k:Nat)(Q:QA):QA:=λ o F' H' n' m'=>match o with
 |.normal=>∃k',k'<k/\I k' F' H' n' m'
 |.exit i=>Q (.exit i) F' H' n' m'
 |.ret=>Q .ret F' H' n' m'
 |.panic _=>False
@[simp] theorem acW (I:Nat->Fr->Hp->Nat->List Dm->Prop)(k:Nat):uE I k Q .normal F H n m=∃k',k'<k/\I k' F H n m:=propext Iff.rfl
@[simp] theorem aji (I:Nat->Fr->Hp->Nat->List Dm->Prop)(k i:Nat):uE I k Q (.exit i) F H n m=Q (.exit i) F H n m:=propext Iff.rfl
@[simp] theorem akX (I:Nat->Fr->Hp->Nat->List Dm->Prop)(k:Nat):uE I k Q .ret F H n m=Q .ret F H n m:=propext Iff.rfl
def bm (d:Nat):Pd:=⟨λ v F=>(Tr.vW (Nat.succ d) d).f (some v) F⟩
def pZ:Pd:=⟨λ _ F=>F⟩
def Fp (d:Nat)(v:AV)(F:Fr):Fr:=(Tr.vW (Nat.succ d) d).f (some v) F
@[simp] theorem atG (d:Nat)(v:AV):(bm d).f v F=Fp d v F:=Eq.trans rfl rfl
@[simp] theorem atg (d t:Nat)(v:AV):(Fp d v F).get t=if t=d then some v else F.get t:=Tr.jz _ _ _ _ _ (Nat.lt_succ_self d)
@[simp] theorem atH (v:AV):pZ.f v F=F:=Eq.trans rfl rfl
@[simp] theorem zZ (t:Nat):(ar t).f F=F.get t:=gi t F
@[simp] theorem wZ (v:AV):(aT v).f F=some v:=Eq.trans rfl rfl
theorem adm (pd:Pd)(e:Eff)(next:K):Ev ((opK pd e next).f ce F H n m) Q=zO (e F H n) H n (λ v H' n'=>Ev (next.f ce (pd.f v F) H' n' m) Q):=by
 simp only[opK]
 cases e F H n<;>rfl
def amG (g:G)(want:Bool)(pd:Pd)(e:Eff)(next:K):K:=qF g want (opK pd e next) (SK pd next)
theorem ahI (g:G)(want:Bool)(pd:Pd)(e:Eff)(next:K):Ev ((amG g want pd e next).f ce F H n m) Q=e_ (g.f F) want (zO (e F H n) H n (λ v H' n'=>Ev (next.f ce (pd.f v F) H' n' m) Q)) (Ev (next.f ce (pd.f (.aX []) F) H n m) Q):=by
 simp only[amG,qF];unfold e_
 cases g.f F with
 |none=>rfl
 |some v =>
  cases v with
  |bool b =>
   dsimp only
   cases hb:b == want
   ·rfl
   exact adm pd e next
  |_=>rfl
def aih (pd:Pd)(f:FuncId)(as:List G)(next:K):K:=xg pd (aT (.fn (.func f) [] [])) as next
theorem Uf (pd:Pd)(f:FuncId)(as:List G)(next:K):Ev ((aih pd f as next).f ce F H n m) Q=rY (evs F as) λ vs=>EvC (ce.call f vs H n) (λ v H' n'=>Ev (next.f ce (pd.f v F) H' n' m) Q):=by
 simp only[aih,xg,wZ]
 cases evs F as with
 |none=>rfl
 |some vs =>
  simp only[nil_append,append_nil,rq]
  cases ce.call f vs H n<;>rfl
def adi (g:G)(want:Bool)(pd:Pd)(f:FuncId)(as:List G)(next:K):K:=qF g want (aih pd f as next) (SK pd next)
theorem ab3 (g:G)(want:Bool)(pd:Pd)(f:FuncId)(as:List G)(next:K):Ev ((adi g want pd f as next).f ce F H n m) Q=e_ (g.f F) want (rY (evs F as) λ vs=>EvC (ce.call f vs H n) (λ v H' n'=>Ev (next.f ce (pd.f v F) H' n' m) Q)) (Ev (next.f ce (pd.f (.aX []) F) H n m) Q):=by
 simp only[adi,qF];unfold e_
 cases g.f F with
 |none=>rfl
 |some v =>
  cases v with
  |bool b =>
   dsimp only
   cases hb:b == want
   ·rfl
   exact Uf pd f as next
  |_=>rfl
def Fj (ds:List Nat)(k:KR):K:=.mk <| λ ce F H n m=>k.f ce (iL ds F) H [H] n m
@[simp] theorem asG (ds:List Nat)(k:KR):Ev ((Fj ds k).f ce F H n m) Q=Ev (k.f ce (iL ds F) H [H] n m) Q:=propext Iff.rfl
variable {Hs:List Hp}
@[simp] theorem apV:Ev (ahL.f ce F H Hs n m) Q=Q .normal F H n m:=propext Iff.rfl
def EvR (e:Eff)(F:Fr)(H:Hp)(Hs:List Hp)(n cnt:Nat)(k:AV->Hp->Nat->Prop):Prop:=match e F .nil n with
 |.val v=>k v H n
 |.new v b=>if iY n Hs=true then k v (H.put n (some b)) (n+1)else False
 |.fail=>rY (fg e F n cnt Hs) λ v=>k v H n
 |_=>False
theorem ahH (rs:RS)(pd:Pd)(e:Eff)(cnt:Nat)(next:KR):Ev ((opR rs pd e cnt next).f ce F H Hs n m) Q=EvR e (rs.f F) H Hs n cnt (λ v H' n'=>Ev (next.f ce (pd.f v F) H' Hs n' m) Q):=by
 simp only[opR];unfold EvR
 cases e (rs.f F) .nil n with
 |val v=>rfl
 |new v k=>dsimp only;split<;>simp_all [Ev]
 |fail=>dsimp only;unfold rY;split<;>simp_all [Ev]
 |upd=>rfl
 |mv=>rfl
theorem LA (rs:RS)(pd:Pd)(e:Eff)(next:KR):Ev ((Eu rs pd e next).f ce F H Hs n m) Q=zO (e (rs.f F) H n) H n (λ v H' n'=>Ev (next.f ce (pd.f v F) H' (H'::Hs) n' m) Q):=by
 simp only[Eu]
 cases e (rs.f F) H n<;>rfl
def aif (rs:RS)(pd:Pd)(f:FuncId)(as:List G)(next:KR):KR:=jE rs pd (aT (.fn (.func f) [] [])) as next
theorem LC (rs:RS)(pd:Pd)(f:FuncId)(as:List G)(next:KR):Ev ((aif rs pd f as next).f ce F H Hs n m) Q=rY (evs (rs.f F) as) λ vs=>EvC (ce.call f vs H n) (λ v H' n'=>Ev (next.f ce (pd.f v F) H' (H'::Hs) n' m) Q):=by
 simp only[aif,jE,wZ]
 cases evs (rs.f F) as with
 |none=>rfl
 |some vs =>
  simp only[nil_append,append_nil,rq]
  cases ce.call f vs H n<;>rfl
@[simp] theorem aqI (l:List Nat)(F:Fr)(t:Nat):((cB l).f F).get t=if t∈l then F.get t else none:=by
 induction l with
 |nil=>rfl
 |cons a r ih =>
  simp only[cB,Rr,zZ];rw[Tr.jz _ _ _ _ _ (Nat.lt_succ_self a),ih]
  by_cases h:t=a
  ·subst h;simp
  simp[h]
end
end Go.Abs
namespace Go.Abs
open List
@[simp] theorem ag7 (a b:Nat):((a:Int)=(b:Int))=(a=b):=propext (by omega)
@[simp] theorem ag5 (a b:Nat):((a:Int)<(b:Int))=(a<b):=propext (by omega)
@[simp] theorem ag6 (a b:Nat):((a:Int)<=(b:Int))=(a<=b):=propext (by omega)
@[simp] theorem ry (a b:Nat):Nat.ble a b=decide (a<=b):=by
 by_cases h:a<=b
 ·rw[uv h];simp[h]
 cases hh:Nat.ble a b with
 |true=>exact ai (dE hh) h
 |false=>simp[h]
@[simp] theorem uO (a b:Nat):Nat.blt a b=decide (a<b):=ry (a+1) b
@[simp] theorem kQ (a b:Nat):Nat.beq a b=decide (a=b):=by
 by_cases h:a=b
 ·subst h;simp
 cases hh:Nat.beq a b with
 |true=>exact ai (b9 hh) h
 |false=>simp[h]
def oE (o:Option AV)(k:AV->bb):bb:=match o with
 |some v=>k v
 |none=>.fail
def lE (o:Option (List AV))(k:List AV->bb):bb:=match o with
 |some v=>k v
 |none=>.fail
@[simp] theorem ape (v:AV)(k:AV->bb):oE (some v) k=k v:=Eq.trans rfl rfl
@[simp] theorem api (v:List AV)(k:List AV->bb):lE (some v) k=k v:=Eq.trans rfl rfl
@[simp] theorem aj_ (cs:List AV)(n:Nat):(AV.agg cs n).len=n:=Eq.trans rfl rfl
@[simp] theorem adL (cs:List AV)(n:Nat):(AV.agg cs n).cells=cs:=Eq.trans rfl rfl
@[simp] theorem aj7 (k:IntKind)(n:Int):(AV.int k n).len=1:=Eq.trans rfl rfl
@[simp] theorem aiu (b:Bool):(AV.bool b).len=1:=Eq.trans rfl rfl
@[simp] theorem aj3 (b:List Nat):(AV.str b).len=1:=Eq.trans rfl rfl
@[simp] theorem aj6 (a b:Nat):(AV.ptr a b).len=1:=Eq.trans rfl rfl
@[simp] theorem aoa (a b c d:Nat):(AV.sl a b c d).len=1:=Eq.trans rfl rfl
@[simp] theorem aoc (cs:List AV)(c d:Nat):(AV.ds cs c d).len=1:=Eq.trans rfl rfl
@[simp] theorem aj9 (v:Value):(AV.al v).len=1:=Eq.trans rfl rfl
@[simp] theorem aob (f:Fn)(a b:List AV):(AV.fn f a b).len=1:=Eq.trans rfl rfl
@[simp] theorem aj8 (t:TypeId)(v:AV):(AV.kG t v).len=1:=Eq.trans rfl rfl
@[simp] theorem adI (k:IntKind)(n:Int):(AV.int k n).cells=[.int k n]:=Eq.trans rfl rfl
@[simp] theorem acj (b:Bool):(AV.bool b).cells=[.bool b]:=Eq.trans rfl rfl
@[simp] theorem adG (b:List Nat):(AV.str b).cells=[.str b]:=Eq.trans rfl rfl
@[simp] theorem adH (a b:Nat):(AV.ptr a b).cells=[.ptr a b]:=Eq.trans rfl rfl
@[simp] theorem aiv (a b c d:Nat):(AV.sl a b c d).cells=[.sl a b c d]:=Eq.trans rfl rfl
@[simp] theorem aix (cs:List AV)(c d:Nat):(AV.ds cs c d).cells=[.ds cs c d]:=Eq.trans rfl rfl
@[simp] theorem adK (v:Value):(AV.al v).cells=[.al v]:=Eq.trans rfl rfl
@[simp] theorem aiw (f:Fn)(a b:List AV):(AV.fn f a b).cells=[.fn f a b]:=Eq.trans rfl rfl
@[simp] theorem adJ (t:TypeId)(v:AV):(AV.kG t v).cells=[.kG t v]:=Eq.trans rfl rfl
@[simp] theorem aiy:aY []=true:=Eq.trans rfl rfl
@[simp] theorem oG (v:AV)(r:List AV):aY (v::r)=(v.one&&aY r):=Eq.trans rfl rfl
@[simp] theorem aaY (k:IntKind)(n:Int):(AV.int k n).one=true:=Eq.trans rfl rfl
@[simp] theorem alq (b:Bool):(AV.bool b).one=true:=Eq.trans rfl rfl
@[simp] theorem ao_ (b:List Nat):(AV.str b).one=true:=Eq.trans rfl rfl
@[simp] theorem ao' (a b:Nat):(AV.ptr a b).one=true:=Eq.trans rfl rfl
@[simp] theorem aq_ (a b c d:Nat):(AV.sl a b c d).one=true:=Eq.trans rfl rfl
@[simp] theorem ara (cs:List AV)(c d:Nat):(AV.ds cs c d).one=true:=Eq.trans rfl rfl
@[simp] theorem apb (v:Value):(AV.al v).one=true:=Eq.trans rfl rfl
@[simp] theorem aq' (f:Fn)(a b:List AV):(AV.fn f a b).one=true:=Eq.trans rfl rfl
@[simp] theorem apa (t:TypeId)(v:AV):(AV.kG t v).one=true:=Eq.trans rfl rfl
@[simp] theorem Z6 (a b:List AV):aY (a++b)=(aY a&&aY b):=by
 induction a with
 |nil=>simp
 |cons v r ih=>simp[ih,Bool.and_assoc]
section
variable {F:Fr}{H:Hp}{n:Nat}
@[simp] theorem asN (x:G):ej x F H n=oE (x.f F) .val:=by unfold ej oE;cases x.f F<;>rfl
def Ee (c:Option AV)(a b:bb):bb:=match c with
 |some (.bool true)=>a
 |some (.bool false)=>b
 |_=>.fail
@[simp] theorem ao5 (a b:bb):Ee (some (.bool true)) a b=a:=Eq.trans rfl rfl
@[simp] theorem ao6 (a b:bb):Ee (some (.bool false)) a b=b:=Eq.trans rfl rfl
@[simp] theorem ap9 (c a b:G):wV c a b F H n=Ee (c.f F) (oE (a.f F) .val) (oE (b.f F) .val):=by
 unfold wV
 cases c.f F with
 |none=>rfl
 |some v=>cases v with
  |bool x =>
   cases x
   ·simp only[Ee,ej];cases b.f F<;>rfl
   simp only[Ee,ej];cases a.f F<;>rfl
  |_=>rfl
@[simp] theorem ano (z:List AV)(k:Nat):ak z k F H n=.new (.ptr n 0) (.cells k [] z .nil):=Eq.trans rfl rfl
@[simp] theorem asO (x:G):Fh x F H n=oE (x.f F) λ v=>.new (.ptr n 0) (.cells v.len [] v.cells .nil):=by unfold Fh oE;cases x.f F<;>rfl
@[simp] theorem ajK (cs:List AV):jS F [] cs=some cs:=Eq.trans rfl rfl
@[simp] theorem ahD (o s:Nat)(x:G)(r:List (Nat×Nat×G))(cs:List AV):jS F ((o,s,x)::r) cs=(x.f F).bind λ v=>bif Nat.beq v.len s&&Nat.blt 0 s then (patch cs o v.cells).bind (λ cs'=>jS F r cs')else none:=by
 rw[jS]
 cases x.f F with
 |none=>rfl
 |some v =>
  dsimp only [Option.bind]
  cases Nat.beq v.len s&&Nat.blt 0 s with
  |false=>rfl
  |true=>dsimp only [cond];cases patch cs o v.cells<;>rfl
@[simp] theorem ajm (cs:List AV)(o:Nat):patch cs o []=some cs:=by cases cs<;>cases o<;>rfl
def UA (v:AV)(o:Option (List AV)):Option (List AV):=match o with
 |some l=>some (v::l)
 |none=>none
@[simp] theorem ahZ (v:AV)(l:List AV):UA v (some l)=some (v::l):=Eq.trans rfl rfl
@[simp] theorem G4 (c v:AV)(cs vs:List AV):patch (c::cs) 0 (v::vs)=UA v (patch cs 0 vs):=by
 rw[patch];cases patch cs 0 vs<;>rfl
@[simp] theorem agh (c v:AV)(cs vs:List AV)(o:Nat):patch (c::cs) (o+1) (v::vs)=UA c (patch cs o (v::vs)):=by
 rw[patch];cases patch cs o (v::vs)<;>rfl
@[simp] theorem yV {bs vs:List AV}(h:vs.length=bs.length):patch bs 0 vs=some vs:=by
 induction vs generalizing bs with
 |nil=>cases bs<;>simp_all
 |cons v r ih =>
  cases bs with
  |nil=>simp at h
  |cons b bs=>rw[G4,ih (by simpa using h)];rfl
@[simp] theorem ann (z:List AV)(k:Nat)(ps:List (Nat×Nat×G)):aN z k ps F H n=lE (jS F ps z) λ cs=>.val (.agg cs k):=by unfold aN lE;cases jS F ps z<;>rfl
@[simp] theorem ajQ (z:List AV)(k sz:Nat)(ps:List (Nat×Nat×G)):aK z k sz ps F H n=lE (jS F ps (rep z k)) λ cs=>.new (.sl n 0 k sz) (.cells (k*sz) [] cs .nil):=by unfold aK lE;cases jS F ps (rep z k)<;>rfl
@[simp] theorem ak2 (z:List AV):rep z 0=[]:=Eq.trans rfl rfl
theorem rep_succ (z:List AV)(n:Nat):rep z (n+1)=z++rep z n:=rfl
@[simp] theorem aoW (z:List AV):rep z 1=z:=by simp[rep_succ]
@[simp] theorem anl (x:G):sQ x F H n=oE (x.f F) λ v=>dP v H:=by unfold sQ oE;cases x.f F<;>rfl
@[simp] theorem ank (k:Nat)(x:G):iI k x F H n=oE (x.f F) λ v=>cZ k v H:=by unfold iI oE;cases x.f F<;>rfl
@[simp] theorem anh (k:Nat)(x v:G):dm k x v F H n=oE (x.f F) λ a=>oE (v.f F) λ v=>fZ k a v H:=by
 unfold dm oE
 cases x.f F with
 |none=>rfl
 |some a=>dsimp only;cases v.f F<;>rfl
@[simp] theorem ap_ (x:G):aU x F H n=oE (x.f F) zH:=by unfold aU oE;cases x.f F<;>rfl
@[simp] theorem e1_f (c:AV->bb)(x:G):e1 c x F H n=oE (x.f F) c:=by unfold e1 oE;cases x.f F<;>rfl
@[simp] theorem e2_f (c:AV->AV->bb)(x y:G):e2 c x y F H n=oE (x.f F) λ a=>oE (y.f F) λ b=>c a b:=by
 unfold e2 oE
 cases x.f F with
 |none=>rfl
 |some a=>dsimp only;cases y.f F<;>rfl
@[simp] theorem apT:evs F []=some []:=Eq.trans rfl rfl
@[simp] theorem am2 (x:G)(r:List G):evs F (x::r)=(x.f F).bind λ a=>(evs F r).bind λ l=>some (a::l):=by
 rw[evs]
 cases x.f F with
 |none=>rfl
 |some a=>cases evs F r<;>rfl
@[simp] theorem aqb (f:Fn)(a b:List G):iH f a b F H n=lE (evs F a) λ a=>lE (evs F b) λ b=>.val (.fn f a b):=by
 unfold iH lE
 cases evs F a with
 |none=>rfl
 |some a=>dsimp only;cases evs F b<;>rfl
@[simp] theorem asP (sz fP:Nat)(s x:G):db sz fP s x F H n=oE (s.f F) λ s=>oE (x.f F) λ x=>iM sz fP n s x H:=by
 unfold db oE
 cases s.f F with
 |none=>rfl
 |some a=>dsimp only;cases x.f F<;>rfl
def sE (o:Option (Option AV))(k:Option AV->bb):bb:=match o with
 |some v=>k v
 |none=>.fail
@[simp] theorem aoV (v:Option AV)(k:Option AV->bb):sE (some v) k=k v:=Eq.trans rfl rfl
@[simp] theorem alD:uN F none=some none:=Eq.trans rfl rfl
@[simp] theorem alC (x:G):uN F (some x)=(x.f F).map some:=Eq.trans rfl rfl
@[simp] theorem auX (c:Option AV->Option AV->Option AV->AV->bb)(x:G)(lo hi mx:Option G):Bd c x lo hi mx F H n=sE (uN F lo) λ lo=>sE (uN F hi) λ hi=>sE (uN F mx) λ mx=>oE (x.f F) λ v=>c lo hi mx v:=by
 unfold Bd sE oE
 cases uN F lo with
 |none=>rfl
 |some a=>cases uN F hi with
  |none=>rfl
  |some b=>cases uN F mx with
   |none=>rfl
   |some d=>dsimp only;cases x.f F<;>rfl
end
section
variable {H:Hp}{n:Nat}
@[simp] theorem amH {α:Type}(t:Tr α)(a b:Nat)(v:Option α):(t.put a v).get b=if b=a then v else t.get b:=Tr.get_put t a b v
def ld1 (k:Option br)(o:Nat):bb:=match k with
 |some (.cells u z bs t)=>oE (gz u z bs t o) .val
 |_=>.fail
def mf (k:Option br)(o c:Nat):bb:=match k with
 |some (.cells u z bs t)=>lE (fX u z bs t o c) λ l=>.val (.agg l c)
 |_=>.fail
@[simp] theorem alS (u z bs t o):ld1 (some (.cells u z bs t)) o=oE (gz u z bs t o) .val:=Eq.trans rfl rfl
@[simp] theorem alQ (u z bs t o c):mf (some (.cells u z bs t)) o c=lE (fX u z bs t o c) λ l=>.val (.agg l c):=Eq.trans rfl rfl
@[simp] theorem alT (o:Nat):ld1 none o=.fail:=Eq.trans rfl rfl
@[simp] theorem alR (o c:Nat):mf none o c=.fail:=Eq.trans rfl rfl
@[simp] theorem adB (b o:Nat):dP (.ptr b o) H=ld1 (H.get b) o:=by
 unfold dP ld1 oE;dsimp only
 cases H.get b with
 |none=>rfl
 |some k=>cases k with
  |cells u z bs t=>dsimp only;cases gz u z bs t o<;>rfl
  |_=>rfl
@[simp] theorem ajT (v:AV)(r:List AV):dP (.dp (v::r)) H=.val v:=Eq.trans rfl rfl
@[simp] theorem adA (k b o:Nat):cZ k (.ptr b o) H=mf (H.get b) o k:=by
 unfold cZ mf lE;dsimp only
 cases H.get b with
 |none=>rfl
 |some x=>cases x with
  |cells u z bs t=>dsimp only;cases fX u z bs t o k<;>rfl
  |_=>rfl
theorem pI {k:Nat}{l:List AV}(r:List AV)(h:l.length=k):cZ k (.dp (l++r)) H=.val (.agg l k):=by
 unfold cZ;dsimp only;have:Nat.ble k (l++r).length=true:=uv (by simp;omega);rw[this];dsimp only;rw[<-h,take_left]
theorem jc (u:Nat)(bs:List AV)(i:Nat):gz u [] bs .nil i=if i<u then bs[i]? else none:=by
 rw[bY]
 split
 ·simp only[Ov.get_nil];cases bs[i]?<;>rfl
 rfl
@[simp] theorem mG (u:Nat)(bs:List AV)(i:Nat):gz u [] bs .nil i=if i<u then bs[i]? else none:=jc u bs i
@[simp] theorem ajG {u:Nat}{bs:List AV}{o k:Nat}(hl:bs.length=u)(h:o+k<=u):fX u [] bs .nil o k=some ((bs.drop o).take k):=by
 unfold fX;dsimp only
 split
 ·rename_i hb;simp at hb;obtain⟨rfl,rfl⟩:=hb;simp[<-hl]
 have e:vY k o bs=some ((bs.drop o).take k):=by
  unfold vY;dsimp only;rw[vw,oc,iZ];have:((bs.drop o).take k).length=k:=by simp;omega
  have hb:Nat.beq ((bs.drop o).take k).length k=true:=by rw[this];exact Nat.beq_refl k
  rw[hb]
 rw[show Nat.ble (Nat.add o k) u=true from uv h,e];rfl
@[simp high] theorem TR (u:Nat) (bs:List AV):fX u [] bs .nil 0 u=some bs:=by
 unfold fX;simp
def stE (k:Nat)(v:AV)(x:Option br)(b o:Nat):bb:=match x with
 |some (.cells u z bs t)=>bif Nat.beq v.len k&&Nat.ble (o+k) u&&aY v.cells then .upd (.aX []) b (ke u z bs t v.cells o)else .fail
 |_=>.fail
@[simp] theorem akK (k:Nat)(v:AV) (u z bs t b o):stE k v (some (.cells u z bs t)) b o=bif Nat.beq v.len k&&Nat.ble (o+k) u&&aY v.cells then .upd (.aX []) b (ke u z bs t v.cells o)else .fail:=Eq.trans rfl rfl
@[simp] theorem aij (k b o:Nat)(v:AV):fZ k (.ptr b o) v H=stE k v (H.get b) b o:=by
 unfold fZ stE;dsimp only
 cases H.get b with
 |none=>rfl
 |some x=>cases x with
  |cells u z bs t=>dsimp only;cases Nat.beq v.len k&&Nat.ble (o+k) u&&aY v.cells<;>rfl
  |_=>rfl
def stL (u:Nat)(bs vs:List AV)(o:Nat)(r:Option (List AV)):br:=match r with
 |some bs'=>.cells u [] bs' .nil
 |none=>.cells u [] bs (Ov.bD vs o .nil)
@[simp] theorem akJ (u:Nat)(bs vs:List AV)(o:Nat)(r:List AV):stL u bs vs o (some r)=.cells u [] r .nil:=Eq.trans rfl rfl
@[simp] theorem acM {u:Nat}{bs vs:List AV}{o:Nat}(h:u<=64):ke u [] bs .nil vs o=stL u bs vs o (patch bs o vs):=by
 unfold ke stL;simp only[uv h]
 cases patch bs o vs<;>rfl
@[simp] theorem ajS (b o:Nat):zH (.ptr b o)=.val (.ptr b o):=Eq.trans rfl rfl
@[simp] theorem anK (cs:List AV):zH (.dp cs)=.val (.dp cs):=Eq.trans rfl rfl
@[simp] theorem ajZ (k b o:Nat):xn k (.ptr b o)=.val (.ptr b (o+k)):=by unfold xn;dsimp only;rw[cJ]
@[simp] theorem an7 (k:Nat)(cs:List AV):xn k (.dp cs)=.val (.dp (cs.drop k)):=Eq.trans rfl rfl
def nE (o:Option AV):bb:=match o with
 |some v=>.val v
 |none=>.fail
@[simp] theorem apf (v:AV):nE (some v)=.val v:=Eq.trans rfl rfl
@[simp] theorem ajX (o:Nat)(cs:List AV)(k:Nat):xk o (.agg cs k)=nE (cs[o]?):=by
 unfold xk nE;dsimp only;rw[mA];cases cs[o]?<;>rfl
@[simp] theorem ajW (o k m:Nat)(cs:List AV):xj o k (.agg cs m)=bif Nat.ble (o+k) m then .val (.agg ((cs.drop o).take k) k)else .fail:=by
 unfold xj;dsimp only
 cases Nat.ble (o+k) m<;>rfl
@[simp] theorem anO (i:Nat)(vs:List AV):mN i (.aX vs)=nE (vs[i]?):=by
 unfold mN nE;dsimp only;rw[mA];cases vs[i]?<;>rfl
theorem rN {cs:List AV}{len sz i:Nat}{k:IntKind}(h:i<len):e9 sz (.ds cs len sz) (.int k (i:Int))=.val (.dp (cs.drop (i*sz))):=by
 show (match Nat.blt i len&&Nat.beq sz sz with
  |true=>bb.val (.dp (cs.drop (i*sz)))
  |false=>.fail)=_
 rw[show Nat.blt i len=true from uv h,Nat.beq_refl];rfl
theorem LS {b o len sz i:Nat}{k:IntKind}(h:i<len):e9 sz (.sl b o len sz) (.int k (i:Int))=.val (.ptr b (o+i*sz)):=by
 show (match Nat.blt i len&&Nat.beq sz sz with
  |true=>fY (o+i*sz) λ o'=>bb.val (.ptr b o')
  |false=>.fail)=_
 rw[show Nat.blt i len=true from uv h,Nat.beq_refl];exact cJ _ _
@[simp] theorem anN (cs:List AV)(len sz:Nat):aZ (.ds cs len sz)=.val (.int .i64 (len:Int)):=Eq.trans rfl rfl
@[simp] theorem anM (b o len sz:Nat):aZ (.sl b o len sz)=.val (.int .i64 (len:Int)):=Eq.trans rfl rfl
@[simp] theorem ajV:aZ (.al (.slice none 0 0))=.val (.int .i64 0):=Eq.trans rfl rfl
@[simp] theorem ajU (l:List Nat):mY (.str l)=.val (.int .i64 (l.length:Int)):=by unfold mY;dsimp only;rw[bI];rfl
@[simp] theorem kN (k:IntKind)(i:Int):kJ k i=.val (.int k i):=by unfold kJ;rw[lT]
@[simp] theorem an6:dq .add=yq:=Eq.trans rfl rfl
@[simp] theorem an2:dq .lss=pU .lss:=Eq.trans rfl rfl
@[simp] theorem an3:dq .leq=pU .leq:=Eq.trans rfl rfl
@[simp] theorem an4:dq .gtr=pU .gtr:=Eq.trans rfl rfl
@[simp] theorem an5:dq .geq=pU .geq:=Eq.trans rfl rfl
@[simp] theorem anW:dq .sub=uz (dw .sub):=Eq.trans rfl rfl
@[simp] theorem an1:dq .mul=uz (dw .mul):=Eq.trans rfl rfl
@[simp] theorem an0:dq .quo=uz (dw .quo):=Eq.trans rfl rfl
@[simp] theorem anZ:dq .rem=uz (dw .rem):=Eq.trans rfl rfl
@[simp] theorem anY:dq .shl=fH .shl:=Eq.trans rfl rfl
@[simp] theorem anX:dq .shr=fH .shr:=Eq.trans rfl rfl
@[simp] theorem al4 (c:IntKind->Int->Int->bb)(k:IntKind)(a b:Int):uz c (.int k a) (.int k b)=c k a b:=by simp[uz]
@[simp] theorem aik (k:IntKind)(a b:Int):dw .sub k a b=.val (.int k (k.wrap (a - b))):=by simp[dw]
@[simp] theorem ail (k:IntKind)(a b:Int):dw .mul k a b=.val (.int k (k.wrap (a*b))):=by simp[dw]
@[simp] theorem an8 (k:IntKind)(a b:Int):yq (.int k a) (.int k b)=.val (.int k (k.wrap (a+b))):=by simp[yq]
@[simp] theorem anR (k:IntKind)(a b:Int):pU .lss (.int k a) (.int k b)=.val (.bool (decide (a<b))):=by simp[pU]
@[simp] theorem anS (k:IntKind)(a b:Int):pU .leq (.int k a) (.int k b)=.val (.bool (decide (a<=b))):=by simp[pU]
@[simp] theorem anT (k:IntKind)(a b:Int):pU .gtr (.int k a) (.int k b)=.val (.bool (decide (b<a))):=by simp[pU]
@[simp] theorem anU (k:IntKind)(a b:Int):pU .geq (.int k a) (.int k b)=.val (.bool (decide (b<=a))):=by simp[pU]
@[simp] theorem aqk (k:IntKind)(a b:Int):js false .num (.int k a) (.int k b)=.val (.bool (decide (a=b))):=by simp only[js,fS,if_true];by_cases h:a=b<;>simp[h]
@[simp] theorem aqi (k:IntKind)(a b:Int):js true .num (.int k a) (.int k b)=.val (.bool (decide (a≠b))):=by
 simp only[js,fS,if_true];by_cases h:a=b<;>simp[h]
@[simp] theorem aqj (a b:List Nat):js false .num (.str a) (.str b)=.val (.bool (decide (a=b))):=by simp only[js,fS,eJ];by_cases h:a=b<;>simp[h]
@[simp] theorem aqh (a b:List Nat):js true .num (.str a) (.str b)=.val (.bool (decide (a≠b))):=by simp only[js,fS,eJ];by_cases h:a=b<;>simp[h]
@[simp] theorem anP (a b:Bool):js false .bool (.bool a) (.bool b)=.val (.bool (a == b)):=by simp[js,fS]
@[simp] theorem anL (a b:Bool):js true .bool (.bool a) (.bool b)=.val (.bool (a != b)):=by cases a<;>cases b<;>rfl
def yw (b:Bool)(r:Option Bool):Option Bool:=if b then r else some false
@[simp] theorem akc (b c:Bool):yw b (some c)=some (b&&c):=by cases b<;>rfl
@[simp] theorem adn:bF [] [] []=some true:=Eq.trans rfl rfl
@[simp] theorem ajN (qs:List LK)(k:IntKind)(a b:Int)(x y:List AV):bF (.i::qs) (.int k a::x) (.int k b::y)=yw (decide (a=b)) (bF qs x y):=by
 by_cases h:a=b
 ·simp[bF,dH,h,yw]
 have:(a == b)=false:=by simpa using h
 simp only[bF,dH,if_true,this,h,yw,decide_false];rfl
@[simp] theorem ajM (qs:List LK)(a b:List Nat)(x y:List AV):bF (.s::qs) (.str a::x) (.str b::y)=yw (decide (a=b)) (bF qs x y):=by
 by_cases h:a=b
 ·simp[bF,dH,eJ,h,yw]
 have:(a == b)=false:=by simpa using h
 simp only[bF,dH,eJ,this,h,yw,decide_false];rfl
@[simp] theorem ajO (qs:List LK)(a b:Bool)(x y:List AV):bF (.b::qs) (.bool a::x) (.bool b::y)=yw (decide (a=b)) (bF qs x y):=by
 by_cases h:a=b
 ·simp[bF,dH,h,yw]
 have:(a == b)=false:=by simpa using h
 simp only[bF,dH,this,h,yw,decide_false];rfl
def bE (neg:Bool)(r:Option Bool):bb:=match r with
 |some b=>.val (.bool (neg != b))
 |none=>.fail
@[simp] theorem aqp (neg b:Bool):bE neg (some b)=.val (.bool (neg != b)):=Eq.trans rfl rfl
@[simp] theorem anQ (neg:Bool)(ks:List LK)(a b:List AV)(n m:Nat):ly neg ks (.agg a n) (.agg b m)=if n=ks.length/\m=ks.length then bE neg (bF ks a b)else .fail:=by
 unfold ly bE;dsimp only;rw[kQ,kQ]
 by_cases h:n=ks.length/\m=ks.length
 ·rw[ao h];simp only[h.1,h.2,decide_true,Bool.and_self];cases bF ks a b<;>rfl
 rw[ah h]
 have:(decide (n=ks.length)&&decide (m=ks.length))=false:=by
  by_cases h1:n=ks.length<;>by_cases h2:m=ks.length<;>simp_all
 rw[this]
@[simp] theorem aqg (b:Bool):cUn .not (.bool b)=.val (.bool (!b)):=Eq.trans rfl rfl
theorem q9 {ce:Ce}:∀ {m:List Dm}{H H':Hp}{n:Nat},ei m H=some H'->kg ce m .ret H n=.mk .ret H' n
 |[],H,H',n,h=>by simp only[ei]at h;injection h with h;subst h;simp only[kg]
 |.dT k::m,H,H',n,h=>by
  simp only[ei]at h
  split at h
  ·rename_i hk;simp only[kg,hk];exact q9 h
  cases h
 |.fn _ _::m,H,H',n,h=>by simp[ei]at h
@[simp] theorem afN:ei [] H=some H:=Eq.trans rfl rfl
def aI (t:Nat):Fr->Hp->Option AV:=λ F _=>(ar t).f F
def vE (r:bb):Option AV:=match r with
 |.val v=>some v
 |_=>none
@[simp] theorem aqC (v:AV):vE (.val v)=some v:=Eq.trans rfl rfl
def bU (a k:Nat):Fr->Hp->Option AV:=λ F H=>match (ar a).f F with
 |some v=>match cZ k v H with
  |.val v=>some v
  |_=>none
 |none=>none
def KE (a:Nat):Fr->Hp->Option AV:=λ F H=>match (ar a).f F with
 |some v=>match dP v H with
  |.val v=>some v
  |_=>none
 |none=>none
variable {F:Fr}
@[simp] theorem apX:uT F H []=some []:=Eq.trans rfl rfl
@[simp] theorem am6 (x:Fr->Hp->Option AV)(r:List (Fr->Hp->Option AV)):uT F H (x::r)=(x F H).bind λ v=>(uT F H r).bind λ l=>some (v::l):=by
 rw[uT]
 cases x F H with
 |none=>rfl
 |some a=>cases uT F H r<;>rfl
@[simp] theorem aqL (t:Nat):aI t F H=F.get t:=by simp[aI]
@[simp] theorem ao0 (a k:Nat):bU a k F H=(F.get a).bind λ v=>vE (cZ k v H):=by
 simp only[bU,zZ]
 cases F.get a with
 |none=>rfl
 |some v=>dsimp only [Option.bind];cases cZ k v H<;>rfl
@[simp] theorem ao1 (a:Nat):KE a F H=(F.get a).bind λ v=>vE (dP v H):=by
 simp only[KE,zZ]
 cases F.get a with
 |none=>rfl
 |some v=>dsimp only [Option.bind];cases dP v H<;>rfl
@[simp] theorem akZ (v:AV):uj [v]=v:=Eq.trans rfl rfl
@[simp] theorem ak0:uj []=.aX []:=Eq.trans rfl rfl
@[simp] theorem akY (v u:AV)(l:List AV):uj (v::u::l)=.aX (v::u::l):=Eq.trans rfl rfl
end
section
variable {P:Program}{ce:Ce}
@[simp] theorem vX {α:Type}(i:Nat)(t:Tr α):Tr.bD [] i t=t:=Eq.trans rfl rfl
theorem enter {g:FuncId}{af:AF}{args:List AV}{H:Hp}{n:Nat}{R:AV->Hp->Nat->Prop}(h:LJ P g=some af) (hl:args.length<=af.nt)
  (hb:∀F:Fr,(∀i,F.get i=args[i]?)->Ev (af.code.f ce F H n []) (iO af.res R)):EvC (lu P ce g args H n) R:=by
 unfold lu;rw[h];dsimp only;rw[bI,uv hl];dsimp only
 have:=hb (Tr.bD args 0 .nil) λ i=>by
  rw[Tr.bw]
  split
  ·simp
  rw[getElem?_eq_none (by omega)];rfl
 cases hr:af.code.f ce (Tr.bD args 0 .nil) H n []with
 |fail=>rw[hr]at this;exact this
 |mk o F1 H1 n1 m1 =>
  rw[hr]at this
  have key:(o=.normal∨o=.ret)->EvC (lq af.res F1 (kg ce m1 .ret H1 n1)) R:=by
   intro ho
   have:rY (ei m1 H1) λ H'=>rY (uT F1 H' af.res) λ vs=>R (uj vs) H' n1:=by
    rcases ho with rfl|rfl
    ·simpa using this
    simpa using this
   cases hu:ei m1 H1 with
   |none=>rw[hu]at this;exact ai this id
   |some H2 =>
    rw[hu]at this;rw[q9 hu];unfold lq;dsimp only;simp only[rq]at this
    cases he:uT F1 H2 af.res with
    |none=>rw[he]at this;exact this
    |some vs=>rw[he]at this;exact this
  cases o with
  |normal=>exact key (.inl rfl)
  |ret=>exact key (.inr rfl)
  |exit i=>exact this
  |panic v=>exact ai this id
end
end Go.Abs
namespace Go.Abs
open List
inductive KO where
 |eff (e:Eff)
 |call (g:G) (as:List G)
 |bad
 |jd (e:Eff)
 |raw (f:Pd->K->K)
structure GO where
 g:Option (G×Bool)
 pd:Pd
 op:KO
def inO (pd:Pd)(o:KO)(next:K):K:=match o with
 |.eff e=>opK pd e next
 |.call g as=>xg pd g as next
 |.bad=>ia
 |.jd _=>ia
 |.raw f=>f pd next
def goK (o:Option GO)(next:K):K:=match o with
 |some ⟨none,pd,k⟩=>inO pd k next
 |some ⟨some (g,b),pd,k⟩=>qF g b (inO pd k next) (SK pd next)
 |none=>ia
def rB:List (Option GO)->K
 |[]=>Fa
 |o::r=>goK o (rB r)
def yh (P:Program) (o:Oper):KO:=match o.op with
 |.call {callee:=.value f,args,argTypes:=_}=>match dJ P o with
  |some e=>.eff e
  |none=>match bQ f,iS args.toList with
   |some g,some as=>.call g as
   |_,_=>.bad
 |.call {callee:=.invoke x name,args,argTypes:=_}=>match bQ x,iS args.toList with
  |some g,some as=>.call (Hw P name g) as
  |_,_=>.bad
 |.panic x=>match bQ x with
  |some g=>.raw λ _ _=>Ao g
  |none=>.bad
 |.defer {callee:=.value f,args,argTypes:=_}=>match bQ f,iS args.toList with
  |some g,some as=>.raw λ pd next=>Bg pd g as next
  |_,_=>.bad
 |_=>match dJ P o with
  |some e=>.eff e
  |none=>.bad
def koM (P:Program) (o:Oper):KO:=match o.op with
 |.call {callee:=.value f,args,argTypes:=_}=>match dJ P o with
  |some e=>.eff e
  |none=>match bQ f,iS args.toList with
   |some g,some as=>.call g as
   |_,_=>.bad
 |.call {callee:=.invoke x name,args,argTypes:=_}=>match bQ x,iS args.toList with
  |some g,some as=>.call (Hw P name g) as
  |_,_=>.bad
 |_=>match dJ P o with
  |some e=>.eff e
  |none=>.bad
def uB (P:Program) (nt:Nat) (ops:Array Oper) (o:Oper):Option GO:=match eV nt o.dst with
 |none=>none
 |some pd=>match o.guard with
  |none=>some ⟨none,pd,yh P o⟩
  |some (j,b)=>match (ops[j]?).bind (·.dst)with
   |some d=>some ⟨some (ar d,b),pd,yh P o⟩
   |none=>none
theorem zC (P:Program)(pd:Pd)(o:Oper)(next:K):sU P pd o next=inO pd (yh P o) next:=by
 unfold sU yh
 split
 ·rename_i ho;rw[ho]
  cases dJ P o with
  |some e=>rfl
  |none=>dsimp only;split<;>simp_all [inO]
 ·split<;>simp_all [inO]
 ·split<;>simp_all [inO]
 ·split<;>simp_all [inO]
 split<;>simp_all [inO]
theorem HZ (P:Program)(nt:Nat)(ops:Array Oper)(o:Oper)(next:K):rK P nt ops o next=goK (uB P nt ops o) next:=by
 unfold rK uB
 cases eV nt o.dst with
 |none=>rfl
 |some pd =>
  dsimp only
  cases o.guard with
  |none=>exact zC ..
  |some x =>
   obtain⟨j,b⟩:=x;dsimp only
   cases (ops[j]?).bind (·.dst)with
   |none=>rfl
   |some d=>simp only[goK,zC]
theorem xa (P:Program)(nt:Nat)(ops:Array Oper):∀l,rJ P nt ops l=rB (l.map (uB P nt ops))
 |[]=>rfl
 |o::l=>by simp only[rJ,map_cons,rB,HZ,xa P nt ops l]
structure RO where
 rs:RS
 g:Option (G×Bool)
 pd:Pd
 op:KO
 cnt:Option Nat
def EM (o:RO)(next:KR):KR:=match o.op,o.cnt with
 |.eff e,some c=>opR o.rs o.pd e c next
 |.eff e,none=>Eu o.rs o.pd e next
 |.call g as,none=>jE o.rs o.pd g as next
 |.jd e,none=>TX o.rs o.pd e next
 |_,_=>iU
def abg (o:RO)(next:KR):KR:=match o.cnt with
 |some _=>PG o.pd next
 |none=>PH o.pd next
def roR (o:Option RO) (next:KR):KR:=match o with
 |some o=>match o.g with
  |none=>EM o next
  |some (g,b)=>wH o.rs g b (EM o next) (abg o next)
 |none=>iU
def fR:List (Option RO)->KR
 |[]=>ahL
 |o::r=>roR o (fR r)
def OX (_P:Program) (nt:Nat) (ops:Array Oper) (i:Nat) (k:Oper->KO) (cnt:Option Nat):Option RO:=match ops[i]? with
 |some o=>match eV nt o.dst with
  |some pd=>match o.guard with
   |none=>some ⟨cB (slotsOf ops o),none,pd,k o,cnt⟩
   |some (j,b)=>match (ops[j]?).bind (·.dst)with
    |some d=>some ⟨cB (slotsOf ops o),some (ar d,b),pd,k o,cnt⟩
    |none=>none
  |none=>none
 |none=>none
def koR (P:Program)(o:Oper):KO:=match dJ P o with
 |some e=>.eff e
 |none=>.bad
def koF (P:Program) (o:Oper):KO:=match o.op with
 |.store _ _ _=>match dJ P o with
  |some e=>.jd e
  |none=>.bad
 |_=>.bad
def roF (P:Program) (nt:Nat) (ops:Array Oper) (i:Nat):Option RO:=match ops[i]? with
 |some o=>match eV nt o.dst with
  |some pd=>match o.guard with
   |none=>some ⟨cB (slotsOf ops o),none,pd,koF P o,none⟩
   |some _=>none
  |none=>none
 |none=>none
def lg (P:Program)(nt:Nat)(ops:Array Oper):List eN->Nat->List (Option RO)
 |[],_=>[]
 |.op i e::l,j=>OX P nt ops i (koR P) (some (Nat.succ (Nat.sub j e)))::lg P nt ops l j
 |.mod i::l,j=>OX P nt ops i (koM P) none::lg P nt ops l (Nat.succ j)
 |.QI i::l,j=>OX P nt ops i (koR P) (some 0)::lg P nt ops l j
 |.jd i::l,j=>roF P nt ops i::lg P nt ops l j
theorem aha (P:Program)(rs:RS)(pd:Pd)(o:Oper)(next:KR)(g:Option (G×Bool)):inF P rs pd o next=EM ⟨rs,g,pd,koF P o,none⟩ next:=by
 unfold inF EM koF;dsimp only
 split
 ·split<;>simp_all
 split<;>simp_all
theorem AG (P:Program)(rs:RS)(pd:Pd)(o:Oper)(c:Nat)(next:KR)(g:Option (G×Bool)):inR P rs pd o c next=EM ⟨rs,g,pd,koR P o,some c⟩ next:=by
 unfold inR EM koR
 cases dJ P o<;>rfl
theorem TC (P:Program)(rs:RS)(pd:Pd)(o:Oper)(next:KR)(g:Option (G×Bool)):inM P rs pd o next=EM ⟨rs,g,pd,koM P o,none⟩ next:=by
 unfold inM EM koM;dsimp only
 split
 ·rename_i ho;rw[ho]
  cases dJ P o with
  |some e=>rfl
  |none=>dsimp only;split<;>simp_all
 ·split<;>simp_all
 split<;>simp_all
theorem jD (P:Program) (nt:Nat) (ops:Array Oper):∀l j,fV P nt ops l j=fR (lg P nt ops l j)
 |[],_=>rfl
 |.op i e::l,j=>by
  simp only[fV,lg,fR,OX]
  cases ops[i]? with
  |none=>rfl
  |some o =>
   dsimp only
   cases eV nt o.dst with
   |none=>rfl
   |some pd =>
    dsimp only [guarded]
    cases o.guard with
    |none=>dsimp only [roR];rw[jD P nt ops l j,AG (g:=none)]
    |some x =>
     obtain⟨q,b⟩:=x;dsimp only
     cases (ops[q]?).bind (·.dst)with
     |none=>rfl
     |some d=>dsimp only [roR,abg];rw[jD P nt ops l j,AG (g:=some (ar d,b))]
 |.mod i::l,j=>by
  simp only[fV,lg,fR,OX]
  cases ops[i]? with
  |none=>rfl
  |some o =>
   dsimp only
   cases eV nt o.dst with
   |none=>rfl
   |some pd =>
    dsimp only [guarded]
    cases o.guard with
    |none=>dsimp only [roR];rw[jD P nt ops l (Nat.succ j),TC (g:=none)]
    |some x =>
     obtain⟨q,b⟩:=x;dsimp only
     cases (ops[q]?).bind (·.dst)with
     |none=>rfl
     |some d=>dsimp only [roR,abg];rw[jD P nt ops l (Nat.succ j),TC (g:=some (ar d,b))]
 |.QI i :: l,j=>by
  simp only[fV,lg,fR,OX]
  cases ops[i]? with
  |none=>rfl
  |some o =>
   dsimp only
   cases eV nt o.dst with
   |none=>rfl
   |some pd =>
    dsimp only [guarded]
    cases o.guard with
    |none=>dsimp only [roR];rw[jD P nt ops l j,AG (g:=none)]
    |some x =>
     obtain⟨q,b⟩:=x;dsimp only
     cases (ops[q]?).bind (·.dst)with
     |none=>rfl
     |some d=>dsimp only [roR,abg];rw[jD P nt ops l j,AG (g:=some (ar d,b))]
 |.jd i::l,j=>by
  simp only[fV,lg,fR,roF]
  cases ops[i]? with
  |none=>rfl
  |some o =>
   dsimp only
   cases eV nt o.dst with
   |none=>rfl
   |some pd =>
    dsimp only
    cases o.guard with
    |none=>dsimp only [roR];rw[jD P nt ops l j,aha (g:=none)]
    |some x=>rfl
inductive CT where
 |mc (l:List (Option GO))
 |fb (ds:List Nat) (l:List (Option RO))
 |seq (a b:CT)
 |cond (g:G) (a b:CT)
 |block (i:Nat) (b:CT)
 |loop (b:CT)
 |exit (i:Nat)
 |ret
 |skip
 |range (nt:Nat) (g:G) (ps:List Nat) (a b:Code)
 |bad
 |raw (k:K)
def qY:CT->K
 |.mc l=>rB l
 |.fb ds l=>Fj ds (fR l)
 |.seq a b=>GZ (qY a) (qY b)
 |.cond g a b=>zB g (qY a) (qY b)
 |.block i b=>sZ i (qY b)
 |.loop b=>EC (qY b)
 |.exit i=>Lx i
 |.ret=>aav
 |.skip=>Fa
 |.range nt g ps a b=>Ag nt g ps a b
 |.bad=>ia
 |.raw k=>k
def af6 (P:Program)(nt:Nat)(ops:Array Oper)(pl:List eN)(ok:Bool):CT:=match ok with
 |true=>.fb (iJ ops.toList) (lg P nt ops pl 0)
 |false=>.bad
theorem aax (P:Program)(nt:Nat)(ops:Array Oper)(pl:List eN)(ok:Bool):aay P nt ops pl ok=qY (af6 P nt ops pl ok):=by
 cases ok with
 |false=>rfl
 |true=>simp only[aay,af6,qY,Fj,jD]
def eT (P:Program) (nt:Nat) (rd:Bool):Code->CT
 |.skip=>.skip
 |.region _ ops d=>bif d then (bif P.follows .mixedOrders then af6 P nt ops (Pg (lZ ops.toList 0 .nil) ops.toList) (uL (lZ ops.toList 0 .nil) ops (Pg (lZ ops.toList 0 .nil) ops.toList))else .bad)else (bif rd&&dX ops.toList then .bad else .mc (ops.toList.map (uB P nt ops)))
 |.seq a b=>.seq (eT P nt rd a) (eT P nt rd b)
 |.cond c a b=>match bQ c with
  |some x=>.cond x (eT P nt rd a) (eT P nt rd b)
  |none=>.bad
 |.block id b=>.block id (eT P nt rd b)
 |.loop (.seq a rest)=>match y9 a with
  |some (x,d,ops,os)=>bif rd&&dX os then .bad else .raw (abq P nt x d ops os (comp P nt rd rest))
  |none=>.loop (.seq (eT P nt rd a) (eT P nt rd rest))
 |.loop b=>.loop (eT P nt rd b)
 |.exit id=>.exit id
 |.ret=>.ret
 |.scope b=>eT P nt rd b
 |.label _=>.skip
 |.rangeFunc f ps a b=>match bQ f with
  |some x=>bif rd then .bad else .range nt x ps.toList a b
  |none=>.bad
 |_=>.bad
theorem kT (P:Program)(nt:Nat)(rd:Bool):∀c,comp P nt rd c=qY (eT P nt rd c)
 |.skip=>rfl
 |.region _ ops d=>by
  simp only[comp,eT,LG,aax,xa]
  cases d with
  |false=>simp only[cond_false];cases (rd&&dX ops.toList)<;>rfl
  |true=>simp only[cond_true];cases P.follows .mixedOrders<;>rfl
 |.seq a b=>by simp only[comp,eT,qY,kT P nt rd a,kT P nt rd b]
 |.cond c a b=>by simp only[comp,eT,kT P nt rd a,kT P nt rd b];cases bQ c<;>rfl
 |.block id b=>by simp only[comp,eT,qY,kT P nt rd b]
 |.loop b=>by
  have ib:=kT P nt rd b
  cases b with
  |seq a rest =>
   simp only[comp,eT];simp only[comp,eT,qY]at ib
   cases y9 a with
   |none=>simp only[qY,ib]
   |some y=>obtain⟨x,d,ops,os⟩:=y;dsimp only;cases (rd&&dX os)<;>rfl
  |_=>simp only[comp,eT,qY,ib]<;>(try simp only[comp,eT,qY]at ib;simp only[ib])
 |.exit id=>rfl
 |.ret=>rfl
 |.rangeFunc f ps a b=>by
  simp only[comp,eT]
  cases bQ f with
  |none=>rfl
  |some x=>dsimp only;cases rd<;>rfl
 |.scope b=>by simp only[comp,eT,kT P nt rd b]
 |.label _=>rfl
 |.goto _=>rfl
 |.refuse _=>rfl
structure CF where
 res:List (Fr->Hp->Option AV)
 code:CT
 nt:Nat
def HU (P:Program) (g:FuncId):Option CF:=match P.funcs[g]? with
 |some fn=>match fn.body with
  | some b => match fn.name == "runtime.NumGoroutine" with
   |true=>none
   |false=>match jN P fn.results.toList with
    |some r=>some {res:=r,code:=eT P fn.ntmps false b,nt:=fn.ntmps}
    |none=>none
  |none=>none
 |none=>none
section
variable {ce:Ce}{F:Fr}{H:Hp}{n:Nat}{m:List Dm}{Q:QA}{Hs:List Hp}
@[simp] theorem apn (l:List (Option GO)):qY (.mc l)=rB l:=Eq.trans rfl rfl
@[simp] theorem apo (ds:List Nat)(l:List (Option RO)):qY (.fb ds l)=Fj ds (fR l):=Eq.trans rfl rfl
@[simp] theorem apl (a b:CT):qY (.seq a b)=GZ (qY a) (qY b):=Eq.trans rfl rfl
@[simp] theorem al0 (g:G)(a b:CT):qY (.cond g a b)=zB g (qY a) (qY b):=Eq.trans rfl rfl
@[simp] theorem ajt (i:Nat)(b:CT):qY (.block i b)=sZ i (qY b):=Eq.trans rfl rfl
@[simp] theorem alY (b:CT):qY (.loop b)=EC (qY b):=Eq.trans rfl rfl
@[simp] theorem alZ (i:Nat):qY (.exit i)=Lx i:=Eq.trans rfl rfl
@[simp] theorem apm:qY .ret=aav:=Eq.trans rfl rfl
@[simp] theorem alX:qY .skip=Fa:=Eq.trans rfl rfl
def oP (pd:Pd)(e:Eff):Option GO:=some ⟨none,pd,.eff e⟩
def gP (g:G)(b:Bool)(pd:Pd)(e:Eff):Option GO:=some ⟨some (g,b),pd,.eff e⟩
def cP (pd:Pd)(f:FuncId)(as:List G):Option GO:=some ⟨none,pd,.call (aT (.fn (.func f) [] [])) as⟩
def kM (g:G)(b:Bool)(pd:Pd)(f:FuncId)(as:List G):Option GO:=some ⟨some (g,b),pd,.call (aT (.fn (.func f) [] [])) as⟩
def vP (pd:Pd)(g:G)(as:List G):Option GO:=some ⟨none,pd,.call g as⟩
@[simp] theorem am4:Ev ((rB []).f ce F H n m) Q=Q .normal F H n m:=propext Iff.rfl
def EvO (x:bb)(pd:Pd)(r:List (Option GO))(ce:Ce)(F:Fr)(H:Hp)(n:Nat)(m:List Dm)(Q:QA):Prop:=zO x H n λ v H' n'=>Ev ((rB r).f ce (pd.f v F) H' n' m) Q
def ai6 (x:iT)(pd:Pd)(r:List (Option GO))(ce:Ce)(F:Fr)(m:List Dm)(Q:QA):Prop:=EvC x λ v H' n'=>Ev ((rB r).f ce (pd.f v F) H' n' m) Q
def ZW (vs:Option (List AV))(f:FuncId)(pd:Pd)(r:List (Option GO))(ce:Ce)(F:Fr)(H:Hp)(n:Nat)(m:List Dm)(Q:QA):Prop:=rY vs λ vs=>ai6 (ce.call f vs H n) pd r ce F m Q
def Qz (v:Option AV)(b:Bool)(pd:Pd)(e:Eff)(r:List (Option GO))(ce:Ce)(F:Fr)(H:Hp)(n:Nat)(m:List Dm)(Q:QA):Prop:=e_ v b (EvO (e F H n) pd r ce F H n m Q) (Ev ((rB r).f ce (pd.f (.aX []) F) H n m) Q)
def QD (v:Option AV)(b:Bool)(pd:Pd)(f:FuncId)(as:List G)(r:List (Option GO))(ce:Ce)(F:Fr)(H:Hp)(n:Nat)(m:List Dm)(Q:QA):Prop:=e_ v b (ZW (evs F as) f pd r ce F H n m Q) (Ev ((rB r).f ce (pd.f (.aX []) F) H n m) Q)
@[simp] theorem am7 (pd:Pd)(r:List (Option GO)):EvO .fail pd r ce F H n m Q=False:=propext Iff.rfl
@[simp] theorem apY (v:AV)(pd:Pd)(r:List (Option GO)):EvO (.val v) pd r ce F H n m Q=Ev ((rB r).f ce (pd.f v F) H n m) Q:=propext Iff.rfl
@[simp] theorem ap0 (v:AV)(k:br)(pd:Pd)(r:List (Option GO)):EvO (.new v k) pd r ce F H n m Q=Ev ((rB r).f ce (pd.f v F) (H.put n (some k)) (n+1) m) Q:=propext Iff.rfl
@[simp] theorem apZ (v:AV)(b:Nat)(k:br)(pd:Pd)(r:List (Option GO)):EvO (.upd v b k) pd r ce F H n m Q=Ev ((rB r).f ce (pd.f v F) (H.put b (some k)) n m) Q:=propext Iff.rfl
@[simp] theorem asH (v:AV)(b:Nat)(k:br)(pd:Pd)(r:List (Option GO)):EvO (.mv v b k) pd r ce F H n m Q=Ev ((rB r).f ce (pd.f v F) ((H.put b none).put n (some k)) (n+1) m) Q:=propext Iff.rfl
@[simp] theorem aqe (v:AV)(H':Hp)(n':Nat)(pd:Pd)(r:List (Option GO)):ai6 (.mk v H' n') pd r ce F m Q=Ev ((rB r).f ce (pd.f v F) H' n' m) Q:=propext Iff.rfl
@[simp] theorem aka (vs:List AV)(f:FuncId)(pd:Pd)(r:List (Option GO)):ZW (some vs) f pd r ce F H n m Q=ai6 (ce.call f vs H n) pd r ce F m Q:=propext Iff.rfl
@[simp] theorem ar9 (pd:Pd)(e:Eff)(r:List (Option GO)):Qz (some (.bool true)) true pd e r ce F H n m Q=EvO (e F H n) pd r ce F H n m Q:=propext Iff.rfl
@[simp] theorem ar_ (pd:Pd)(e:Eff)(r:List (Option GO)):Qz (some (.bool false)) true pd e r ce F H n m Q=Ev ((rB r).f ce (pd.f (.aX []) F) H n m) Q:=propext Iff.rfl
@[simp] theorem apG (pd:Pd)(e:Eff)(r:List (Option GO)):Qz (some (.bool true)) false pd e r ce F H n m Q=Ev ((rB r).f ce (pd.f (.aX []) F) H n m) Q:=propext Iff.rfl
@[simp] theorem apH (pd:Pd)(e:Eff)(r:List (Option GO)):Qz (some (.bool false)) false pd e r ce F H n m Q=EvO (e F H n) pd r ce F H n m Q:=propext Iff.rfl
@[simp] theorem amC (l:List AV)(b:Bool)(pd:Pd)(e:Eff)(r:List (Option GO)):Qz (some (.aX l)) b pd e r ce F H n m Q=Ev ((rB r).f ce (pd.f (.aX []) F) H n m) Q:=propext Iff.rfl
@[simp] theorem ase (pd:Pd)(f:FuncId)(as:List G)(r:List (Option GO)):QD (some (.bool true)) true pd f as r ce F H n m Q=ZW (evs F as) f pd r ce F H n m Q:=propext Iff.rfl
@[simp] theorem asf (pd:Pd)(f:FuncId)(as:List G)(r:List (Option GO)):QD (some (.bool false)) true pd f as r ce F H n m Q=Ev ((rB r).f ce (pd.f (.aX []) F) H n m) Q:=propext Iff.rfl
@[simp] theorem apM (pd:Pd)(f:FuncId)(as:List G)(r:List (Option GO)):QD (some (.bool true)) false pd f as r ce F H n m Q=Ev ((rB r).f ce (pd.f (.aX []) F) H n m) Q:=propext Iff.rfl
@[simp] theorem apN (pd:Pd)(f:FuncId)(as:List G)(r:List (Option GO)):QD (some (.bool false)) false pd f as r ce F H n m Q=ZW (evs F as) f pd r ce F H n m Q:=propext Iff.rfl
@[simp] theorem amF (l:List AV)(b:Bool)(pd:Pd)(f:FuncId)(as:List G)(r:List (Option GO)):QD (some (.aX l)) b pd f as r ce F H n m Q=Ev ((rB r).f ce (pd.f (.aX []) F) H n m) Q:=propext Iff.rfl
@[simp] theorem auR (pd:Pd)(e:Eff)(r:List (Option GO)):Ev ((rB (oP pd e::r)).f ce F H n m) Q=EvO (e F H n) pd r ce F H n m Q:=adm pd e (rB r)
@[simp] theorem auT (g:G)(b:Bool)(pd:Pd)(e:Eff)(r:List (Option GO)):Ev ((rB (gP g b pd e::r)).f ce F H n m) Q=Qz (g.f F) b pd e r ce F H n m Q:=ahI g b pd e (rB r)
@[simp] theorem auV (pd:Pd)(f:FuncId)(as:List G)(r:List (Option GO)):Ev ((rB (cP pd f as::r)).f ce F H n m) Q=ZW (evs F as) f pd r ce F H n m Q:=Uf pd f as (rB r)
@[simp] theorem asD (g:G)(b:Bool)(pd:Pd)(f:FuncId)(as:List G)(r:List (Option GO)):Ev ((rB (kM g b pd f as::r)).f ce F H n m) Q=QD (g.f F) b pd f as r ce F H n m Q:=ab3 g b pd f as (rB r)
theorem mP (e:Eff)(F:Fr)(n:Nat)(A:Hp)(As:List Hp):fg e F n 1 (A::As)=vE (e F A n):=by
 simp only[fg];unfold vE
 cases e F A n<;>rfl
def Z3 (v:AV)(u:Option AV):Option AV:=u.bind λ u=>if Ir v u=true then some u else none
theorem jh (e:Eff)(F:Fr)(n k:Nat)(A:Hp)(As:List Hp):fg e F n (k+2) (A::As)=(vE (e F A n)).bind λ v=>Z3 v (fg e F n (k+1) As):=by
 rw[fg];unfold vE Z3
 cases e F A n with
 |val v =>
  dsimp only [Option.bind]
  cases fg e F n (k+1) As with
  |none=>rfl
  |some u=>dsimp only;cases Ir v u<;>rfl
 |_=>rfl
@[simp] theorem aol (e:Eff)(F:Fr)(n:Nat)(A:Hp)(As:List Hp):fg e F n 1 (A::As)=vE (e F A n):=mP e F n A As
@[simp] theorem aok (e:Eff)(F:Fr)(n:Nat)(A B:Hp)(As:List Hp):fg e F n 2 (A::B::As)=(vE (e F A n)).bind λ v=>Z3 v (vE (e F B n)):=by rw[jh e F n 0,mP]
@[simp] theorem aoj (e:Eff)(F:Fr)(n:Nat)(A B C:Hp)(As:List Hp):fg e F n 3 (A::B::C::As)=(vE (e F A n)).bind λ v=>Z3 v ((vE (e F B n)).bind λ v=>Z3 v (vE (e F C n))):=by rw[jh e F n 1,jh e F n 0,mP]
@[simp] theorem ana (v:AV):Z3 v (some v)=some v:=by simp[Z3,Ql]
def oI (rs:List Nat)(pd:Pd)(e:Eff)(c:Nat):Option RO:=some ⟨cB rs,none,pd,.eff e,some c⟩
def mI (rs:List Nat)(pd:Pd)(e:Eff):Option RO:=some ⟨cB rs,none,pd,.eff e,none⟩
def cI (rs:List Nat)(pd:Pd)(f:FuncId)(as:List G):Option RO:=some ⟨cB rs,none,pd,.call (aT (.fn (.func f) [] [])) as,none⟩
def goI (rs:List Nat)(g:G)(b:Bool)(pd:Pd)(e:Eff)(c:Nat):Option RO:=some ⟨cB rs,some (g,b),pd,.eff e,some c⟩
def gmI (rs:List Nat)(g:G)(b:Bool)(pd:Pd)(e:Eff):Option RO:=some ⟨cB rs,some (g,b),pd,.eff e,none⟩
def gcI (rs:List Nat)(g:G)(b:Bool)(pd:Pd)(f:FuncId)(as:List G):Option RO:=some ⟨cB rs,some (g,b),pd,.call (aT (.fn (.func f) [] [])) as,none⟩
def fI (rs:List Nat)(pd:Pd)(e:Eff):Option RO:=some ⟨cB rs,none,pd,.jd e,none⟩
def vI (rs:List Nat)(pd:Pd)(g:G)(as:List G):Option RO:=some ⟨cB rs,none,pd,.call g as,none⟩
@[simp] theorem ajL:Ev ((fR []).f ce F H Hs n m) Q=Q .normal F H n m:=propext Iff.rfl
def ZV (x:bb)(pd:Pd)(r:List (Option RO))(ce:Ce)(F:Fr)(H:Hp)(Hs:List Hp)(n:Nat)(m:List Dm)(Q:QA):Prop:=zO x H n λ v H' n'=>Ev ((fR r).f ce (pd.f v F) H' (H'::Hs) n' m) Q
def ErI (x:bb)(e:Eff)(c:Nat)(F0:Fr)(pd:Pd)(r:List (Option RO))(ce:Ce)(F:Fr)(H:Hp)(Hs:List Hp)(n:Nat)(m:List Dm)(Q:QA):Prop:=match x with
 |.val v=>Ev ((fR r).f ce (pd.f v F) H Hs n m) Q
 |.new v b=>if iY n Hs=true then Ev ((fR r).f ce (pd.f v F) (H.put n (some b)) Hs (n+1) m) Q else False
 |.fail=>rY (fg e F0 n c Hs) λ v=>Ev ((fR r).f ce (pd.f v F) H Hs n m) Q
 |_=>False
def AvI (x:Option AV)(pd:Pd)(r:List (Option RO))(ce:Ce)(F:Fr)(H:Hp)(Hs:List Hp)(n:Nat)(m:List Dm)(Q:QA):Prop:=rY x λ v=>Ev ((fR r).f ce (pd.f v F) H Hs n m) Q
def GA (x:iT)(pd:Pd)(r:List (Option RO))(ce:Ce)(F:Fr)(Hs:List Hp)(m:List Dm)(Q:QA):Prop:=EvC x λ v H' n'=>Ev ((fR r).f ce (pd.f v F) H' (H'::Hs) n' m) Q
def ZX (vs:Option (List AV))(f:FuncId)(pd:Pd)(r:List (Option RO))(ce:Ce)(F:Fr)(H:Hp)(Hs:List Hp)(n:Nat)(m:List Dm)(Q:QA):Prop:=rY vs λ vs=>GA (ce.call f vs H n) pd r ce F Hs m Q
@[simp] theorem am8 (pd:Pd)(r:List (Option RO)):ZV .fail pd r ce F H Hs n m Q=False:=propext Iff.rfl
@[simp] theorem ap1 (v:AV)(pd:Pd)(r:List (Option RO)):ZV (.val v) pd r ce F H Hs n m Q=Ev ((fR r).f ce (pd.f v F) H (H::Hs) n m) Q:=propext Iff.rfl
@[simp] theorem ap3 (v:AV)(k:br)(pd:Pd)(r:List (Option RO)):ZV (.new v k) pd r ce F H Hs n m Q=Ev ((fR r).f ce (pd.f v F) (H.put n (some k)) (H.put n (some k)::Hs) (n+1) m) Q:=propext Iff.rfl
@[simp] theorem ap2 (v:AV)(b:Nat)(k:br)(pd:Pd)(r:List (Option RO)):ZV (.upd v b k) pd r ce F H Hs n m Q=Ev ((fR r).f ce (pd.f v F) (H.put b (some k)) (H.put b (some k)::Hs) n m) Q:=propext Iff.rfl
@[simp] theorem asI (v:AV)(b:Nat)(k:br)(pd:Pd)(r:List (Option RO)):ZV (.mv v b k) pd r ce F H Hs n m Q=Ev ((fR r).f ce (pd.f v F) ((H.put b none).put n (some k)) ((H.put b none).put n (some k)::Hs) (n+1) m) Q:=propext Iff.rfl
@[simp] theorem ap7 (v:AV)(e:Eff)(c:Nat)(F0:Fr)(pd:Pd)(r:List (Option RO)):ErI (.val v) e c F0 pd r ce F H Hs n m Q=Ev ((fR r).f ce (pd.f v F) H Hs n m) Q:=propext Iff.rfl
@[simp] theorem ap8 (v:AV)(k:br)(e:Eff)(c:Nat)(F0:Fr)(pd:Pd)(r:List (Option RO)):ErI (.new v k) e c F0 pd r ce F H Hs n m Q=if iY n Hs=true then Ev ((fR r).f ce (pd.f v F) (H.put n (some k)) Hs (n+1) m) Q else False:=propext Iff.rfl
@[simp] theorem am' (e:Eff)(c:Nat)(F0:Fr)(pd:Pd)(r:List (Option RO)):ErI .fail e c F0 pd r ce F H Hs n m Q=AvI (fg e F0 n c Hs) pd r ce F H Hs n m Q:=propext Iff.rfl
@[simp] theorem aoe (v:AV)(pd:Pd)(r:List (Option RO)):AvI (some v) pd r ce F H Hs n m Q=Ev ((fR r).f ce (pd.f v F) H Hs n m) Q:=propext Iff.rfl
@[simp] theorem aqf (v:AV)(H':Hp)(n':Nat)(pd:Pd)(r:List (Option RO)):GA (.mk v H' n') pd r ce F Hs m Q=Ev ((fR r).f ce (pd.f v F) H' (H'::Hs) n' m) Q:=propext Iff.rfl
@[simp] theorem akb (vs:List AV)(f:FuncId)(pd:Pd)(r:List (Option RO)):ZX (some vs) f pd r ce F H Hs n m Q=GA (ce.call f vs H n) pd r ce F Hs m Q:=propext Iff.rfl
@[simp] theorem am3 (rs:List Nat)(pd:Pd)(e:Eff)(c:Nat)(r:List (Option RO)):Ev ((fR (oI rs pd e c::r)).f ce F H Hs n m) Q=ErI (e ((cB rs).f F) .nil n) e c ((cB rs).f F) pd r ce F H Hs n m Q:=by
 have:=ahH (ce:=ce) (F:=F) (H:=H) (Hs:=Hs) (n:=n) (m:=m) (Q:=Q) (cB rs) pd e c (fR r);refine Eq.trans this ?_;unfold EvR ErI
 cases e ((cB rs).f F) .nil n<;>rfl
def FlI (x:bb) (pd:Pd) (r:List (Option RO)) (ce:Ce) (F:Fr) (H B:Hp) (Hs:List Hp) (n:Nat) (m:List Dm) (Q:QA):Prop:=match x with
 |.upd v b k=>match B.get b with
  |some _=>Ev ((fR r).f ce (pd.f v F) (H.put b (some k)) (B.put b none::Hs) n m) Q
  |none=>False
 |_=>False
@[simp] theorem amW (v:AV)(b:Nat)(k:br)(pd:Pd)(r:List (Option RO))(B:Hp):FlI (.upd v b k) pd r ce F H B Hs n m Q=rY (B.get b) λ _=>Ev ((fR r).f ce (pd.f v F) (H.put b (some k)) (B.put b none::Hs) n m) Q:=by
 unfold FlI rY;dsimp only;cases B.get b<;>rfl
@[simp] theorem amX (pd:Pd)(r:List (Option RO))(B:Hp):FlI .fail pd r ce F H B Hs n m Q=False:=propext Iff.rfl
@[simp] theorem auU (rs:List Nat)(pd:Pd)(e:Eff)(r:List (Option RO))(B:Hp):Ev ((fR (fI rs pd e::r)).f ce F H (B::Hs) n m) Q=FlI (e ((cB rs).f F) B n) pd r ce F H B Hs n m Q:=by
 show Ev ((TX (cB rs) pd e (fR r)).f ce F H (B::Hs) n m) Q=_;simp only[TX];unfold FlI
 cases e ((cB rs).f F) B n with
 |upd v b k=>dsimp only;cases B.get b<;>rfl
 |_=>rfl
@[simp] theorem auS (rs:List Nat)(pd:Pd)(e:Eff)(r:List (Option RO)):Ev ((fR (mI rs pd e::r)).f ce F H Hs n m) Q=ZV (e ((cB rs).f F) H n) pd r ce F H Hs n m Q:=LA _ pd e (fR r)
@[simp] theorem auW (rs:List Nat)(pd:Pd)(f:FuncId)(as:List G)(r:List (Option RO)):Ev ((fR (cI rs pd f as::r)).f ce F H Hs n m) Q=ZX (evs ((cB rs).f F) as) f pd r ce F H Hs n m Q:=LC _ pd f as (fR r)
def GoI (v:Option AV)(b:Bool)(F0:Fr)(pd:Pd)(e:Eff)(c:Nat)(r:List (Option RO))(ce:Ce)(F:Fr)(H:Hp)(Hs:List Hp)(n:Nat)(m:List Dm)(Q:QA):Prop:=e_ v b (ErI (e F0 .nil n) e c F0 pd r ce F H Hs n m Q) (Ev ((fR r).f ce (pd.f (.aX []) F) H Hs n m) Q)
def GmI (v:Option AV)(b:Bool)(F0:Fr)(pd:Pd)(e:Eff)(r:List (Option RO))(ce:Ce)(F:Fr)(H:Hp)(Hs:List Hp)(n:Nat)(m:List Dm)(Q:QA):Prop:=e_ v b (ZV (e F0 H n) pd r ce F H Hs n m Q) (Ev ((fR r).f ce (pd.f (.aX []) F) H (H::Hs) n m) Q)
def GcI (v:Option AV)(b:Bool)(F0:Fr)(pd:Pd)(f:FuncId)(as:List G)(r:List (Option RO))(ce:Ce)(F:Fr)(H:Hp)(Hs:List Hp)(n:Nat)(m:List Dm)(Q:QA):Prop:=e_ v b (ZX (evs F0 as) f pd r ce F H Hs n m Q) (Ev ((fR r).f ce (pd.f (.aX []) F) H (H::Hs) n m) Q)
theorem pB {rs:RS}{g:G}{b:Bool}{yes no:KR}:Ev ((wH rs g b yes no).f ce F H Hs n m) Q=e_ (g.f (rs.f F)) b (Ev (yes.f ce F H Hs n m) Q) (Ev (no.f ce F H Hs n m) Q):=by
 simp only[wH];unfold e_
 cases g.f (rs.f F)with
 |none=>rfl
 |some v=>cases v with
  |bool x=>dsimp only;cases x == b<;>rfl
  |_=>rfl
theorem ab2 (rs:List Nat)(g:G)(b:Bool)(pd:Pd)(e:Eff)(c:Nat)(r:List (Option RO)):Ev ((fR (goI rs g b pd e c::r)).f ce F H Hs n m) Q=e_ (g.f ((cB rs).f F)) b (Ev ((fR (oI rs pd e c::r)).f ce F H Hs n m) Q) (Ev ((fR r).f ce (pd.f (.aX []) F) H Hs n m) Q):=
 pB (ce:=ce) (F:=F) (H:=H) (Hs:=Hs) (n:=n) (m:=m) (Q:=Q) (rs:=cB rs) (g:=g) (b:=b) (yes:=opR (cB rs) pd e c (fR r)) (no:=PG pd (fR r))
@[simp] theorem asB (rs:List Nat)(g:G)(b:Bool)(pd:Pd)(e:Eff)(c:Nat)(r:List (Option RO)):Ev ((fR (goI rs g b pd e c::r)).f ce F H Hs n m) Q=GoI (g.f ((cB rs).f F)) b ((cB rs).f F) pd e c r ce F H Hs n m Q:=by
 rw[ab2,am3];rfl
@[simp] theorem asC (rs:List Nat)(g:G)(b:Bool)(pd:Pd)(e:Eff)(r:List (Option RO)):Ev ((fR (gmI rs g b pd e::r)).f ce F H Hs n m) Q=GmI (g.f ((cB rs).f F)) b ((cB rs).f F) pd e r ce F H Hs n m Q:=by
 have h1:=pB (ce:=ce) (F:=F) (H:=H) (Hs:=Hs) (n:=n) (m:=m) (Q:=Q) (rs:=cB rs) (g:=g) (b:=b) (yes:=Eu (cB rs) pd e (fR r)) (no:=PH pd (fR r));rw[LA]at h1;exact h1
@[simp] theorem asE (rs:List Nat)(g:G)(b:Bool)(pd:Pd)(f:FuncId)(as:List G)(r:List (Option RO)):Ev ((fR (gcI rs g b pd f as::r)).f ce F H Hs n m) Q=GcI (g.f ((cB rs).f F)) b ((cB rs).f F) pd f as r ce F H Hs n m Q:=by
 have h1:=pB (ce:=ce) (F:=F) (H:=H) (Hs:=Hs) (n:=n) (m:=m) (Q:=Q) (rs:=cB rs) (g:=g) (b:=b) (yes:=aif (cB rs) pd f as (fR r)) (no:=PH pd (fR r));rw[LC]at h1;exact h1
@[simp] theorem auD (F0:Fr)(pd:Pd)(e:Eff)(c:Nat)(r:List (Option RO)):GoI (some (.bool true)) true F0 pd e c r ce F H Hs n m Q=ErI (e F0 .nil n) e c F0 pd r ce F H Hs n m Q:=propext Iff.rfl
@[simp] theorem auE (F0:Fr)(pd:Pd)(e:Eff)(c:Nat)(r:List (Option RO)):GoI (some (.bool false)) true F0 pd e c r ce F H Hs n m Q=Ev ((fR r).f ce (pd.f (.aX []) F) H Hs n m) Q:=propext Iff.rfl
@[simp] theorem ash (F0:Fr)(pd:Pd)(e:Eff)(c:Nat)(r:List (Option RO)):GoI (some (.bool true)) false F0 pd e c r ce F H Hs n m Q=Ev ((fR r).f ce (pd.f (.aX []) F) H Hs n m) Q:=propext Iff.rfl
@[simp] theorem asi (F0:Fr)(pd:Pd)(e:Eff)(c:Nat)(r:List (Option RO)):GoI (some (.bool false)) false F0 pd e c r ce F H Hs n m Q=ErI (e F0 .nil n) e c F0 pd r ce F H Hs n m Q:=propext Iff.rfl
@[simp] theorem apO (l:List AV)(b:Bool)(F0:Fr)(pd:Pd)(e:Eff)(c:Nat)(r:List (Option RO)):GoI (some (.aX l)) b F0 pd e c r ce F H Hs n m Q=Ev ((fR r).f ce (pd.f (.aX []) F) H Hs n m) Q:=propext Iff.rfl
@[simp] theorem asj (F0:Fr)(pd:Pd)(e:Eff)(r:List (Option RO)):GmI (some (.bool true)) false F0 pd e r ce F H Hs n m Q=Ev ((fR r).f ce (pd.f (.aX []) F) H (H::Hs) n m) Q:=propext Iff.rfl
@[simp] theorem asl (F0:Fr)(pd:Pd)(e:Eff)(r:List (Option RO)):GmI (some (.bool false)) false F0 pd e r ce F H Hs n m Q=ZV (e F0 H n) pd r ce F H Hs n m Q:=propext Iff.rfl
@[simp] theorem asn (F0:Fr)(pd:Pd)(f:FuncId)(as:List G)(r:List (Option RO)):GcI (some (.bool true)) false F0 pd f as r ce F H Hs n m Q=Ev ((fR r).f ce (pd.f (.aX []) F) H (H::Hs) n m) Q:=propext Iff.rfl
@[simp] theorem aso (F0:Fr)(pd:Pd)(f:FuncId)(as:List G)(r:List (Option RO)):GcI (some (.bool false)) false F0 pd f as r ce F H Hs n m Q=ZX (evs F0 as) f pd r ce F H Hs n m Q:=propext Iff.rfl
@[simp] theorem auF (F0:Fr)(pd:Pd)(e:Eff)(r:List (Option RO)):GmI (some (.bool true)) true F0 pd e r ce F H Hs n m Q=ZV (e F0 H n) pd r ce F H Hs n m Q:=propext Iff.rfl
@[simp] theorem auG (F0:Fr)(pd:Pd)(e:Eff)(r:List (Option RO)):GmI (some (.bool false)) true F0 pd e r ce F H Hs n m Q=Ev ((fR r).f ce (pd.f (.aX []) F) H (H::Hs) n m) Q:=propext Iff.rfl
@[simp] theorem auH (F0:Fr)(pd:Pd)(f:FuncId)(as:List G)(r:List (Option RO)):GcI (some (.bool true)) true F0 pd f as r ce F H Hs n m Q=ZX (evs F0 as) f pd r ce F H Hs n m Q:=propext Iff.rfl
@[simp] theorem auI (F0:Fr)(pd:Pd)(f:FuncId)(as:List G)(r:List (Option RO)):GcI (some (.bool false)) true F0 pd f as r ce F H Hs n m Q=Ev ((fR r).f ce (pd.f (.aX []) F) H (H::Hs) n m) Q:=propext Iff.rfl
end
end Go.Abs
namespace Go.Abs
open List
section
variable {φ:Ph}{D:Da}{w:World}{n:Nat}
def FI (h:Hf)(v v':AV):Prop:=v=v'∨eY h v v'
def BZ (h:Hf)(y0 y:br):Prop:=y0=y∨∃u z bs t l,y0=.cells u z bs t/\y=.cells u [] l .nil/\l.length=u/\∀(i:Nat) v',l[i]?=some v'->∃v,gz u z bs t i=some v/\FI h v v'
structure ez (h:Hf)(F:Fr)(H:Hp)(F2:Fr)(H2:Hp):Prop where
 sub:∀b k,h b=some k->H.get b=some k
 gone:∀b,h b≠none->H2.get b=none
 fr:∀(t:Nat) v,F2.get t=some v->∃u,F.get t=some u/\FI h u v
 hp:∀b y,H2.get b=some y->∃y0,H.get b=some y0/\BZ h y0 y
theorem ez.refl (F:Fr)(H:Hp):ez (λ _=>none) F H F H:=
 ⟨λ b k h=>by simp at h,λ b h=>ai rfl h,λ t v h=>⟨v,h,.inl rfl⟩,λ b y h=>⟨y,h,.inl rfl⟩⟩
theorem Rel.sub {h h':Hf}(hr:Rel φ D h w)(hs:∀b k,h' b=some k->h b=some k):Rel φ D h' w:=by
 have ne:∀b,h' b≠none->h b≠none:=λ b hb=>by
  cases hx:h' b with
  |none=>exact ai hx hb
  |some k=>rw[hs b k hx];simp
 exact⟨λ b k hb=>hr.blk b k (hs b k hb),λ b c p q hb hc=>hr.inj b c p q (ne b hb) (ne c hc),λ b p hb=>hr.sep b p (ne b hb),hr.ep⟩
theorem FI.vr {h:Hf}(hr:Rel φ D h w){v v':AV}{x:Value}(hf:FI h v v')(hx:VR φ D v x):VR φ (shut φ D h w) v' x:=by
 rcases hf with rfl|hf
 ·exact hx.mono (λ _ _ h=>h) eP
 exact(hf.vr hr hx).mono (λ b p hb=>by simp[lF]at hb) (λ _ _ h=>h)
theorem BZ.acb {h:Hf}(hr:Rel φ D h w){y0 y:br}(hz:BZ h y0 y) {p}(hb:iQ φ D w p y0):iQ φ (shut φ D h w) w p y:=by
 rcases hz with rfl|⟨u,z,bs,t,l,rfl,rfl,hl,hz⟩
 ·exact hb.mono (λ _ _ h=>h) eP rfl
 obtain⟨c,e,fr,h1,h2,h3,h4,h5,h6⟩:=hb;refine⟨c,e,fr,h1,h2,h3,λ i v hv=>?_,λ _ _=>hl,h6⟩;rw[jc]at hv
 split at hv
 ·skip
  obtain⟨v0,h7,h8⟩:=hz i v hv;obtain⟨x,h9,h10⟩:=h4 i v0 h7;exact⟨x,h9,h8.vr hr h10⟩
 cases hv
theorem oR {h:Hf}{p:Nat×Nat×Nat}(hb:D p.1=none)(hn:∀b' p',h b'≠none->φ b'=some p'->p'.1≠p.1):shut φ D h w p.1=none:=by
 unfold shut;rw[hb];dsimp only;rw[ah];rintro⟨b',p',h1,h2,h3⟩;exact hn b' p' h1 h2 h3
theorem vM {h:Hf}{c:Nat}(hc:shut φ D h w c≠none):D c≠none∨∃b p,h b≠none/\φ b=some p/\p.1=c:=by
 unfold shut at hc
 split at hc
 ·rename_i x hx;exact .inl (by rw[hx];simp)
 split at hc
 ·rename_i hh;exact .inr hh
 exact ai rfl hc
theorem ez.rel {h:Hf}{F F2:Fr}{H H2:Hp}(s:ez h F H F2 H2)(hr:Rel φ D H.get w):Rel φ (shut φ D h w) H2.get w:=by
 have hs:=hr.sub s.sub
 have ne:∀b,H2.get b≠none->H.get b≠none:=λ b hb=>by
  cases hx:H2.get b with
  |none=>exact ai hx hb
  |some k=>obtain⟨y0,h0,_⟩:=s.hp b k hx;rw[h0];simp
 have neh:∀b,h b≠none->H.get b≠none:=λ b hb=>by
  cases hx:h b with
  |none=>exact ai hx hb
  |some k=>rw[s.sub b k hx];simp
 refine⟨λ b k hb=>?_,λ b c p q hb hc=>hr.inj b c p q (ne b hb) (ne c hc),λ b p hb hp=>?_,lI hr.ep⟩
 ·obtain⟨y0,h0,hz⟩:=s.hp b k hb;obtain⟨p,hp,hl,hk⟩:=hr.blk b y0 h0;exact⟨p,hp,hl,hz.acb hs hk⟩
 refine oR (hr.sep b p (ne b hb) hp) λ b' p' h1 h2 h3=>?_;have:=hr.inj b' b p' p (neh b' h1) (ne b hb) h2 hp h3;subst this;exact hb (s.gone b' h1)
theorem ez.ext {h:Hf}{F F2:Fr}{H H2:Hp}(s:ez h F H F2 H2):Ext φ D H.get w n φ (shut φ D h w) H2.get w n:=by
 have ne:∀b,H2.get b≠none->H.get b≠none:=λ b hb=>by
  cases hx:H2.get b with
  |none=>exact ai hx hb
  |some k=>obtain⟨y0,h0,_⟩:=s.hp b k hx;rw[h0];simp
 have neh:∀b,h b≠none->H.get b≠none:=λ b hb=>by
  cases hx:h b with
  |none=>exact ai hx hb
  |some k=>rw[s.sub b k hx];simp
 refine⟨aP _,λ _ _ h=>h,λ b a c=>ai a c,eP,aP _,λ _ _ _=>rfl,λ b p hb hp=>.inr ⟨b,p,ne b hb,hp,rfl⟩,λ c hc=>?_,λ b hb=>.inl (ne b hb),rfl,rfl⟩
 rcases vM hc with h1|⟨b,p,h1,h2,h3⟩
 ·exact .inl h1
 exact .inr (.inr ⟨b,p,neh b h1,h2,h3⟩)
theorem ez.st {h:Hf}{nt:Nat}{m:List Dm}{a:Act}{F F2:Fr}{H H2:Hp}(s:ez h F H F2 H2)(st:St nt φ D F H m a w):St nt φ (shut φ D h w) F2 H2 m a w:=
 ⟨s.rel st.rel,⟨λ t v hv=>by
  obtain⟨u,h1,h2⟩:=s.fr t v hv;obtain⟨x,h3,h4⟩:=st.fr.1 t u h1;exact⟨x,h3,h2.vr (st.rel.sub s.sub) h4⟩,st.fr.2.mono eP⟩,st.sz,st.uy.mono (λ _ _ h=>h) eP⟩
def Zs (I:Nat->Fr->Hp->Nat->List Dm->Prop)(k:Nat)(F:Fr)(H:Hp)(n:Nat)(m:List Dm):Prop:=∃h F2 H2,ez h F H F2 H2/\I k F2 H2 n m
theorem Zs.refl {I:Nat->Fr->Hp->Nat->List Dm->Prop}{k:Nat}{F:Fr}{H:Hp}{m:List Dm}(h:I k F H n m):Zs I k F H n m:=⟨_,F,H,ez.refl F H,h⟩
end
end Go.Abs
namespace Go.Abs
open List
def FrA (φ:Ph)(n:Nat):Prop:=∀b,n<=b->φ b=none
theorem FrA.fresh {φ:Ph}{n:Nat}(h:FrA φ n)(k:Nat):bW φ n k:=λ b hb _=>h b hb
theorem FrA.step {φ D h w n φ' D' h' w' n'}(hf:FrA φ n)(e:Ext φ D h w n φ' D' h' w' n'):FrA φ' n':=by
 intro b hb
 cases hx:φ' b with
 |none=>rfl
 |some p=>have:=e.new b (hf b (uo e.le hb)) (by rw[hx];simp);omega
section
variable {P:Program}
def aj (P:Program) (g:FuncId) (args:List AV) (H:Hp) (n:Nat) (R:AV->Hp->Nat->Prop):Prop:=
 (∃ fn b, P.funcs[g]? = some fn ∧ fn.body = some b ∧ (fn.name == "runtime.NumGoroutine") = false) ∧
  ∀ φ D w xs,Rel φ D H.get w->bO φ D args xs->FrA φ n->∀RR:Ending->World->Prop,
   (∀v H' n' φ' D' w' x,R v H' n'->Ext φ D H.get w n φ' D' H'.get w' n'->Rel φ' D' H'.get w'->VR φ' D' v x->RR (.returned x) w')->CallsIn Fence.wide 0 P g ⟨xs⟩ w RR
theorem aj.mono {g:FuncId}{args:List AV}{H:Hp}{n:Nat}{R S:AV->Hp->Nat->Prop}(h:aj P g args H n R)(hs:∀v H' n',R v H' n'->S v H' n'):aj P g args H n S:=
 ⟨h.1,λ φ D w xs a b c RR hR=>h.2 φ D w xs a b c RR λ v H' n' φ' D' w' x r=>hR v H' n' φ' D' w' x (hs _ _ _ r)⟩
theorem bc.jE {g:FuncId}{args:List AV}{H:Hp}{n:Nat}{v:AV}{H':Hp}{n':Nat}(h:bc P g args H n v H' n'):aj P g args H n (λ u K k=>u=v/\K=H'/\k=n'):=
 ⟨h.1,λ φ D w xs a b c RR hR=>h.2.2 φ D w xs a b (c.fresh _) RR λ φ' D' w' x e r k=>hR v H' n' φ' D' w' x ⟨rfl,rfl,rfl⟩ e r k⟩
def Wp (nt:Nat)(run:QT->Act->World->Prop)(F:Fr)(H:Hp)(n:Nat)(m:List Dm)(Q:QA):Prop:=
 ∀ φ D a w,St nt φ D F H m a w->FrA φ n->∀QQ:QT,(∀o F' H' n' m' φ' D' a' w' px,Q o F' H' n' m'->Ext φ D H.get w n φ' D' H'.get w' n'->St nt φ' D' F' H' m' a' w'->yz φ' D' px o->QQ (iG px o) a' w')->run QQ a w
theorem Wp.shut {nt:Nat}{run:QT->Act->World->Prop}{h:Hf}{F F2:Fr}{H H2:Hp}{n:Nat}{m:List Dm}{Q:QA}(s:ez h F H F2 H2)(hw:Wp nt run F2 H2 n m Q):Wp nt run F H n m Q:=
 λ φ _D a w st hf QQ hQ=>hw φ _ a w (s.st st) hf QQ λ o F' H' n' m' φ' D' a' w' px q e=>hQ o F' H' n' m' φ' D' a' w' px q (s.ext.trans e)
def Gz (P:Program)(nt:Nat)(c:Code)(F:Fr)(H:Hp)(n:Nat)(Q:QA):Prop:=∀cb:Nat,Wp nt (λ QQ a w=>c.wpIn (FW (some cb)) 0 P QQ a w) F H n [] Q
def IB (q:Nat)(R:AV->Hp->Nat->Prop)(j:nz)(H3:Hp)(n3:Nat):Prop:=∃st nt G ps a b j0,H3.get q=some (.loop st j0 nt G ps a b)/\match j with
 |.normal=>R (.bool true) (H3.put q (some (.loop .ready .normal nt G ps a b))) n3
 |.exit i=>R (.bool false) (H3.put q (some (.loop .done (.exit i) nt G ps a b))) n3
 |.ret=>R (.bool false) (H3.put q (some (.loop .done .ret nt G ps a b))) n3
 |.panic _=>False
def yx (P:Program) (q:Nat) (vs:List AV) (H:Hp) (n:Nat) (R:AV->Hp->Nat->Prop):Prop:=∃st j nt F0 ps a b F1,H.get q=some (.loop st j nt F0 ps a b)/\nK nt ps vs F0=some F1 /\
 Gz P nt a F1 H n λ o F2 H2 n2 m2=>o=.normal/\m2=[]/\∃j2 Hh G2 ps2 a2 b2,H2.get q=some (.loop .ready j2 Hh G2 ps2 a2 b2) /\
  Gz P nt b F2 (H2.put q (some (.loop .busy j2 Hh G2 ps2 a2 b2))) n2 λ j3 _ H3 n3 _=>IB q R j3 H3 n3
def Qv (n:Nat)(F:Fr)(m:List Dm)(Q:QA)(H':Hp)(n':Nat):Prop:=∃st j nt G ps a b,H'.get n=some (.loop st j nt G ps a b)/\st≠.busy/\(∀v,j≠.panic v)/\Q j F (H'.put n none) n' (.dT (Nat.succ n)::m)
def fj (P:Program):List (Option GO)->Fr->Hp->Nat->List Dm->QA->Prop
 |[],F,H,n,m,Q=>Q .normal F H n m
 |none::_,_,_,_,_,_=>False
 |some ⟨none,pd,.eff e⟩::r,F,H,n,m,Q=>zO (e F H n) H n λ v H' n'=>fj P r (pd.f v F) H' n' m Q
 |some ⟨none,pd,.call g as⟩::r,F,H,n,m,Q=>(∃f first cap vs,g.f F=some (.fn (.func f) first cap)/\evs F as=some vs/\aj P f (first++(vs++cap)) H n λ v H' n'=>fj P r (pd.f v F) H' n' m Q) ∨
  (∃q vs,g.f F=some (.jv q)/\evs F as=some vs/\yx P q vs H n λ v H' n'=>fj P r (pd.f v F) H' n' m Q)
 |some ⟨none,_,.bad⟩::_,_,_,_,_,_=>False
 |some ⟨none,_,.jd _⟩::_,_,_,_,_,_=>False
 |some ⟨none,_,.raw _⟩::_,_,_,_,_,_=>False
 |some ⟨some (g,b),pd,.eff e⟩::r,F,H,n,m,Q=>e_ (g.f F) b (zO (e F H n) H n λ v H' n'=>fj P r (pd.f v F) H' n' m Q) (fj P r (pd.f (.aX []) F) H n m Q)
 |some ⟨some (g,b),pd,.call h as⟩::r,F,H,n,m,Q=>e_ (g.f F) b ((∃f first cap vs,h.f F=some (.fn (.func f) first cap)/\evs F as=some vs/\aj P f (first++(vs++cap)) H n λ v H' n'=>fj P r (pd.f v F) H' n' m Q) ∨
  (∃q vs,h.f F=some (.jv q)/\evs F as=some vs/\yx P q vs H n λ v H' n'=>fj P r (pd.f v F) H' n' m Q)) (fj P r (pd.f (.aX []) F) H n m Q)
 |some ⟨some (g,b),pd,.bad⟩::r,F,H,n,m,Q=>e_ (g.f F) b False (fj P r (pd.f (.aX []) F) H n m Q)
 |some ⟨some (g,b),pd,.jd _⟩::r,F,H,n,m,Q=>e_ (g.f F) b False (fj P r (pd.f (.aX []) F) H n m Q)
 |some ⟨some (g,b),pd,.raw _⟩::r,F,H,n,m,Q=>e_ (g.f F) b False (fj P r (pd.f (.aX []) F) H n m Q)
def VC (P:Program):CT->Fr->Hp->Nat->List Dm->QA->Prop
 |.mc l,F,H,n,m,Q=>fj P l F H n m Q
 |.fb ds l,F,H,n,m,Q=>∃ce h F2 H2,gX P ce/\ez h F H F2 H2/\Ev ((Fj ds (fR l)).f ce F2 H2 n m) Q
 |.seq a b,F,H,n,m,Q=>VC P a F H n m λ o F' H' n' m'=>match o with
  |.normal=>VC P b F' H' n' m' Q
  |.exit i=>Q (.exit i) F' H' n' m'
  |.ret=>Q .ret F' H' n' m'
  |.panic _=>False
 |.cond g a b,F,H,n,m,Q=>oM (g.f F) (VC P a F H n m Q) (VC P b F H n m Q)
 |.block i b,F,H,n,m,Q=>VC P b F H n m (fy i Q)
 |.loop b,F,H,n,m,Q=>∃(I J:Nat->Fr->Hp->Nat->List Dm->Prop) (k:Nat),J k F H n m/\(∀k F H n m,J k F H n m->Zs I k F H n m)/\∀k F H n m,I k F H n m->VC P b F H n m (uE J k Q)
 |.exit i,F,H,n,m,Q=>Q (.exit i) F H n m
 |.ret,F,H,n,m,Q=>Q .ret F H n m
 |.skip,F,H,n,m,Q=>Q .normal F H n m
 |.range nt g ps a b,F,H,n,m,Q=>∃f first cap,g.f F=some (.fn (.func f) first cap) /\
  aj P f (first++(.jv n::cap)) ((H.put (Nat.succ n) (some .jX)).put n (some (.loop .ready .normal nt F ps a b))) (Nat.succ (Nat.succ n)) λ _ H' n'=>Qv n F m Q H' n'
 |.bad,_,_,_,_,_=>False
 |.raw k,F,H,n,m,Q=>∃ce,gX P ce/\Ev (k.f ce F H n m) Q
variable {nt:Nat}{ops:Array Oper}{r:Option Nat}
theorem tJ {run:QT->Act->World->Prop}{f:Fr->Hp->Nat->List Dm->Mc}(hs:Sound nt run f){F:Fr}{H:Hp}{n:Nat}{m:List Dm}{Q:QA}(h:Ev (f F H n m) Q):Wp nt run F H n m Q:=by
 obtain⟨o,F',H',n',m',h1,h2⟩:=ahG h;obtain⟨hn,hk⟩:=hs _ _ _ _ _ _ _ _ _ h1;exact λ φ D a w st hf QQ hQ=>hk φ D a w st (hf.fresh _) QQ λ φ' D' a' w' px e s pp=>hQ o F' H' n' m' φ' D' a' w' px h2 e s pp
theorem QN {rest:List Nat}{o:Oper}{e:Eff}{pd:Pd}{F:Fr}{H:Hp}{n:Nat}{m:List Dm}{Q:QA}{X:Fr->Hp->Nat->Prop}(he:bC P o e)(hq:oV o.op=true)(j7:yy nt o.dst pd)
  (hnext:∀F H n,X F H n->Wp nt (λ QQ a w=>wpOpsIn (FW r) 0 P ops QQ rest a w) F H n m Q)(h:zO (e F H n) H n λ v H' n'=>X (pd.f v F) H' n'):
  Wp nt (λ QQ a w=>o.wpIn (FW r) 0 P a w (wpOpsIn (FW r) 0 P ops QQ rest) QQ) F H n m Q:=by
 intro φ D a w st hf QQ hQ
 have key:∀(v:AV) (H1:Hp) (n1:Nat) (rr:bb),e F H n=rr->rr≠.fail->Pm rr=v->uw rr H.get n=H1.get->sB rr n=n1->X (pd.f v F) H1 n1 ->
   o.wpIn (FW r) 0 P a w (wpOpsIn (FW r) 0 P ops QQ rest) QQ:=by
  intro v H1 n1 rr her hne hv hH hn hX;have hd:=he F H n φ D a w st.rel st.fr (by rw[her];exact hf.fresh _) (by rw[her];exact hne);rw[her]at hd;obtain⟨nx,cv,φ1,w1,hrun,hnx,aS,hrel,fD⟩:=hd;rw[hH]at aS hrel;rw[hn]at aS;rw[hv]at fD;have hfr:=j7 v F φ1 D a cv (st.fr.mono aS.phi (λ _ _ h=>h)) st.sz fD;have gw:St nt φ1 D (pd.f v F) H1 m (a.put o.dst cv) w1:=⟨hrel,hfr.1,hfr.2,by rw[put_defers];exact st.uy.mono aS.phi aS.ep⟩;have hgo:=hnext _ _ _ hX φ1 D (a.put o.dst cv) w1 gw (hf.step aS) QQ λ o F' H' n' m' φ' D' a' w' px q hx hst' pp=>hQ o F' H' n' m' φ' D' a' w' px q (aS.trans hx) hst' pp;refine⟨λ _ _=>trivial,?_⟩;rw[dQ hq,hrun]
  cases hnx with
  |value=>exact hgo
  |skip=>exact hgo
 cases her:e F H n with
 |fail=>rw[her]at h;exact ai h id
 |val v=>rw[her]at h;exact key v H n _ her (by simp) rfl rfl rfl h
 |new v k=>rw[her]at h;exact key v _ _ _ her (by simp) rfl (nM ..) rfl h
 |upd v b k=>rw[her]at h;exact key v _ _ _ her (by simp) rfl (lM ..) rfl h
 |mv v b k=>rw[her]at h;exact key v _ _ _ her (by simp) rfl (rm ..) rfl h
theorem GM {q:Nat}{vs:List AV}{H:Hp}{n:Nat}{R:AV->Hp->Nat->Prop}(h:yx P q vs H n R)(o:Oper)(c:Call)(φ:Ph)(D:Da)(a:Act)(w:World)(x:Operand)(ho:o.op=.call c)(hc:c.callee=.value x)(hyl:VR φ D (.jv q) (a.eval x))(hargs:bO φ D vs (c.args.toList.map a.eval))(hrel:Rel φ D H.get w)(hf:FrA φ n)(K:Act->World->Prop)(Q:QT)
  (hK:∀v H' n' φ' D' w' cv,R v H' n'->Ext φ D H.get w n φ' D' H'.get w' n'->Rel φ' D' H'.get w'->VR φ' D' v cv->K (a.put o.dst cv) w'):o.wpIn (FW r) 0 P a w K Q:=by
 obtain⟨st0,j0,nt,F0,ps,ca,cb',F1,hq0,hF1,h1⟩:=h;refine⟨λ _ _=>trivial,?_⟩;generalize hxv:a.eval x=xv at hyl
 cases hyl with
 |jv _ cb co cz hp =>
 obtain⟨_,rr,hr1,hr2,hr3,hr4,hr5,hr6,hr7,hr8⟩:=hrel.block hq0 hp;have hr1:w.heap[cb]?=some (.loop rr):=hr1;obtain⟨p1,p2,p3⟩:=vU ps vs _ F0 F1 rr.tmps hF1 hargs hr5 hr4
 have hsz:(c.args.map a.eval).size=rr.params.size:=by
  have e1:rr.params.size=ps.length:=by rw[<-hr6];simp
  rw[e1,p1];simp
 have hrun:(o.semAt (FW r).round a.eval).run P w=.ok (.round cb rr.fn ((rr.params.zip (c.args.map a.eval)).foldl (λ tmps (t,a)=>tmps.setIfInBounds t a) rr.tmps) rr.assign rr.body) w:=by
  rw[dQ (by rw[ho];rfl)];have hy:=run_yield (P:=P) (args:=(#[]:Array Value)++Array.map a.eval c.args) hr1 (by simpa using hsz);simp only[execOp,ho,resolve,hc,hxv,Deferred.ofValue,bM,cD,bJ,invoke,hy];simp
 have hfold:(rr.params.zip (c.args.map a.eval)).foldl (λ tmps (t,a)=>tmps.setIfInBounds t a) rr.tmps=((ps.zip (c.args.toList.map a.eval)).foldl (λ t (x:Nat×Value)=>t.setIfInBounds x.1 x.2) rr.tmps):=by
  rw[<-Array.foldl_toList,Array.toList_zip,hr6];simp
 rw[hrun,hfold,hr7,hr8];refine⟨λ h=>by simp[FW]at h,roundIn_of_wpIn trivial ?_⟩;refine h1 cb φ D {tmps:=_,defers:=[]} w ⟨hrel,p2,p3,rfl⟩ hf _ λ o1 F2 H2 n2 m2 φ1 D1 a1 w1 px hq1 e1 st1 pp=>?_;obtain⟨rfl,rfl,j2,Hh,G2,ps2,a2,b2,hq2,h2⟩:=hq1;have hp1:=e1.phi _ _ hp;obtain⟨hlt2,r2,HA,ahl,ahk,ahj,ahi,ahh,ahg,ahf⟩:=st1.rel.block hq2 hp1;have HA:w1.heap[cb]?=some (.loop r2):=HA;have hlt2:cb<w1.heap.size:=hlt2;refine⟨_,run_beginRound (P:=P) HA ahl,?_⟩;obtain⟨k1,k2⟩:=lL (n:=n2) (rr:={r2 with state:=.busy}) (k:=.loop .busy j2 Hh G2 ps2 a2 b2) st1.rel (by rw[hq2];simp) hp1 ⟨_,Go.World.putObj_heap_same hlt2,rfl,ahk,ahj,ahi,ahh,ahg,ahf⟩;refine h2 cb φ1 D1 a1 _ ⟨k1,st1.fr,st1.sz,st1.uy⟩ ((hf.step e1).step k2) _ λ j3 F3 H3 n3 m3 φ2 D2 a2' w2 px e2 ab1 st2 pp=>?_;obtain⟨st3,GH,G3,GF,a3,b3,jj,hq3,hR⟩:=e2;have hp2:=ab1.phi _ _ hp1;obtain⟨hlt3,r3,AH,arG,arF,TK,TJ,TI,TG,TF⟩:=st2.rel.block hq3 hp2;have AH:w2.heap[cb]?=some (.loop r3):=AH;have hlt3:cb<w2.heap.size:=hlt3
 cases j3 with
 |normal =>
  have hend:=run_endRound (P:=P) (gu (.normal)) AH;obtain⟨k3,k4⟩:=lL (n:=n3) (rr:={r3 with state:=.ready,pending:=gu (.normal)}) (k:=.loop .ready (.normal) GH G3 GF a3 b3) st2.rel (by rw[hq3];simp) hp2 ⟨_,Go.World.putObj_heap_same hlt3,rfl,rfl,TK,TJ,TI,TG,TF⟩;exact⟨_,_,hend,hK _ _ _ φ2 D2 _ (.bool true) hR (((e1.trans k2).trans ab1).trans k4) k3 (.bool _)⟩
 |exit i =>
  have hend:=run_endRound (P:=P) (gu (.exit i)) AH;obtain⟨k3,k4⟩:=lL (n:=n3) (rr:={r3 with state:=.done,pending:=gu (.exit i)}) (k:=.loop .done (.exit i) GH G3 GF a3 b3) st2.rel (by rw[hq3];simp) hp2 ⟨_,Go.World.putObj_heap_same hlt3,rfl,rfl,TK,TJ,TI,TG,TF⟩;exact⟨_,_,hend,hK _ _ _ φ2 D2 _ (.bool false) hR (((e1.trans k2).trans ab1).trans k4) k3 (.bool _)⟩
 |ret =>
  have hend:=run_endRound (P:=P) (gu (.ret)) AH;obtain⟨k3,k4⟩:=lL (n:=n3) (rr:={r3 with state:=.done,pending:=gu (.ret)}) (k:=.loop .done (.ret) GH G3 GF a3 b3) st2.rel (by rw[hq3];simp) hp2 ⟨_,Go.World.putObj_heap_same hlt3,rfl,rfl,TK,TJ,TI,TG,TF⟩;exact⟨_,_,hend,hK _ _ _ φ2 D2 _ (.bool false) hR (((e1.trans k2).trans ab1).trans k4) k3 (.bool _)⟩
 |panic v=>exact ai hR id
theorem J9 {rest:List Nat}{o:Oper}{c:Call}{g:G}{as:List G}{pd:Pd}{F:Fr}{H:Hp}{n:Nat}{m:List Dm}{Q:QA}{X:Fr->Hp->Nat->Prop}(ho:o.op=.call c)(hg:rV P c g)(has:iS c.args.toList=some as)(j7:yy nt o.dst pd)
  (hnext:∀F H n,X F H n->Wp nt (λ QQ a w=>wpOpsIn (FW r) 0 P ops QQ rest a w) F H n m Q)
  (h:(∃f first cap vs,g.f F=some (.fn (.func f) first cap)/\evs F as=some vs/\aj P f (first++(vs++cap)) H n λ v H' n'=>X (pd.f v F) H' n')∨(∃q vs,g.f F=some (.jv q)/\evs F as=some vs/\yx P q vs H n λ v H' n'=>X (pd.f v F) H' n')):
  Wp nt (λ QQ a w=>o.wpIn (FW r) 0 P a w (wpOpsIn (FW r) 0 P ops QQ rest) QQ) F H n m Q:=by
 intro φ D a w st hf QQ hQ
 cases h with
 |inr h =>
  obtain⟨q,vs,hgv,hev,hy⟩:=h;obtain⟨x,hx1,hx2⟩:=hg.jv a F φ D q st.fr hgv;refine GM hy o c φ D a w x ho hx1 hx2 (dh has F φ D a st.fr vs hev) st.rel hf _ _ λ v H' n' φ1 D1 w1 cv hX aS hrel fD=>?_;have hfr:=j7 v F φ1 D1 a cv (st.fr.mono aS.phi aS.ep) st.sz fD;exact hnext _ _ _ hX φ1 D1 (a.put o.dst cv) w1 ⟨hrel,hfr.1,hfr.2,by rw[put_defers];exact st.uy.mono aS.phi aS.ep⟩ (hf.step aS) QQ λ o F' H' n' m' φ' D' a' w' px q hx hst' pp=>hQ o F' H' n' m' φ' D' a' w' px q (aS.trans hx) hst' pp
 |inl h =>
  obtain⟨f,first,cap,vs,hgv,hev,⟨fn,b,hfn,hb,hname⟩,hcs⟩:=h;refine⟨λ _ _=>trivial,?_⟩;obtain⟨fl,cl,h1,h2,hrun0⟩:=hg.fn o a F φ D f first cap ho st.fr hgv;have h3:=dh has F φ D a st.fr vs hev
  have hrun:(o.semAt (FW r).round a.eval).run P w=.ok (.enter f ⟨fl++(c.args.toList.map a.eval++cl)⟩) w:=by
   rw[dQ (by rw[ho];rfl)];exact hrun0 fn b w hfn hname hb
  rw[hrun];refine⟨λ h=>by simp[FW]at h,jg (hcs φ D w _ st.rel (h1.append (h3.append h2)) hf _ λ v H' n' φ1 D1 w1 cv hX aS hrel fD=>?_)⟩;have hfr:=j7 v F φ1 D1 a cv (st.fr.mono aS.phi aS.ep) st.sz fD;exact hnext _ _ _ hX φ1 D1 (a.put o.dst cv) w1 ⟨hrel,hfr.1,hfr.2,by rw[put_defers];exact st.uy.mono aS.phi aS.ep⟩ (hf.step aS) QQ λ o F' H' n' m' φ' D' a' w' px q hx hst' pp=>hQ o F' H' n' m' φ' D' a' w' px q (aS.trans hx) hst' pp
theorem wp_skip {rest:List Nat}{o:Oper}{pd:Pd}{F:Fr}{H:Hp}{n:Nat}{m:List Dm}{Q:QA}(j7:yy nt o.dst pd)(h:Wp nt (λ QQ a w=>wpOpsIn (FW r) 0 P ops QQ rest a w) (pd.f (.aX []) F) H n m Q):
  Wp nt (λ QQ a w=>wpOpsIn (FW r) 0 P ops QQ rest (a.put o.dst undef) w) F H n m Q:=by
 intro φ D a w st hf QQ hQ;have hfr:=j7 (.aX []) F φ D a undef st.fr st.sz (.aX _ _ .nil);exact h φ D (a.put o.dst undef) w ⟨st.rel,hfr.1,hfr.2,by rw[put_defers];exact st.uy⟩ hf QQ hQ
theorem zd {o:Oper}{g:G}{as:List G}(h:yh P o=.call g as):∃c,o.op=.call c/\rV P c g/\iS c.args.toList=some as:=by
 unfold yh at h
 split at h
 ·rename_i f args tys ho
  split at h
  ·cases h
  split at h
  ·rename_i g' as' h1 h2;injection h with a b;subst a b;exact⟨_,ho,.value rfl h1,h2⟩
  cases h
 ·rename_i f name args tys ho
  split at h
  ·rename_i g' as' h1 h2;injection h with a b;subst a b;exact⟨_,ho,.invoke rfl h1,h2⟩
  cases h
 ·split at h<;>cases h
 ·split at h<;>cases h
 split at h<;>cases h
theorem ED {o:Oper}{e:Eff}(h:yh P o=.eff e):dJ P o=some e:=by
 unfold yh at h
 split at h
 ·split at h
  ·rename_i h1;injection h with h;subst h;exact h1
  split at h<;>cases h
 ·split at h<;>cases h
 ·split at h<;>cases h
 ·split at h<;>cases h
 split at h
 ·rename_i h1;injection h with h;subst h;exact h1
 cases h
theorem tell {F:Fr}{φ:Ph}{D:Da}{a:Act}{j d:Nat}(hd:(ops[j]?).bind (·.dst)=some d)(hF:FR φ D F.get a.tmps){v:AV}(hv:F.get d=some v):(∀c,v=.bool c->yielded ops a.tmps j=some c)/\((∀c,v≠.bool c)->yielded ops a.tmps j=none):=by
 obtain⟨x,hx,tU⟩:=hF.1 d v hv;unfold yielded;rw[hd];simp only[Option.bind_some,hx];refine⟨λ c hc=>?_,λ hc=>?_⟩
 ·subst hc;cases tU;rfl
 cases x<;>first|rfl|exact ai (zS tU) (hc _)
theorem yD : ∀ (l : List Oper) (i:Nat) (F:Fr) (H:Hp) (n:Nat) (m:List Dm) (Q:QA),ops.toList.drop i=l->fj P (l.map (uB P nt ops)) F H n m Q ->
  Wp nt (λ QQ a w=>wpOpsIn (FW r) 0 P ops QQ (range' i l.length) a w) F H n m Q
 |[],i,F,H,n,m,Q,_,h=>λ φ D a w st hf QQ hQ=>hQ .normal F H n m φ D a w undef h (Ext.refl ..) st trivial
 |o :: l, i, F, H,n,m,Q,hl,h=>by
  have hi:ops[i]?=some o:=by
   have:=congrArg (λ(x:List Oper)=>x[0]?) hl;simpa[iV]using this
  have hl':ops.toList.drop (i+1)=l:=by
   have:=congrArg (λ(x:List Oper)=>x.drop 1) hl;simpa[drop_drop]using this
  have ih:=λ F H n=>yD l (i+1) F H n m Q hl';have h0:=h;simp only[map_cons]at h;unfold uB at h
  cases hp:eV nt o.dst with
  |none=>rw[hp]at h;exact ai h id
  |some pd =>
   rw[hp]at h;have j7:=sT hp;dsimp only at h
   cases hgd:o.guard with
   |none =>
    rw[hgd]at h;dsimp only at h
    have fin:Wp nt (λ QQ a w=>o.wpIn (FW r) 0 P a w (wpOpsIn (FW r) 0 P ops QQ (range' (i+1) l.length)) QQ) F H n m Q->Wp nt (λ QQ a w=>wpOpsIn (FW r) 0 P ops QQ (range' i (l.length+1)) a w) F H n m Q:=by
     intro hw φ D a w st hf QQ hQ;show wpOpsIn (FW r) 0 P ops QQ (i::range' (i+1) l.length) a w;simp only[wpOpsIn,hi,Region.wanted,hgd,if_true];exact hw φ D a w st hf QQ hQ
    refine fin ?_
    cases hk:yh P o with
    |bad=>rw[hk]at h;exact ai h id
    |jd e=>rw[hk]at h;exact ai h id
    |raw f=>rw[hk]at h;exact ai h id
    |eff e =>
     rw[hk]at h;have hc:=ED hk;exact QN (X:=λ F H n=>fj P (l.map (uB P nt ops)) F H n m Q) (gq hc) (dO hc) j7 (λ F H n hx=>ih F H n hx) h
    |call g as =>
     rw[hk]at h;obtain⟨c,h1,h2,h4⟩:=zd hk;exact J9 (X:=λ F H n=>fj P (l.map (uB P nt ops)) F H n m Q) h1 h2 h4 j7 (λ F H n hx=>ih F H n hx) h
   |some x =>
    obtain⟨j,b⟩:=x;rw[hgd]at h;dsimp only at h
    cases hd:(ops[j]?).bind (·.dst)with
    |none=>rw[hd]at h;exact ai h id
    |some d =>
     rw[hd]at h;dsimp only at h
     have fin:∀(Y N:Prop),(Y->Wp nt (λ QQ a w=>o.wpIn (FW r) 0 P a w (wpOpsIn (FW r) 0 P ops QQ (range' (i+1) l.length)) QQ) F H n m Q)->(N->fj P (l.map (uB P nt ops)) (pd.f (.aX []) F) H n m Q) ->
       e_ ((ar d).f F) b Y N->Wp nt (λ QQ a w=>wpOpsIn (FW r) 0 P ops QQ (range' i (l.length+1)) a w) F H n m Q:=by
      intro Y N hY hN hG
      have no:N->∀ φ D a w,St nt φ D F H m a w->FrA φ n->∀QQ:QT,(∀o F' H' n' m' φ' D' a' w' px,Q o F' H' n' m'->Ext φ D H.get w n φ' D' H'.get w' n'->St nt φ' D' F' H' m' a' w'->yz φ' D' px o->QQ (iG px o) a' w')->wpOpsIn (FW r) 0 P ops QQ (range' (i+1) l.length) (a.put o.dst undef) w:=
       λ hN'=>wp_skip j7 (ih _ _ _ (hN hN'))
      rw[gi]at hG;intro φ D a w st hf QQ hQ;show wpOpsIn (FW r) 0 P ops QQ (i::range' (i+1) l.length) a w
      cases hv:F.get d with
      |none=>rw[hv]at hG;exact ai hG id
      |some v =>
       rw[hv]at hG
       by_cases hb:∃c,v=.bool c
       ·obtain⟨c,rfl⟩:=hb;have hy:=(tell hd st.fr hv).1 c rfl;have hG:(bif c == b then Y else N):=hG;simp only[wpOpsIn,hi,Region.wanted,hgd,hy]
        cases hcb:c == b with
        |true =>
         rw[hcb]at hG;rw[ao (by simpa using hcb)];exact hY hG φ D a w st hf QQ hQ
        |false =>
         rw[hcb]at hG;rw[ah (by simpa using hcb)];exact⟨λ _ _=>trivial,no hG φ D a w st hf QQ hQ⟩
       have hnb:∀c,v≠.bool c:=λ c e=>hb ⟨c,e⟩;have hy:=(tell hd st.fr hv).2 hnb
       have hG:N:=by
        cases v<;>first|exact hG|exact ai rfl (hnb _)
       simp only[wpOpsIn,hi,Region.wanted,hgd,hy];rw[ah (by simp)];exact⟨λ _ _=>trivial,no hG φ D a w st hf QQ hQ⟩
     cases hk:yh P o with
     |bad=>rw[hk]at h;exact fin _ _ (λ h=>ai h id) (λ h=>h) h
     |jd e=>rw[hk]at h;exact fin _ _ (λ h=>ai h id) (λ h=>h) h
     |raw f=>rw[hk]at h;exact fin _ _ (λ h=>ai h id) (λ h=>h) h
     |eff e =>
      rw[hk]at h;have hc:=ED hk;exact fin _ _ (λ hy=>QN (X:=λ F H n=>fj P (l.map (uB P nt ops)) F H n m Q) (gq hc) (dO hc) j7 (λ F H n hx=>ih F H n hx) hy) (λ h=>h) h
     |call g as =>
      rw[hk]at h;obtain⟨c,h1,h2,h4⟩:=zd hk;exact fin _ _ (λ hy=>J9 (X:=λ F H n=>fj P (l.map (uB P nt ops)) F H n m Q) h1 h2 h4 j7 (λ F H n hx=>ih F H n hx) hy) (λ h=>h) h
theorem Wp.seq {x y:Code}{F:Fr}{H:Hp}{n:Nat}{m:List Dm}{Q R:QA}(h1:Wp nt (λ QQ a w=>x.wpIn (FW r) 0 P QQ a w) F H n m R)
  (h2:∀o F' H' n' m',R o F' H' n' m'->match o with
   |.normal=>Wp nt (λ QQ a w=>y.wpIn (FW r) 0 P QQ a w) F' H' n' m' Q
   |.exit i=>Q (.exit i) F' H' n' m'
   |.ret=>Q .ret F' H' n' m'
   |.panic _=>False):Wp nt (λ QQ a w=>(Code.seq x y).wpIn (FW r) 0 P QQ a w) F H n m Q:=by
 intro φ D a w st hf QQ hQ;refine wpIn_seq (h1 φ D a w st hf _ λ o F' H' n' m' φ' D' a' w' px hr e st' pp=>?_);have:=h2 o F' H' n' m' hr
 cases o with
 |normal=>exact this φ' D' a' w' st' (hf.step e) QQ λ o2 F2 H2 n2 m2 φ2 D2 a2 w2 px q e2 s2 pp=>hQ o2 F2 H2 n2 m2 φ2 D2 a2 w2 px q (e.trans e2) s2 pp
 |exit i=>exact hQ _ _ _ _ _ _ _ _ _ _ this e st' pp
 |ret=>exact hQ _ _ _ _ _ _ _ _ _ _ this e st' pp
 |panic v=>exact ai this id
theorem Wp.rounds {b:Code}{Q:QA}{I J:Nat->Fr->Hp->Nat->List Dm->Prop}(hj:∀k F H n m,J k F H n m->Zs I k F H n m)(hb:∀k F H n m,I k F H n m->Wp nt (λ QQ a w=>b.wpIn (FW r) 0 P QQ a w) F H n m (uE J k Q)):
  ∀(j k:Nat) (F:Fr) (H:Hp) (n:Nat) (m:List Dm),k<j->J k F H n m->Wp nt (λ QQ a w=>Code.roundsIn (FW r) 0 P b QQ j a w) F H n m Q
 |0,k,_,_,_,_,h,_=>by omega
 |j + 1,k,F,H,n,m,h,hI=>by
  obtain⟨hh,F0,H0,hs,hI0⟩:=hj k F H n m hI;refine Wp.shut hs ?_;intro φ D a w st hf QQ hQ;show Code.roundsIn (FW r) 0 P b QQ (j+1) a w;rw[roundsIn_succ];refine hb k F0 H0 n m hI0 φ D a w st hf _ λ o F' H' n' m' φ' D' a' w' px hr e st' pp=>?_
  cases o with
  |normal =>
   obtain⟨k',hk,hI'⟩:=hr;exact Wp.rounds hj hb j k' F' H' n' m' (by omega) hI' φ' D' a' w' st' (hf.step e) QQ λ o2 F2 H2 n2 m2 φ2 D2 a2 w2 px q e2 s2 pp=>hQ o2 F2 H2 n2 m2 φ2 D2 a2 w2 px q (e.trans e2) s2 pp
  |exit i=>exact hQ _ _ _ _ _ _ _ _ _ _ hr e st' pp
  |ret=>exact hQ _ _ _ _ _ _ _ _ _ _ hr e st' pp
  |panic v=>exact ai hr id
theorem QM {g:Operand}{x:G}{ps:Array Tmp}{ca cb:Code}{F:Fr}{H:Hp}{n:Nat}{m:List Dm}{Q:QA}(hg:bQ g=some x) (h:VC P (.range nt x ps.toList ca cb) F H n m Q):Wp nt (λ QQ a w=>(Code.rangeFunc g ps ca cb).wpIn (FW none) 0 P QQ a w) F H n m Q:=by
 obtain⟨f,first,cap,hx,⟨fn,b,hfn,hb,hname⟩,hcs⟩:=h;intro φ D a w DT hf QQ hQ;refine wpIn_rangeFunc λ fid _=>?_;have hgr:=aH hg F φ D a DT.fr _ hx
 cases hxv:a.eval g with
 |func ff fx cx =>
  rw[hxv]at hgr
  cases hgr with
  |fn _ _ _ fl cl h1 h2 =>
  obtain⟨r1,e1⟩:=mr (n:=n+1) DT.rel (λ b hb1 hb2=>hf b (by omega)) (.deferred (some [])) 0 .jX (World.mB w _);rw[kA]at r1 e1;let w1:=World.newObj w (.deferred (some []));let φ1:=Ph.set φ (n+1) (w.heap.size,0,0)
  have hf1:bW φ1 n (n+1):=by
   intro b hb1 hb2;have:b≠n+1:=by omega
   simp only[φ1,Ph.set,this,if_false];exact hf b (by omega)
  obtain⟨r2,e2⟩:=mr (n:=n) r1 hf1 (.loop {state:=.ready,pending:=none,fn:=fid,tmps:=a.tmps,params:=ps,assign:=ca,body:=cb,defers:=w.heap.size}) 0 (.loop .ready .normal nt F ps.toList ca cb)
   ⟨_,World.mB w1 _,rfl,rfl,DT.sz,(DT.fr.mono e1.phi (λ _ _ h=>h)).mono (Ph.gj (hf1 n (aP _) (by omega))) (λ _ _ h=>h),rfl,rfl,rfl⟩
  rw[kA]at r2 e2;let w2:=World.newObj w1 (.loop {state:=.ready,pending:=none,fn:=fid,tmps:=a.tmps,params:=ps,assign:=ca,body:=cb,defers:=w.heap.size});let φ2:=Ph.set φ1 n (w1.heap.size,0,0)
  have e12:Ext φ D H.get w n φ2 D ((H.put (n+1) (some .jX)).put n (some (.loop .ready .normal nt F ps.toList ca cb))).get w2 (n+2):=
   (e1.wide (Nat.le_succ n) (aP _)).join (e2.wide (aP _) (by omega))
  have hsz1:w1.heap.size=w.heap.size+1:=by simp[w1,World.newObj]
  have hφn:φ2 n=some (w.heap.size+1,0,0):=by simp only[φ2,Ph.set,if_true,hsz1]
  have hφm:φ2 (n+1)=some (w.heap.size,0,0):=e2.phi _ _ (by simp[Ph.set]);refine⟨w.heap.size+1,[{target:=.collected w.heap.size,args:=#[]}],w2,{target:=.fn (.func f) ⟨cl⟩,args:=⟨fl⟩++#[.func (.yield (w.heap.size+1)) #[] #[]]},w2,f,⟨fl++(.func (.yield (w.heap.size+1)) #[] #[]::cl)⟩,w2,run_enterLoop_outer ..,?_,λ _ _=>trivial,?_,λ h=>by simp[FW]at h,?_⟩
  ·simp only[resolve,hxv,Deferred.ofValue,cD];simp[Act.eval]
  ·have harr:(⟨fl⟩:Array Value)++#[Value.func (.yield (w.heap.size+1)) #[] #[]]++⟨cl⟩=⟨fl++(.func (.yield (w.heap.size+1)) #[] #[]::cl)⟩:=by apply Array.ext';simp
   simp only[invoke,callFunc,bM,run_program,bJ,hfn,hname,hb,harr];simp
  refine jg (hcs φ2 D w2 _ r2 ((h1.mono e12.phi (λ _ _ h=>h)).append (.cons _ _ _ _ (.jv _ _ _ _ hφn) (h2.mono e12.phi (λ _ _ h=>h)))) (hf.step e12) _ λ v H1 n1 φ3 D3 w3 cv hE e3 hr3 _=>?_);obtain⟨st,j,GH,G3,GF,a3,b3,hq,gw,hnp,hQj⟩:=hE;obtain⟨hlt,rr,q1,q2,q3,q4,q5,q6⟩:=hr3.block hq (e3.phi _ _ hφn);have q1:w3.heap[w.heap.size+1]?=some (.loop rr):=q1;have hend:=run_endLoop (P:=P) q1 (by rw[q2];exact gw);obtain⟨k1,k2⟩:=rel_drop (n:=n1) hr3 (b:=n) (by rw[hq];simp) (e3.phi _ _ hφn) (Go.World.putObj w3 (w.heap.size+1) (.loop {rr with state:=.exhausted})) (λ c hc=>Go.World.putObj_heap_other hc) Go.World.putObj_size rfl rfl;rw[kA]at k1 k2;have sN:=(e12.trans e3).trans k2
  have hst':St nt φ3 D3 F (H1.put n none) (.dT (Nat.succ n)::m) {a with defers:=[{target:=.collected w.heap.size,args:=#[]}]++a.defers} (Go.World.putObj w3 (w.heap.size+1) (.loop {rr with state:=.exhausted})):=
   ⟨k1,DT.fr.mono sN.phi sN.ep,DT.sz,⟨_,_,_,_,e3.phi _ _ hφm,rfl,DT.uy.mono sN.phi sN.ep⟩⟩
  refine⟨_,_,hend,?_⟩;have:=hQ j F _ n1 _ φ3 D3 _ _ undef hQj sN hst';rw[q3]at this ⊢
  cases j with
  |panic v=>exact ai rfl (hnp v)
  |normal=>exact this trivial
  |exit i=>exact wpIn_exit (this trivial)
  |ret=>exact wpIn_ret (this trivial)
 |_=>rw[hxv]at hgr;cases hgr
theorem gd:∀(c:Code) (F:Fr) (H:Hp) (n:Nat) (m:List Dm) (Q:QA),VC P (eT P nt r.isSome c) F H n m Q->Wp nt (λ QQ a w=>c.wpIn (FW r) 0 P QQ a w) F H n m Q
 |.skip,F,H,n,m,Q,h=>λ φ D a w st hf QQ hQ=>wpIn_skip (hQ .normal _ _ _ _ _ _ _ _ undef h (Ext.refl ..) st trivial)
 |.exit i,F,H,n,m,Q,h=>λ φ D a w st hf QQ hQ=>wpIn_exit (hQ (.exit i) _ _ _ _ _ _ _ _ undef h (Ext.refl ..) st trivial)
 |.ret,F,H,n,m,Q,h=>λ φ D a w st hf QQ hQ=>wpIn_ret (hQ .ret _ _ _ _ _ _ _ _ undef h (Ext.refl ..) st trivial)
 |.region rid ops d,F,H,n,m,Q,h=>by
  cases d with
  |false =>
   simp only[eT,cond_false]at h
   have h:fj P (ops.toList.map (uB P nt ops)) F H n m Q:=by
    cases hr:r.isSome&&dX ops.toList with
    |true=>rw[hr]at h;exact ai h id
    |false=>rw[hr]at h;exact h
   have:=yD (P:=P) (nt:=nt) (ops:=ops) (r:=r) ops.toList 0 F H n m Q rfl h;intro φ D a w st hf QQ hQ;refine wpIn_region ?_;rw[range_eq_range'];exact this φ D a w st hf QQ hQ
  |true =>
   simp only[eT,cond_true]at h
   cases AK:P.follows .mixedOrders with
   |false=>rw[AK]at h;exact ai h id
   |true =>
    rw[AK]at h;simp only[cond_true]at h
    have hk:∃ce h F2 H2,gX P ce/\ez h F H F2 H2/\Ev ((comp P nt r.isSome (.region rid ops true)).f ce F2 H2 n m) Q:=by
     cases hp:uL (lZ ops.toList 0 .nil) ops (Pg (lZ ops.toList 0 .nil) ops.toList)with
     |false=>rw[hp]at h;exact ai h id
     |true =>
      rw[hp]at h;obtain⟨ce,hh,F2,H2,h1,hs,h2⟩:=h;refine⟨ce,hh,F2,H2,h1,hs,?_⟩;rw[kT];simp only[eT,cond_true,AK,hp];exact h2
    obtain⟨ce,hh,F2,H2,h1,hs,h2⟩:=hk;exact Wp.shut hs (tJ (bp (P:=P) (nt:=nt) (r:=r) h1 (.region rid ops true)) h2)
 |.seq x y,F,H,n,m,Q,h=>by
  refine Wp.seq (gd x F H n m _ h) λ o F' H' n' m' hr=>?_
  cases o with
  |normal=>exact gd y F' H' n' m' Q hr
  |exit i=>exact hr
  |ret=>exact hr
  |panic v=>exact ai hr id
 |.cond c x y,F,H,n,m,Q,h=>by
  simp only[eT]at h
  cases hc:bQ c with
  |none=>rw[hc]at h;exact ai h id
  |some g =>
   rw[hc]at h;have h:oM (g.f F) (VC P (eT P nt r.isSome x) F H n m Q) (VC P (eT P nt r.isSome y) F H n m Q):=h;intro φ D a w st hf QQ hQ
   cases hg:g.f F with
   |none=>rw[hg]at h;exact ai h id
   |some v =>
    have hv:=aH hc F φ D a st.fr _ hg;rw[hg]at h
    cases v with
    |bool b =>
     generalize hz:a.eval c=z at hv;cases hv
     cases b with
     |true=>exact wpIn_cond (t:=true) hz (gd x F H n m Q h φ D a w st hf QQ hQ)
     |false=>exact wpIn_cond (t:=false) hz (gd y F H n m Q h φ D a w st hf QQ hQ)
    |_=>exact ai h id
 |.block id b,F,H,n,m,Q,h=>by
  intro φ D a w st hf QQ hQ;refine wpIn_block (gd b F H n m (fy id Q) h φ D a w st hf _ λ o F' H' n' m' φ' D' a' w' px hr e st' pp=>?_)
  cases o with
  |normal=>exact hQ _ _ _ _ _ _ _ _ _ _ hr e st' pp
  |ret=>exact hQ _ _ _ _ _ _ _ _ _ _ hr e st' pp
  |panic v=>exact False.elim hr
  |exit j =>
   have hr:(if id=j then Q .normal F' H' n' m' else Q (.exit j) F' H' n' m'):=hr
   by_cases hij:j=id
   ·subst hij;rw[ao rfl]at hr;simp only[iG,Exit.inBlock,if_true];exact hQ _ _ _ _ _ _ _ _ _ px hr e st' trivial
   rw[ah (λ e=>hij e.symm)]at hr;simp only[iG,Exit.inBlock,hij,if_false];exact hQ _ _ _ _ _ _ _ _ _ _ hr e st' pp
 |.loop b,F,H,n,m,Q,h=>by
  have ib:=gd b
  have plain:VC P (.loop (eT P nt r.isSome b)) F H n m Q->Wp nt (λ QQ a w=>(Code.loop b).wpIn (FW r) 0 P QQ a w) F H n m Q:=by
   intro h;obtain⟨I,J,k,hI,hj,hs⟩:=h;intro φ D a w st hf QQ hQ;exact wpIn_loop_rounds (k+1) (Wp.rounds hj (λ k F H n m hi=>ib F H n m _ (hs k F H n m hi)) (k+1) k F H n m (by omega) hI φ D a w st hf QQ hQ)
  cases b with
  |seq x y =>
   cases hm:y9 x with
   |none =>
    refine plain ?_;simp only[eT,hm]at h;exact h
   |some q =>
    obtain⟨x',d,ops,os⟩:=q;simp only[eT,hm]at h
    cases hr:r.isSome&&dX os with
    |true=>rw[hr]at h;exact ai h id
    |false =>
     rw[hr]at h;obtain⟨ce,h1,h2⟩:=h;refine tJ (bp (P:=P) (nt:=nt) (r:=r) h1 (.loop (.seq x y))) ?_;have:comp P nt r.isSome (.loop (.seq x y))=abq P nt x' d ops os (comp P nt r.isSome y):=by simp only[comp,hm,hr];rfl
     rw[this];exact h2
  |_=>exact plain h
 |.rangeFunc g ps ca cb,F,H,n,m,Q,h=>by
  simp only[eT]at h
  cases hc:bQ g with
  |none=>rw[hc]at h;exact ai h id
  |some x =>
   rw[hc]at h
   cases r with
   |some cb0=>exact ai h id
   |none=>exact QM hc h
 |.scope b,F,H,n,m,Q,h=>by
  intro φ D a w st hf QQ hQ;refine vg (gd b F H n m Q h φ D a w st hf _ λ o F' H' n' m' φ' D' a' w' px hr e st' pp=>?_);have:=hQ o F' H' n' m' φ' D' a' w' px hr e st' pp
  cases o<;>exact this
 |.label _,F,H,n,m,Q,h=>λ φ D a w st hf QQ hQ=>wpIn_label (hQ .normal _ _ _ _ _ _ _ _ undef h (Ext.refl ..) st trivial)
 |.goto _,_,_,_,_,_,h=>ai h id
 |.refuse _,_,_,_,_,_,h=>ai h id
theorem aj.of {g:FuncId}{c:CF}{args:List AV}{H:Hp}{n:Nat}{R:AV->Hp->Nat->Prop}(hc:HU P g=some c) (hl:args.length<=c.nt)
  (h:∀F:Fr,(∀i,F.get i=args[i]?)->VC P c.code F H n [] (iO c.res R)):aj P g args H n R:=by
 unfold HU at hc
 split at hc
 ·rename_i fn hfn
  split at hc
  ·rename_i b hb
   split at hc
   ·cases hc
   rename_i hname
   split at hc
   ·rename_i gs hgs;injection hc with hc;subst hc;dsimp only at hl h;refine⟨⟨fn,b,hfn,hb,by simpa using hname⟩,λ φ D w xs hrel hvs hf RR hR=>?_⟩;refine callsIn_of_wp_marks hfn hb trivial ?_
    have hsz:((⟨xs⟩:Array Value)++Array.replicate (fn.ntmps - (⟨xs⟩:Array Value).size) undef).size=fn.ntmps:=by
     have:=hvs.length;simp;omega
    have hv:=h (Tr.bD args 0 .nil) λ i=>by
     rw[Tr.bw]
     split
     ·simp
     rw[getElem?_eq_none (by omega)];rfl
    refine gd (r:=none) b _ _ _ _ _ hv φ D {tmps:=(⟨xs⟩:Array Value)++Array.replicate (fn.ntmps - (⟨xs⟩:Array Value).size) undef,defers:=[]} w ⟨hrel,wN hrel.ep.2 hvs _,hsz,rfl⟩ hf _ λ o F1 H1 n1 m1 φ1 D1 a1 w1 px hq aS st1 pp=>?_
    have key:(o=.normal∨o=.ret)->LeavesInM Fence.wide 0 P fn a1.tmps RR a1.defers .returning w1:=by
     intro ho
     have hq:rY (ei m1 H1) λ H'=>rY (uT F1 H' gs) λ vs=>R (uj vs) H' n1:=by
      rcases ho with rfl|rfl
      ·simpa using hq
      simpa using hq
     cases hu:ei m1 H1 with
     |none=>rw[hu]at hq;exact ai hq id
     |some H2 =>
      rw[hu]at hq;simp only[rq]at hq
      cases he:uT F1 H2 gs with
      |none=>rw[he]at hq;exact ai hq id
      |some vs =>
       rw[he]at hq;exact zb (P:=P) (fn:=fn) (vs:=vs) hgs he m1 H1 a1.defers a1.tmps φ1 D1 w1 _ RR hu st1.rel st1.fr st1.uy λ φ2 D2 w2 x h1 h2 h3=>hR _ _ _ φ2 D2 w2 x hq (aS.trans h1) h2 h3
    cases o with
    |normal=>exact key (.inl rfl)
    |ret=>exact key (.inr rfl)
    |exit i=>exact ai hq id
    |panic v=>exact ai hq id
   cases hc
  cases hc
 cases hc
theorem ae.ofR {g:FuncId}{args:List AV}{v:AV}(hp:aJ args)(hv:Pure v)(h:aj P g args .nil 0 (λ v1 H' _=>eY H'.get v1 v)):ae P g args v:=by
 obtain⟨hb,hs⟩:=h;refine⟨hb,hp,hv,λ D w xs hd hv R hR=>?_⟩;refine hs lF D w xs (ri hd) hv (λ _ _=>rfl) R λ v1 H' n' φ' D' w' x h2 aS hrel hx=>?_;refine hR (shut φ' D' H'.get w') w' x ⟨λ c x hx=>eP c x (aS.ep c x hx),aS.size,λ c hc=>aS.keep c hc λ b p hb=>by simp at hb,λ c hc=>?_,aS.os,aS.out⟩ (lI hrel.ep) (h2.vr hrel hx);unfold shut at hc
 split at hc
 ·rename_i y hy
  rcases aS.jW c (by rw[hy];simp)with h|h|⟨b0,p0,hh,_⟩
  ·exact .inl h
  ·exact .inr h
  simp at hh
 split at hc
 ·rename_i hex;obtain⟨b,p,hb,hp,rfl⟩:=hex
  rcases aS.live b p hb hp with h|⟨b0,p0,hh,_⟩
  ·exact .inr h
  simp at hh
 exact ai rfl hc
theorem ae.jE {g:FuncId}{args:List AV}{v:AV}(h:ae P g args v)(H:Hp)(n:Nat):aj P g args H n (λ u K k=>u=v/\K=H/\k=n):=(h.Ig H n).jE
mutual
def Flat:AV->Prop
 |.int _ _=>True
 |.bool _=>True
 |.str _=>True
 |.al _=>True
 |.agg cs _=>fo cs
 |.aX cs=>fo cs
 |.kG _ v=>Flat v
 |_=>False
def fo:List AV->Prop
 |[]=>True
 |v::r=>Flat v/\fo r
end
@[simp] theorem amU (k:IntKind)(i:Int):Flat (.int k i):=by simp only[Flat]
@[simp] theorem ajI (b:Bool):Flat (.bool b):=by simp only[Flat]
@[simp] theorem amT (l:List Nat):Flat (.str l):=by simp only[Flat]
@[simp] theorem amV (v:Value):Flat (.al v):=by simp only[Flat]
@[simp] theorem flat_agg (cs:List AV)(n:Nat):Flat (.agg cs n)=fo cs:=by simp only[Flat]
@[simp] theorem amS (cs:List AV):Flat (.aX cs)=fo cs:=by simp only[Flat]
@[simp] theorem ajJ:fo []:=by simp only[fo]
@[simp] theorem ahA (v:AV)(r:List AV):fo (v::r)=(Flat v/\fo r):=by simp only[fo]
mutual
theorem Flat.out {φ φ':Ph}{D D':Da}:∀ {v:AV}{x:Value},Flat v->VR φ D v x->VR φ' D' v x
 |.int _ _,_,_,.int _ _=>.int _ _
 |.bool _,_,_,.bool _=>.bool _
 |.str _,_,_,.str _ _ e=>.str _ _ e
 |.al _,_,_,.al _ e=>.al _ e
 |.agg _ _,_,h,.agg _ _ _ a b=>.agg _ _ _ (fo.uh (by simpa only [Flat]using h) a) b
 |.aX _,_,h,.aX _ _ a=>.aX _ _ (fo.uh (by simpa only [Flat]using h) a)
 |.kG _ _,_,h,.kG _ _ _ a=>.kG _ _ _ (Flat.out (by simpa only [Flat]using h) a)
theorem fo.uh {φ φ':Ph}{D D':Da}:∀ {vs:List AV}{xs:List Value},fo vs->bO φ D vs xs->bO φ' D' vs xs
 |[],_,_,.nil=>.nil
 |_::_,_,h,.cons _ _ _ _ h1 h2=>.cons _ _ _ _ (Flat.out (by simp only[fo]at h;exact h.1) h1) (fo.uh (by simp only[fo]at h;exact h.2) h2)
end
theorem ae.adx {g:FuncId}{args args':List AV}{v:AV}(h:ae P g args' v) (hf:Flat v){H:Hp}(n:Nat) (hz:bh H.get args args'):∀ φ D w xs,Rel φ D H.get w->bO φ D args xs->∀R:Ending->World->Prop,
  (∀ φ' D' w' x,Ext φ D H.get w n φ' D' H.get w' n->Rel φ' D' H.get w'->VR φ' D' v x->R (.returned x) w')->CallsIn Fence.wide 0 P g ⟨xs⟩ w R:=by
 intro φ D w xs hr hv R hR;refine h.run (shut φ D H.get w) w xs (lI hr.ep) (hz.uh hr hv) R λ D' w' x hk hd hx=>?_
 let D2:Da:=λ c=>match D c with
  |some y=>some y
  |none=>match shut φ D H.get w c with
   |some _=>none
   |none=>D' c
 have e1:∀c x,D c=some x->D2 c=some x:=λ c x hc=>by simp only[D2,hc]
 have e2:∀c x,D2 c=some x->D' c=some x:=by
  intro c x hc;simp only[D2]at hc
  split at hc
  ·rename_i y hy;injection hc with hc;subst hc;exact hk.ep c _ (eP c _ hy)
  split at hc
  ·cases hc
  exact hc
 have e3:∀c,D2 c≠none->D c≠none∨w.heap.size<=c:=by
  intro c hc;simp only[D2]at hc
  split at hc
  ·rename_i y hy;exact .inl (by rw[hy];simp)
  split at hc
  ·exact ai rfl hc
  rename_i hs
  rcases hk.jW c hc with h|h
  ·exact ai hs h
  exact .inr h
 refine hR φ D2 w' x ⟨aP _,λ _ _ h=>h,λ _ a b=>ai a b,e1,hk.size,λ c hc _=>hk.keep c hc,λ b p hb hp=>.inr ⟨b,p,hb,hp,rfl⟩,λ c hc=>(e3 c hc).elim .inl λ h=>.inr (.inl h),λ _ h=>.inl h,hk.os,hk.out⟩ ?_ (hf.out hx);refine⟨λ b k hb=>?_,hr.inj,λ b p hb hp=>?_,⟨λ c x hc=>hd.1 c x (e2 c x hc),hr.ep.2.mono e1⟩⟩
 ·obtain⟨p,hp,hl,hk'⟩:=hr.blk b k hb;exact⟨p,hp,Nat.lt_of_lt_of_le hl hk.size,hk'.mono (λ _ _ h=>h) e1 (hk.keep _ hl)⟩
 cases hD:D2 p.1 with
 |none=>rfl
 |some x =>
  rcases e3 p.1 (by rw[hD];simp)with h1|h1
  ·exact ai (hr.sep b p hb hp) h1
  cases hx:H.get b with
  |none=>exact ai hx hb
  |some k=>have:=(hr.block hx hp).1;omega
theorem ae.anG {g:FuncId}{args args':List AV}{v:AV}(h:ae P g args' v)(hf:Flat v){H:Hp}(n:Nat)(hz:bh H.get args args'):aj P g args H n (λ u K k=>u=v/\K=H/\k=n):=
 ⟨h.body,λ φ D w xs hr hv _ R hR=>h.adx hf n hz φ D w xs hr hv R λ φ' D' w' x e r k=>hR v H n φ' D' w' x ⟨rfl,rfl,rfl⟩ e r k⟩
theorem ae.LO {g:FuncId}{args args':List AV}{v:AV}(h:ae P g args' v)(hf:Flat v){H:Hp}(n:Nat)(hz:bh H.get args args'):bc P g args H n v H n:=
 ⟨h.body,aP _,λ φ D w xs hr hv _ R hR=>h.adx hf n hz φ D w xs hr hv R hR⟩
end
end Go.Abs
namespace Go.Abs
open List
def pW (P:Program)(b:CT)(Q:QA):QA:=λ o F' H' n' m'=>match o with
 |.normal=>VC P b F' H' n' m' Q
 |.exit i=>Q (.exit i) F' H' n' m'
 |.ret=>Q .ret F' H' n' m'
 |.panic _=>False
def xZ (v:Option AV)(a b:CT)(P:Program)(F:Fr)(H:Hp)(n:Nat)(m:List Dm)(Q:QA):Prop:=oM v (VC P a F H n m Q) (VC P b F H n m Q)
def Dy (x:bb)(pd:Pd)(r:List (Option GO))(P:Program)(F:Fr)(H:Hp)(n:Nat)(m:List Dm)(Q:QA):Prop:=zO x H n λ v H' n'=>fj P r (pd.f v F) H' n' m Q
def aw (f:FuncId)(vs:List AV)(pd:Pd)(r:List (Option GO))(P:Program)(F:Fr)(H:Hp)(n:Nat)(m:List Dm)(Q:QA):Prop:=aj P f vs H n λ v H' n'=>fj P r (pd.f v F) H' n' m Q
def QG (vs:Option (List AV))(f:FuncId)(pd:Pd)(r:List (Option GO))(P:Program)(F:Fr)(H:Hp)(n:Nat)(m:List Dm)(Q:QA):Prop:=rY vs λ vs=>aw f vs pd r P F H n m Q
def Gf (q:Nat)(vs:List AV)(pd:Pd)(r:List (Option GO))(P:Program)(F:Fr)(H:Hp)(n:Nat)(m:List Dm)(Q:QA):Prop:=yx P q vs H n λ v H' n'=>fj P r (pd.f v F) H' n' m Q
def Gw (v:Option AV)(vs:Option (List AV))(pd:Pd)(r:List (Option GO))(P:Program)(F:Fr)(H:Hp)(n:Nat)(m:List Dm)(Q:QA):Prop:=match v with
 |some (.fn (.func f) first cap)=>rY vs λ vs=>aw f (first++(vs++cap)) pd r P F H n m Q
 |some (.jv q)=>rY vs λ vs=>Gf q vs pd r P F H n m Q
 |_=>False
def IA (v:Option AV)(nt:Nat)(ps:List Nat)(a b:Code)(P:Program)(F:Fr)(H:Hp)(n:Nat)(m:List Dm)(Q:QA):Prop:=match v with
 |some (.fn (.func f) first cap)=>aj P f (first++(.jv n::cap)) ((H.put (Nat.succ n) (some .jX)).put n (some (.loop .ready .normal nt F ps a b))) (Nat.succ (Nat.succ n)) λ _ H' n'=>Qv n F m Q H' n'
 |_=>False
def Qy (v:Option AV)(b:Bool)(pd:Pd)(e:Eff)(r:List (Option GO))(P:Program)(F:Fr)(H:Hp)(n:Nat)(m:List Dm)(Q:QA):Prop:=e_ v b (Dy (e F H n) pd r P F H n m Q) (fj P r (pd.f (.aX []) F) H n m Q)
def QB (v:Option AV)(b:Bool)(pd:Pd)(f:FuncId)(as:List G)(r:List (Option GO))(P:Program)(F:Fr)(H:Hp)(n:Nat)(m:List Dm)(Q:QA):Prop:=e_ v b (QG (evs F as) f pd r P F H n m Q) (fj P r (pd.f (.aX []) F) H n m Q)
def Qx (v:Option AV)(b:Bool)(pd:Pd)(g:G)(as:List G)(r:List (Option GO))(P:Program)(F:Fr)(H:Hp)(n:Nat)(m:List Dm)(Q:QA):Prop:=e_ v b (Gw (g.f F) (evs F as) pd r P F H n m Q) (fj P r (pd.f (.aX []) F) H n m Q)
def aE (b:CT)(P:Program)(F:Fr)(H:Hp)(n:Nat)(m:List Dm)(Q:QA):Prop:=∃(I J:Nat->Fr->Hp->Nat->List Dm->Prop)(k:Nat),J k F H n m/\(∀k F H n m,J k F H n m->Zs I k F H n m)/\∀k F H n m,I k F H n m->VC P b F H n m (uE J k Q)
def cj (ds:List Nat)(l:List (Option RO))(P:Program)(F:Fr)(H:Hp)(n:Nat)(m:List Dm)(Q:QA):Prop:=∃ce h F2 H2,gX P ce/\ez h F H F2 H2/\Ev ((Fj ds (fR l)).f ce F2 H2 n m) Q
section
variable {P:Program}{F:Fr}{H:Hp}{n:Nat}{m:List Dm}{Q:QA}
@[simp] theorem DY (b:CT):pW P b Q .normal F H n m=VC P b F H n m Q:=propext Iff.rfl
@[simp] theorem aje (b:CT)(i:Nat):pW P b Q (.exit i) F H n m=Q (.exit i) F H n m:=propext Iff.rfl
@[simp] theorem akQ (b:CT):pW P b Q .ret F H n m=Q .ret F H n m:=propext Iff.rfl
@[simp] theorem ah0 (a b:CT):xZ (some (.bool true)) a b P F H n m Q=VC P a F H n m Q:=propext Iff.rfl
@[simp] theorem ado (a b:CT):xZ (some (.bool false)) a b P F H n m Q=VC P b F H n m Q:=propext Iff.rfl
@[simp] theorem aqz (l:List (Option GO)):VC P (.mc l) F H n m Q=fj P l F H n m Q:=propext Iff.rfl
@[simp] theorem kZ (ds:List Nat)(l:List (Option RO)):VC P (.fb ds l) F H n m Q=cj ds l P F H n m Q:=propext Iff.rfl
@[simp] theorem r6 (a b:CT):VC P (.seq a b) F H n m Q=VC P a F H n m (pW P b Q):=propext Iff.rfl
@[simp] theorem aoO (g:G)(a b:CT):VC P (.cond g a b) F H n m Q=xZ (g.f F) a b P F H n m Q:=propext Iff.rfl
@[simp] theorem akD (i:Nat)(b:CT):VC P (.block i b) F H n m Q=VC P b F H n m (fy i Q):=propext Iff.rfl
@[simp] theorem aoM (b:CT):VC P (.loop b) F H n m Q=aE b P F H n m Q:=propext Iff.rfl
@[simp] theorem aoN (i:Nat):VC P (.exit i) F H n m Q=Q (.exit i) F H n m:=propext Iff.rfl
@[simp] theorem aqy:VC P .ret F H n m Q=Q .ret F H n m:=propext Iff.rfl
@[simp] theorem aoL:VC P .skip F H n m Q=Q .normal F H n m:=propext Iff.rfl
@[simp] theorem alo (pd:Pd)(r:List (Option GO)):Dy .fail pd r P F H n m Q=False:=propext Iff.rfl
@[simp] theorem ao7 (v:AV)(pd:Pd)(r:List (Option GO)):Dy (.val v) pd r P F H n m Q=fj P r (pd.f v F) H n m Q:=propext Iff.rfl
@[simp] theorem ao9 (v:AV)(k:br)(pd:Pd)(r:List (Option GO)):Dy (.new v k) pd r P F H n m Q=fj P r (pd.f v F) (H.put n (some k)) (n+1) m Q:=propext Iff.rfl
@[simp] theorem ao8 (v:AV)(b:Nat)(k:br)(pd:Pd)(r:List (Option GO)):Dy (.upd v b k) pd r P F H n m Q=fj P r (pd.f v F) (H.put b (some k)) n m Q:=propext Iff.rfl
@[simp] theorem aq9 (v:AV)(b:Nat)(k:br)(pd:Pd)(r:List (Option GO)):Dy (.mv v b k) pd r P F H n m Q=fj P r (pd.f v F) ((H.put b none).put n (some k)) (n+1) m Q:=propext Iff.rfl
@[simp] theorem aj' (vs:List AV)(f:FuncId)(pd:Pd)(r:List (Option GO)):QG (some vs) f pd r P F H n m Q=aw f vs pd r P F H n m Q:=propext Iff.rfl
@[simp] theorem ajH (f:FuncId)(first cap vs:List AV)(pd:Pd)(r:List (Option GO)):Gw (some (.fn (.func f) first cap)) (some vs) pd r P F H n m Q=aw f (first++(vs++cap)) pd r P F H n m Q:=propext Iff.rfl
@[simp] theorem ar7 (pd:Pd)(e:Eff)(r:List (Option GO)):Qy (some (.bool true)) true pd e r P F H n m Q=Dy (e F H n) pd r P F H n m Q:=propext Iff.rfl
@[simp] theorem ar8 (pd:Pd)(e:Eff)(r:List (Option GO)):Qy (some (.bool false)) true pd e r P F H n m Q=fj P r (pd.f (.aX []) F) H n m Q:=propext Iff.rfl
@[simp] theorem apE (pd:Pd)(e:Eff)(r:List (Option GO)):Qy (some (.bool true)) false pd e r P F H n m Q=fj P r (pd.f (.aX []) F) H n m Q:=propext Iff.rfl
@[simp] theorem apF (pd:Pd)(e:Eff)(r:List (Option GO)):Qy (some (.bool false)) false pd e r P F H n m Q=Dy (e F H n) pd r P F H n m Q:=propext Iff.rfl
@[simp] theorem amB (l:List AV)(b:Bool)(pd:Pd)(e:Eff)(r:List (Option GO)):Qy (some (.aX l)) b pd e r P F H n m Q=fj P r (pd.f (.aX []) F) H n m Q:=propext Iff.rfl
@[simp] theorem asb (pd:Pd)(f:FuncId)(as:List G)(r:List (Option GO)):QB (some (.bool true)) true pd f as r P F H n m Q=QG (evs F as) f pd r P F H n m Q:=propext Iff.rfl
@[simp] theorem asd (pd:Pd)(f:FuncId)(as:List G)(r:List (Option GO)):QB (some (.bool false)) true pd f as r P F H n m Q=fj P r (pd.f (.aX []) F) H n m Q:=propext Iff.rfl
@[simp] theorem apK (pd:Pd)(f:FuncId)(as:List G)(r:List (Option GO)):QB (some (.bool true)) false pd f as r P F H n m Q=fj P r (pd.f (.aX []) F) H n m Q:=propext Iff.rfl
@[simp] theorem apL (pd:Pd)(f:FuncId)(as:List G)(r:List (Option GO)):QB (some (.bool false)) false pd f as r P F H n m Q=QG (evs F as) f pd r P F H n m Q:=propext Iff.rfl
@[simp] theorem amE (l:List AV)(b:Bool)(pd:Pd)(f:FuncId)(as:List G)(r:List (Option GO)):QB (some (.aX l)) b pd f as r P F H n m Q=fj P r (pd.f (.aX []) F) H n m Q:=propext Iff.rfl
@[simp] theorem ar5 (pd:Pd)(g:G)(as:List G)(r:List (Option GO)):Qx (some (.bool true)) true pd g as r P F H n m Q=Gw (g.f F) (evs F as) pd r P F H n m Q:=propext Iff.rfl
@[simp] theorem ar6 (pd:Pd)(g:G)(as:List G)(r:List (Option GO)):Qx (some (.bool false)) true pd g as r P F H n m Q=fj P r (pd.f (.aX []) F) H n m Q:=propext Iff.rfl
@[simp] theorem apC (pd:Pd)(g:G)(as:List G)(r:List (Option GO)):Qx (some (.bool true)) false pd g as r P F H n m Q=fj P r (pd.f (.aX []) F) H n m Q:=propext Iff.rfl
@[simp] theorem apD (pd:Pd)(g:G)(as:List G)(r:List (Option GO)):Qx (some (.bool false)) false pd g as r P F H n m Q=Gw (g.f F) (evs F as) pd r P F H n m Q:=propext Iff.rfl
@[simp] theorem amA (l:List AV)(b:Bool)(pd:Pd)(g:G)(as:List G)(r:List (Option GO)):Qx (some (.aX l)) b pd g as r P F H n m Q=fj P r (pd.f (.aX []) F) H n m Q:=propext Iff.rfl
@[simp] theorem aoP:fj P [] F H n m Q=Q .normal F H n m:=propext Iff.rfl
@[simp] theorem aqA (pd:Pd)(e:Eff)(r:List (Option GO)):fj P (oP pd e::r) F H n m Q=Dy (e F H n) pd r P F H n m Q:=propext Iff.rfl
@[simp] theorem aqB (g:G)(b:Bool)(pd:Pd)(e:Eff)(r:List (Option GO)):fj P (gP g b pd e::r) F H n m Q=Qy (g.f F) b pd e r P F H n m Q:=propext Iff.rfl
theorem Ie (g:G)(as:List G)(K:FuncId->List AV->Prop)(K2:Nat->List AV->Prop):((∃f first cap vs,g.f F=some (.fn (.func f) first cap)/\evs F as=some vs/\K f (first++(vs++cap)))∨(∃q vs,g.f F=some (.jv q)/\evs F as=some vs/\K2 q vs))↔(match g.f F with
  |some (.fn (.func f) first cap)=>rY (evs F as) λ vs=>K f (first++(vs++cap))
  |some (.jv q)=>rY (evs F as) λ vs=>K2 q vs
  |_=>False):=by
 constructor
 ·rintro(⟨f,first,cap,vs,h1,h2,h3⟩|⟨q,vs,h1,h2,h3⟩)
  ·rw[h1,h2];exact h3
  rw[h1,h2];exact h3
 intro h
 split at h
 ·rename_i f first cap hg
  cases hv:evs F as with
  |none=>rw[hv]at h;exact ai h id
  |some vs=>rw[hv]at h;exact .inl ⟨f,first,cap,vs,hg,rfl,h⟩
 ·rename_i q hg
  cases hv:evs F as with
  |none=>rw[hv]at h;exact ai h id
  |some vs=>rw[hv]at h;exact .inr ⟨q,vs,hg,rfl,h⟩
 exact ai h id
@[simp] theorem QU (pd:Pd)(g:G)(as:List G)(r:List (Option GO)):fj P (vP pd g as::r) F H n m Q=Gw (g.f F) (evs F as) pd r P F H n m Q:=by
 refine Eq.trans (propext (Ie (F:=F) g as (λ f l=>aw f l pd r P F H n m Q) λ q l=>Gf q l pd r P F H n m Q)) ?_;unfold Gw;rfl
@[simp] theorem afK (pd:Pd)(f:FuncId)(as:List G)(r:List (Option GO)):fj P (cP pd f as::r) F H n m Q=QG (evs F as) f pd r P F H n m Q:=by
 refine Eq.trans (QU pd (aT (.fn (.func f) [] [])) as r) ?_;simp only[wZ,Gw,QG,nil_append,append_nil]
@[simp] theorem aoR (g:G)(b:Bool)(pd:Pd)(f:FuncId)(as:List G)(r:List (Option GO)):fj P (kM g b pd f as::r) F H n m Q=QB (g.f F) b pd f as r P F H n m Q:=by
 show e_ (g.f F) b (fj P (cP pd f as::r) F H n m Q) _=_;rw[afK];rfl
def gvP (g:G)(b:Bool)(pd:Pd)(h:G)(as:List G):Option GO:=some ⟨some (g,b),pd,.call h as⟩
@[simp] theorem aoQ (g:G)(b:Bool)(pd:Pd)(h:G)(as:List G)(r:List (Option GO)):fj P (gvP g b pd h as::r) F H n m Q=Qx (g.f F) b pd h as r P F H n m Q:=by
 show e_ (g.f F) b (fj P (vP pd h as::r) F H n m Q) _=_;rw[QU];rfl
@[simp] theorem amN (q:Nat)(vs:List AV)(pd:Pd)(r:List (Option GO)):Gw (some (.jv q)) (some vs) pd r P F H n m Q=Gf q vs pd r P F H n m Q:=propext Iff.rfl
theorem OY (g:G)(K:FuncId->List AV->List AV->Prop):(∃f first cap,g.f F=some (.fn (.func f) first cap)/\K f first cap)↔(match g.f F with
  |some (.fn (.func f) first cap)=>K f first cap
  |_=>False):=by
 constructor
 ·rintro⟨f,first,cap,h1,h2⟩;rw[h1];exact h2
 intro h
 split at h
 ·rename_i f first cap hg;exact⟨f,first,cap,hg,h⟩
 exact ai h id
@[simp] theorem akC (nt:Nat)(g:G)(ps:List Nat)(a b:Code):VC P (.range nt g ps a b) F H n m Q=IA (g.f F) nt ps a b P F H n m Q:=
 Eq.trans (propext (OY (F:=F) g λ f first cap=>aj P f (first++(.jv n::cap)) ((H.put (Nat.succ n) (some .jX)).put n (some (.loop .ready .normal nt F ps a b))) (Nat.succ (Nat.succ n)) λ _ H' n'=>Qv n F m Q H' n')) (by unfold IA;rfl)
theorem IA.of {f:FuncId}{first cap:List AV}{nt:Nat}{ps:List Nat}{a b:Code}(h:aj P f (first++(.jv n::cap)) ((H.put (n+1) (some .jX)).put n (some (.loop .ready .normal nt F ps a b))) (n+2) λ _ H' n'=>Qv n F m Q H' n'):IA (some (.fn (.func f) first cap)) nt ps a b P F H n m Q:=h
theorem Gz.of {nt:Nat}{c:Code}{Q:QA}(h:VC P (eT P nt true c) F H n [] Q):Gz P nt c F H n Q:=λ cb=>gd (r:=some cb) c F H n [] Q h
theorem Gf.of {q:Nat}{vs:List AV}{pd:Pd}{r:List (Option GO)}{st:LoopState}{j:nz}{nt:Nat}{F0 F1:Fr}{ps:List Nat}{a b:Code}(hq:H.get q=some (.loop st j nt F0 ps a b))(hp:nK nt ps vs F0=some F1)
  (ha:VC P (eT P nt true a) F1 H n [] λ o F2 H2 n2 m2=>o=.normal/\m2=[]/\∃j2 Hh G2 ps2 a2 b2,H2.get q=some (.loop .ready j2 Hh G2 ps2 a2 b2)/\VC P (eT P nt true b) F2 (H2.put q (some (.loop .busy j2 Hh G2 ps2 a2 b2))) n2 [] λ j3 _ H3 n3 _=>IB q (λ v H' n'=>fj P r (pd.f v F) H' n' m Q) j3 H3 n3):Gf q vs pd r P F H n m Q:=by
 refine⟨st,j,nt,F0,ps,a,b,F1,hq,hp,λ cb=>?_⟩;refine λ φ D ac w DT hf QQ hQ=>gd (r:=some cb) a F1 H n [] _ ha φ D ac w DT hf QQ λ o F' H' n' m' φ' D' a' w' px h e s pp=>hQ o F' H' n' m' φ' D' a' w' px ?_ e s pp;obtain⟨h1,h2,j2,Hh,G2,ps2,a2,b2,h3,h4⟩:=h;exact⟨h1,h2,j2,Hh,G2,ps2,a2,b2,h3,Gz.of h4⟩
@[simp] theorem vo {q:Nat}{m:List Dm}{H:Hp}(h:H.get q=some .jX):ei (.dT q::m) H=ei m (H.put q none):=by
 simp only[ei,h]
def D6:Code->List (Code×Code)
 |.seq a b=>D6 a++D6 b
 |.cond _ a b=>D6 a++D6 b
 |.block _ b=>D6 b
 |.loop b=>D6 b
 |.scope b=>D6 b
 |.rangeFunc _ _ a b=>[(a,b)]
 |_=>[]
def Ru (P:Program) (g k:Nat):Code×Code:=match P.funcs[g]? with
 |some fn=>match fn.body with
  |some b=>(D6 b).getD k (.skip,.skip)
  |none=>(.skip,.skip)
 |none=>(.skip,.skip)
theorem aw.of {f:FuncId}{vs:List AV}{pd:Pd}{r:List (Option GO)}{R:AV->Hp->Nat->Prop}(h:aj P f vs H n R)(k:∀v H' n',R v H' n'->fj P r (pd.f v F) H' n' m Q):aw f vs pd r P F H n m Q:=h.mono k
theorem aw.pure {f:FuncId}{vs:List AV}{pd:Pd}{r:List (Option GO)}{v:AV}(h:ae P f vs v)(k:fj P r (pd.f v F) H n m Q):aw f vs pd r P F H n m Q:=(h.jE H n).mono λ u K k' ⟨a,b,c⟩=>by subst a b c;exact k
theorem aw.nf {f:FuncId}{vs vs':List AV}{pd:Pd}{r:List (Option GO)}{v:AV}(h:ae P f vs' v)(hf:Flat v)(hz:bh H.get vs vs')(k:fj P r (pd.f v F) H n m Q):aw f vs pd r P F H n m Q:=(h.anG hf n hz).mono λ u K k' ⟨a,b,c⟩=>by subst a b c;exact k
theorem aE.of {b:CT}(I:Nat->Fr->Hp->Nat->List Dm->Prop)(k:Nat)(h0:I k F H n m)(hs:∀k F H n m,I k F H n m->VC P b F H n m (uE I k Q)):aE b P F H n m Q:=⟨I,I,k,h0,λ _ _ _ _ _ h=>Zs.refl h,hs⟩
theorem aE.ZZ {b:CT}(I:Nat->Fr->Hp->Nat->List Dm->Prop)(k:Nat)(h0:Zs I k F H n m)(hs:∀k F H n m,I k F H n m->VC P b F H n m (uE (Zs I) k Q)):aE b P F H n m Q:=⟨I,Zs I,k,h0,λ _ _ _ _ _ h=>h,hs⟩
theorem cj.of {ds:List Nat}{l:List (Option RO)}{ce:Ce}(hce:gX P ce)(h:Ev ((Fj ds (fR l)).f ce F H n m) Q):cj ds l P F H n m Q:=⟨ce,_,F,H,hce,ez.refl F H,h⟩
theorem cj.ZZ {ds:List Nat}{l:List (Option RO)}{ce:Ce}{h:Hf}{F2:Fr}{H2:Hp}(hce:gX P ce)(s:ez h F H F2 H2)(k:Ev ((Fj ds (fR l)).f ce F2 H2 n m) Q):cj ds l P F H n m Q:=⟨ce,h,F2,H2,hce,s,k⟩
theorem xZ.ofB {c:Bool}{a b:CT}(h1:c=true->VC P a F H n m Q)(h2:c=false->VC P b F H n m Q):xZ (some (.bool c)) a b P F H n m Q:=by
 cases c
 ·exact h2 rfl
 exact h1 rfl
theorem cN:gX P (yp λ _ _ _ _=>.fail):=Bn λ _ _ _ _ _ _ _ h=>by cases h
theorem hU {g:FuncId}{c:CF}{args:List AV}{v:AV}(hc:HU P g=some c)(hp:aJ args)(hv:Pure v)(hl:args.length<=c.nt)
  (h:∀F:Fr,(∀i,F.get i=args[i]?)->VC P c.code F .nil 0 [] (iO c.res λ v1 H' _=>eY H'.get v1 v)):ae P g args v:=ae.ofR hp hv (aj.of hc hl h)
def amI (r:iT):Option AV:=match r with
 |.mk v _ _=>some v
 |_=>none
theorem ae.lit {g:FuncId}{args:List AV}{v:AV}(hp:aJ args)(hv:Pure v)(h:amI (lu P (yp λ _ _ _ _=>.fail) g args .nil 0)=some v):ae P g args v:=by
 refine ae.of cN hp ?_
 cases hr:lu P (yp λ _ _ _ _=>.fail) g args .nil 0 with
 |fail=>rw[hr]at h;cases h
 |qX v1 H' n'=>rw[hr]at h;cases h
 |mk v1 H' n'=>rw[hr]at h;injection h with h;subst h;exact⟨_,_,_,rfl,.pure _ hv⟩
theorem ae.an9 {g:FuncId}{args:List AV}{v:AV}(k:Nat)(hp:aJ args)(hv:Pure v)(h:amI ((Go.Abs.run P (k+1)).call g args .nil 0)=some v):ae P g args v:=by
 refine ae.of (Rq (P:=P) k) hp ?_;have e:lu P (Go.Abs.run P k) g args .nil 0=(Go.Abs.run P (k+1)).call g args .nil 0:=rfl
 cases hr:lu P (Go.Abs.run P k) g args .nil 0 with
 |fail=>rw[<-e,hr]at h;cases h
 |qX v1 H' n'=>rw[<-e,hr]at h;cases h
 |mk v1 H' n'=>rw[<-e,hr]at h;injection h with h;subst h;exact⟨_,_,_,rfl,.pure _ hv⟩
mutual
theorem VR.back {φ φ':Ph}{D D':Da}(hφ:∀b x,φ b=some x->φ' b=some x):∀ {v x x'},VR φ D v x->VR φ' D' v x'->VR φ D' v x'
 |_,_,_,.int _ _,.int _ _=>.int _ _
 |_,_,_,.bool _,.bool _=>.bool _
 |_,_,_,.str _ _ _,.str _ _ e=>.str _ _ e
 |_,_,_,.ptr _ _ _ _ _ h,.ptr _ _ _ _ _ k=>by rw[hφ _ _ h]at k;injection k with k;injection k with a b;injection b with b c;subst a b c;exact .ptr _ _ _ _ _ h
 |_,_,_,.sl _ _ _ _ _ _ _ _ _ h _ _,.sl _ _ _ _ _ _ _ _ _ k p q=>by rw[hφ _ _ h]at k;injection k with k;injection k with a b;injection b with b c;subst a b c;exact .sl _ _ _ _ _ _ _ _ _ h p q
 |_,_,_,.agg _ _ _ h _,.agg _ _ _ k e=>.agg _ _ _ (bO.back hφ h k) e
 |_,_,_,.aX _ _ h,.aX _ _ k=>.aX _ _ (bO.back hφ h k)
 |_,_,_,.kG _ _ _ h,.kG _ _ _ k=>.kG _ _ _ (VR.back hφ h k)
 |_,_,_,.fn _ _ _ _ _ h1 h2,.fn _ _ _ _ _ k1 k2=>.fn _ _ _ _ _ (bO.back hφ h1 k1) (bO.back hφ h2 k2)
 |_,_,_,.map _ _ _ _ h,.map _ _ _ _ k=>by rw[hφ _ _ h]at k;injection k with k;injection k with a b;injection b with b c;subst a b c;exact .map _ _ _ _ h
 |_,_,_,.ds _ _ _ _ _ _ _ _ _ _ _ h _,.ds _ _ _ _ _ _ _ _ a b c k e=>.ds _ _ _ _ _ _ _ _ a b c (bO.back hφ h k) e
 |_,_,_,.ds _ _ _ _ _ _ _ _ _ _ _ _ _,.nZ _ _ _=>.nZ _ _ _
 |_,_,_,.ds _ _ _ _ _ _ _ _ _ _ _ _ _,.rH _=>.rH _
 |_,_,_,.nZ _ _ _,.ds _ _ _ _ _ _ _ _ a b c k e=>.ds _ _ _ _ _ _ _ _ a b c (by cases k;exact .nil) e
 |_,_,_,.nZ _ _ _,.nZ _ _ _=>.nZ _ _ _
 |_,_,_,.nZ _ _ _,.rH _=>.rH _
 |_,_,_,.rH _,.ds _ _ _ _ _ _ _ _ a b c k e=>.ds _ _ _ _ _ _ _ _ a b c (by cases k;exact .nil) e
 |_,_,_,.rH _,.nZ _ _ _=>.nZ _ _ _
 |_,_,_,.rH _,.rH _=>.rH _
 |_,_,_,.dp _ _ _ _ _ _ _ h,.dp _ _ _ _ _ a b k=>.dp _ _ _ _ _ a b (bO.back hφ h k)
 |_,_,_,.jv _ _ _ _ h,.jv _ _ _ _ k=>by rw[hφ _ _ h]at k;injection k with k;injection k with a b;injection b with b c;subst a b c;exact .jv _ _ _ _ h
 |_,_,_,.al _ _,.al _ e=>.al _ e
theorem bO.back {φ φ':Ph}{D D':Da}(hφ:∀b x,φ b=some x->φ' b=some x):∀ {v x x'},bO φ D v x->bO φ' D' v x'->bO φ D' v x'
 |_,_,_,.nil,.nil=>.nil
 |_,_,_,.cons _ _ _ _ h1 h2,.cons _ _ _ _ k1 k2=>.cons _ _ _ _ (VR.back hφ h1 k1) (bO.back hφ h2 k2)
end
theorem ve.back {φ φ':Ph}{D D':Da}(hφ:∀b x,φ b=some x->φ' b=some x):∀ {v x x'},ve φ D v x->ve φ' D' v x'->ve φ D' v x'
 |_,_,_,.nil,.nil=>.nil
 |_,_,_,.cons _ _ _ _ _ _ _ a b c,.cons _ _ _ _ _ _ _ a' b' c'=>.cons _ _ _ _ _ _ _ (a.back hφ a') (b.back hφ b') (ve.back hφ c c')
theorem FR.back {φ φ':Ph}{D D':Da}(hφ:∀b x,φ b=some x->φ' b=some x){F:Ff}{t t':Array Value}(h:FR φ D F t)(k:FR φ' D' F t'):FR φ D' F t':=by
 refine⟨λ s v hv=>?_,k.2⟩;obtain⟨x,_,h2⟩:=h.1 s v hv;obtain⟨y,k1,k2⟩:=k.1 s v hv;exact⟨y,k1,h2.back hφ k2⟩
theorem iQ.back {φ φ':Ph}{D D':Da}{w w':World} {p}(hφ:∀b x,φ b=some x->φ' b=some x){k:br}(h:iQ φ D w p k)(k':iQ φ' D' w' p k):iQ φ D' w' p k:=by
 cases k with
 |cells u z bs t =>
  obtain⟨c,e,fr,h1,h2,h3,h4,h5⟩:=h;obtain⟨c',e',fr',k1,k2,k3,k4,k5⟩:=k';exact⟨c',e',fr',k1,k2,k3,λ i v hv=>let ⟨x,_,a⟩:=h4 i v hv;let ⟨y,b,b'⟩:=k4 i v hv;⟨y,b,a.back hφ b'⟩,k5⟩
 |map es clk=>obtain⟨c,h1,h2⟩:=h;obtain⟨c',k1,k2⟩:=k';exact⟨c',k1,h2.back hφ k2⟩
 |loop st j nt F ps a b =>
  obtain⟨r,h1,h2,h3,h4,h5,h6⟩:=h;obtain⟨r',k1,k2,k3,k4,k5,k6⟩:=k';exact⟨r',k1,k2,k3,k4,h5.back hφ k5,k6⟩
 |jX=>exact k'
 |iter m s l c =>
  obtain⟨h0,cm,h1,h2⟩:=h;obtain⟨_,cm',k1,k2⟩:=k';refine⟨h0,cm',k1,?_⟩
  cases m with
  |none=>exact k2
  |some b =>
   obtain⟨cb,co,cz,h3,_⟩:=h2;obtain⟨cb',co',cz',k3,k4⟩:=k2;have:=hφ _ _ h3;rw[this]at k3;injection k3 with k3;injection k3 with e1 e2;exact⟨cb,co,cz,h3,by rw[k4,e1]⟩
theorem aj.forget {g:FuncId}{args:List AV}{v0:AV}(hv:Flat v0)(h:aj P g args H n (λ v H' _=>v=v0/\∀b,H.get b≠none->H'.get b=H.get b)):aj P g args H n (λ u K k=>u=v0/\K=H/\k=n):=by
 refine⟨h.1,λ φ D w xs hr hvs hf RR hR=>h.2 φ D w xs hr hvs hf RR λ v H' n' φ' D' w' x ⟨hz,hk⟩ e r hx=>?_⟩;subst hz;refine hR v H n φ D' w' x ⟨rfl,rfl,rfl⟩ ⟨aP _,λ _ _ h=>h,λ _ a b=>ai a b,e.ep,e.size,e.keep,λ b p hb hp=>.inr ⟨b,p,hb,hp,rfl⟩,e.jW,λ _ h=>.inl h,e.os,e.out⟩ ?_ (hv.out hx);refine⟨λ b k hb=>?_,hr.inj,λ b p hb hp=>?_,r.ep⟩
 ·obtain⟨p,hp,hl,hb1⟩:=hr.blk b k hb;have hb':H'.get b=some k:=by rw[hk b (by rw[hb];simp),hb]
  have:=(r.block hb' (e.phi _ _ hp)).2;exact⟨p,hp,Nat.lt_of_lt_of_le hl e.size,hb1.back e.phi this⟩
 exact r.sep b p (by rw[hk b hb];exact hb) (e.phi _ _ hp)
theorem aw.same {f:FuncId}{vs:List AV}{pd:Pd}{r:List (Option GO)}{v:AV}(h:aj P f vs H n (λ u K k=>u=v/\K=H/\k=n))(k:fj P r (pd.f v F) H n m Q):aw f vs pd r P F H n m Q:=h.mono λ u K k' ⟨a,b,c⟩=>by subst a b c;exact k
end
end Go.Abs
namespace Go.Abs
open List
section
variable {P:Program}
theorem zO.mono {r:bb}{H:Hp}{n:Nat}{k k':AV->Hp->Nat->Prop}(h:zO r H n k)(hk:∀v H n,k v H n->k' v H n):zO r H n k':=by
 cases r<;>first|exact h|exact hk _ _ _ h
theorem e_.mono {v:Option AV}{b:Bool}{p q p' q':Prop}(h:e_ v b p q)(hp:p->p')(hq:q->q'):e_ v b p' q':=by
 unfold e_ at h ⊢
 split at h
 ·rename_i c
  cases hc:(c == b)with
  |true=>rw[hc]at h;exact hp h
  |false=>rw[hc]at h;exact hq h
 ·exact hq h
 exact h
theorem oM.mono {v:Option AV}{p q p' q':Prop}(h:oM v p q)(hp:p->p')(hq:q->q'):oM v p' q':=by
 unfold oM at h ⊢
 split at h
 ·exact hp h
 ·exact hq h
 exact h
theorem Ev.mono {r:Mc}{Q Q':QA}(h:Ev r Q)(hq:∀o F H n m,Q o F H n m->Q' o F H n m):Ev r Q':=by
 unfold Ev at h ⊢
 split at h
 ·exact h
 ·exact hq _ _ _ _ _ h
 exact h
theorem Gz.mono {nt:Nat}{c:Code}{F:Fr}{H:Hp}{n:Nat}{Q Q':QA}(h:Gz P nt c F H n Q)(hq:∀o F H n m,Q o F H n m->Q' o F H n m):Gz P nt c F H n Q':=
 λ cb φ D a w st hf QQ hQ=>h cb φ D a w st hf QQ λ o F' H' n' m' φ' D' a' w' px q=>hQ o F' H' n' m' φ' D' a' w' px (hq _ _ _ _ _ q)
theorem yx.mono {q:Nat}{vs:List AV}{H:Hp}{n:Nat}{R S:AV->Hp->Nat->Prop}(h:yx P q vs H n R)(hs:∀v H' n',R v H' n'->S v H' n'):yx P q vs H n S:=by
 obtain⟨st,j,nt,F0,ps,a,b,F1,h1,h2,h3⟩:=h;refine⟨st,j,nt,F0,ps,a,b,F1,h1,h2,h3.mono ?_⟩;rintro o F2 H2 n2 m2 ⟨rfl,rfl,j2,Hh,G2,ps2,a2,b2,h4,h5⟩;refine⟨rfl,rfl,j2,Hh,G2,ps2,a2,b2,h4,h5.mono ?_⟩;rintro j3 _ H3 n3 _ ⟨st,nt,G,ps,a,b,j0,h6,h7⟩;refine⟨st,nt,G,ps,a,b,j0,h6,?_⟩
 cases j3<;>first|exact hs _ _ _ h7|exact h7
theorem zG {x:Option AV}{as:Option (List AV)}{H:Hp}{n:Nat}{R S:AV->Hp->Nat->Prop}(hs:∀v H' n',R v H' n'->S v H' n')
  (h:(∃f first cap vs,x=some (.fn (.func f) first cap)/\as=some vs/\aj P f (first++(vs++cap)) H n R)∨(∃q vs,x=some (.jv q)/\as=some vs/\yx P q vs H n R)):
  (∃f first cap vs,x=some (.fn (.func f) first cap)/\as=some vs/\aj P f (first++(vs++cap)) H n S)∨(∃q vs,x=some (.jv q)/\as=some vs/\yx P q vs H n S):=by
 rcases h with⟨f,first,cap,vs,a,b,c⟩|⟨q,vs,a,b,c⟩
 ·exact .inl ⟨f,first,cap,vs,a,b,c.mono hs⟩
 exact .inr ⟨q,vs,a,b,c.mono hs⟩
theorem fj.mono:∀(l:List (Option GO))(F:Fr)(H:Hp)(n:Nat)(m:List Dm)(Q Q':QA),(∀o F H n m,Q o F H n m->Q' o F H n m)->fj P l F H n m Q->fj P l F H n m Q'
 |[],_F,_H,_n,_m,_Q,_Q',hq,h=>hq _ _ _ _ _ h
 |none::_,_,_,_,_,_,_,_,h=>h
 |some ⟨none,_pd,.eff _e⟩::r,_F,_H,_n,_m,_Q,_Q',hq,h=>zO.mono h λ _v _H' _n'=>fj.mono r _ _ _ _ _ _ hq
 |some ⟨none,_pd,.call _g _as⟩::r,_F,_H,_n,_m,_Q,_Q',hq,h=>zG (λ _v _H' _n'=>fj.mono r _ _ _ _ _ _ hq) h
 |some ⟨none,_,.bad⟩::_,_,_,_,_,_,_,_,h=>h
 |some ⟨none,_,.jd _⟩::_,_,_,_,_,_,_,_,h=>h
 |some ⟨none,_,.raw _⟩::_,_,_,_,_,_,_,_,h=>h
 |some ⟨some (_g,_b),_pd,.eff _e⟩::r,_F,_H,_n,_m,_Q,_Q',hq,h=>e_.mono h (λ h=>zO.mono h λ _v _H' _n'=>fj.mono r _ _ _ _ _ _ hq) (fj.mono r _ _ _ _ _ _ hq)
 |some ⟨some (_g,_b),_pd,.call _ _as⟩::r,_F,_H,_n,_m,_Q,_Q',hq,h=>e_.mono h (λ h=>zG (λ _v _H' _n'=>fj.mono r _ _ _ _ _ _ hq) h) (fj.mono r _ _ _ _ _ _ hq)
 |some ⟨some (_g,_b),_pd,.bad⟩::r,_F,_H,_n,_m,_Q,_Q',hq,h=>e_.mono h id (fj.mono r _ _ _ _ _ _ hq)
 |some ⟨some (_g,_b),_pd,.jd _⟩::r,_F,_H,_n,_m,_Q,_Q',hq,h=>e_.mono h id (fj.mono r _ _ _ _ _ _ hq)
 |some ⟨some (_g,_b),_pd,.raw _⟩::r,_F,_H,_n,_m,_Q,_Q',hq,h=>e_.mono h id (fj.mono r _ _ _ _ _ _ hq)
theorem VC.mono:∀(c:CT)(F:Fr)(H:Hp)(n:Nat)(m:List Dm)(Q Q':QA),(∀o F H n m,Q o F H n m->Q' o F H n m)->VC P c F H n m Q->VC P c F H n m Q'
 |.mc l,F,H,n,m,Q,Q',hq,h=>fj.mono l F H n m Q Q' hq h
 |.fb ds l,F,H,n,m,Q,Q',hq,⟨ce,h,F2,H2,a,s,b⟩=>⟨ce,h,F2,H2,a,s,b.mono hq⟩
 |.seq a b,F,H,n,m,Q,Q',hq,h=>VC.mono a F H n m _ _ (λ o F' H' n' m' h'=>match o,h' with
  |.normal,h'=>VC.mono b F' H' n' m' _ _ hq h'
  |.exit i,h'=>hq _ _ _ _ _ h'
  |.ret,h'=>hq _ _ _ _ _ h'
  |.panic _,h'=>h') h
 |.cond g a b,F,H,n,m,Q,Q',hq,h=>oM.mono h (VC.mono a _ _ _ _ _ _ hq) (VC.mono b _ _ _ _ _ _ hq)
 |.block i b,F,H,n,m,Q,Q',hq,h=>VC.mono b F H n m _ _ (λ o F' H' n' m' h'=>match o,h' with
  |.normal,h'=>hq _ _ _ _ _ h'
  |.exit j,h'=>by
   unfold fy at h' ⊢;dsimp only at h' ⊢
   split at h'
   ·rename_i e;rw[ao e];exact hq _ _ _ _ _ h'
   rename_i e;rw[ah e];exact hq _ _ _ _ _ h'
  |.ret,h'=>hq _ _ _ _ _ h'
  |.panic _,h'=>h') h
 |.loop b,F,H,n,m,Q,Q',hq,⟨I,J,k,h0,hj,hs⟩=>⟨I,J,k,h0,hj,λ k F H n m hi=>VC.mono b F H n m _ _ (λ o F' H' n' m' h'=>match o,h' with
  |.normal,h'=>h'
  |.exit i,h'=>hq _ _ _ _ _ h'
  |.ret,h'=>hq _ _ _ _ _ h'
  |.panic _,h'=>h') (hs k F H n m hi)⟩
 |.exit i,F,H,n,m,Q,Q',hq,h=>hq _ _ _ _ _ h
 |.ret,F,H,n,m,Q,Q',hq,h=>hq _ _ _ _ _ h
 |.skip,F,H,n,m,Q,Q',hq,h=>hq _ _ _ _ _ h
 |.range nt g ps a b,F,H,n,m,Q,Q',hq,⟨f,first,cap,h1,h2⟩=>⟨f,first,cap,h1,h2.mono λ v H' n' ⟨st,j,nt,G,ps,a,b,e1,e2,e3,e4⟩=>⟨st,j,nt,G,ps,a,b,e1,e2,e3,hq _ _ _ _ _ e4⟩⟩
 |.bad,_,_,_,_,_,_,_,h=>h
 |.raw k,F,H,n,m,Q,Q',hq,⟨ce,a,b⟩=>⟨ce,a,b.mono hq⟩
def eE (P:Program) (b:CT) (Q:QA):Nat->Fr->Hp->Nat->List Dm->Prop
 |0,_,_,_,_=>False
 |k+1,F,H,n,m=>VC P b F H n m λ o F' H' n' m'=>match o with
  |.normal=>eE P b Q k F' H' n' m'
  |.exit i=>Q (.exit i) F' H' n' m'
  |.ret=>Q .ret F' H' n' m'
  |.panic _=>False
def acw (P:Program)(b:CT)(Q:QA)(k:Nat):QA:=λ o F' H' n' m'=>match o with
 |.normal=>eE P b Q k F' H' n' m'
 |.exit i=>Q (.exit i) F' H' n' m'
 |.ret=>Q .ret F' H' n' m'
 |.panic _=>False
variable {F:Fr}{H:Hp}{n:Nat}{m:List Dm}{Q:QA}
@[simp] theorem acV (b:CT)(k:Nat):acw P b Q k .normal F H n m=eE P b Q k F H n m:=propext Iff.rfl
@[simp] theorem ajh (b:CT)(k i:Nat):acw P b Q k (.exit i) F H n m=Q (.exit i) F H n m:=propext Iff.rfl
@[simp] theorem akW (b:CT)(k:Nat):acw P b Q k .ret F H n m=Q .ret F H n m:=propext Iff.rfl
theorem eE.step {b:CT}{k:Nat}(h:VC P b F H n m (acw P b Q k)):eE P b Q (k+1) F H n m:=h
theorem aE.Py {b:CT}(k:Nat)(h:eE P b Q (k+1) F H n m):aE b P F H n m Q:=
 ⟨λ k F H n m=>eE P b Q k F H n m,λ k F H n m=>eE P b Q k F H n m,k+1,h,λ _ _ _ _ _ h=>Zs.refl h,λ k F H n m hi=>by
  cases k with
  |zero=>exact hi.elim
  |succ k =>
   refine VC.mono b F H n m _ _ (λ o F' H' n' m' h'=>?_) hi
   cases o with
   |normal=>exact⟨k,Nat.lt_succ_self k,h'⟩
   |exit i=>exact h'
   |ret=>exact h'
   |panic v=>exact h'⟩
end
end Go.Abs
namespace Go.Abs
open List
def OwnB (k:br)(l:List AV):Prop:=∃u z bs t,k=.cells u z bs t/\u=l.length/\(∀i,gz u z bs t i=l[i]?)/\(t=.nil->z=[]->bs.length=u)
theorem OwnB.list {l:List AV}{u:Nat}(h:u=l.length):OwnB (.cells u [] l .nil) l:=⟨u,[],l,.nil,rfl,h,λ i=>by
 rw[jc]
 split
 ·rfl
 rw[getElem?_eq_none (by omega)],λ _ _=>h.symm⟩
theorem py {u:Nat}{z bs:List AV}{t:Ov AV}{l:List AV}(hg:∀i,gz u z bs t i=l[i]?)(o:Nat):∀(k:Nat)(acc:List AV),o+k<=l.length->tW u z bs t o k acc=some ((l.drop o).take k++acc)
 |0,acc,_=>by simp;rfl
 |k+1,acc,h=>by
  show kK (gz u z bs t (o+k)) none (λ v=>tW u z bs t o k (v::acc))=_;rw[hg,cE (by omega)];simp only[Pn];rw[py hg o k _ (by omega),take_add_one,append_assoc]
  congr 1
  simp[iV,cE (show o+k<l.length by omega)]
theorem OwnB.fX {k:br}{l:List AV}(h:OwnB k l){o c:Nat}(hc:o+c<=l.length):∃u z bs t,k=.cells u z bs t/\Go.Abs.fX u z bs t o c=some ((l.drop o).take c):=by
 obtain⟨u,z,bs,t,rfl,hu,hg,hi⟩:=h;refine⟨u,z,bs,t,rfl,?_⟩
 have ex:∃r,Go.Abs.fX u z bs t o c=some r:=by
  have hb:Nat.ble (Nat.add o c) u=true:=uv (by rw[hu];exact hc)
  have orr:∀r,∃l',orR r u z bs t o c=some l':=by
   intro r;unfold orR
   split
   ·exact⟨_,rfl⟩
   exact⟨_,py hg o c [] hc⟩
  unfold Go.Abs.fX
  split
  ·split
   ·split
    ·exact⟨_,rfl⟩
    rw[hb];exact orr _
   split
   ·rw[hb];exact⟨_,rfl⟩
   exact⟨_,py hg o c [] hc⟩
  ·rw[hb];exact orr _
  rw[hb];dsimp only
  split
  ·split
   ·exact orr _
   exact orr _
  exact⟨_,py hg o c [] hc⟩
 obtain⟨r,hr⟩:=ex;rw[hr];obtain⟨h1,h2⟩:=jb hi hr
 congr 1
 apply ext_getElem?;intro i
 by_cases hlt:i<c
 ·rw[<-h2 i hlt,hg,getElem?_take,ao hlt,iV]
 rw[getElem?_eq_none (by omega),getElem?_eq_none (by simp;omega)]
def au (H:Hp)(n:Nat)(v:AV)(l:List AV)(len sz:Nat):Prop:=l.length=len*sz/\((v=.al (.slice none 0 0)/\len=0)∨∃b k,v=.sl b 0 len sz/\b<n/\H.get b=some k/\OwnB k l)
section
variable {P:Program}{F:Fr}{H:Hp}{n:Nat}{m:List Dm}{Q:QA}
theorem au.nil (H:Hp)(n sz:Nat):au H n (.al (.slice none 0 0)) [] 0 sz:=⟨by simp,.inl ⟨rfl,rfl⟩⟩
theorem au.nf {v:AV}{l l':List AV}{len sz:Nat}(h:au H n v l len sz)(hl:bh H.get l l')(hz:0<sz:=by omega):eY H.get v (.ds l' len sz):=by
 obtain⟨s',rfl⟩:∃k,sz=k+1:=⟨sz - 1,by omega⟩;obtain⟨h0,⟨rfl,rfl⟩|⟨b,k,rfl,hb,hk,ho⟩⟩:=h
 ·have:l=[]:=by simpa using h0
  subst this;cases hl;exact .nil _
 obtain⟨u,z,bs,t,rfl,hg⟩:=ho.fX (o:=0) (c:=len*(s'+1)) (by omega);refine .sl _ _ _ _ _ _ _ _ _ _ hk hg ?_;rw[drop_zero,eZ (by omega)];exact hl
theorem bh.pure {h:Hf}{l:List AV}(hl:aJ l):bh h l l:=by
 induction l with
 |nil=>exact .nil
 |cons v r ih=>simp only[qx]at hl;exact .cons _ _ _ _ (.pure _ hl.1) (ih hl.2)
theorem au.iM {v x:AV}{l new:List AV}{len sz fP k:Nat}(h:au H n v l len sz) (hx:aV H sz x=some new) (hk:sliceLen x=some k) (hn:new.length=k*sz)
  (hs:0<sz)(hk0:0<k)(hbig:len+k<=big)(hby:fP<=4096)(h1:aY new=true):
  ∃H',(∀K:AV->Hp->Nat->Prop,zO (Go.Abs.iM sz fP n v x H) H n K=K (.sl n 0 (len+k) sz) H' (n+1))/\au H' (n+1) (.sl n 0 (len+k) sz) (l++new) (len+k) sz/\∀c,c≠n->v≠.sl c 0 len sz->H'.get c=H.get c:=by
 unfold Go.Abs.iM;rw[hx,hk];dsimp only;obtain⟨h0,⟨rfl,rfl⟩|⟨b,kb,rfl,hb,hkb,u,z,bs,t,rfl,hu,hg,hi⟩⟩:=h
 ·have hl:l=[]:=by simpa using h0
  subst hl
  have e:lW sz fP n k new H (.al (.slice none 0 0))=.new (.sl n 0 k sz) (.cells (k*sz) [] new .nil):=by
   unfold lW;simp only[kQ,uO,ry,show ¬k=0 by omega,hs,show k<=big by omega,hby,h1,decide_true,decide_false,Bool.and_self]
  rw[e];refine⟨_,λ K=>(by rw[qw];rfl),⟨by simp[hn],.inr ⟨n,.cells (k*sz) [] new .nil,by simp,by omega,by simp,?_⟩⟩,λ c hc _=>?_⟩
  ·simpa using OwnB.list (l:=new) hn.symm
  simp[show ¬c=n by omega]
 have e:lW sz fP n k new H (.sl b 0 len sz)=.mv (.sl n 0 (len+k) sz) b (.cells ((len+k)*sz) z bs (Ov.bD new (len*sz) t)):=by
  unfold lW FM;simp only[kQ,uO,ry,show ¬k=0 by omega,hs,hbig,hby,h1,decide_true,decide_false,Bool.and_self,hkb,hu,h0,aP,cJ]
 rw[e];have hm:(len+k)*sz=len*sz+k*sz:=Nat.add_mul _ _ _;refine⟨_,λ K=>rfl,⟨by simp[hn,h0,hm],.inr ⟨n,.cells ((len+k)*sz) z bs (Ov.bD new (len*sz) t),rfl,by omega,by simp,_,z,bs,_,rfl,by simp[hn,h0,hm],λ i=>?_,λ ht=>?_⟩⟩,λ c hc hne=>?_⟩
 ·rw[bY,Ov.bw]
  by_cases hlt:i<(len+k)*sz
  ·rw[ao hlt]
   by_cases ja:len*sz<=i/\i<len*sz+new.length
   ·rw[ao ja,getElem?_append_right (by omega),h0];rw[cE (by omega)]
   rw[ah ja,getElem?_append_left (by omega)];have:=hg i;rw[bY,ao (by omega)]at this;exact this
  rw[ah hlt,getElem?_eq_none (by simp[h0,hn];omega)]
 ·exfalso
  cases new with
  |nil=>simp at hn;have:0<k*sz:=Nat.mul_pos hk0 hs;omega
  |cons v r =>
   have:=Ov.bw (v::r) (len*sz) t (len*sz);rw[ht,ao (by simp)]at this;simp at this
 have:c≠b:=λ e=>hne (by rw[e]);simp[show ¬c=n by omega,this]
theorem au.app {v x:AV}{l new:List AV}{len sz fP k:Nat}{pd:Pd}{r:List (Option GO)}(h:au H n v l len sz)(hx:aV H sz x=some new)(hk:sliceLen x=some k)(hn:new.length=k*sz)
  (hs:0<sz)(hk0:0<k)(hbig:len+k<=big)(hby:fP<=4096)(h1:aY new=true)
  (hgo:∀H',au H' (n+1) (.sl n 0 (len+k) sz) (l++new) (len+k) sz->(∀c,c<n->v≠.sl c 0 len sz->H'.get c=H.get c)->fj P r (pd.f (.sl n 0 (len+k) sz) F) H' (n+1) m Q):Dy (Go.Abs.iM sz fP n v x H) pd r P F H n m Q:=by
 obtain⟨H',e,h1,h2⟩:=h.iM hx hk hn hs hk0 hbig hby h1;unfold Dy;rw[e];exact hgo H' h1 λ c hc=>h2 c (Nat.ne_of_lt hc)
def ZT (P:Program)(g:FuncId)(args l:List AV)(len sz:Nat):Prop:=∀(H:Hp)(n:Nat),bc P g args H n (.sl n 0 len sz) (H.put n (some (.cells (len*sz) [] l .nil))) (n+1)
theorem ZT.of {g:FuncId}{args l:List AV}{len sz:Nat}(hp:aJ args) (hl:aJ l) (h0:0<len) (h:aj P g args .nil 0 (λ v H' n'=>au H' n' v l len sz)):ZT P g args l len sz:=by
 intro H n;refine⟨h.1,Nat.le_succ n,λ φ D w xs hr hv hf R hR=>?_⟩;refine h.2 lF D w xs (ri hr.ep) (hp.uh hv) (λ _ _=>rfl) R λ v H' n' φ' D' w' x ho e r hx=>?_;obtain⟨hlen,⟨_,hz⟩|⟨b,k,rfl,hb,hk,ho⟩⟩:=ho
 ·omega
 cases hx with
 |sl _ _ _ _ cb co cz cap ad hp' hle had =>
 have hn:φ n=none:=hf n (aP _) (by omega);have hm:=Ph.gj (p:=(cb,co,cz)) hn;have hlive:=r.block hk hp'
 have hcb:w.heap.size<=cb:=by
  rcases e.live b _ (by rw[hk];simp) hp' with h|⟨b0,p0,hh,_⟩
  ·exact h
  simp at hh
 have hdn:∀c,D' c≠none->D c≠none∨w.heap.size<=c:=by
  intro c hc
  rcases e.jW c hc with h|h|⟨b0,p0,hh,_⟩
  ·exact .inl h
  ·exact .inr h
  simp at hh
 have hold:∀c p,H.get c≠none->φ c=some p->p.1<w.heap.size:=by
  intro c p hc hp
  cases hx:H.get c with
  |none=>exact ai hx hc
  |some k=>exact(hr.block hx hp).1
 have hhn:H.get n=none:=by
  cases hx:H.get n with
  |none=>rfl
  |some k=>obtain⟨p,hp,_⟩:=hr.blk n k hx;rw[hn]at hp;cases hp
 refine hR (φ.set n (cb,co,cz)) D' w' _ ⟨Nat.le_succ n,hm,?_,e.ep,e.size,λ c hc _=>e.keep c hc λ b p hb=>by simp at hb,?_,λ c hc=>(hdn c hc).elim .inl λ h=>.inr (.inl h),?_,e.os,e.out⟩ ⟨?_,?_,?_,r.ep⟩ ?_
 ·intro c h0 h1;unfold Ph.set at h1
  by_cases hc:c=n
  ·omega
  simp[hc,h0]at h1
 ·intro c p hc hp;rw[Tr.get_put]at hc;unfold Ph.set at hp
  by_cases hcn:c=n
  ·subst hcn;simp at hp;subst hp;exact .inl hcb
  simp[hcn]at hc hp;exact .inr ⟨c,p,hc,hp,rfl⟩
 ·intro c hc;rw[Tr.get_put]at hc
  by_cases hcn:c=n
  ·exact .inr (by omega)
  simp[hcn]at hc;exact .inl hc
 ·intro c kk hc;rw[Tr.get_put]at hc
  by_cases hcn:c=n
  ·subst hcn;simp at hc;subst hc;refine⟨(cb,co,cz),by simp[Ph.set],hlive.1,?_⟩;obtain⟨u,z,bs,t,rfl,hu,hg,hi⟩:=ho;obtain⟨cc,ee,fr,q1,q2,q3,q4,q5,q6⟩:=hlive.2;refine⟨cc,ee,fr,q1,q2,q3,λ i v hv=>?_,λ _ _=>hlen,by omega⟩;rw[jc]at hv
   split at hv
   ·have:=hg i;rw[hv]at this;obtain⟨y,hy,hvy⟩:=q4 i v this;exact⟨y,hy,(hl.mem v (mem_of_getElem? hv)).out hvy⟩
   cases hv
  rw[ah hcn]at hc;obtain⟨p,hp,hlt,hbk⟩:=hr.blk c kk hc;exact⟨p,hm _ _ hp,Nat.lt_of_lt_of_le hlt e.size,hbk.mono hm e.ep (e.keep _ hlt λ b p hb=>by simp at hb)⟩
 ·intro c d p q hc hd hp hq hpq;rw[Tr.get_put]at hc hd;unfold Ph.set at hp hq
  by_cases h1:c=n<;>by_cases h2:d=n<;>simp[h1,h2]at hc hd hp hq ⊢
  ·have:=hold d q hd hq;rw[<-hp]at hpq;simp at hpq;omega
  ·have:=hold c p hc hp;rw[<-hq]at hpq;simp at hpq;omega
  exact hr.inj c d p q hc hd hp hq hpq
 ·intro c p hc hp;rw[Tr.get_put]at hc;unfold Ph.set at hp
  by_cases h1:c=n
  ·subst h1;simp at hp;subst hp;exact r.sep b (cb,co,cz) (by rw[hk];simp) hp'
  simp[h1]at hc hp
  cases hD:D' p.1 with
  |none=>rfl
  |some x =>
   rcases hdn p.1 (by rw[hD];simp)with h|h
   ·exact ai (hr.sep c p hc hp) h
   have:=hold c p hc hp;omega
 exact .sl _ _ _ _ cb co cz cap ad (by simp[Ph.set]) hle had
open Classical in
def ceT (l:List (FuncId×List AV×(Hp->Nat->iT))):Ce:=yp λ g args H n=>match l.find? (λ x=>decide (x.1=g/\x.2.1=args))with
 |some x=>x.2.2 H n
 |none=>.fail
theorem dK {l:List (FuncId×List AV×(Hp->Nat->iT))}(h:∀x∈l,∀H n v H' n',x.2.2 H n=.mk v H' n'->bc P x.1 x.2.1 H n v H' n'):gX P (ceT l):=by
 refine Bn λ g args H n v H' n' e=>?_
 split at e
 ·rename_i x hx;have h1:=find?_some hx;simp at h1;obtain⟨rfl,rfl⟩:=h1;exact h x (mem_of_find?_eq_some hx) H n v H' n' e
 cases e
theorem bZ (g:FuncId)(args:List AV)(f:Hp->Nat->iT)(l:List (FuncId×List AV×(Hp->Nat->iT)))(H:Hp)(n:Nat):(ceT ((g,args,f)::l)).call g args H n=wo (f H n):=by
 simp[ceT,yp]
theorem sW {g g':FuncId}{args args':List AV}{f:Hp->Nat->iT}{l:List (FuncId×List AV×(Hp->Nat->iT))}(h:g=g'->args=args'->∀H n,(ceT l).call g args H n=wo (f H n))(H:Hp)(n:Nat):(ceT ((g',args',f)::l)).call g args H n=(ceT l).call g args H n:=by
 by_cases e:g'=g/\args'=args
 ·obtain⟨rfl,rfl⟩:=e;rw[h rfl rfl,bZ]
 simp only[ceT,yp,find?_cons,e,decide_false]
theorem cL {g:FuncId}{args:List AV}{u:AV}(h:ae P g args u):∀H n v H' n',iT.mk u H n=.mk v H' n'->bc P g args H n v H' n':=by
 intro H n v H' n' e;cases e;exact h.Ig H n
end
theorem eY.bool {h:Hf}{a b:Bool}(e:a=b):eY h (.bool a) (.bool b):=by subst e;exact .pure _ (by simp)
theorem eY.eq {h:Hf}{v v':AV}(hp:Pure v')(e:v=v'):eY h v v':=by subst e;exact .pure _ hp
@[simp] theorem ZY (H:Hp)(cs:List AV)(len sz:Nat):aV H sz (.ds cs len sz)=some cs:=by simp[aV]
@[simp] theorem acP (cs:List AV)(len sz:Nat):sliceLen (.ds cs len sz)=some len:=Eq.trans rfl rfl
@[simp] theorem acO (b o len sz:Nat):sliceLen (.sl b o len sz)=some len:=Eq.trans rfl rfl
theorem dy {H:Hp}{b o len sz:Nat}{k:br}{l:List AV}(hb:H.get b=some k)(ho:OwnB k l)(hl:o+len*sz<=l.length):aV H sz (.sl b o len sz)=some ((l.drop o).take (len*sz)):=by
 obtain⟨u,z,bs,t,rfl,hg⟩:=ho.fX hl;simp only[aV,kQ,decide_true,cond_true,hb,hg]
end Go.Abs
namespace Go.Abs
open List
open Go.RowKit Go.ChangeShapes
def fQ (w:World):Da:=λ c=>match w.heap[c]? with
 |some (.cells x _ _)=>some x
 |_=>none
theorem Uu (w:World)(hg:GB (fQ w)):Dat (fQ w) w:=by
 refine⟨λ c x h=>?_,hg⟩;unfold fQ at h
 split at h
 ·rename_i y e fr hy;injection h with h;subst h;exact⟨e,fr,hy⟩
 cases h
inductive rW {α β:Type} (R:α->β->Prop):List α->List β->Prop
 |nil:rW R [] []
 |cons {a b l m}:R a b->rW R l m->rW R (a::l) (b::m)
theorem rW.append {α β:Type}{R:α->β->Prop} {a b c d}(h:rW R a b)(k:rW R c d):rW R (a++c) (b++d):=by
 induction h with
 |nil=>exact k
 |cons h1 _ ih=>exact .cons h1 ih
section
variable {H:Type}{enc:TypeId×Value->H}{P:Program}{w:World}{base:Nat}{spare:Nat->Bool}{held:Bool}
theorem EA {α:Type}{f:Nat->Option α}:∀ {k:Nat}{l:List α},(List.range k).mapM f=some l->l.length=k/\∀i,i<k->f i=l[i]?:=by
 intro k l h;exact⟨by simpa using mapM_some_length h,λ i hi=>mapM_some_get h i i (by simp[hi])⟩
theorem FH {cb co i s:Nat}{x:Array Value}{e:TypeId}{fr:Nat×Nat}{cs:List Value}(hx:w.heap[cb]?=some (.cells x e fr)) (h:w.cells? base ((⟨cb,co,none⟩:Addr).add i) s=some cs):cs=(x.toList.drop (co+i)).take s/\cs.length=s:=by
 unfold World.cells? at h
 split at h
 ·obtain⟨hl,hg⟩:=EA h;refine⟨?_,hl⟩;apply ext_getElem?;intro j
  by_cases hj:j<s
  ·rw[<-hg j hj,getElem?_take,ao hj,iV]
   have ha:((⟨cb,co,none⟩:Addr).add i).add j=⟨cb,co+i+j,none⟩:=by
    unfold Addr.add
    by_cases h1:i=0<;>by_cases h2:j=0<;>simp[h1,h2]
   rw[ha];simp[World.cell?,hx]
  rw[getElem?_eq_none (by omega),getElem?_eq_none (by simp;omega)]
 cases h
theorem E1 {α:Type}{av:α->List AV}{s:Nat}(hav:∀a,(av a).length=s)(l:List α):(l.flatMap av).length=l.length*s:=by
 induction l with
 |nil=>simp
 |cons a r ih=>rw[flatMap_cons,length_append,ih,hav,length_cons,Nat.add_mul];omega
theorem vT {α:Type}{av:α->List AV}{R:α->DataW H->Prop}{t e:TypeId}{s fuel:Nat}{cs:List Value}{x:DataW H×List MemPlace}(ht:P.underlying t=some (.slice e)) (hs:P.cellsOf e=s) (h0:0<s) (hav:∀a,(av a).length=s)
  (hel:∀n cs y,n<fuel->DataW.trod enc P w base spare held n e cs=some y->∃a,bO lF (fQ w) (av a) cs/\R a y.1)
  (h:DataW.trod enc P w base spare held fuel t cs=some x):∃v l,cs=[v]/\VR lF (fQ w) (.ds (l.flatMap av) l.length s) v/\((l=[]/\x.1=.nil)∨∃ds rest,x.1=.slice ds rest/\rW R l ds):=by
 rcases DataW.trod_slice ht h with⟨rfl,rfl⟩|⟨a,len,cap,elems,rest,n,rfl,rfl,rfl,_,hle,_,hlen,hg,_,_⟩
 ·obtain⟨s,rfl⟩:∃k,s=k+1:=⟨s - 1,by omega⟩;exact⟨_,[],rfl,.rH s,.inl ⟨rfl,rfl⟩⟩
 refine⟨.slice (some a) len cap,?_⟩
 by_cases hl0:len=0
 ·subst hl0;have:elems=[]:=length_eq_zero_iff.1 hlen;subst this;exact⟨[],rfl,.nZ _ _ _,.inr ⟨_,_,rfl,.nil⟩⟩
 rw[hs]at hg;have h00:=hg 0 (by omega);have hlt0:0<elems.length:=by omega
 rw[cE hlt0,fu]at h00;obtain⟨cs0,hc0,_⟩:=h00;obtain⟨cb,co,sp⟩:=a
 have hsp:sp=none/\∃x e fr,w.heap[cb]?=some (.cells x e fr):=by
  unfold World.cells? at hc0
  split at hc0
  ·obtain⟨hl,hg'⟩:=EA hc0;have:=hg' 0 h0;rw[cE (by omega)]at this;simp only[Nat.zero_mul,Addr.add,if_true,World.cell?]at this
   split at this
   ·rename_i x e fr hx
    cases sp with
    |none=>exact⟨rfl,x,e,fr,hx⟩
    |some _=>simp at this
   cases this
  cases hc0
 obtain⟨rfl,xs,ee,fr,hx⟩:=hsp;have hD:fQ w cb=some xs:=by simp[fQ,hx]
 have key:∀k,k<=len->∃l:List α,l.length=k/\bO lF (fQ w) (l.flatMap av) ((xs.toList.drop co).take (k*s))/\rW R l ((elems.map (·.1)).take k):=by
  intro k
  induction k with
  |zero=>intro _;exact⟨[],rfl,by simpa using bO.nil,by simpa using rW.nil⟩
  |succ k ih =>
   intro hk;obtain⟨l,h1,h2,h3⟩:=ih (by omega);have hk':k<elems.length:=by omega
   have:=hg k (by omega);rw[cE hk',fu]at this;obtain⟨ck,hck,htk⟩:=this;obtain⟨b,hb1,hb2⟩:=hel n ck _ (Nat.lt_succ_self n) htk;obtain⟨hcc,hcl⟩:=FH hx hck;refine⟨l++[b],by simp[h1],?_,?_⟩
   ·rw[flatMap_append,show (k+1)*s=k*s+s by rw[Nat.add_mul];simp,take_add,drop_drop];refine h2.append ?_;rw[<-hcc];simpa using hb1
   rw[take_succ_eq_append_getElem (by simpa using hk')];exact rW.append h3 (.cons (by simpa using hb2) .nil)
 obtain⟨l,h1,h2,h3⟩:=key len (aP _);refine⟨l,rfl,?_,.inr ⟨_,_,rfl,?_⟩⟩
 ·rw[h1];refine .ds _ _ _ _ _ _ _ _ hD rfl ?_ h2 hle;rw[E1 hav,h1]
 rw[eZ (by simp;omega)]at h3;exact h3
end
theorem RN {φ:Ph}{D:Da}{cs:List AV}{n:Nat}{v:Value}(hl:cs.length=n)(h2:n≠1)(h:bO φ D cs v.cells.toList):VR φ D (.agg cs n) v:=by
 cases v with
 |agg xs=>obtain⟨l⟩:=xs;exact .agg _ _ _ h hl
 |_=>have:=h.length;simp[Value.cells]at this;omega
theorem aby {w w':World}{may:MemPlace->Prop}(hos:w'.os=w.os)(hout:w'.output=w.output)(hk:∀c,c<w.heap.size->w'.heap[c]?=w.heap[c]?):w.keptBut w' may:=by
 refine⟨hos,hout,λ i hi=>?_⟩;rw[hk i hi]
 cases w.heap[i]? with
 |none=>trivial
 |some o=>cases o<;>simp
theorem aas {w w':World}(hk:∀c,c<w.heap.size->w'.heap[c]?=w.heap[c]?){p:MemPlace}(hp:p.block<w.heap.size):w.sameAt w' p:=by
 cases p with
 |cell b o=>exact World.cell?_of_block (w:=w) (hk b hp)
 |map b=>exact hk b hp
theorem trod_stays {H:Type}{enc:TypeId×Value->H}{P:Program}{t:TypeId}(hl:laidOutB P=true)(hr:P.readableRec t=true)(hrow:t<P.types.size){w w':World}{v:Value}{d:DataW H}{ps:List MemPlace}
  (h:DataW.Trod enc P w 0 (λ _=>true) true t v d ps)(hk:∀c,c<w.heap.size->w'.heap[c]?=w.heap[c]?)(hlt:∀x∈ps,x.block<w.heap.size):
  DataW.Trod enc P w' 0 (λ b=>decide (b<w.heap.size)) true t v d ps:=
 WideElems.Trod_stays hl hr hrow h (λ x hx=>aas hk (hlt x hx)) (λ x hx=>by simpa using hlt x hx)
theorem pX {H:Type}{enc:TypeId×Value->H}{P:Program}(hl:laidOutB P=true){w w':World}(hk:∀c,c<w.heap.size->w'.heap[c]?=w.heap[c]?):∀ {ts:List TypeId}{vs:List Value}{ds:List (DataW H)}{ps:List MemPlace},
  (∀t∈ts,P.readableRec t=true/\t<P.types.size)->DataW.TrodAll enc P w 0 (λ _=>true) true ts vs ds ps->(∀x∈ps,x.block<w.heap.size)->DataW.TrodAll enc P w' 0 (λ b=>decide (b<w.heap.size)) true ts vs ds ps
 |[],[],[],_,_,h,_=>h
 |t::ts,v::vs,d::ds,_,ht,⟨p,q,h1,h2,e⟩,hlt=>by
  subst e;exact⟨p,q,trod_stays hl (ht t (by simp)).1 (ht t (by simp)).2 h1 hk λ x hx=>hlt x (by simp[hx]),pX hl hk (λ u hu=>ht u (by simp[hu])) h2 λ x hx=>hlt x (by simp[hx]),rfl⟩
 |[],_::_,_,_,_,h,_=>h.elim
 |[],[],_::_,_,_,h,_=>h.elim
 |_::_,[],_,_,_,h,_=>h.elim
 |_::_,_::_,[],_,_,h,_=>h.elim
theorem Ta {H:Type}{enc:TypeId×Value->H}{P:Program}{f:Func}{s:ChangeSpec}{w w':World}{args:Array Value}{ds gs:List (DataW H)}{before:List MemPlace}{tb:TypeId}(hl:laidOutB P=true)
  (ht:∀t∈f.params.toList,P.readableRec t=true/\t<P.types.size)(hvars:s.vars=[])(hres:f.resultTypes=#[tb])(hb:P.underlying tb=some .bool)
  (hfn:s.fn H (ds++gs)={results:=[.lit (.bool true)],args:=ds,vars:=[]})
  (hW:DataW.Whole enc P f.params.toList s.vars false w args.toList ds gs before)(hos:w'.os=w.os)(hout:w'.output=w.output)(hk:∀c,c<w.heap.size->w'.heap[c]?=w.heap[c]?):
  s.post enc P f false true false false w args (.bool true) w':=by
 have hW':=hW;obtain⟨p,q,hA,hV,rfl,hfz,hnd⟩:=hW;rw[hvars]at hV
 obtain⟨rfl,rfl⟩:gs=[]/\q=[]:=by
  cases gs with
  |nil=>exact⟨rfl,hV⟩
  |cons=>exact hV.elim
 refine⟨ds,[],p++[],[],p,[],hW',?_,?_,?_,aby hos hout hk,λ h=>by cases h⟩
 ·rw[hfn,hres];simp only[Value.resultList];exact⟨[],[],⟨1,by unfold DataW.trod;simp[hb,Value.cells]⟩,rfl,rfl⟩
 ·rw[hfn];exact pX hl hk ht hA λ x hx=>by simpa using hW'.lt x (by simp[hx])
 rw[hfn,hvars];exact rfl
end Go.Abs
