/- A part. -/
import Derived.Test.YtbdgioomddkglaaGreatAbs4
import Derived.ChangeArms
import Derived.Carry
import Derived.OpenShut
import Derived.ProofKit
import Derived.JoinedCond
import Derived.WalkKit
noncomputable section
namespace Go.Abs
open List
mutual
def Pure:AV->Prop
 |.int _ _=>True
 |.bool _=>True
 |.str _=>True
 |.aI _=>True
 |.agg cs _=>aT cs
 |.aW cs=>aT cs
 |.ds cs _ _=>aT cs
 |.dp cs=>aT cs
 |.fn _ a b=>aT a/\aT b
 |.fO _ v=>Pure v
 |.ptr _ _=>False
 |.sl _ _ _ _=>False
 |.map _=>False
 |.j9 _=>False
def aT:List AV->Prop
 |[]=>True
 |v::r=>Pure v/\aT r
end
mutual
theorem Pure.out {φ φ':Ph}{D:Da}:∀ {v:AV}{x:Value},Pure v->VR φ D v x->VR φ' D v x
 |.int _ _,_,_,.int _ _=>.int _ _
 |.bool _,_,_,.bool _=>.bool _
 |.str _,_,_,.str _ _ e=>.str _ _ e
 |.aI _,_,_,.aI _ e=>.aI _ e
 |.agg _ _,_,h,.agg _ _ _ a b=>.agg _ _ _ (aT.uW (by simpa only [Pure]using h) a) b
 |.aW _,_,h,.aW _ _ a=>.aW _ _ (aT.uW (by simpa only [Pure]using h) a)
 |.ds _ _ _,_,h,.ds _ _ _ _ _ _ _ _ a b c d e=>.ds _ _ _ _ _ _ _ _ a b c (aT.uW (by simpa only [Pure]using h) d) e
 |.ds _ _ _,_,_,.rT _ _ _=>.rT _ _ _
 |.ds _ _ _,_,_,.uv _=>.uv _
 |.dp _,_,h,.dp _ _ _ _ _ a b c=>.dp _ _ _ _ _ a b (aT.uW (by simpa only [Pure]using h) c)
 |.fn _ _ _,_,h,.fn _ _ _ _ _ a b=>.fn _ _ _ _ _ (aT.uW (by simp only[Pure]at h;exact h.1) a) (aT.uW (by simp only[Pure]at h;exact h.2) b)
 |.fO _ _,_,h,.fO _ _ _ a=>.fO _ _ _ (Pure.out (by simpa only [Pure]using h) a)
theorem aT.uW {φ φ':Ph}{D:Da}:∀ {vs:List AV}{xs:List Value},aT vs->cw φ D vs xs->cw φ' D vs xs
 |[],_,_,.nil=>.nil
 |_::_,_,h,.cons _ _ _ _ h1 h2=>.cons _ _ _ _ (Pure.out (by simp only[aT]at h;exact h.1) h1) (aT.uW (by simp only[aT]at h;exact h.2) h2)
end
@[simp] theorem alQ (k:IntKind)(i:Int):Pure (.int k i):=by simp only[Pure]
@[simp] theorem aka (b:Bool):Pure (.bool b):=by simp only[Pure]
@[simp] theorem alP (l:List Nat):Pure (.str l):=by simp only[Pure]
@[simp] theorem alR (v:Value):Pure (.aI v):=by simp only[Pure]
@[simp] theorem apx (cs:List AV)(len sz:Nat):Pure (.ds cs len sz)=aT cs:=by simp only[Pure]
@[simp] theorem apy (cs:List AV):Pure (.dp cs)=aT cs:=by simp only[Pure]
@[simp] theorem alS (cs:List AV)(n:Nat):Pure (.agg cs n)=aT cs:=by simp only[Pure]
@[simp] theorem alO (cs:List AV):Pure (.aW cs)=aT cs:=by simp only[Pure]
@[simp] theorem apw (f:Fn)(a b:List AV):Pure (.fn f a b)=(aT a/\aT b):=by simp only[Pure]
@[simp] theorem OL:aT []:=by simp only[aT]
@[simp] theorem qB (v:AV)(r:List AV):aT (v::r)=(Pure v/\aT r):=by simp only[aT]
@[simp] theorem aaQ (a b:List AV):aT (a++b)=(aT a/\aT b):=by
 induction a with
 |nil=>simp
 |cons v r ih=>simp[ih,and_assoc]
theorem aT.mem {a:List AV}(h:aT a):∀v∈a,Pure v:=by
 induction a with
 |nil=>intro v hv;simp at hv
 |cons u r ih =>
  simp only[qB]at h;intro v hv
  cases hv with
  |head=>exact h.1
  |tail _ hm=>exact ih h.2 v hm
theorem aT.Hj {a:List AV}(h:∀v∈a,Pure v):aT a:=by
 induction a with
 |nil=>simp
 |cons v r ih=>simp only[qB];exact⟨h v (by simp),ih λ u hu=>h u (by simp[hu])⟩
section
variable {P:Program}
def bO (P:Program) (g:FuncId) (args:List AV) (H:Hp) (n:Nat) (v:AV) (H':Hp) (n':Nat):Prop:=
 (∃ fn b, P.funcs[g]? = some fn ∧ fn.body = some b ∧ (fn.name == "runtime.NumGoroutine") = false) ∧ n ≤ n' ∧
  ∀ φ D w xs,Rel φ D H.get w->cw φ D args xs->cK φ n n'->∀R:Ending->World->Prop,
   (∀ φ' D' w' x,Ext φ D H.get w n φ' D' H'.get w' n'->Rel φ' D' H'.get w'->VR φ' D' v x->R (.returned x) w')->CallsIn Fence.wide 0 P g ⟨xs⟩ w R
theorem Pq {ce:Ce}(hce:iQ P ce){g:FuncId}{args:List AV}{H:Hp}{n:Nat}{v:AV}{H':Hp}{n':Nat}(h:oC P ce g args H n=.mk v H' n'):bO P g args H n v H' n':=
 qN hce h (.ret ..)
def nR:Ph:=λ _=>none
structure Kept (D D':Da)(w w':World):Prop where
 eQ:∀c x,D c=some x->D' c=some x
 size:w.heap.size<=w'.heap.size
 keep:∀c,c<w.heap.size->w'.heap[c]?=w.heap[c]?
 lj:∀c,D' c≠none->D c≠none∨w.heap.size<=c
 os:w'.os=w.os
 out:w'.output=w.output
structure ah (P:Program)(g:FuncId)(args:List AV)(v:AV):Prop where
 body : ∃ fn b, P.funcs[g]? = some fn ∧ fn.body = some b ∧ (fn.name == "runtime.NumGoroutine") = false
 alY:aT args
 aru:Pure v
 run:∀D w xs,Dat D w->cw nR D args xs->∀R:Ending->World->Prop,(∀D' w' x,Kept D D' w w'->Dat D' w'->VR nR D' v x->R (.returned x) w')->CallsIn Fence.wide 0 P g ⟨xs⟩ w R
theorem ah.BL {g:FuncId}{args:List AV}{v:AV}(h:ah P g args v) (H:Hp) (n:Nat):bO P g args H n v H n:=by
 refine⟨h.body,aM _,λ φ D w xs hr hv _ R hR=>?_⟩;refine h.run D w xs hr.eQ (h.alY.uW hv) R λ D' w' x hk hd hx=>?_;refine hR φ D' w' x ⟨aM _,λ _ _ h=>h,λ _ a b=>aj a b,hk.eQ,hk.size,λ c hc _=>hk.keep c hc,λ b p hb hp=>.inr ⟨b,p,hb,hp,rfl⟩,λ c hc=>(hk.lj c hc).elim .inl λ h=>.inr (.inl h),λ _ h=>.inl h,hk.os,hk.out⟩ ?_ (h.aru.out hx);refine⟨λ b k hb=>?_,hr.inj,λ b p hb hp=>?_,hd⟩
 ·obtain⟨p,hp,hl,hk'⟩:=hr.blk b k hb;exact⟨p,hp,Nat.lt_of_lt_of_le hl hk.size,hk'.mono (λ _ _ h=>h) hk.eQ (hk.keep _ hl)⟩
 cases hD:D' p.1 with
 |none=>rfl
 |some x =>
  rcases hk.lj p.1 (by rw[hD];simp)with h1|h1
  ·exact aj (hr.sep b p hb hp) h1
  cases hx:H.get b with
  |none=>exact aj hx hb
  |some k=>have:=(hr.block hx hp).1;omega
mutual
inductive fW (h:Hf):AV->AV->Prop
 |pure (v):Pure v->fW h v v
 |nil (sz):fW h (.aI (.slice none 0 0)) (.ds [] 0 (sz+1))
 |sl (b o len sz u z bs t cs cs'):h b=some (.cells u z bs t)->ju u z bs t o (len*sz)=some cs->cM h cs cs'->fW h (.sl b o len sz) (.ds cs' len sz)
 |ptr (b o sz u z bs t cs cs'):h b=some (.cells u z bs t)->ju u z bs t o sz=some cs->cM h cs cs'->fW h (.ptr b o) (.dp cs')
 |agg (cs cs' n):cM h cs cs'->fW h (.agg cs n) (.agg cs' n)
 |aW (cs cs'):cM h cs cs'->fW h (.aW cs) (.aW cs')
inductive cM (h:Hf):List AV->List AV->Prop
 |nil:cM h [] []
 |cons (v v' vs vs'):fW h v v'->cM h vs vs'->cM h (v::vs) (v'::vs')
end
theorem cM.length {h:Hf}:∀ {vs vs'},cM h vs vs'->vs'.length=vs.length
 |_,_,.nil=>rfl
 |_,_,.cons _ _ _ _ _ k=>by simp[cM.length k]
mutual
theorem fW.oz {h:Hf}:∀ {v v'},fW h v v'->Pure v'
 |_,_,.pure _ k=>k
 |_,_,.nil _=>by simp
 |_,_,.sl _ _ _ _ _ _ _ _ _ _ _ _ k=>by simpa using cM.oz k
 |_,_,.ptr _ _ _ _ _ _ _ _ _ _ _ k=>by simpa using cM.oz k
 |_,_,.agg _ _ _ k=>by simpa using cM.oz k
 |_,_,.aW _ _ k=>by simpa using cM.oz k
theorem cM.oz {h:Hf}:∀ {v v'},cM h v v'->aT v'
 |_,_,.nil=>OL
 |_,_,.cons _ _ _ _ a b=>by simpa using⟨fW.oz a,cM.oz b⟩
end
open Classical in
def shut (φ:Ph) (D:Da) (h:Hf) (w:World):Da:=λ c=>match D c with
 |some x=>some x
 |none=>if ∃b p,h b≠none/\φ b=some p/\p.1=c then (match w.heap[c]? with
  |some (.cells x _ _)=>some x
  |_=>none)else none
theorem eV {φ:Ph}{D:Da}{h:Hf}{w:World}:∀c x,D c=some x->shut φ D h w c=some x:=by
 intro c x hx;unfold shut;rw[hx]
theorem mA {φ:Ph}{D:Da}{h:Hf}{w:World}(hd:Dat D w):Dat (shut φ D h w) w:=by
 refine⟨λ c x hx=>?_,hd.2.mono eV⟩;unfold shut at hx
 split at hx
 ·rename_i y hy;injection hx with hx;subst hx;exact hd.1 c _ hy
 split at hx
 ·split at hx
  ·rename_i y e fr hy;injection hx with hx;subst hx;exact⟨e,fr,hy⟩
  cases hx
 cases hx
theorem y9 {φ:Ph}{D:Da}{h:Hf}{w:World}(hr:Rel φ D h w){b:Nat} {p}{x:Array Value} {e fr}(hb:h b≠none)(hp:φ b=some p)(hx:w.heap[p.1]?=some (.cells x e fr)):shut φ D h w p.1=some x:=by
 unfold shut;rw[hr.sep b p hb hp];dsimp only;rw[ak ⟨b,p,hb,hp,rfl⟩,hx]
mutual
theorem fW.vr {φ:Ph}{D:Da}{h:Hf}{w:World}(hr:Rel φ D h w):∀ {v v' x},fW h v v'->VR φ D v x->VR nR (shut φ D h w) v' x
 |_,_,_,.pure v k,hx=>k.out (hx.mono (λ _ _ h=>h) eV)
 |_,_,_,.nil sz,hx=>by cases hx;exact .uv _
 |_,_,_,.sl b o len sz u z bs t cs cs' hb hg k,hx=>by
  cases hx with
  |sl _ _ _ _ cb co cz cap ad hp hle had =>
  obtain⟨hlt,c,e,fr,q1,q2,q3,q4,q5,q6⟩:=hr.block hb hp;obtain⟨g1,g2⟩:=jG q5 hg
  by_cases hc:0<cap
  ·obtain⟨rfl,hfit⟩:=had hc;refine .ds _ _ _ _ _ _ _ _ (y9 hr (by rw[hb];simp) hp q1) rfl (by rw[cM.length k,g1]) ?_ hle;refine cM.uW hr k (cw.m9 ?_ λ i v hv=>?_)
   ·dsimp only at q1 q2 q3 q4 q5 q6;have hm:len*sz<=cap*sz:=rB _ hle;rw[length_take,length_drop,g1,Array.length_toList];omega
   have hi:i<len*sz:=by rw[<-g1];exact(nS.1 hv).1
   have:=g2 i hi;rw[hv]at this;obtain⟨x,hx,wJ⟩:=q4 _ _ this;dsimp only at hx;refine⟨x,?_,wJ⟩;rw[getElem?_take,ak hi,js];rw[show co+o+i=co+(o+i)from by omega];simpa using hx
  have hc0:cap=0:=by omega
  have hl0:len=0:=by omega
  subst hc0 hl0
  have:cs'=[]:=by
   have:=cM.length k;simp at g1;subst g1;simpa using this
  subst this;exact .rT _ _ _
 |_,_,_,.ptr b o sz u z bs t cs cs' hb hg k,hx=>by
  cases hx with
  |ptr _ _ cb co cz hp =>
  obtain⟨hlt,c,e,fr,q1,q2,q3,q4,q5,q6⟩:=hr.block hb hp;obtain⟨g1,g2⟩:=jG q5 hg;dsimp only at q1 q2 q3 q4 q5 q6
  have hat:∀i v,cs[i]?=some v->∃x,c.toList[co+o+i]?=some x/\VR φ D v x:=λ i v hv=>by
   have hi:i<sz:=by rw[<-g1];exact(nS.1 hv).1
   have:=g2 i hi;rw[hv]at this;obtain⟨x,hx,wJ⟩:=q4 _ _ this;refine⟨x,?_,wJ⟩;rw[show co+o+i=co+(o+i)from by omega];simpa using hx
  refine .dp _ _ _ _ _ (y9 hr (by rw[hb];simp) hp q1) rfl (cM.uW hr k (cw.m9 ?_ λ i v hv=>?_))
  ·rw[cM.length k,length_take,length_drop]
   rcases Nat.eq_zero_or_pos cs.length with h0|h0
   ·omega
   obtain⟨x,hx,_⟩:=hat (cs.length - 1) _ (dU (by omega));have:=(nS.1 hx).1;rw[Array.length_toList]at this ⊢;omega
  obtain⟨x,hx,wJ⟩:=hat i v hv;refine⟨x,?_,wJ⟩;have hi:i<cs.length:=(nS.1 hv).1;rw[cM.length k,getElem?_take,ak hi,js];exact hx
 |_,_,_,.agg cs cs' n k,hx=>by
  cases hx with
  |agg _ l _ a b=>exact .agg _ _ _ (cM.uW hr k a) (by rw[cM.length k,b])
 |_,_,_,.aW cs cs' k,hx=>by
  cases hx with
  |aW _ l a=>exact .aW _ _ (cM.uW hr k a)
theorem cM.uW {φ:Ph}{D:Da}{h:Hf}{w:World}(hr:Rel φ D h w):∀ {vs vs' xs},cM h vs vs'->cw φ D vs xs->cw nR (shut φ D h w) vs' xs
 |_,_,_,.nil,.nil=>.nil
 |_,_,_,.cons _ _ _ _ a b,.cons _ _ _ _ c d=>.cons _ _ _ _ (fW.vr hr a c) (cM.uW hr b d)
end
theorem vY {D:Da}{w:World}(hd:Dat D w):Rel nR D (Tr.nil:Hp).get w:=
 ⟨λ b k hb=>by simp at hb,λ b c p q hb=>by simp at hb,λ b p hb=>by simp at hb,hd⟩
theorem ah.of {ce:Ce}(hce:iQ P ce){g:FuncId}{args:List AV}{v:AV}(hp:aT args)(h:∃v1 H' n',oC P ce g args .nil 0=.mk v1 H' n'/\fW H'.get v1 v):ah P g args v:=by
 obtain⟨v1,H',n',h1,h2⟩:=h;obtain⟨hb,hn,hs⟩:=Pq hce h1;refine⟨hb,hp,h2.oz,λ D w xs hd hv R hR=>?_⟩;refine hs nR D w xs (vY hd) hv (λ _ _ _=>rfl) R λ φ' D' w' x aP hrel hx=>?_;refine hR (shut φ' D' H'.get w') w' x ⟨λ c x hx=>eV c x (aP.eQ c x hx),aP.size,λ c hc=>aP.keep c hc λ b p hb=>by simp at hb,λ c hc=>?_,aP.os,aP.out⟩ (mA hrel.eQ) (h2.vr hrel hx);unfold shut at hc
 split at hc
 ·rename_i y hy
  rcases aP.lj c (by rw[hy];simp)with h|h|⟨b0,p0,hh,_⟩
  ·exact .inl h
  ·exact .inr h
  simp at hh
 split at hc
 ·rename_i hex;obtain⟨b,p,hb,hp,rfl⟩:=hex
  rcases aP.live b p hb hp with h|⟨b0,p0,hh,_⟩
  ·exact .inr h
  simp at hh
 exact aj rfl hc
def kV:kC->kC
 |.mk v H n=>.mk v H n
 |_=>.fail
def r6 (f:FuncId->List AV->Hp->Nat->kC):Ce:={call:=λ g args H n=>kV (f g args H n),code:=λ _ _ _ _ _=>.fail,dcall:=λ _ _ _ _ _=>.fail}
theorem BK {f:FuncId->List AV->Hp->Nat->kC}(h:∀g args H n v H' n',f g args H n=.mk v H' n'->bO P g args H n v H' n'):iQ P (r6 f):=by
 refine⟨λ g args H n v H' n' e=>?_,λ g args H n v H' n' e=>?_,λ _ _ _ _ _ _ _ _ _ _ e=>(by cases e),λ _ _ _ _ _ _ _ _ e=>(by cases e)⟩
 ·have e:kV (f g args H n)=.mk v H' n':=e
  cases hc:f g args H n with
  |mk v1 H1 n1=>rw[hc]at e;cases e;exact h g args H n v H' n' hc
  |fail=>rw[hc]at e;cases e
  |rG v1 H1 n1=>rw[hc]at e;cases e
 have e:kV (f g args H n)=.rG v H' n':=e
 cases hc:f g args H n with
 |mk v1 H1 n1=>rw[hc]at e;cases e
 |fail=>rw[hc]at e;cases e
 |rG v1 H1 n1=>rw[hc]at e;cases e
@[simp] theorem ame (v:AV)(H:Hp)(n:Nat):kV (.mk v H n)=.mk v H n:=Eq.trans rfl rfl
structure Fam where
 {α:Type}
 dom:α->Prop
 enc:α->List AV
 val:α->AV
open Classical in
end
end Go.Abs
namespace Go.Abs
open List
abbrev QA:=nI->Fr->Hp->Nat->List Dm->Prop
def Ev (r:LZ)(Q:QA):Prop:=match r with
 |.mk (.panic _) _ _ _ _=>False
 |.mk o F H n m=>Q o F H n m
 |.fail=>False
def EvC (r:kC)(R:AV->Hp->Nat->Prop):Prop:=match r with
 |.mk v H n=>R v H n
 |_=>False
def DR (r:bg)(H:Hp)(n:Nat)(k:AV->Hp->Nat->Prop):Prop:=match r with
 |.fail=>False
 |.val v=>k v H n
 |.new v b=>k v (H.put n (some b)) (n+1)
 |.upd v b x=>k v (H.put b (some x)) n
 |.mv v b x=>k v ((H.put b none).put n (some x)) (n+1)
def acy (b:K)(ce:Ce)(Q:QA):QA:=λ o F H n m=>match o with
 |.normal=>Ev (b.f ce F H n m) Q
 |.exit i=>Q (.exit i) F H n m
 |.ret=>Q .ret F H n m
 |.panic _=>False
def jN (i:Nat)(Q:QA):QA:=λ o F H n m=>match o with
 |.normal=>Q .normal F H n m
 |.exit j=>if i=j then Q .normal F H n m else Q (.exit j) F H n m
 |.ret=>Q .ret F H n m
 |.panic _=>False
def fQ (res:List (Fr->Hp->Option AV)) (R:AV->Hp->Nat->Prop):QA:=λ o F H n m=>match o with
 |.exit _=>False
 |.panic _=>False
 |_ => match eW m H with
  |some H'=>match vd F H' res with
   |some vs=>R (uG vs) H' n
   |none=>False
  |none=>False
def o6 (v:Option AV)(p q:Prop):Prop:=match v with
 |some (.bool true)=>p
 |some (.bool false)=>q
 |_=>False
def Oh (v:Option AV)(a b:K)(ce:Ce)(F:Fr)(H:Hp)(n:Nat)(m:List Dm)(Q:QA):Prop:=o6 v (Ev (a.f ce F H n m) Q) (Ev (b.f ce F H n m) Q)
def gd (v:Option AV)(want:Bool)(p q:Prop):Prop:=match v with
 |some (.bool b)=>bif b == want then p else q
 |some _=>q
 |none=>False
def uD {α:Type}(o:Option α)(k:α->Prop):Prop:=match o with
 |some x=>k x
 |none=>False
section
variable {ce:Ce}{F:Fr}{H:Hp}{n:Nat}{m:List Dm}{Q:QA}
@[simp] theorem asZ:Ev (.mk .normal F H n m) Q=Q .normal F H n m:=propext Iff.rfl
@[simp] theorem as0 (i:Nat):Ev (.mk (.exit i) F H n m) Q=Q (.exit i) F H n m:=propext Iff.rfl
@[simp] theorem asX:Ev (.mk .ret F H n m) Q=Q .ret F H n m:=propext Iff.rfl
@[simp] theorem asY (v:AV):Ev (.mk (.panic v) F H n m) Q=False:=propext Iff.rfl
@[simp] theorem as8 (v:AV)(R:AV->Hp->Nat->Prop):EvC (.mk v H n) R=R v H n:=propext Iff.rfl
@[simp] theorem anD (k:AV->Hp->Nat->Prop):DR .fail H n k=False:=propext Iff.rfl
@[simp] theorem aql (v:AV)(k:AV->Hp->Nat->Prop):DR (.val v) H n k=k v H n:=propext Iff.rfl
@[simp] theorem aqn (v:AV)(b:bz)(k:AV->Hp->Nat->Prop):DR (.new v b) H n k=k v (H.put n (some b)) (n+1):=propext Iff.rfl
@[simp] theorem aqm (v:AV)(b:Nat)(x:bz)(k:AV->Hp->Nat->Prop):DR (.upd v b x) H n k=k v (H.put b (some x)) n:=propext Iff.rfl
@[simp] theorem as7 (v:AV)(b:Nat)(x:bz)(k:AV->Hp->Nat->Prop):DR (.mv v b x) H n k=k v ((H.put b none).put n (some x)) (n+1):=propext Iff.rfl
@[simp] theorem ac5 (b:K):acy b ce Q .normal F H n m=Ev (b.f ce F H n m) Q:=propext Iff.rfl
@[simp] theorem aj7 (b:K)(i:Nat):acy b ce Q (.exit i) F H n m=Q (.exit i) F H n m:=propext Iff.rfl
@[simp] theorem alp (b:K):acy b ce Q .ret F H n m=Q .ret F H n m:=propext Iff.rfl
@[simp] theorem adU (i:Nat):jN i Q .normal F H n m=Q .normal F H n m:=propext Iff.rfl
@[simp] theorem akK (i j:Nat):jN i Q (.exit j) F H n m=if i=j then Q .normal F H n m else Q (.exit j) F H n m:=propext Iff.rfl
@[simp] theorem aoG (i:Nat):jN i Q .ret F H n m=Q .ret F H n m:=propext Iff.rfl
@[simp] theorem aiY (p q:Prop):o6 (some (.bool true)) p q=p:=propext Iff.rfl
@[simp] theorem adL (p q:Prop):o6 (some (.bool false)) p q=q:=propext Iff.rfl
@[simp] theorem asE (p q:Prop):gd (some (.bool true)) true p q=p:=propext Iff.rfl
@[simp] theorem asF (p q:Prop):gd (some (.bool false)) true p q=q:=propext Iff.rfl
@[simp] theorem ap1 (p q:Prop):gd (some (.bool true)) false p q=q:=propext Iff.rfl
@[simp] theorem ap2 (p q:Prop):gd (some (.bool false)) false p q=p:=propext Iff.rfl
@[simp] theorem am8 (l:List AV)(b:Bool)(p q:Prop):gd (some (.aW l)) b p q=q:=propext Iff.rfl
@[simp] theorem wj {α:Type}(x:α)(k:α->Prop):uD (some x) k=k x:=propext Iff.rfl
@[simp] theorem al6 {α:Type}(k:α->Prop):uD none k=False:=propext Iff.rfl
@[simp] theorem alE (res:List (Fr->Hp->Option AV))(R:AV->Hp->Nat->Prop):fQ res R .ret F H n m=uD (eW m H) λ H'=>uD (vd F H' res) λ vs=>R (uG vs) H' n:=by
 unfold fQ uD;dsimp only;split<;>first|(split<;>simp_all)|simp_all
@[simp] theorem ac' (res:List (Fr->Hp->Option AV))(R:AV->Hp->Nat->Prop):fQ res R .normal F H n m=uD (eW m H) λ H'=>uD (vd F H' res) λ vs=>R (uG vs) H' n:=by
 unfold fQ uD;dsimp only;split<;>first|(split<;>simp_all)|simp_all
theorem aiC {r:LZ}(h:Ev r Q):∃o F H n m,r=.mk o F H n m/\Q o F H n m:=by
 cases r with
 |fail=>exact aj h id
 |mk o F H n m=>cases o<;>first|exact aj h id|exact⟨_,_,_,_,_,rfl,h⟩
@[simp] theorem as3:Ev (HQ.f ce F H n m) Q=Q .normal F H n m:=propext Iff.rfl
@[simp] theorem asV (a b:K):Ev ((Oq a b).f ce F H n m) Q=Ev (a.f ce F H n m) (acy b ce Q):=by
 simp only[Oq]
 cases h:a.f ce F H n m with
 |fail=>simp[Ev]
 |mk o F' H' n' m'=>cases o<;>rfl
@[simp] theorem aiX (a b:K):Oh (some (.bool true)) a b ce F H n m Q=Ev (a.f ce F H n m) Q:=propext Iff.rfl
@[simp] theorem adK (a b:K):Oh (some (.bool false)) a b ce F H n m Q=Ev (b.f ce F H n m) Q:=propext Iff.rfl
@[simp] theorem aqd (g:G)(a b:K):Ev ((Fh g a b).f ce F H n m) Q=Oh (g.f F) a b ce F H n m Q:=by
 simp only[Fh,Oh]
 cases g.f F with
 |none=>rfl
 |some v=>cases v with
  |bool b=>cases b<;>rfl
  |_=>rfl
@[simp] theorem aqb (i:Nat):Ev ((S9 i).f ce F H n m) Q=Q (.exit i) F H n m:=propext Iff.rfl
@[simp] theorem asW:Ev (ag4.f ce F H n m) Q=Q .ret F H n m:=propext Iff.rfl
def BQ (I:Nat->Fr->Hp->Nat->List Dm->Prop)(k:Nat)(Q:QA):QA:=λ o F' H' n' m'=>match o with
 |.normal=>∃k',k'<k/\I k' F' H' n' m'
 |.exit i=>Q (.exit i) F' H' n' m'
 |.ret=>Q .ret F' H' n' m'
 |.panic _=>False
@[simp] theorem ac9 (I:Nat->Fr->Hp->Nat->List Dm->Prop)(k:Nat):BQ I k Q .normal F H n m=∃k',k'<k/\I k' F H n m:=propext Iff.rfl
@[simp] theorem aj_ (I:Nat->Fr->Hp->Nat->List Dm->Prop)(k i:Nat):BQ I k Q (.exit i) F H n m=Q (.exit i) F H n m:=propext Iff.rfl
@[simp] theorem alA (I:Nat->Fr->Hp->Nat->List Dm->Prop)(k:Nat):BQ I k Q .ret F H n m=Q .ret F H n m:=propext Iff.rfl
def bF (d:Nat):Pd:=⟨λ v F=>(Tr.v7 (Nat.succ d) d).f (some v) F⟩
def rF:Pd:=⟨λ _ F=>F⟩
def Fp (d:Nat)(v:AV)(F:Fr):Fr:=(Tr.v7 (Nat.succ d) d).f (some v) F
@[simp] theorem atZ (d:Nat)(v:AV):(bF d).f v F=Fp d v F:=Eq.trans rfl rfl
@[simp] theorem atA (d t:Nat)(v:AV):(Fp d v F).get t=if t=d then some v else F.get t:=Tr.jV _ _ _ _ _ (Nat.lt_succ_self d)
@[simp] theorem at0 (v:AV):rF.f v F=F:=Eq.trans rfl rfl
@[simp] theorem AE (t:Nat):(ao t).f F=F.get t:=gV t F
@[simp] theorem Fg (v:AV):(aK v).f F=some v:=Eq.trans rfl rfl
def PH (ds:List Nat)(k:KR):K:=.mk <| λ ce F H n m=>k.f ce (ji ds F) H [H] n m
@[simp] theorem as4 (ds:List Nat)(k:KR):Ev ((PH ds k).f ce F H n m) Q=Ev (k.f ce (ji ds F) H [H] n m) Q:=propext Iff.rfl
variable {Hs:List Hp}
@[simp] theorem aqc:Ev (aiG.f ce F H Hs n m) Q=Q .normal F H n m:=propext Iff.rfl
def EvR (e:Eff)(F:Fr)(H:Hp)(Hs:List Hp)(n cnt:Nat)(k:AV->Hp->Nat->Prop):Prop:=match e F .nil n with
 |.val v=>k v H n
 |.new v b=>if jC n Hs=true then k v (H.put n (some b)) (n+1)else False
 |.fail=>uD (gG e F n cnt Hs) λ v=>k v H n
 |_=>False
theorem aiD (rs:RS)(pd:Pd)(e:Eff)(cnt:Nat)(next:KR):Ev ((opR rs pd e cnt next).f ce F H Hs n m) Q=EvR e (rs.f F) H Hs n cnt (λ v H' n'=>Ev (next.f ce (pd.f v F) H' Hs n' m) Q):=by
 simp only[opR];unfold EvR
 cases e (rs.f F) .nil n with
 |val v=>rfl
 |new v k=>dsimp only;split<;>simp_all [Ev]
 |fail=>dsimp only;unfold uD;split<;>simp_all [Ev]
 |upd=>rfl
 |mv=>rfl
theorem ab1 (rs:RS)(pd:Pd)(e:Eff)(next:KR):Ev ((Ht rs pd e next).f ce F H Hs n m) Q=DR (e (rs.f F) H n) H n (λ v H' n'=>Ev (next.f ce (pd.f v F) H' (H'::Hs) n' m) Q):=by
 simp only[Ht]
 cases e (rs.f F) H n<;>rfl
def ajc (rs:RS)(pd:Pd)(f:FuncId)(as:List G)(next:KR):KR:=hU rs pd (aK (.fn (.func f) [] [])) as next
theorem LI (rs:RS)(pd:Pd)(f:FuncId)(as:List G)(next:KR):Ev ((ajc rs pd f as next).f ce F H Hs n m) Q=uD (evs (rs.f F) as) λ vs=>EvC (ce.call f vs H n) (λ v H' n'=>Ev (next.f ce (pd.f v F) H' (H'::Hs) n' m) Q):=by
 simp only[ajc,hU,Fg]
 cases evs (rs.f F) as with
 |none=>rfl
 |some vs =>
  simp only[nil_append,append_nil,wj]
  cases ce.call f vs H n<;>rfl
@[simp] theorem aq7 (l:List Nat)(F:Fr)(t:Nat):((dE l).f F).get t=if t∈l then F.get t else none:=by
 induction l with
 |nil=>rfl
 |cons a r ih =>
  simp only[dE,QG,AE];rw[Tr.jV _ _ _ _ _ (Nat.lt_succ_self a),ih]
  by_cases h:t=a
  ·subst h;simp
  simp[h]
end
end Go.Abs
namespace Go.Abs
open List
@[simp] theorem ah2 (a b:Nat):((a:Int)=(b:Int))=(a=b):=propext (by omega)
@[simp] theorem rK (a b:Nat):Nat.ble a b=decide (a<=b):=by
 by_cases h:a<=b
 ·rw[rD h];simp[h]
 cases hh:Nat.ble a b with
 |true=>exact aj (dR hh) h
 |false=>simp[h]
@[simp] theorem u5 (a b:Nat):Nat.blt a b=decide (a<b):=rK (a+1) b
@[simp] theorem lP (a b:Nat):Nat.beq a b=decide (a=b):=by
 by_cases h:a=b
 ·subst h;simp
 cases hh:Nat.beq a b with
 |true=>exact aj (cR hh) h
 |false=>simp[h]
def oE (o:Option AV)(k:AV->bg):bg:=match o with
 |some v=>k v
 |none=>.fail
def lE (o:Option (List AV))(k:List AV->bg):bg:=match o with
 |some v=>k v
 |none=>.fail
@[simp] theorem apK (v:AV)(k:AV->bg):oE (some v) k=k v:=Eq.trans rfl rfl
@[simp] theorem apP (v:List AV)(k:List AV->bg):lE (some v) k=k v:=Eq.trans rfl rfl
@[simp] theorem akQ (cs:List AV)(n:Nat):(AV.agg cs n).len=n:=Eq.trans rfl rfl
@[simp] theorem adZ (cs:List AV)(n:Nat):(AV.agg cs n).cells=cs:=Eq.trans rfl rfl
@[simp] theorem akN (k:IntKind)(n:Int):(AV.int k n).len=1:=Eq.trans rfl rfl
@[simp] theorem ajm (b:Bool):(AV.bool b).len=1:=Eq.trans rfl rfl
@[simp] theorem akM (b:List Nat):(AV.str b).len=1:=Eq.trans rfl rfl
@[simp] theorem aoJ (a b c d:Nat):(AV.sl a b c d).len=1:=Eq.trans rfl rfl
@[simp] theorem aoL (cs:List AV)(c d:Nat):(AV.ds cs c d).len=1:=Eq.trans rfl rfl
@[simp] theorem akP (v:Value):(AV.aI v).len=1:=Eq.trans rfl rfl
@[simp] theorem aoK (f:Fn)(a b:List AV):(AV.fn f a b).len=1:=Eq.trans rfl rfl
@[simp] theorem akO (t:TypeId)(v:AV):(AV.fO t v).len=1:=Eq.trans rfl rfl
@[simp] theorem adW (k:IntKind)(n:Int):(AV.int k n).cells=[.int k n]:=Eq.trans rfl rfl
@[simp] theorem acq (b:Bool):(AV.bool b).cells=[.bool b]:=Eq.trans rfl rfl
@[simp] theorem adV (b:List Nat):(AV.str b).cells=[.str b]:=Eq.trans rfl rfl
@[simp] theorem ajn (a b c d:Nat):(AV.sl a b c d).cells=[.sl a b c d]:=Eq.trans rfl rfl
@[simp] theorem ajp (cs:List AV)(c d:Nat):(AV.ds cs c d).cells=[.ds cs c d]:=Eq.trans rfl rfl
@[simp] theorem adY (v:Value):(AV.aI v).cells=[.aI v]:=Eq.trans rfl rfl
@[simp] theorem ajo (f:Fn)(a b:List AV):(AV.fn f a b).cells=[.fn f a b]:=Eq.trans rfl rfl
@[simp] theorem adX (t:TypeId)(v:AV):(AV.fO t v).cells=[.fO t v]:=Eq.trans rfl rfl
@[simp] theorem ajr:aX []=true:=Eq.trans rfl rfl
@[simp] theorem ad0 (v:AV)(r:List AV):aX (v::r)=(v.one&&aX r):=Eq.trans rfl rfl
@[simp] theorem apF (k:IntKind)(n:Int):(AV.int k n).one=true:=Eq.trans rfl rfl
@[simp] theorem al7 (b:Bool):(AV.bool b).one=true:=Eq.trans rfl rfl
@[simp] theorem apE (b:List Nat):(AV.str b).one=true:=Eq.trans rfl rfl
@[simp] theorem arC (a b c d:Nat):(AV.sl a b c d).one=true:=Eq.trans rfl rfl
@[simp] theorem arE (cs:List AV)(c d:Nat):(AV.ds cs c d).one=true:=Eq.trans rfl rfl
@[simp] theorem apG (v:Value):(AV.aI v).one=true:=Eq.trans rfl rfl
@[simp] theorem arD (f:Fn)(a b:List AV):(AV.fn f a b).one=true:=Eq.trans rfl rfl
@[simp] theorem aah (a b:List AV):aX (a++b)=(aX a&&aX b):=by
 induction a with
 |nil=>simp
 |cons v r ih=>simp[ih,Bool.and_assoc]
section
variable {F:Fr}{H:Hp}{n:Nat}
@[simp] theorem atc (x:G):eD x F H n=oE (x.f F) .val:=by unfold eD oE;cases x.f F<;>rfl
def Ej (c:Option AV)(a b:bg):bg:=match c with
 |some (.bool true)=>a
 |some (.bool false)=>b
 |_=>.fail
@[simp] theorem apz (a b:bg):Ej (some (.bool true)) a b=a:=Eq.trans rfl rfl
@[simp] theorem apA (a b:bg):Ej (some (.bool false)) a b=b:=Eq.trans rfl rfl
@[simp] theorem aqq (c a b:G):xb c a b F H n=Ej (c.f F) (oE (a.f F) .val) (oE (b.f F) .val):=by
 unfold xb
 cases c.f F with
 |none=>rfl
 |some v=>cases v with
  |bool x =>
   cases x
   ·simp only[Ej,eD];cases b.f F<;>rfl
   simp only[Ej,eD];cases a.f F<;>rfl
  |_=>rfl
@[simp] theorem anX (z:List AV)(k:Nat):ay z k F H n=.new (.ptr n 0) (.cells k [] z .nil):=Eq.trans rfl rfl
@[simp] theorem atd (x:G):E' x F H n=oE (x.f F) λ v=>.new (.ptr n 0) (.cells v.len [] v.cells .nil):=by unfold E' oE;cases x.f F<;>rfl
@[simp] theorem aks (cs:List AV):kE F [] cs=some cs:=Eq.trans rfl rfl
@[simp] theorem aiu (o s:Nat)(x:G)(r:List (Nat×Nat×G))(cs:List AV):kE F ((o,s,x)::r) cs=(x.f F).bind λ v=>bif Nat.beq v.len s&&Nat.blt 0 s then (patch cs o v.cells).bind (λ cs'=>kE F r cs')else none:=by
 rw[kE]
 cases x.f F with
 |none=>rfl
 |some v =>
  dsimp only [Option.bind]
  cases Nat.beq v.len s&&Nat.blt 0 s with
  |false=>rfl
  |true=>dsimp only [cond];cases patch cs o v.cells<;>rfl
@[simp] theorem akb (cs:List AV)(o:Nat):patch cs o []=some cs:=by cases cs<;>cases o<;>rfl
def TC (v:AV)(o:Option (List AV)):Option (List AV):=match o with
 |some l=>some (v::l)
 |none=>none
@[simp] theorem aiV (v:AV)(l:List AV):TC v (some l)=some (v::l):=Eq.trans rfl rfl
@[simp] theorem Hg (c v:AV)(cs vs:List AV):patch (c::cs) 0 (v::vs)=TC v (patch cs 0 vs):=by
 rw[patch];cases patch cs 0 vs<;>rfl
@[simp] theorem ahb (c v:AV)(cs vs:List AV)(o:Nat):patch (c::cs) (o+1) (v::vs)=TC c (patch cs o (v::vs)):=by
 rw[patch];cases patch cs o (v::vs)<;>rfl
@[simp] theorem akc {bs vs:List AV}(h:vs.length=bs.length):patch bs 0 vs=some vs:=by
 induction vs generalizing bs with
 |nil=>cases bs<;>simp_all
 |cons v r ih =>
  cases bs with
  |nil=>simp at h
  |cons b bs=>rw[Hg,ih (by simpa using h)];rfl
@[simp] theorem anW (z:List AV)(k:Nat)(ps:List (Nat×Nat×G)):aH z k ps F H n=lE (kE F ps z) λ cs=>.val (.agg cs k):=by unfold aH lE;cases kE F ps z<;>rfl
@[simp] theorem aky (z:List AV)(k sz:Nat)(ps:List (Nat×Nat×G)):aL z k sz ps F H n=lE (kE F ps (rep z k)) λ cs=>.new (.sl n 0 k sz) (.cells (k*sz) [] cs .nil):=by unfold aL lE;cases kE F ps (rep z k)<;>rfl
@[simp] theorem alF (z:List AV):rep z 0=[]:=Eq.trans rfl rfl
theorem rep_succ (z:List AV)(n:Nat):rep z (n+1)=z++rep z n:=rfl
@[simp] theorem apm (z:List AV):rep z 1=z:=by simp[rep_succ]
@[simp] theorem anU (x:G):sY x F H n=oE (x.f F) λ v=>eE v H:=by unfold sY oE;cases x.f F<;>rfl
@[simp] theorem anT (k:Nat)(x:G):jg k x F H n=oE (x.f F) λ v=>df k v H:=by unfold jg oE;cases x.f F<;>rfl
@[simp] theorem anR (k:Nat)(x v:G):cH k x v F H n=oE (x.f F) λ a=>oE (v.f F) λ v=>jL k a v H:=by
 unfold cH oE
 cases x.f F with
 |none=>rfl
 |some a=>dsimp only;cases v.f F<;>rfl
@[simp] theorem aqr (x:G):aV x F H n=oE (x.f F) FC:=by unfold aV oE;cases x.f F<;>rfl
@[simp] theorem e1_f (c:AV->bg)(x:G):e1 c x F H n=oE (x.f F) c:=by unfold e1 oE;cases x.f F<;>rfl
@[simp] theorem e2_f (c:AV->AV->bg)(x y:G):e2 c x y F H n=oE (x.f F) λ a=>oE (y.f F) λ b=>c a b:=by
 unfold e2 oE
 cases x.f F with
 |none=>rfl
 |some a=>dsimp only;cases y.f F<;>rfl
@[simp] theorem aqa:evs F []=some []:=Eq.trans rfl rfl
@[simp] theorem anw (x:G)(r:List G):evs F (x::r)=(x.f F).bind λ a=>(evs F r).bind λ l=>some (a::l):=by
 rw[evs]
 cases x.f F with
 |none=>rfl
 |some a=>cases evs F r<;>rfl
@[simp] theorem aqu (f:Fn)(a b:List G):kG f a b F H n=lE (evs F a) λ a=>lE (evs F b) λ b=>.val (.fn f a b):=by
 unfold kG lE
 cases evs F a with
 |none=>rfl
 |some a=>dsimp only;cases evs F b<;>rfl
@[simp] theorem ate (sz eT:Nat)(s x:G):dj sz eT s x F H n=oE (s.f F) λ s=>oE (x.f F) λ x=>fP sz eT n s x H:=by
 unfold dj oE
 cases s.f F with
 |none=>rfl
 |some a=>dsimp only;cases x.f F<;>rfl
def sE (o:Option (Option AV))(k:Option AV->bg):bg:=match o with
 |some v=>k v
 |none=>.fail
@[simp] theorem apl (v:Option AV)(k:Option AV->bg):sE (some v) k=k v:=Eq.trans rfl rfl
@[simp] theorem amc:u4 F none=some none:=Eq.trans rfl rfl
@[simp] theorem amb (x:G):u4 F (some x)=(x.f F).map some:=Eq.trans rfl rfl
@[simp] theorem auN (c:Option AV->Option AV->Option AV->AV->bg)(x:G)(lo hi mx:Option G):Bz c x lo hi mx F H n=sE (u4 F lo) λ lo=>sE (u4 F hi) λ hi=>sE (u4 F mx) λ mx=>oE (x.f F) λ v=>c lo hi mx v:=by
 unfold Bz sE oE
 cases u4 F lo with
 |none=>rfl
 |some a=>cases u4 F hi with
  |none=>rfl
  |some b=>cases u4 F mx with
   |none=>rfl
   |some d=>dsimp only;cases x.f F<;>rfl
end
section
variable {H:Hp}{n:Nat}
@[simp] theorem am' {α:Type}(t:Tr α)(a b:Nat)(v:Option α):(t.put a v).get b=if b=a then v else t.get b:=Tr.get_put t a b v
def ld1 (k:Option bz)(o:Nat):bg:=match k with
 |some (.cells u z bs t)=>oE (gZ u z bs t o) .val
 |_=>.fail
def sC (k:Option bz)(o c:Nat):bg:=match k with
 |some (.cells u z bs t)=>lE (ju u z bs t o c) λ l=>.val (.agg l c)
 |_=>.fail
@[simp] theorem amy (u z bs t o):ld1 (some (.cells u z bs t)) o=oE (gZ u z bs t o) .val:=Eq.trans rfl rfl
@[simp] theorem amw (u z bs t o c):sC (some (.cells u z bs t)) o c=lE (ju u z bs t o c) λ l=>.val (.agg l c):=Eq.trans rfl rfl
@[simp] theorem amz (o:Nat):ld1 none o=.fail:=Eq.trans rfl rfl
@[simp] theorem amx (o c:Nat):sC none o c=.fail:=Eq.trans rfl rfl
@[simp] theorem adR (b o:Nat):eE (.ptr b o) H=ld1 (H.get b) o:=by
 unfold eE ld1 oE;dsimp only
 cases H.get b with
 |none=>rfl
 |some k=>cases k with
  |cells u z bs t=>dsimp only;cases gZ u z bs t o<;>rfl
  |_=>rfl
@[simp] theorem akC (v:AV)(r:List AV):eE (.dp (v::r)) H=.val v:=Eq.trans rfl rfl
@[simp] theorem adQ (k b o:Nat):df k (.ptr b o) H=sC (H.get b) o k:=by
 unfold df sC lE;dsimp only
 cases H.get b with
 |none=>rfl
 |some x=>cases x with
  |cells u z bs t=>dsimp only;cases ju u z bs t o k<;>rfl
  |_=>rfl
theorem ga {k:Nat}{l:List AV}(r:List AV)(h:l.length=k):df k (.dp (l++r)) H=.val (.agg l k):=by
 unfold df;dsimp only;have:Nat.ble k (l++r).length=true:=rD (by simp;omega);rw[this];dsimp only;rw[<-h,take_left]
theorem mP (u:Nat)(bs:List AV)(i:Nat):gZ u [] bs .nil i=if i<u then bs[i]? else none:=by
 rw[cQ]
 split
 ·simp only[Ov.get_nil];cases bs[i]?<;>rfl
 rfl
@[simp] theorem k_ (u:Nat)(bs:List AV)(i:Nat):gZ u [] bs .nil i=if i<u then bs[i]? else none:=mP u bs i
@[simp] theorem ako {u:Nat}{bs:List AV}{o k:Nat}(hl:bs.length=u)(h:o+k<=u):ju u [] bs .nil o k=some ((bs.drop o).take k):=by
 unfold ju;dsimp only
 split
 ·rename_i hb;simp at hb;obtain⟨rfl,rfl⟩:=hb;simp[<-hl]
 have e:wa k o bs=some ((bs.drop o).take k):=by
  unfold wa;dsimp only;rw[vM,oL,jF];have:((bs.drop o).take k).length=k:=by simp;omega
  have hb:Nat.beq ((bs.drop o).take k).length k=true:=by rw[this];exact Nat.beq_refl k
  rw[hb]
 rw[show Nat.ble (Nat.add o k) u=true from rD h,e];rfl
@[simp high] theorem wO (u:Nat) (bs:List AV):ju u [] bs .nil 0 u=some bs:=by
 unfold ju;simp
def stE (k:Nat)(v:AV)(x:Option bz)(b o:Nat):bg:=match x with
 |some (.cells u z bs t)=>bif Nat.beq v.len k&&Nat.ble (o+k) u&&aX v.cells then .upd (.aW []) b (nK u z bs t v.cells o)else .fail
 |_=>.fail
@[simp] theorem alh (k:Nat)(v:AV) (u z bs t b o):stE k v (some (.cells u z bs t)) b o=bif Nat.beq v.len k&&Nat.ble (o+k) u&&aX v.cells then .upd (.aW []) b (nK u z bs t v.cells o)else .fail:=Eq.trans rfl rfl
@[simp] theorem aje (k b o:Nat)(v:AV):jL k (.ptr b o) v H=stE k v (H.get b) b o:=by
 unfold jL stE;dsimp only
 cases H.get b with
 |none=>rfl
 |some x=>cases x with
  |cells u z bs t=>dsimp only;cases Nat.beq v.len k&&Nat.ble (o+k) u&&aX v.cells<;>rfl
  |_=>rfl
def stL (u:Nat)(bs vs:List AV)(o:Nat)(r:Option (List AV)):bz:=match r with
 |some bs'=>.cells u [] bs' .nil
 |none=>.cells u [] bs (Ov.bW vs o .nil)
@[simp] theorem alg (u:Nat)(bs vs:List AV)(o:Nat)(r:List AV):stL u bs vs o (some r)=.cells u [] r .nil:=Eq.trans rfl rfl
@[simp] theorem acY {u:Nat}{bs vs:List AV}{o:Nat}(h:u<=64):nK u [] bs .nil vs o=stL u bs vs o (patch bs o vs):=by
 unfold nK stL;simp only[rD h]
 cases patch bs o vs<;>rfl
@[simp] theorem akB (b o:Nat):FC (.ptr b o)=.val (.ptr b o):=Eq.trans rfl rfl
@[simp] theorem akI (k b o:Nat):xw k (.ptr b o)=.val (.ptr b (o+k)):=by unfold xw;dsimp only;rw[cX]
@[simp] theorem aoD (k:Nat)(cs:List AV):xw k (.dp cs)=.val (.dp (cs.drop k)):=Eq.trans rfl rfl
def nE (o:Option AV):bg:=match o with
 |some v=>.val v
 |none=>.fail
@[simp] theorem apL (v:AV):nE (some v)=.val v:=Eq.trans rfl rfl
@[simp] theorem akG (o:Nat)(cs:List AV)(k:Nat):xp o (.agg cs k)=nE (cs[o]?):=by
 unfold xp nE;dsimp only;rw[nf];cases cs[o]?<;>rfl
@[simp] theorem akF (o k m:Nat)(cs:List AV):xn o k (.agg cs m)=bif Nat.ble (o+k) m then .val (.agg ((cs.drop o).take k) k)else .fail:=by
 unfold xn;dsimp only
 cases Nat.ble (o+k) m<;>rfl
@[simp] theorem aol (i:Nat)(vs:List AV):fG i (.aW vs)=nE (vs[i]?):=by
 unfold fG nE;dsimp only;rw[nf];cases vs[i]?<;>rfl
theorem ig {cs:List AV}{len sz i:Nat}{k:IntKind}(h:i<len):dG sz (.ds cs len sz) (.int k (i:Int))=.val (.dp (cs.drop (i*sz))):=by
 show (match Nat.blt i len&&Nat.beq sz sz with
  |true=>bg.val (.dp (cs.drop (i*sz)))
  |false=>.fail)=_
 rw[show Nat.blt i len=true from rD h,Nat.beq_refl];rfl
theorem dn {b o len sz i:Nat}{k:IntKind}(h:i<len):dG sz (.sl b o len sz) (.int k (i:Int))=.val (.ptr b (o+i*sz)):=by
 show (match Nat.blt i len&&Nat.beq sz sz with
  |true=>gA (o+i*sz) λ o'=>bg.val (.ptr b o')
  |false=>.fail)=_
 rw[show Nat.blt i len=true from rD h,Nat.beq_refl];exact cX _ _
@[simp] theorem aok (cs:List AV)(len sz:Nat):bu (.ds cs len sz)=.val (.int .i64 (len:Int)):=Eq.trans rfl rfl
@[simp] theorem aoj (b o len sz:Nat):bu (.sl b o len sz)=.val (.int .i64 (len:Int)):=Eq.trans rfl rfl
@[simp] theorem akE:bu (.aI (.slice none 0 0))=.val (.int .i64 0):=Eq.trans rfl rfl
@[simp] theorem akD (l:List Nat):fb (.str l)=.val (.int .i64 (l.length:Int)):=by unfold fb;dsimp only;rw[bN];rfl
@[simp] theorem dO (k:IntKind)(i:Int):lF k i=.val (.int k i):=by unfold lF;rw[mQ]
@[simp] theorem aoC:ct .add=fH:=Eq.trans rfl rfl
@[simp] theorem aoy:ct .lss=qf .lss:=Eq.trans rfl rfl
@[simp] theorem aoz:ct .leq=qf .leq:=Eq.trans rfl rfl
@[simp] theorem aoA:ct .gtr=qf .gtr:=Eq.trans rfl rfl
@[simp] theorem aoB:ct .geq=qf .geq:=Eq.trans rfl rfl
@[simp] theorem aos:ct .sub=uQ (bL .sub):=Eq.trans rfl rfl
@[simp] theorem aox:ct .mul=uQ (bL .mul):=Eq.trans rfl rfl
@[simp] theorem aow:ct .quo=uQ (bL .quo):=Eq.trans rfl rfl
@[simp] theorem aov:ct .rem=uQ (bL .rem):=Eq.trans rfl rfl
@[simp] theorem aou:ct .shl=eN .shl:=Eq.trans rfl rfl
@[simp] theorem aot:ct .shr=eN .shr:=Eq.trans rfl rfl
@[simp] theorem amM (c:IntKind->Int->Int->bg)(k:IntKind)(a b:Int):uQ c (.int k a) (.int k b)=c k a b:=by simp[uQ]
@[simp] theorem ajf (k:IntKind)(a b:Int):bL .sub k a b=.val (.int k (k.wrap (a - b))):=by simp[bL]
@[simp] theorem ajg (k:IntKind)(a b:Int):bL .mul k a b=.val (.int k (k.wrap (a*b))):=by simp[bL]
@[simp] theorem aoE (k:IntKind)(a b:Int):fH (.int k a) (.int k b)=.val (.int k (k.wrap (a+b))):=by simp[fH]
@[simp] theorem aon (k:IntKind)(a b:Int):qf .lss (.int k a) (.int k b)=.val (.bool (decide (a<b))):=by simp[qf]
@[simp] theorem aoo (k:IntKind)(a b:Int):qf .leq (.int k a) (.int k b)=.val (.bool (decide (a<=b))):=by simp[qf]
@[simp] theorem aop (k:IntKind)(a b:Int):qf .gtr (.int k a) (.int k b)=.val (.bool (decide (b<a))):=by simp[qf]
@[simp] theorem aoq (k:IntKind)(a b:Int):qf .geq (.int k a) (.int k b)=.val (.bool (decide (b<=a))):=by simp[qf]
@[simp] theorem aqE (k:IntKind)(a b:Int):j7 false .num (.int k a) (.int k b)=.val (.bool (decide (a=b))):=by simp only[j7,je,if_true];by_cases h:a=b<;>simp[h]
@[simp] theorem aqC (k:IntKind)(a b:Int):j7 true .num (.int k a) (.int k b)=.val (.bool (decide (a≠b))):=by
 simp only[j7,je,if_true];by_cases h:a=b<;>simp[h]
@[simp] theorem aqD (a b:List Nat):j7 false .num (.str a) (.str b)=.val (.bool (decide (a=b))):=by simp only[j7,je,dZ];by_cases h:a=b<;>simp[h]
@[simp] theorem aqB (a b:List Nat):j7 true .num (.str a) (.str b)=.val (.bool (decide (a≠b))):=by simp only[j7,je,dZ];by_cases h:a=b<;>simp[h]
@[simp] theorem aoi (a b:Bool):j7 true .bool (.bool a) (.bool b)=.val (.bool (a != b)):=by cases a<;>cases b<;>rfl
def yM (b:Bool)(r:Option Bool):Option Bool:=if b then r else some false
@[simp] theorem akU (b c:Bool):yM b (some c)=some (b&&c):=by cases b<;>rfl
@[simp] theorem adH:bB [] [] []=some true:=Eq.trans rfl rfl
@[simp] theorem akv (qs:List LK)(k:IntKind)(a b:Int)(x y:List AV):bB (.i::qs) (.int k a::x) (.int k b::y)=yM (decide (a=b)) (bB qs x y):=by
 by_cases h:a=b
 ·simp[bB,dW,h,yM]
 have:(a == b)=false:=by simpa using h
 simp only[bB,dW,if_true,this,h,yM,decide_false];rfl
@[simp] theorem aku (qs:List LK)(a b:List Nat)(x y:List AV):bB (.s::qs) (.str a::x) (.str b::y)=yM (decide (a=b)) (bB qs x y):=by
 by_cases h:a=b
 ·simp[bB,dW,dZ,h,yM]
 have:(a == b)=false:=by simpa using h
 simp only[bB,dW,dZ,this,h,yM,decide_false];rfl
@[simp] theorem akw (qs:List LK)(a b:Bool)(x y:List AV):bB (.b::qs) (.bool a::x) (.bool b::y)=yM (decide (a=b)) (bB qs x y):=by
 by_cases h:a=b
 ·simp[bB,dW,h,yM]
 have:(a == b)=false:=by simpa using h
 simp only[bB,dW,this,h,yM,decide_false];rfl
def bE (neg:Bool)(r:Option Bool):bg:=match r with
 |some b=>.val (.bool (neg != b))
 |none=>.fail
@[simp] theorem aqH (neg b:Bool):bE neg (some b)=.val (.bool (neg != b)):=Eq.trans rfl rfl
@[simp] theorem aom (neg:Bool)(ks:List LK)(a b:List AV)(n m:Nat):kA neg ks (.agg a n) (.agg b m)=if n=ks.length/\m=ks.length then bE neg (bB ks a b)else .fail:=by
 unfold kA bE;dsimp only;rw[lP,lP]
 by_cases h:n=ks.length/\m=ks.length
 ·rw[ak h];simp only[h.1,h.2,decide_true,Bool.and_self];cases bB ks a b<;>rfl
 rw[ae h]
 have:(decide (n=ks.length)&&decide (m=ks.length))=false:=by
  by_cases h1:n=ks.length<;>by_cases h2:m=ks.length<;>simp_all
 rw[this]
@[simp] theorem aqA (b:Bool):GP .not (.bool b)=.val (.bool (!b)):=Eq.trans rfl rfl
theorem rp {ce:Ce}:∀ {m:List Dm}{H H':Hp}{n:Nat},eW m H=some H'->kR ce m .ret H n=.mk .ret H' n
 |[],H,H',n,h=>by simp only[eW]at h;injection h with h;subst h;simp only[kR]
 |.qw k::m,H,H',n,h=>by
  simp only[eW]at h
  split at h
  ·rename_i hk;simp only[kR,hk];exact rp h
  cases h
 |.fn _ _::m,H,H',n,h=>by simp[eW]at h
@[simp] theorem agD:eW [] H=some H:=Eq.trans rfl rfl
def aB (t:Nat):Fr->Hp->Option AV:=λ F _=>(ao t).f F
def vE (r:bg):Option AV:=match r with
 |.val v=>some v
 |_=>none
@[simp] theorem aqZ (v:AV):vE (.val v)=some v:=Eq.trans rfl rfl
def bS (a k:Nat):Fr->Hp->Option AV:=λ F H=>match (ao a).f F with
 |some v=>match df k v H with
  |.val v=>some v
  |_=>none
 |none=>none
def Q3 (a:Nat):Fr->Hp->Option AV:=λ F H=>match (ao a).f F with
 |some v=>match eE v H with
  |.val v=>some v
  |_=>none
 |none=>none
variable {F:Fr}
@[simp] theorem aqe:vd F H []=some []:=Eq.trans rfl rfl
@[simp] theorem anA (x:Fr->Hp->Option AV)(r:List (Fr->Hp->Option AV)):vd F H (x::r)=(x F H).bind λ v=>(vd F H r).bind λ l=>some (v::l):=by
 rw[vd]
 cases x F H with
 |none=>rfl
 |some a=>cases vd F H r<;>rfl
@[simp] theorem aq' (t:Nat):aB t F H=F.get t:=by simp[aB]
@[simp] theorem apt (a k:Nat):bS a k F H=(F.get a).bind λ v=>vE (df k v H):=by
 simp only[bS,AE]
 cases F.get a with
 |none=>rfl
 |some v=>dsimp only [Option.bind];cases df k v H<;>rfl
@[simp] theorem apu (a:Nat):Q3 a F H=(F.get a).bind λ v=>vE (eE v H):=by
 simp only[Q3,AE]
 cases F.get a with
 |none=>rfl
 |some v=>dsimp only [Option.bind];cases eE v H<;>rfl
@[simp] theorem alC (v:AV):uG [v]=v:=Eq.trans rfl rfl
@[simp] theorem alD:uG []=.aW []:=Eq.trans rfl rfl
@[simp] theorem alB (v u:AV)(l:List AV):uG (v::u::l)=.aW (v::u::l):=Eq.trans rfl rfl
end
section
variable {P:Program}{ce:Ce}
@[simp] theorem v8 {α:Type}(i:Nat)(t:Tr α):Tr.bW [] i t=t:=Eq.trans rfl rfl
theorem enter {g:FuncId}{af:AF}{args:List AV}{H:Hp}{n:Nat}{R:AV->Hp->Nat->Prop}(h:LO P g=some af) (hl:args.length<=af.nt)
  (hb:∀F:Fr,(∀i,F.get i=args[i]?)->Ev (af.code.f ce F H n []) (fQ af.res R)):EvC (oC P ce g args H n) R:=by
 unfold oC;rw[h];dsimp only;rw[bN,rD hl];dsimp only
 have:=hb (Tr.bW args 0 .nil) λ i=>by
  rw[Tr.bR]
  split
  ·simp
  rw[getElem?_eq_none (by omega)];rfl
 cases hr:af.code.f ce (Tr.bW args 0 .nil) H n []with
 |fail=>rw[hr]at this;exact this
 |mk o F1 H1 n1 m1 =>
  rw[hr]at this
  have key:(o=.normal∨o=.ret)->EvC (l7 af.res F1 (kR ce m1 .ret H1 n1)) R:=by
   intro ho
   have:uD (eW m1 H1) λ H'=>uD (vd F1 H' af.res) λ vs=>R (uG vs) H' n1:=by
    rcases ho with rfl|rfl
    ·simpa using this
    simpa using this
   cases hu:eW m1 H1 with
   |none=>rw[hu]at this;exact aj this id
   |some H2 =>
    rw[hu]at this;rw[rp hu];unfold l7;dsimp only;simp only[wj]at this
    cases he:vd F1 H2 af.res with
    |none=>rw[he]at this;exact this
    |some vs=>rw[he]at this;exact this
  cases o with
  |normal=>exact key (.inl rfl)
  |ret=>exact key (.inr rfl)
  |exit i=>exact this
  |panic v=>exact aj this id
end
end Go.Abs
namespace Go.Abs
open List
inductive KO where
 |eff (e:Eff)
 |call (g:G) (as:List G)
 |bad
 |jH (e:Eff)
 |raw (f:Pd->K->K)
structure GO where
 g:Option (G×Bool)
 pd:Pd
 op:KO
def inO (pd:Pd)(o:KO)(next:K):K:=match o with
 |.eff e=>opK pd e next
 |.call g as=>FB pd g as next
 |.bad=>iG
 |.jH _=>iG
 |.raw f=>f pd next
def goK (o:Option GO)(next:K):K:=match o with
 |some ⟨none,pd,k⟩=>inO pd k next
 |some ⟨some (g,b),pd,k⟩=>HH g b (inO pd k next) (ahB pd next)
 |none=>iG
def zu:List (Option GO)->K
 |[]=>HQ
 |o::r=>goK o (zu r)
def yE (P:Program) (o:Oper):KO:=match o.op with
 |.call {callee:=.value f,args,argTypes:=_}=>match dS P o with
  |some e=>.eff e
  |none=>match cA f,jt args.toList with
   |some g,some as=>.call g as
   |_,_=>.bad
 |.call {callee:=.invoke x name,args,argTypes:=_}=>match cA x,jt args.toList with
  |some g,some as=>.call (wG P name g) as
  |_,_=>.bad
 |.panic x=>match cA x with
  |some g=>.raw λ _ _=>AZ g
  |none=>.bad
 |.defer {callee:=.value f,args,argTypes:=_}=>match cA f,jt args.toList with
  |some g,some as=>.raw λ pd next=>BD pd g as next
  |_,_=>.bad
 |_=>match dS P o with
  |some e=>.eff e
  |none=>.bad
def koM (P:Program) (o:Oper):KO:=match o.op with
 |.call {callee:=.value f,args,argTypes:=_}=>match dS P o with
  |some e=>.eff e
  |none=>match cA f,jt args.toList with
   |some g,some as=>.call g as
   |_,_=>.bad
 |.call {callee:=.invoke x name,args,argTypes:=_}=>match cA x,jt args.toList with
  |some g,some as=>.call (wG P name g) as
  |_,_=>.bad
 |_=>match dS P o with
  |some e=>.eff e
  |none=>.bad
def uT (P:Program) (nt:Nat) (ops:Array Oper) (o:Oper):Option GO:=match fq nt o.dst with
 |none=>none
 |some pd=>match o.guard with
  |none=>some ⟨none,pd,yE P o⟩
  |some (j,b)=>match (ops[j]?).bind (·.dst)with
   |some d=>some ⟨some (ao d,b),pd,yE P o⟩
   |none=>none
theorem Aa (P:Program)(pd:Pd)(o:Oper)(next:K):tf P pd o next=inO pd (yE P o) next:=by
 unfold tf yE
 split
 ·rename_i ho;rw[ho]
  cases dS P o with
  |some e=>rfl
  |none=>dsimp only;split<;>simp_all [inO]
 ·split<;>simp_all [inO]
 ·split<;>simp_all [inO]
 ·split<;>simp_all [inO]
 split<;>simp_all [inO]
theorem HY (P:Program)(nt:Nat)(ops:Array Oper)(o:Oper)(next:K):rV P nt ops o next=goK (uT P nt ops o) next:=by
 unfold rV uT
 cases fq nt o.dst with
 |none=>rfl
 |some pd =>
  dsimp only
  cases o.guard with
  |none=>exact Aa ..
  |some x =>
   obtain⟨j,b⟩:=x;dsimp only
   cases (ops[j]?).bind (·.dst)with
   |none=>rfl
   |some d=>simp only[goK,Aa]
theorem xh (P:Program)(nt:Nat)(ops:Array Oper):∀l,rU P nt ops l=zu (l.map (uT P nt ops))
 |[]=>rfl
 |o::l=>by simp only[rU,map_cons,zu,HY,xh P nt ops l]
structure RO where
 rs:RS
 g:Option (G×Bool)
 pd:Pd
 op:KO
 cnt:Option Nat
def EN (o:RO)(next:KR):KR:=match o.op,o.cnt with
 |.eff e,some c=>opR o.rs o.pd e c next
 |.eff e,none=>Ht o.rs o.pd e next
 |.call g as,none=>hU o.rs o.pd g as next
 |.jH e,none=>SS o.rs o.pd e next
 |_,_=>jv
def abm (o:RO)(next:KR):KR:=match o.cnt with
 |some _=>OZ o.pd next
 |none=>abk o.pd next
def roR (o:Option RO) (next:KR):KR:=match o with
 |some o=>match o.g with
  |none=>EN o next
  |some (g,b)=>wN o.rs g b (EN o next) (abm o next)
 |none=>jv
def iF:List (Option RO)->KR
 |[]=>aiG
 |o::r=>roR o (iF r)
def Ox (_P:Program) (nt:Nat) (ops:Array Oper) (i:Nat) (k:Oper->KO) (cnt:Option Nat):Option RO:=match ops[i]? with
 |some o=>match fq nt o.dst with
  |some pd=>match o.guard with
   |none=>some ⟨dE (slotsOf ops o),none,pd,k o,cnt⟩
   |some (j,b)=>match (ops[j]?).bind (·.dst)with
    |some d=>some ⟨dE (slotsOf ops o),some (ao d,b),pd,k o,cnt⟩
    |none=>none
  |none=>none
 |none=>none
def koR (P:Program)(o:Oper):KO:=match dS P o with
 |some e=>.eff e
 |none=>.bad
def koF (P:Program) (o:Oper):KO:=match o.op with
 |.store _ _ _=>match dS P o with
  |some e=>.jH e
  |none=>.bad
 |_=>.bad
def roF (P:Program) (nt:Nat) (ops:Array Oper) (i:Nat):Option RO:=match ops[i]? with
 |some o=>match fq nt o.dst with
  |some pd=>match o.guard with
   |none=>some ⟨dE (slotsOf ops o),none,pd,koF P o,none⟩
   |some _=>none
  |none=>none
 |none=>none
def l5 (P:Program)(nt:Nat)(ops:Array Oper):List fg->Nat->List (Option RO)
 |[],_=>[]
 |.op i e::l,j=>Ox P nt ops i (koR P) (some (Nat.succ (Nat.sub j e)))::l5 P nt ops l j
 |.mod i::l,j=>Ox P nt ops i (koM P) none::l5 P nt ops l (Nat.succ j)
 |.Qa i::l,j=>Ox P nt ops i (koR P) (some 0)::l5 P nt ops l j
 |.jH i::l,j=>roF P nt ops i::l5 P nt ops l j
theorem ah5 (P:Program)(rs:RS)(pd:Pd)(o:Oper)(next:KR)(g:Option (G×Bool)):inF P rs pd o next=EN ⟨rs,g,pd,koF P o,none⟩ next:=by
 unfold inF EN koF;dsimp only
 split
 ·split<;>simp_all
 split<;>simp_all
theorem Bq (P:Program)(rs:RS)(pd:Pd)(o:Oper)(c:Nat)(next:KR)(g:Option (G×Bool)):inR P rs pd o c next=EN ⟨rs,g,pd,koR P o,some c⟩ next:=by
 unfold inR EN koR
 cases dS P o<;>rfl
theorem Sj (P:Program)(rs:RS)(pd:Pd)(o:Oper)(next:KR)(g:Option (G×Bool)):inM P rs pd o next=EN ⟨rs,g,pd,koM P o,none⟩ next:=by
 unfold inM EN koM;dsimp only
 split
 ·rename_i ho;rw[ho]
  cases dS P o with
  |some e=>rfl
  |none=>dsimp only;split<;>simp_all
 ·split<;>simp_all
 split<;>simp_all
theorem jZ (P:Program) (nt:Nat) (ops:Array Oper):∀l j,gu P nt ops l j=iF (l5 P nt ops l j)
 |[],_=>rfl
 |.op i e::l,j=>by
  simp only[gu,l5,iF,Ox]
  cases ops[i]? with
  |none=>rfl
  |some o =>
   dsimp only
   cases fq nt o.dst with
   |none=>rfl
   |some pd =>
    dsimp only [guarded]
    cases o.guard with
    |none=>dsimp only [roR];rw[jZ P nt ops l j,Bq (g:=none)]
    |some x =>
     obtain⟨q,b⟩:=x;dsimp only
     cases (ops[q]?).bind (·.dst)with
     |none=>rfl
     |some d=>dsimp only [roR,abm];rw[jZ P nt ops l j,Bq (g:=some (ao d,b))]
 |.mod i::l,j=>by
  simp only[gu,l5,iF,Ox]
  cases ops[i]? with
  |none=>rfl
  |some o =>
   dsimp only
   cases fq nt o.dst with
   |none=>rfl
   |some pd =>
    dsimp only [guarded]
    cases o.guard with
    |none=>dsimp only [roR];rw[jZ P nt ops l (Nat.succ j),Sj (g:=none)]
    |some x =>
     obtain⟨q,b⟩:=x;dsimp only
     cases (ops[q]?).bind (·.dst)with
     |none=>rfl
     |some d=>dsimp only [roR,abm];rw[jZ P nt ops l (Nat.succ j),Sj (g:=some (ao d,b))]
 |.Qa i :: l,j=>by
  simp only[gu,l5,iF,Ox]
  cases ops[i]? with
  |none=>rfl
  |some o =>
   dsimp only
   cases fq nt o.dst with
   |none=>rfl
   |some pd =>
    dsimp only [guarded]
    cases o.guard with
    |none=>dsimp only [roR];rw[jZ P nt ops l j,Bq (g:=none)]
    |some x =>
     obtain⟨q,b⟩:=x;dsimp only
     cases (ops[q]?).bind (·.dst)with
     |none=>rfl
     |some d=>dsimp only [roR,abm];rw[jZ P nt ops l j,Bq (g:=some (ao d,b))]
 |.jH i::l,j=>by
  simp only[gu,l5,iF,roF]
  cases ops[i]? with
  |none=>rfl
  |some o =>
   dsimp only
   cases fq nt o.dst with
   |none=>rfl
   |some pd =>
    dsimp only
    cases o.guard with
    |none=>dsimp only [roR];rw[jZ P nt ops l j,ah5 (g:=none)]
    |some x=>rfl
inductive CT where
 |eC (l:List (Option GO))
 |eM (ds:List Nat) (l:List (Option RO))
 |seq (a b:CT)
 |cond (g:G) (a b:CT)
 |block (i:Nat) (b:CT)
 |loop (b:CT)
 |exit (i:Nat)
 |ret
 |skip
 |range (nt:Nat) (g:G) (ps:List Nat) (a b:Code)
 |bad
 |raw (k:K)
def Hz:CT->K
 |.eC l=>zu l
 |.eM ds l=>PH ds (iF l)
 |.seq a b=>Oq (Hz a) (Hz b)
 |.cond g a b=>Fh g (Hz a) (Hz b)
 |.block i b=>Ig i (Hz b)
 |.loop b=>Lp (Hz b)
 |.exit i=>S9 i
 |.ret=>ag4
 |.skip=>HQ
 |.range nt g ps a b=>AP nt g ps a b
 |.bad=>iG
 |.raw k=>k
def ag6 (P:Program)(nt:Nat)(ops:Array Oper)(pl:List fg)(ok:Bool):CT:=match ok with
 |true=>.eM (jh ops.toList) (l5 P nt ops pl 0)
 |false=>.bad
theorem aaH (P:Program)(nt:Nat)(ops:Array Oper)(pl:List fg)(ok:Bool):aaI P nt ops pl ok=Hz (ag6 P nt ops pl ok):=by
 cases ok with
 |false=>rfl
 |true=>simp only[aaI,ag6,Hz,PH,jZ]
def fF (P:Program) (nt:Nat) (rd:Bool):Code->CT
 |.skip=>.skip
 |.region _ ops d=>bif d then (bif P.follows .mixedOrders then ag6 P nt ops (OM (mU ops.toList 0 .nil) ops.toList) (u3 (mU ops.toList 0 .nil) ops (OM (mU ops.toList 0 .nil) ops.toList))else .bad)else (bif rd&&eo ops.toList then .bad else .eC (ops.toList.map (uT P nt ops)))
 |.seq a b=>.seq (fF P nt rd a) (fF P nt rd b)
 |.cond c a b=>match cA c with
  |some x=>.cond x (fF P nt rd a) (fF P nt rd b)
  |none=>.bad
 |.block id b=>.block id (fF P nt rd b)
 |.loop (.seq a rest)=>match zw a with
  |some (x,d,ops,os)=>bif rd&&eo os then .bad else .raw (abv P nt x d ops os (comp P nt rd rest))
  |none=>.loop (.seq (fF P nt rd a) (fF P nt rd rest))
 |.loop b=>.loop (fF P nt rd b)
 |.exit id=>.exit id
 |.ret=>.ret
 |.scope b=>fF P nt rd b
 |.label _=>.skip
 |.rangeFunc f ps a b=>match cA f with
  |some x=>bif rd then .bad else .range nt x ps.toList a b
  |none=>.bad
 |_=>.bad
theorem lS (P:Program)(nt:Nat)(rd:Bool):∀c,comp P nt rd c=Hz (fF P nt rd c)
 |.skip=>rfl
 |.region _ ops d=>by
  simp only[comp,fF,LL,aaH,xh]
  cases d with
  |false=>simp only[cond_false];cases (rd&&eo ops.toList)<;>rfl
  |true=>simp only[cond_true];cases P.follows .mixedOrders<;>rfl
 |.seq a b=>by simp only[comp,fF,Hz,lS P nt rd a,lS P nt rd b]
 |.cond c a b=>by simp only[comp,fF,lS P nt rd a,lS P nt rd b];cases cA c<;>rfl
 |.block id b=>by simp only[comp,fF,Hz,lS P nt rd b]
 |.loop b=>by
  have ib:=lS P nt rd b
  cases b with
  |seq a rest =>
   simp only[comp,fF];simp only[comp,fF,Hz]at ib
   cases zw a with
   |none=>simp only[Hz,ib]
   |some y=>obtain⟨x,d,ops,os⟩:=y;dsimp only;cases (rd&&eo os)<;>rfl
  |_=>simp only[comp,fF,Hz,ib]<;>(try simp only[comp,fF,Hz]at ib;simp only[ib])
 |.exit id=>rfl
 |.ret=>rfl
 |.rangeFunc f ps a b=>by
  simp only[comp,fF]
  cases cA f with
  |none=>rfl
  |some x=>dsimp only;cases rd<;>rfl
 |.scope b=>by simp only[comp,fF,lS P nt rd b]
 |.label _=>rfl
 |.goto _=>rfl
 |.refuse _=>rfl
structure CF where
 res:List (Fr->Hp->Option AV)
 code:CT
 nt:Nat
def PI (P:Program) (g:FuncId):Option CF:=match P.funcs[g]? with
 |some fn=>match fn.body with
  | some b => match fn.name == "runtime.NumGoroutine" with
   |true=>none
   |false=>match ky P fn.results.toList with
    |some r=>some {res:=r,code:=fF P fn.ntmps false b,nt:=fn.ntmps}
    |none=>none
  |none=>none
 |none=>none
section
variable {ce:Ce}{F:Fr}{H:Hp}{n:Nat}{m:List Dm}{Q:QA}{Hs:List Hp}
def oP (pd:Pd)(e:Eff):Option GO:=some ⟨none,pd,.eff e⟩
def gP (g:G)(b:Bool)(pd:Pd)(e:Eff):Option GO:=some ⟨some (g,b),pd,.eff e⟩
def cP (pd:Pd)(f:FuncId)(as:List G):Option GO:=some ⟨none,pd,.call (aK (.fn (.func f) [] [])) as⟩
def nO (g:G)(b:Bool)(pd:Pd)(f:FuncId)(as:List G):Option GO:=some ⟨some (g,b),pd,.call (aK (.fn (.func f) [] [])) as⟩
def vP (pd:Pd)(g:G)(as:List G):Option GO:=some ⟨none,pd,.call g as⟩
@[simp] theorem anz:Ev ((zu []).f ce F H n m) Q=Q .normal F H n m:=propext Iff.rfl
def EvO (x:bg)(pd:Pd)(r:List (Option GO))(ce:Ce)(F:Fr)(H:Hp)(n:Nat)(m:List Dm)(Q:QA):Prop:=DR x H n λ v H' n'=>Ev ((zu r).f ce (pd.f v F) H' n' m) Q
def ajT (x:kC)(pd:Pd)(r:List (Option GO))(ce:Ce)(F:Fr)(m:List Dm)(Q:QA):Prop:=EvC x λ v H' n'=>Ev ((zu r).f ce (pd.f v F) H' n' m) Q
def acT (vs:Option (List AV))(f:FuncId)(pd:Pd)(r:List (Option GO))(ce:Ce)(F:Fr)(H:Hp)(n:Nat)(m:List Dm)(Q:QA):Prop:=uD vs λ vs=>ajT (ce.call f vs H n) pd r ce F m Q
def Z9 (v:Option AV)(b:Bool)(pd:Pd)(e:Eff)(r:List (Option GO))(ce:Ce)(F:Fr)(H:Hp)(n:Nat)(m:List Dm)(Q:QA):Prop:=gd v b (EvO (e F H n) pd r ce F H n m Q) (Ev ((zu r).f ce (pd.f (.aW []) F) H n m) Q)
def Z_ (v:Option AV)(b:Bool)(pd:Pd)(f:FuncId)(as:List G)(r:List (Option GO))(ce:Ce)(F:Fr)(H:Hp)(n:Nat)(m:List Dm)(Q:QA):Prop:=gd v b (acT (evs F as) f pd r ce F H n m Q) (Ev ((zu r).f ce (pd.f (.aW []) F) H n m) Q)
@[simp] theorem anB (pd:Pd)(r:List (Option GO)):EvO .fail pd r ce F H n m Q=False:=propext Iff.rfl
@[simp] theorem aqf (v:AV)(pd:Pd)(r:List (Option GO)):EvO (.val v) pd r ce F H n m Q=Ev ((zu r).f ce (pd.f v F) H n m) Q:=propext Iff.rfl
@[simp] theorem aqh (v:AV)(k:bz)(pd:Pd)(r:List (Option GO)):EvO (.new v k) pd r ce F H n m Q=Ev ((zu r).f ce (pd.f v F) (H.put n (some k)) (n+1) m) Q:=propext Iff.rfl
@[simp] theorem aqg (v:AV)(b:Nat)(k:bz)(pd:Pd)(r:List (Option GO)):EvO (.upd v b k) pd r ce F H n m Q=Ev ((zu r).f ce (pd.f v F) (H.put b (some k)) n m) Q:=propext Iff.rfl
@[simp] theorem as5 (v:AV)(b:Nat)(k:bz)(pd:Pd)(r:List (Option GO)):EvO (.mv v b k) pd r ce F H n m Q=Ev ((zu r).f ce (pd.f v F) ((H.put b none).put n (some k)) (n+1) m) Q:=propext Iff.rfl
@[simp] theorem aqy (v:AV)(H':Hp)(n':Nat)(pd:Pd)(r:List (Option GO)):ajT (.mk v H' n') pd r ce F m Q=Ev ((zu r).f ce (pd.f v F) H' n' m) Q:=propext Iff.rfl
@[simp] theorem akS (vs:List AV)(f:FuncId)(pd:Pd)(r:List (Option GO)):acT (some vs) f pd r ce F H n m Q=ajT (ce.call f vs H n) pd r ce F m Q:=propext Iff.rfl
@[simp] theorem asC (pd:Pd)(e:Eff)(r:List (Option GO)):Z9 (some (.bool true)) true pd e r ce F H n m Q=EvO (e F H n) pd r ce F H n m Q:=propext Iff.rfl
@[simp] theorem asD (pd:Pd)(e:Eff)(r:List (Option GO)):Z9 (some (.bool false)) true pd e r ce F H n m Q=Ev ((zu r).f ce (pd.f (.aW []) F) H n m) Q:=propext Iff.rfl
@[simp] theorem apZ (pd:Pd)(e:Eff)(r:List (Option GO)):Z9 (some (.bool true)) false pd e r ce F H n m Q=Ev ((zu r).f ce (pd.f (.aW []) F) H n m) Q:=propext Iff.rfl
@[simp] theorem ap0 (pd:Pd)(e:Eff)(r:List (Option GO)):Z9 (some (.bool false)) false pd e r ce F H n m Q=EvO (e F H n) pd r ce F H n m Q:=propext Iff.rfl
@[simp] theorem am7 (l:List AV)(b:Bool)(pd:Pd)(e:Eff)(r:List (Option GO)):Z9 (some (.aW l)) b pd e r ce F H n m Q=Ev ((zu r).f ce (pd.f (.aW []) F) H n m) Q:=propext Iff.rfl
@[simp] theorem asI (pd:Pd)(f:FuncId)(as:List G)(r:List (Option GO)):Z_ (some (.bool true)) true pd f as r ce F H n m Q=acT (evs F as) f pd r ce F H n m Q:=propext Iff.rfl
@[simp] theorem asJ (pd:Pd)(f:FuncId)(as:List G)(r:List (Option GO)):Z_ (some (.bool false)) true pd f as r ce F H n m Q=Ev ((zu r).f ce (pd.f (.aW []) F) H n m) Q:=propext Iff.rfl
@[simp] theorem ap5 (pd:Pd)(f:FuncId)(as:List G)(r:List (Option GO)):Z_ (some (.bool true)) false pd f as r ce F H n m Q=Ev ((zu r).f ce (pd.f (.aW []) F) H n m) Q:=propext Iff.rfl
@[simp] theorem ap6 (pd:Pd)(f:FuncId)(as:List G)(r:List (Option GO)):Z_ (some (.bool false)) false pd f as r ce F H n m Q=acT (evs F as) f pd r ce F H n m Q:=propext Iff.rfl
@[simp] theorem am_ (l:List AV)(b:Bool)(pd:Pd)(f:FuncId)(as:List G)(r:List (Option GO)):Z_ (some (.aW l)) b pd f as r ce F H n m Q=Ev ((zu r).f ce (pd.f (.aW []) F) H n m) Q:=propext Iff.rfl
theorem xE (e:Eff)(F:Fr)(n:Nat)(A:Hp)(As:List Hp):gG e F n 1 (A::As)=vE (e F A n):=by
 simp only[gG];unfold vE
 cases e F A n<;>rfl
def eqA (v:AV)(u:Option AV):Option AV:=u.bind λ u=>if Ik v u=true then some u else none
theorem Im (e:Eff)(F:Fr)(n k:Nat)(A:Hp)(As:List Hp):gG e F n (k+2) (A::As)=(vE (e F A n)).bind λ v=>eqA v (gG e F n (k+1) As):=by
 rw[gG];unfold vE eqA
 cases e F A n with
 |val v =>
  dsimp only [Option.bind]
  cases gG e F n (k+1) As with
  |none=>rfl
  |some u=>dsimp only;cases Ik v u<;>rfl
 |_=>rfl
@[simp] theorem aoR (e:Eff)(F:Fr)(n:Nat)(A:Hp)(As:List Hp):gG e F n 1 (A::As)=vE (e F A n):=xE e F n A As
@[simp] theorem aoQ (e:Eff)(F:Fr)(n:Nat)(A B:Hp)(As:List Hp):gG e F n 2 (A::B::As)=(vE (e F A n)).bind λ v=>eqA v (vE (e F B n)):=by rw[Im e F n 0,xE]
@[simp] theorem anI (v:AV):eqA v (some v)=some v:=by simp[eqA,PO]
def oI (rs:List Nat)(pd:Pd)(e:Eff)(c:Nat):Option RO:=some ⟨dE rs,none,pd,.eff e,some c⟩
def mI (rs:List Nat)(pd:Pd)(e:Eff):Option RO:=some ⟨dE rs,none,pd,.eff e,none⟩
def cI (rs:List Nat)(pd:Pd)(f:FuncId)(as:List G):Option RO:=some ⟨dE rs,none,pd,.call (aK (.fn (.func f) [] [])) as,none⟩
def goI (rs:List Nat)(g:G)(b:Bool)(pd:Pd)(e:Eff)(c:Nat):Option RO:=some ⟨dE rs,some (g,b),pd,.eff e,some c⟩
def gcI (rs:List Nat)(g:G)(b:Bool)(pd:Pd)(f:FuncId)(as:List G):Option RO:=some ⟨dE rs,some (g,b),pd,.call (aK (.fn (.func f) [] [])) as,none⟩
def fI (rs:List Nat)(pd:Pd)(e:Eff):Option RO:=some ⟨dE rs,none,pd,.jH e,none⟩
def vI (rs:List Nat)(pd:Pd)(g:G)(as:List G):Option RO:=some ⟨dE rs,none,pd,.call g as,none⟩
@[simp] theorem akt:Ev ((iF []).f ce F H Hs n m) Q=Q .normal F H n m:=propext Iff.rfl
def Og (x:bg)(pd:Pd)(r:List (Option RO))(ce:Ce)(F:Fr)(H:Hp)(Hs:List Hp)(n:Nat)(m:List Dm)(Q:QA):Prop:=DR x H n λ v H' n'=>Ev ((iF r).f ce (pd.f v F) H' (H'::Hs) n' m) Q
def ErI (x:bg)(e:Eff)(c:Nat)(F0:Fr)(pd:Pd)(r:List (Option RO))(ce:Ce)(F:Fr)(H:Hp)(Hs:List Hp)(n:Nat)(m:List Dm)(Q:QA):Prop:=match x with
 |.val v=>Ev ((iF r).f ce (pd.f v F) H Hs n m) Q
 |.new v b=>if jC n Hs=true then Ev ((iF r).f ce (pd.f v F) (H.put n (some b)) Hs (n+1) m) Q else False
 |.fail=>uD (gG e F0 n c Hs) λ v=>Ev ((iF r).f ce (pd.f v F) H Hs n m) Q
 |_=>False
def AvI (x:Option AV)(pd:Pd)(r:List (Option RO))(ce:Ce)(F:Fr)(H:Hp)(Hs:List Hp)(n:Nat)(m:List Dm)(Q:QA):Prop:=uD x λ v=>Ev ((iF r).f ce (pd.f v F) H Hs n m) Q
def GI (x:kC)(pd:Pd)(r:List (Option RO))(ce:Ce)(F:Fr)(Hs:List Hp)(m:List Dm)(Q:QA):Prop:=EvC x λ v H' n'=>Ev ((iF r).f ce (pd.f v F) H' (H'::Hs) n' m) Q
def aaa (vs:Option (List AV))(f:FuncId)(pd:Pd)(r:List (Option RO))(ce:Ce)(F:Fr)(H:Hp)(Hs:List Hp)(n:Nat)(m:List Dm)(Q:QA):Prop:=uD vs λ vs=>GI (ce.call f vs H n) pd r ce F Hs m Q
@[simp] theorem anC (pd:Pd)(r:List (Option RO)):Og .fail pd r ce F H Hs n m Q=False:=propext Iff.rfl
@[simp] theorem aqi (v:AV)(pd:Pd)(r:List (Option RO)):Og (.val v) pd r ce F H Hs n m Q=Ev ((iF r).f ce (pd.f v F) H (H::Hs) n m) Q:=propext Iff.rfl
@[simp] theorem aqk (v:AV)(k:bz)(pd:Pd)(r:List (Option RO)):Og (.new v k) pd r ce F H Hs n m Q=Ev ((iF r).f ce (pd.f v F) (H.put n (some k)) (H.put n (some k)::Hs) (n+1) m) Q:=propext Iff.rfl
@[simp] theorem aqj (v:AV)(b:Nat)(k:bz)(pd:Pd)(r:List (Option RO)):Og (.upd v b k) pd r ce F H Hs n m Q=Ev ((iF r).f ce (pd.f v F) (H.put b (some k)) (H.put b (some k)::Hs) n m) Q:=propext Iff.rfl
@[simp] theorem as6 (v:AV)(b:Nat)(k:bz)(pd:Pd)(r:List (Option RO)):Og (.mv v b k) pd r ce F H Hs n m Q=Ev ((iF r).f ce (pd.f v F) ((H.put b none).put n (some k)) ((H.put b none).put n (some k)::Hs) (n+1) m) Q:=propext Iff.rfl
@[simp] theorem aqo (v:AV)(e:Eff)(c:Nat)(F0:Fr)(pd:Pd)(r:List (Option RO)):ErI (.val v) e c F0 pd r ce F H Hs n m Q=Ev ((iF r).f ce (pd.f v F) H Hs n m) Q:=propext Iff.rfl
@[simp] theorem aqp (v:AV)(k:bz)(e:Eff)(c:Nat)(F0:Fr)(pd:Pd)(r:List (Option RO)):ErI (.new v k) e c F0 pd r ce F H Hs n m Q=if jC n Hs=true then Ev ((iF r).f ce (pd.f v F) (H.put n (some k)) Hs (n+1) m) Q else False:=propext Iff.rfl
@[simp] theorem anE (e:Eff)(c:Nat)(F0:Fr)(pd:Pd)(r:List (Option RO)):ErI .fail e c F0 pd r ce F H Hs n m Q=AvI (gG e F0 n c Hs) pd r ce F H Hs n m Q:=propext Iff.rfl
@[simp] theorem aoN (v:AV)(pd:Pd)(r:List (Option RO)):AvI (some v) pd r ce F H Hs n m Q=Ev ((iF r).f ce (pd.f v F) H Hs n m) Q:=propext Iff.rfl
@[simp] theorem aqz (v:AV)(H':Hp)(n':Nat)(pd:Pd)(r:List (Option RO)):GI (.mk v H' n') pd r ce F Hs m Q=Ev ((iF r).f ce (pd.f v F) H' (H'::Hs) n' m) Q:=propext Iff.rfl
@[simp] theorem akT (vs:List AV)(f:FuncId)(pd:Pd)(r:List (Option RO)):aaa (some vs) f pd r ce F H Hs n m Q=GI (ce.call f vs H n) pd r ce F Hs m Q:=propext Iff.rfl
@[simp] theorem anx (rs:List Nat)(pd:Pd)(e:Eff)(c:Nat)(r:List (Option RO)):Ev ((iF (oI rs pd e c::r)).f ce F H Hs n m) Q=ErI (e ((dE rs).f F) .nil n) e c ((dE rs).f F) pd r ce F H Hs n m Q:=by
 have:=aiD (ce:=ce) (F:=F) (H:=H) (Hs:=Hs) (n:=n) (m:=m) (Q:=Q) (dE rs) pd e c (iF r);refine Eq.trans this ?_;unfold EvR ErI
 cases e ((dE rs).f F) .nil n<;>rfl
def FlI (x:bg) (pd:Pd) (r:List (Option RO)) (ce:Ce) (F:Fr) (H B:Hp) (Hs:List Hp) (n:Nat) (m:List Dm) (Q:QA):Prop:=match x with
 |.upd v b k=>match B.get b with
  |some _=>Ev ((iF r).f ce (pd.f v F) (H.put b (some k)) (B.put b none::Hs) n m) Q
  |none=>False
 |_=>False
@[simp] theorem anq (v:AV)(b:Nat)(k:bz)(pd:Pd)(r:List (Option RO))(B:Hp):FlI (.upd v b k) pd r ce F H B Hs n m Q=uD (B.get b) λ _=>Ev ((iF r).f ce (pd.f v F) (H.put b (some k)) (B.put b none::Hs) n m) Q:=by
 unfold FlI uD;dsimp only;cases B.get b<;>rfl
@[simp] theorem anr (pd:Pd)(r:List (Option RO))(B:Hp):FlI .fail pd r ce F H B Hs n m Q=False:=propext Iff.rfl
@[simp] theorem auL (rs:List Nat)(pd:Pd)(e:Eff)(r:List (Option RO))(B:Hp):Ev ((iF (fI rs pd e::r)).f ce F H (B::Hs) n m) Q=FlI (e ((dE rs).f F) B n) pd r ce F H B Hs n m Q:=by
 show Ev ((SS (dE rs) pd e (iF r)).f ce F H (B::Hs) n m) Q=_;simp only[SS];unfold FlI
 cases e ((dE rs).f F) B n with
 |upd v b k=>dsimp only;cases B.get b<;>rfl
 |_=>rfl
@[simp] theorem auK (rs:List Nat)(pd:Pd)(e:Eff)(r:List (Option RO)):Ev ((iF (mI rs pd e::r)).f ce F H Hs n m) Q=Og (e ((dE rs).f F) H n) pd r ce F H Hs n m Q:=ab1 _ pd e (iF r)
@[simp] theorem auM (rs:List Nat)(pd:Pd)(f:FuncId)(as:List G)(r:List (Option RO)):Ev ((iF (cI rs pd f as::r)).f ce F H Hs n m) Q=aaa (evs ((dE rs).f F) as) f pd r ce F H Hs n m Q:=LI _ pd f as (iF r)
def GoI (v:Option AV)(b:Bool)(F0:Fr)(pd:Pd)(e:Eff)(c:Nat)(r:List (Option RO))(ce:Ce)(F:Fr)(H:Hp)(Hs:List Hp)(n:Nat)(m:List Dm)(Q:QA):Prop:=gd v b (ErI (e F0 .nil n) e c F0 pd r ce F H Hs n m Q) (Ev ((iF r).f ce (pd.f (.aW []) F) H Hs n m) Q)
def GmI (v:Option AV)(b:Bool)(F0:Fr)(pd:Pd)(e:Eff)(r:List (Option RO))(ce:Ce)(F:Fr)(H:Hp)(Hs:List Hp)(n:Nat)(m:List Dm)(Q:QA):Prop:=gd v b (Og (e F0 H n) pd r ce F H Hs n m Q) (Ev ((iF r).f ce (pd.f (.aW []) F) H (H::Hs) n m) Q)
def GcI (v:Option AV)(b:Bool)(F0:Fr)(pd:Pd)(f:FuncId)(as:List G)(r:List (Option RO))(ce:Ce)(F:Fr)(H:Hp)(Hs:List Hp)(n:Nat)(m:List Dm)(Q:QA):Prop:=gd v b (aaa (evs F0 as) f pd r ce F H Hs n m Q) (Ev ((iF r).f ce (pd.f (.aW []) F) H (H::Hs) n m) Q)
theorem zU {rs:RS}{g:G}{b:Bool}{yes no:KR}:Ev ((wN rs g b yes no).f ce F H Hs n m) Q=gd (g.f (rs.f F)) b (Ev (yes.f ce F H Hs n m) Q) (Ev (no.f ce F H Hs n m) Q):=by
 simp only[wN];unfold gd
 cases g.f (rs.f F)with
 |none=>rfl
 |some v=>cases v with
  |bool x=>dsimp only;cases x == b<;>rfl
  |_=>rfl
theorem ab2 (rs:List Nat)(g:G)(b:Bool)(pd:Pd)(e:Eff)(c:Nat)(r:List (Option RO)):Ev ((iF (goI rs g b pd e c::r)).f ce F H Hs n m) Q=gd (g.f ((dE rs).f F)) b (Ev ((iF (oI rs pd e c::r)).f ce F H Hs n m) Q) (Ev ((iF r).f ce (pd.f (.aW []) F) H Hs n m) Q):=
 zU (ce:=ce) (F:=F) (H:=H) (Hs:=Hs) (n:=n) (m:=m) (Q:=Q) (rs:=dE rs) (g:=g) (b:=b) (yes:=opR (dE rs) pd e c (iF r)) (no:=OZ pd (iF r))
@[simp] theorem as1 (rs:List Nat)(g:G)(b:Bool)(pd:Pd)(e:Eff)(c:Nat)(r:List (Option RO)):Ev ((iF (goI rs g b pd e c::r)).f ce F H Hs n m) Q=GoI (g.f ((dE rs).f F)) b ((dE rs).f F) pd e c r ce F H Hs n m Q:=by
 rw[ab2,anx];rfl
@[simp] theorem as2 (rs:List Nat)(g:G)(b:Bool)(pd:Pd)(f:FuncId)(as:List G)(r:List (Option RO)):Ev ((iF (gcI rs g b pd f as::r)).f ce F H Hs n m) Q=GcI (g.f ((dE rs).f F)) b ((dE rs).f F) pd f as r ce F H Hs n m Q:=by
 have h1:=zU (ce:=ce) (F:=F) (H:=H) (Hs:=Hs) (n:=n) (m:=m) (Q:=Q) (rs:=dE rs) (g:=g) (b:=b) (yes:=ajc (dE rs) pd f as (iF r)) (no:=abk pd (iF r));rw[LI]at h1;exact h1
@[simp] theorem auA (F0:Fr)(pd:Pd)(e:Eff)(c:Nat)(r:List (Option RO)):GoI (some (.bool true)) true F0 pd e c r ce F H Hs n m Q=ErI (e F0 .nil n) e c F0 pd r ce F H Hs n m Q:=propext Iff.rfl
@[simp] theorem auB (F0:Fr)(pd:Pd)(e:Eff)(c:Nat)(r:List (Option RO)):GoI (some (.bool false)) true F0 pd e c r ce F H Hs n m Q=Ev ((iF r).f ce (pd.f (.aW []) F) H Hs n m) Q:=propext Iff.rfl
@[simp] theorem asL (F0:Fr)(pd:Pd)(e:Eff)(c:Nat)(r:List (Option RO)):GoI (some (.bool true)) false F0 pd e c r ce F H Hs n m Q=Ev ((iF r).f ce (pd.f (.aW []) F) H Hs n m) Q:=propext Iff.rfl
@[simp] theorem asM (F0:Fr)(pd:Pd)(e:Eff)(c:Nat)(r:List (Option RO)):GoI (some (.bool false)) false F0 pd e c r ce F H Hs n m Q=ErI (e F0 .nil n) e c F0 pd r ce F H Hs n m Q:=propext Iff.rfl
@[simp] theorem ap7 (l:List AV)(b:Bool)(F0:Fr)(pd:Pd)(e:Eff)(c:Nat)(r:List (Option RO)):GoI (some (.aW l)) b F0 pd e c r ce F H Hs n m Q=Ev ((iF r).f ce (pd.f (.aW []) F) H Hs n m) Q:=propext Iff.rfl
@[simp] theorem asN (F0:Fr)(pd:Pd)(e:Eff)(r:List (Option RO)):GmI (some (.bool true)) false F0 pd e r ce F H Hs n m Q=Ev ((iF r).f ce (pd.f (.aW []) F) H (H::Hs) n m) Q:=propext Iff.rfl
@[simp] theorem asO (F0:Fr)(pd:Pd)(e:Eff)(r:List (Option RO)):GmI (some (.bool false)) false F0 pd e r ce F H Hs n m Q=Og (e F0 H n) pd r ce F H Hs n m Q:=propext Iff.rfl
@[simp] theorem asQ (F0:Fr)(pd:Pd)(f:FuncId)(as:List G)(r:List (Option RO)):GcI (some (.bool true)) false F0 pd f as r ce F H Hs n m Q=Ev ((iF r).f ce (pd.f (.aW []) F) H (H::Hs) n m) Q:=propext Iff.rfl
@[simp] theorem asR (F0:Fr)(pd:Pd)(f:FuncId)(as:List G)(r:List (Option RO)):GcI (some (.bool false)) false F0 pd f as r ce F H Hs n m Q=aaa (evs F0 as) f pd r ce F H Hs n m Q:=propext Iff.rfl
@[simp] theorem auC (F0:Fr)(pd:Pd)(e:Eff)(r:List (Option RO)):GmI (some (.bool true)) true F0 pd e r ce F H Hs n m Q=Og (e F0 H n) pd r ce F H Hs n m Q:=propext Iff.rfl
@[simp] theorem auD (F0:Fr)(pd:Pd)(e:Eff)(r:List (Option RO)):GmI (some (.bool false)) true F0 pd e r ce F H Hs n m Q=Ev ((iF r).f ce (pd.f (.aW []) F) H (H::Hs) n m) Q:=propext Iff.rfl
@[simp] theorem auE (F0:Fr)(pd:Pd)(f:FuncId)(as:List G)(r:List (Option RO)):GcI (some (.bool true)) true F0 pd f as r ce F H Hs n m Q=aaa (evs F0 as) f pd r ce F H Hs n m Q:=propext Iff.rfl
@[simp] theorem auF (F0:Fr)(pd:Pd)(f:FuncId)(as:List G)(r:List (Option RO)):GcI (some (.bool false)) true F0 pd f as r ce F H Hs n m Q=Ev ((iF r).f ce (pd.f (.aW []) F) H (H::Hs) n m) Q:=propext Iff.rfl
end
end Go.Abs
namespace Go.Abs
open List
section
variable {φ:Ph}{D:Da}{w:World}{n:Nat}
def FI (h:Hf)(v v':AV):Prop:=v=v'∨fW h v v'
def BZ (h:Hf)(y0 y:bz):Prop:=y0=y∨∃u z bs t l,y0=.cells u z bs t/\y=.cells u [] l .nil/\l.length=u/\∀(i:Nat) v',l[i]?=some v'->∃v,gZ u z bs t i=some v/\FI h v v'
structure jm (h:Hf)(F:Fr)(H:Hp)(F2:Fr)(H2:Hp):Prop where
 sub:∀b k,h b=some k->H.get b=some k
 gone:∀b,h b≠none->H2.get b=none
 fr:∀(t:Nat) v,F2.get t=some v->∃u,F.get t=some u/\FI h u v
 hp:∀b y,H2.get b=some y->∃y0,H.get b=some y0/\BZ h y0 y
theorem jm.refl (F:Fr)(H:Hp):jm (λ _=>none) F H F H:=
 ⟨λ b k h=>by simp at h,λ b h=>aj rfl h,λ t v h=>⟨v,h,.inl rfl⟩,λ b y h=>⟨y,h,.inl rfl⟩⟩
theorem Rel.sub {h h':Hf}(hr:Rel φ D h w)(hs:∀b k,h' b=some k->h b=some k):Rel φ D h' w:=by
 have ne:∀b,h' b≠none->h b≠none:=λ b hb=>by
  cases hx:h' b with
  |none=>exact aj hx hb
  |some k=>rw[hs b k hx];simp
 exact⟨λ b k hb=>hr.blk b k (hs b k hb),λ b c p q hb hc=>hr.inj b c p q (ne b hb) (ne c hc),λ b p hb=>hr.sep b p (ne b hb),hr.eQ⟩
theorem FI.vr {h:Hf}(hr:Rel φ D h w){v v':AV}{x:Value}(hf:FI h v v')(hx:VR φ D v x):VR φ (shut φ D h w) v' x:=by
 rcases hf with rfl|hf
 ·exact hx.mono (λ _ _ h=>h) eV
 exact(hf.vr hr hx).mono (λ b p hb=>by simp[nR]at hb) (λ _ _ h=>h)
theorem BZ.aco {h:Hf}(hr:Rel φ D h w){y0 y:bz}(hz:BZ h y0 y) {p}(hb:jq φ D w p y0):jq φ (shut φ D h w) w p y:=by
 rcases hz with rfl|⟨u,z,bs,t,l,rfl,rfl,hl,hz⟩
 ·exact hb.mono (λ _ _ h=>h) eV rfl
 obtain⟨c,e,fr,h1,h2,h3,h4,h5,h6⟩:=hb;refine⟨c,e,fr,h1,h2,h3,λ i v hv=>?_,λ _ _=>hl,h6⟩;rw[mP]at hv
 split at hv
 ·skip
  obtain⟨v0,h7,h8⟩:=hz i v hv;obtain⟨x,h9,h10⟩:=h4 i v0 h7;exact⟨x,h9,h8.vr hr h10⟩
 cases hv
theorem o8 {h:Hf}{p:Nat×Nat×Nat}(hb:D p.1=none)(hn:∀b' p',h b'≠none->φ b'=some p'->p'.1≠p.1):shut φ D h w p.1=none:=by
 unfold shut;rw[hb];dsimp only;rw[ae];rintro⟨b',p',h1,h2,h3⟩;exact hn b' p' h1 h2 h3
theorem vT {h:Hf}{c:Nat}(hc:shut φ D h w c≠none):D c≠none∨∃b p,h b≠none/\φ b=some p/\p.1=c:=by
 unfold shut at hc
 split at hc
 ·rename_i x hx;exact .inl (by rw[hx];simp)
 split at hc
 ·rename_i hh;exact .inr hh
 exact aj rfl hc
theorem jm.rel {h:Hf}{F F2:Fr}{H H2:Hp}(s:jm h F H F2 H2)(hr:Rel φ D H.get w):Rel φ (shut φ D h w) H2.get w:=by
 have hs:=hr.sub s.sub
 have ne:∀b,H2.get b≠none->H.get b≠none:=λ b hb=>by
  cases hx:H2.get b with
  |none=>exact aj hx hb
  |some k=>obtain⟨y0,h0,_⟩:=s.hp b k hx;rw[h0];simp
 have neh:∀b,h b≠none->H.get b≠none:=λ b hb=>by
  cases hx:h b with
  |none=>exact aj hx hb
  |some k=>rw[s.sub b k hx];simp
 refine⟨λ b k hb=>?_,λ b c p q hb hc=>hr.inj b c p q (ne b hb) (ne c hc),λ b p hb hp=>?_,mA hr.eQ⟩
 ·obtain⟨y0,h0,hz⟩:=s.hp b k hb;obtain⟨p,hp,hl,hk⟩:=hr.blk b y0 h0;exact⟨p,hp,hl,hz.aco hs hk⟩
 refine o8 (hr.sep b p (ne b hb) hp) λ b' p' h1 h2 h3=>?_;have:=hr.inj b' b p' p (neh b' h1) (ne b hb) h2 hp h3;subst this;exact hb (s.gone b' h1)
theorem jm.ext {h:Hf}{F F2:Fr}{H H2:Hp}(s:jm h F H F2 H2):Ext φ D H.get w n φ (shut φ D h w) H2.get w n:=by
 have ne:∀b,H2.get b≠none->H.get b≠none:=λ b hb=>by
  cases hx:H2.get b with
  |none=>exact aj hx hb
  |some k=>obtain⟨y0,h0,_⟩:=s.hp b k hx;rw[h0];simp
 have neh:∀b,h b≠none->H.get b≠none:=λ b hb=>by
  cases hx:h b with
  |none=>exact aj hx hb
  |some k=>rw[s.sub b k hx];simp
 refine⟨aM _,λ _ _ h=>h,λ b a c=>aj a c,eV,aM _,λ _ _ _=>rfl,λ b p hb hp=>.inr ⟨b,p,ne b hb,hp,rfl⟩,λ c hc=>?_,λ b hb=>.inl (ne b hb),rfl,rfl⟩
 rcases vT hc with h1|⟨b,p,h1,h2,h3⟩
 ·exact .inl h1
 exact .inr (.inr ⟨b,p,neh b h1,h2,h3⟩)
theorem jm.st {h:Hf}{nt:Nat}{m:List Dm}{a:Act}{F F2:Fr}{H H2:Hp}(s:jm h F H F2 H2)(st:St nt φ D F H m a w):St nt φ (shut φ D h w) F2 H2 m a w:=
 ⟨s.rel st.rel,⟨λ t v hv=>by
  obtain⟨u,h1,h2⟩:=s.fr t v hv;obtain⟨x,h3,h4⟩:=st.fr.1 t u h1;exact⟨x,h3,h2.vr (st.rel.sub s.sub) h4⟩,st.fr.2.mono eV⟩,st.sz,st.uM.mono (λ _ _ h=>h) eV⟩
def Zs (I:Nat->Fr->Hp->Nat->List Dm->Prop)(k:Nat)(F:Fr)(H:Hp)(n:Nat)(m:List Dm):Prop:=∃h F2 H2,jm h F H F2 H2/\I k F2 H2 n m
theorem Zs.refl {I:Nat->Fr->Hp->Nat->List Dm->Prop}{k:Nat}{F:Fr}{H:Hp}{m:List Dm}(h:I k F H n m):Zs I k F H n m:=⟨_,F,H,jm.refl F H,h⟩
end
end Go.Abs
namespace Go.Abs
open List
def FrA (φ:Ph)(n:Nat):Prop:=∀b,n<=b->φ b=none
theorem FrA.fresh {φ:Ph}{n:Nat}(h:FrA φ n)(k:Nat):cK φ n k:=λ b hb _=>h b hb
theorem FrA.step {φ D h w n φ' D' h' w' n'}(hf:FrA φ n)(e:Ext φ D h w n φ' D' h' w' n'):FrA φ' n':=by
 intro b hb
 cases hx:φ' b with
 |none=>rfl
 |some p=>have:=e.new b (hf b (rC e.le hb)) (by rw[hx];simp);omega
section
variable {P:Program}
def ar (P:Program) (g:FuncId) (args:List AV) (H:Hp) (n:Nat) (R:AV->Hp->Nat->Prop):Prop:=
 (∃ fn b, P.funcs[g]? = some fn ∧ fn.body = some b ∧ (fn.name == "runtime.NumGoroutine") = false) ∧
  ∀ φ D w xs,Rel φ D H.get w->cw φ D args xs->FrA φ n->∀RR:Ending->World->Prop,
   (∀v H' n' φ' D' w' x,R v H' n'->Ext φ D H.get w n φ' D' H'.get w' n'->Rel φ' D' H'.get w'->VR φ' D' v x->RR (.returned x) w')->CallsIn Fence.wide 0 P g ⟨xs⟩ w RR
theorem ar.mono {g:FuncId}{args:List AV}{H:Hp}{n:Nat}{R S:AV->Hp->Nat->Prop}(h:ar P g args H n R)(hs:∀v H' n',R v H' n'->S v H' n'):ar P g args H n S:=
 ⟨h.1,λ φ D w xs a b c RR hR=>h.2 φ D w xs a b c RR λ v H' n' φ' D' w' x r=>hR v H' n' φ' D' w' x (hs _ _ _ r)⟩
theorem bO.hU {g:FuncId}{args:List AV}{H:Hp}{n:Nat}{v:AV}{H':Hp}{n':Nat}(h:bO P g args H n v H' n'):ar P g args H n (λ u K k=>u=v/\K=H'/\k=n'):=
 ⟨h.1,λ φ D w xs a b c RR hR=>h.2.2 φ D w xs a b (c.fresh _) RR λ φ' D' w' x e r k=>hR v H' n' φ' D' w' x ⟨rfl,rfl,rfl⟩ e r k⟩
def Wp (nt:Nat)(run:QT->Act->World->Prop)(F:Fr)(H:Hp)(n:Nat)(m:List Dm)(Q:QA):Prop:=
 ∀ φ D a w,St nt φ D F H m a w->FrA φ n->∀QQ:QT,(∀o F' H' n' m' φ' D' a' w' px,Q o F' H' n' m'->Ext φ D H.get w n φ' D' H'.get w' n'->St nt φ' D' F' H' m' a' w'->yR φ' D' px o->QQ (jd px o) a' w')->run QQ a w
theorem Wp.shut {nt:Nat}{run:QT->Act->World->Prop}{h:Hf}{F F2:Fr}{H H2:Hp}{n:Nat}{m:List Dm}{Q:QA}(s:jm h F H F2 H2)(hw:Wp nt run F2 H2 n m Q):Wp nt run F H n m Q:=
 λ φ _D a w st hf QQ hQ=>hw φ _ a w (s.st st) hf QQ λ o F' H' n' m' φ' D' a' w' px q e=>hQ o F' H' n' m' φ' D' a' w' px q (s.ext.trans e)
def GH (P:Program)(nt:Nat)(c:Code)(F:Fr)(H:Hp)(n:Nat)(Q:QA):Prop:=∀cb:Nat,Wp nt (λ QQ a w=>c.wpIn (FW (some cb)) 0 P QQ a w) F H n [] Q
def PY (q:Nat)(R:AV->Hp->Nat->Prop)(j:nI)(H3:Hp)(n3:Nat):Prop:=∃st nt G ps a b j0,H3.get q=some (.loop st j0 nt G ps a b)/\match j with
 |.normal=>R (.bool true) (H3.put q (some (.loop .ready .normal nt G ps a b))) n3
 |.exit i=>R (.bool false) (H3.put q (some (.loop .done (.exit i) nt G ps a b))) n3
 |.ret=>R (.bool false) (H3.put q (some (.loop .done .ret nt G ps a b))) n3
 |.panic _=>False
def yN (P:Program) (q:Nat) (vs:List AV) (H:Hp) (n:Nat) (R:AV->Hp->Nat->Prop):Prop:=∃st j nt F0 ps a b F1,H.get q=some (.loop st j nt F0 ps a b)/\qo nt ps vs F0=some F1 /\
 GH P nt a F1 H n λ o F2 H2 n2 m2=>o=.normal/\m2=[]/\∃j2 Hm G2 ps2 a2 b2,H2.get q=some (.loop .ready j2 Hm G2 ps2 a2 b2) /\
  GH P nt b F2 (H2.put q (some (.loop .busy j2 Hm G2 ps2 a2 b2))) n2 λ j3 _ H3 n3 _=>PY q R j3 H3 n3
def acA (n:Nat)(F:Fr)(m:List Dm)(Q:QA)(H':Hp)(n':Nat):Prop:=∃st j nt G ps a b,H'.get n=some (.loop st j nt G ps a b)/\st≠.busy/\(∀v,j≠.panic v)/\Q j F (H'.put n none) n' (.qw (Nat.succ n)::m)
def fy (P:Program):List (Option GO)->Fr->Hp->Nat->List Dm->QA->Prop
 |[],F,H,n,m,Q=>Q .normal F H n m
 |none::_,_,_,_,_,_=>False
 |some ⟨none,pd,.eff e⟩::r,F,H,n,m,Q=>DR (e F H n) H n λ v H' n'=>fy P r (pd.f v F) H' n' m Q
 |some ⟨none,pd,.call g as⟩::r,F,H,n,m,Q=>(∃f first cap vs,g.f F=some (.fn (.func f) first cap)/\evs F as=some vs/\ar P f (first++(vs++cap)) H n λ v H' n'=>fy P r (pd.f v F) H' n' m Q) ∨
  (∃q vs,g.f F=some (.j9 q)/\evs F as=some vs/\yN P q vs H n λ v H' n'=>fy P r (pd.f v F) H' n' m Q)
 |some ⟨none,_,.bad⟩::_,_,_,_,_,_=>False
 |some ⟨none,_,.jH _⟩::_,_,_,_,_,_=>False
 |some ⟨none,_,.raw _⟩::_,_,_,_,_,_=>False
 |some ⟨some (g,b),pd,.eff e⟩::r,F,H,n,m,Q=>gd (g.f F) b (DR (e F H n) H n λ v H' n'=>fy P r (pd.f v F) H' n' m Q) (fy P r (pd.f (.aW []) F) H n m Q)
 |some ⟨some (g,b),pd,.call h as⟩::r,F,H,n,m,Q=>gd (g.f F) b ((∃f first cap vs,h.f F=some (.fn (.func f) first cap)/\evs F as=some vs/\ar P f (first++(vs++cap)) H n λ v H' n'=>fy P r (pd.f v F) H' n' m Q) ∨
  (∃q vs,h.f F=some (.j9 q)/\evs F as=some vs/\yN P q vs H n λ v H' n'=>fy P r (pd.f v F) H' n' m Q)) (fy P r (pd.f (.aW []) F) H n m Q)
 |some ⟨some (g,b),pd,.bad⟩::r,F,H,n,m,Q=>gd (g.f F) b False (fy P r (pd.f (.aW []) F) H n m Q)
 |some ⟨some (g,b),pd,.jH _⟩::r,F,H,n,m,Q=>gd (g.f F) b False (fy P r (pd.f (.aW []) F) H n m Q)
 |some ⟨some (g,b),pd,.raw _⟩::r,F,H,n,m,Q=>gd (g.f F) b False (fy P r (pd.f (.aW []) F) H n m Q)
def VC (P:Program):CT->Fr->Hp->Nat->List Dm->QA->Prop
 |.eC l,F,H,n,m,Q=>fy P l F H n m Q
 |.eM ds l,F,H,n,m,Q=>∃ce h F2 H2,iQ P ce/\jm h F H F2 H2/\Ev ((PH ds (iF l)).f ce F2 H2 n m) Q
 |.seq a b,F,H,n,m,Q=>VC P a F H n m λ o F' H' n' m'=>match o with
  |.normal=>VC P b F' H' n' m' Q
  |.exit i=>Q (.exit i) F' H' n' m'
  |.ret=>Q .ret F' H' n' m'
  |.panic _=>False
 |.cond g a b,F,H,n,m,Q=>o6 (g.f F) (VC P a F H n m Q) (VC P b F H n m Q)
 |.block i b,F,H,n,m,Q=>VC P b F H n m (jN i Q)
 |.loop b,F,H,n,m,Q=>∃(I J:Nat->Fr->Hp->Nat->List Dm->Prop) (k:Nat),J k F H n m/\(∀k F H n m,J k F H n m->Zs I k F H n m)/\∀k F H n m,I k F H n m->VC P b F H n m (BQ J k Q)
 |.exit i,F,H,n,m,Q=>Q (.exit i) F H n m
 |.ret,F,H,n,m,Q=>Q .ret F H n m
 |.skip,F,H,n,m,Q=>Q .normal F H n m
 |.range nt g ps a b,F,H,n,m,Q=>∃f first cap,g.f F=some (.fn (.func f) first cap) /\
  ar P f (first++(.j9 n::cap)) ((H.put (Nat.succ n) (some .mR)).put n (some (.loop .ready .normal nt F ps a b))) (Nat.succ (Nat.succ n)) λ _ H' n'=>acA n F m Q H' n'
 |.bad,_,_,_,_,_=>False
 |.raw k,F,H,n,m,Q=>∃ce,iQ P ce/\Ev (k.f ce F H n m) Q
variable {nt:Nat}{ops:Array Oper}{r:Option Nat}
theorem tV {run:QT->Act->World->Prop}{f:Fr->Hp->Nat->List Dm->LZ}(hs:Sound nt run f){F:Fr}{H:Hp}{n:Nat}{m:List Dm}{Q:QA}(h:Ev (f F H n m) Q):Wp nt run F H n m Q:=by
 obtain⟨o,F',H',n',m',h1,h2⟩:=aiC h;obtain⟨hn,hk⟩:=hs _ _ _ _ _ _ _ _ _ h1;exact λ φ D a w st hf QQ hQ=>hk φ D a w st (hf.fresh _) QQ λ φ' D' a' w' px e s pp=>hQ o F' H' n' m' φ' D' a' w' px h2 e s pp
theorem Qi {rest:List Nat}{o:Oper}{e:Eff}{pd:Pd}{F:Fr}{H:Hp}{n:Nat}{m:List Dm}{Q:QA}{X:Fr->Hp->Nat->Prop}(he:bP P o e)(hq:pj o.op=true)(kO:yQ nt o.dst pd)
  (hnext:∀F H n,X F H n->Wp nt (λ QQ a w=>wpOpsIn (FW r) 0 P ops QQ rest a w) F H n m Q)(h:DR (e F H n) H n λ v H' n'=>X (pd.f v F) H' n'):
  Wp nt (λ QQ a w=>o.wpIn (FW r) 0 P a w (wpOpsIn (FW r) 0 P ops QQ rest) QQ) F H n m Q:=by
 intro φ D a w st hf QQ hQ
 have key:∀(v:AV) (H1:Hp) (n1:Nat) (rr:bg),e F H n=rr->rr≠.fail->OT rr=v->uH rr H.get n=H1.get->sK rr n=n1->X (pd.f v F) H1 n1 ->
   o.wpIn (FW r) 0 P a w (wpOpsIn (FW r) 0 P ops QQ rest) QQ:=by
  intro v H1 n1 rr her hne hv hH hn hX;have hd:=he F H n φ D a w st.rel st.fr (by rw[her];exact hf.fresh _) (by rw[her];exact hne);rw[her]at hd;obtain⟨nx,cv,φ1,w1,hrun,hnx,aP,hrel,fU⟩:=hd;rw[hH]at aP hrel;rw[hn]at aP;rw[hv]at fU;have hfr:=kO v F φ1 D a cv (st.fr.mono aP.phi (λ _ _ h=>h)) st.sz fU;have hst:St nt φ1 D (pd.f v F) H1 m (a.put o.dst cv) w1:=⟨hrel,hfr.1,hfr.2,by rw[put_defers];exact st.uM.mono aP.phi aP.eQ⟩;have hgo:=hnext _ _ _ hX φ1 D (a.put o.dst cv) w1 hst (hf.step aP) QQ λ o F' H' n' m' φ' D' a' w' px q hx hst' pp=>hQ o F' H' n' m' φ' D' a' w' px q (aP.trans hx) hst' pp;refine⟨λ _ _=>trivial,?_⟩;rw[dY hq,hrun]
  cases hnx with
  |value=>exact hgo
  |skip=>exact hgo
 cases her:e F H n with
 |fail=>rw[her]at h;exact aj h id
 |val v=>rw[her]at h;exact key v H n _ her (by simp) rfl rfl rfl h
 |new v k=>rw[her]at h;exact key v _ _ _ her (by simp) rfl (oh ..) rfl h
 |upd v b k=>rw[her]at h;exact key v _ _ _ her (by simp) rfl (mG ..) rfl h
 |mv v b k=>rw[her]at h;exact key v _ _ _ her (by simp) rfl (rI ..) rfl h
theorem GV {q:Nat}{vs:List AV}{H:Hp}{n:Nat}{R:AV->Hp->Nat->Prop}(h:yN P q vs H n R)(o:Oper)(c:Call)(φ:Ph)(D:Da)(a:Act)(w:World)(x:Operand)(ho:o.op=.call c)(hc:c.callee=.value x)(hyl:VR φ D (.j9 q) (a.eval x))(hargs:cw φ D vs (c.args.toList.map a.eval))(hrel:Rel φ D H.get w)(hf:FrA φ n)(K:Act->World->Prop)(Q:QT)
  (hK:∀v H' n' φ' D' w' cv,R v H' n'->Ext φ D H.get w n φ' D' H'.get w' n'->Rel φ' D' H'.get w'->VR φ' D' v cv->K (a.put o.dst cv) w'):o.wpIn (FW r) 0 P a w K Q:=by
 obtain⟨st0,j0,nt,F0,ps,ca,cb',F1,hq0,hF1,h1⟩:=h;refine⟨λ _ _=>trivial,?_⟩;generalize hxv:a.eval x=xv at hyl
 cases hyl with
 |j9 _ cb co cz hp =>
 obtain⟨_,rr,hr1,hr2,hr3,hr4,hr5,hr6,hr7,hr8⟩:=hrel.block hq0 hp;have hr1:w.heap[cb]?=some (.loop rr):=hr1;obtain⟨p1,p2,p3⟩:=vZ ps vs _ F0 F1 rr.tmps hF1 hargs hr5 hr4
 have hsz:(c.args.map a.eval).size=rr.params.size:=by
  have e1:rr.params.size=ps.length:=by rw[<-hr6];simp
  rw[e1,p1];simp
 have hrun:(o.semAt (FW r).round a.eval).run P w=.ok (.round cb rr.fn ((rr.params.zip (c.args.map a.eval)).foldl (λ tmps (t,a)=>tmps.setIfInBounds t a) rr.tmps) rr.assign rr.body) w:=by
  rw[dY (by rw[ho];rfl)];have hy:=run_yield (P:=P) (args:=(#[]:Array Value)++Array.map a.eval c.args) hr1 (by simpa using hsz);simp only[execOp,ho,resolve,hc,hxv,Deferred.ofValue,bZ,cS,bX,invoke,hy];simp
 have hfold:(rr.params.zip (c.args.map a.eval)).foldl (λ tmps (t,a)=>tmps.setIfInBounds t a) rr.tmps=((ps.zip (c.args.toList.map a.eval)).foldl (λ t (x:Nat×Value)=>t.setIfInBounds x.1 x.2) rr.tmps):=by
  rw[<-Array.foldl_toList,Array.toList_zip,hr6];simp
 rw[hrun,hfold,hr7,hr8];refine⟨λ h=>by simp[FW]at h,roundIn_of_wpIn trivial ?_⟩;refine h1 cb φ D {tmps:=_,defers:=[]} w ⟨hrel,p2,p3,rfl⟩ hf _ λ o1 F2 H2 n2 m2 φ1 D1 a1 w1 px hq1 e1 st1 pp=>?_;obtain⟨rfl,rfl,j2,Hm,G2,ps2,a2,b2,hq2,h2⟩:=hq1;have hp1:=e1.phi _ _ hp;obtain⟨hlt2,r2,HD,aic,aib,aia,ah',ah_,ah9,ah8⟩:=st1.rel.block hq2 hp1;have HD:w1.heap[cb]?=some (.loop r2):=HD;have hlt2:cb<w1.heap.size:=hlt2;refine⟨_,run_beginRound (P:=P) HD aic,?_⟩;obtain⟨k1,k2⟩:=mC (n:=n2) (rr:={r2 with state:=.busy}) (k:=.loop .busy j2 Hm G2 ps2 a2 b2) st1.rel (by rw[hq2];simp) hp1 ⟨_,Go.World.putObj_heap_same hlt2,rfl,aib,aia,ah',ah_,ah9,ah8⟩;refine h2 cb φ1 D1 a1 _ ⟨k1,st1.fr,st1.sz,st1.uM⟩ ((hf.step e1).step k2) _ λ j3 F3 H3 n3 m3 φ2 D2 a2' w2 px e2 abY st2 pp=>?_;obtain⟨st3,GL,G3,GK,a3,b3,jj,hq3,hR⟩:=e2;have hp2:=abY.phi _ _ hp1;obtain⟨hlt3,r3,Br,ase,asd,Su,Ss,Sr,Sm,Sl⟩:=st2.rel.block hq3 hp2;have Br:w2.heap[cb]?=some (.loop r3):=Br;have hlt3:cb<w2.heap.size:=hlt3
 cases j3 with
 |normal =>
  have hend:=run_endRound (P:=P) (gY (.normal)) Br;obtain⟨k3,k4⟩:=mC (n:=n3) (rr:={r3 with state:=.ready,pending:=gY (.normal)}) (k:=.loop .ready (.normal) GL G3 GK a3 b3) st2.rel (by rw[hq3];simp) hp2 ⟨_,Go.World.putObj_heap_same hlt3,rfl,rfl,Su,Ss,Sr,Sm,Sl⟩;exact⟨_,_,hend,hK _ _ _ φ2 D2 _ (.bool true) hR (((e1.trans k2).trans abY).trans k4) k3 (.bool _)⟩
 |exit i =>
  have hend:=run_endRound (P:=P) (gY (.exit i)) Br;obtain⟨k3,k4⟩:=mC (n:=n3) (rr:={r3 with state:=.done,pending:=gY (.exit i)}) (k:=.loop .done (.exit i) GL G3 GK a3 b3) st2.rel (by rw[hq3];simp) hp2 ⟨_,Go.World.putObj_heap_same hlt3,rfl,rfl,Su,Ss,Sr,Sm,Sl⟩;exact⟨_,_,hend,hK _ _ _ φ2 D2 _ (.bool false) hR (((e1.trans k2).trans abY).trans k4) k3 (.bool _)⟩
 |ret =>
  have hend:=run_endRound (P:=P) (gY (.ret)) Br;obtain⟨k3,k4⟩:=mC (n:=n3) (rr:={r3 with state:=.done,pending:=gY (.ret)}) (k:=.loop .done (.ret) GL G3 GK a3 b3) st2.rel (by rw[hq3];simp) hp2 ⟨_,Go.World.putObj_heap_same hlt3,rfl,rfl,Su,Ss,Sr,Sm,Sl⟩;exact⟨_,_,hend,hK _ _ _ φ2 D2 _ (.bool false) hR (((e1.trans k2).trans abY).trans k4) k3 (.bool _)⟩
 |panic v=>exact aj hR id
theorem KA {rest:List Nat}{o:Oper}{c:Call}{g:G}{as:List G}{pd:Pd}{F:Fr}{H:Hp}{n:Nat}{m:List Dm}{Q:QA}{X:Fr->Hp->Nat->Prop}(ho:o.op=.call c)(hg:sB P c g)(has:jt c.args.toList=some as)(kO:yQ nt o.dst pd)
  (hnext:∀F H n,X F H n->Wp nt (λ QQ a w=>wpOpsIn (FW r) 0 P ops QQ rest a w) F H n m Q)
  (h:(∃f first cap vs,g.f F=some (.fn (.func f) first cap)/\evs F as=some vs/\ar P f (first++(vs++cap)) H n λ v H' n'=>X (pd.f v F) H' n')∨(∃q vs,g.f F=some (.j9 q)/\evs F as=some vs/\yN P q vs H n λ v H' n'=>X (pd.f v F) H' n')):
  Wp nt (λ QQ a w=>o.wpIn (FW r) 0 P a w (wpOpsIn (FW r) 0 P ops QQ rest) QQ) F H n m Q:=by
 intro φ D a w st hf QQ hQ
 cases h with
 |inr h =>
  obtain⟨q,vs,hgv,hev,hy⟩:=h;obtain⟨x,hx1,hx2⟩:=hg.j9 a F φ D q st.fr hgv;refine GV hy o c φ D a w x ho hx1 hx2 (dz has F φ D a st.fr vs hev) st.rel hf _ _ λ v H' n' φ1 D1 w1 cv hX aP hrel fU=>?_;have hfr:=kO v F φ1 D1 a cv (st.fr.mono aP.phi aP.eQ) st.sz fU;exact hnext _ _ _ hX φ1 D1 (a.put o.dst cv) w1 ⟨hrel,hfr.1,hfr.2,by rw[put_defers];exact st.uM.mono aP.phi aP.eQ⟩ (hf.step aP) QQ λ o F' H' n' m' φ' D' a' w' px q hx hst' pp=>hQ o F' H' n' m' φ' D' a' w' px q (aP.trans hx) hst' pp
 |inl h =>
  obtain⟨f,first,cap,vs,hgv,hev,⟨fn,b,hfn,hb,hname⟩,hcs⟩:=h;refine⟨λ _ _=>trivial,?_⟩;obtain⟨fl,cl,h1,h2,hrun0⟩:=hg.fn o a F φ D f first cap ho st.fr hgv;have h3:=dz has F φ D a st.fr vs hev
  have hrun:(o.semAt (FW r).round a.eval).run P w=.ok (.enter f ⟨fl++(c.args.toList.map a.eval++cl)⟩) w:=by
   rw[dY (by rw[ho];rfl)];exact hrun0 fn b w hfn hname hb
  rw[hrun];refine⟨λ h=>by simp[FW]at h,jK (hcs φ D w _ st.rel (h1.append (h3.append h2)) hf _ λ v H' n' φ1 D1 w1 cv hX aP hrel fU=>?_)⟩;have hfr:=kO v F φ1 D1 a cv (st.fr.mono aP.phi aP.eQ) st.sz fU;exact hnext _ _ _ hX φ1 D1 (a.put o.dst cv) w1 ⟨hrel,hfr.1,hfr.2,by rw[put_defers];exact st.uM.mono aP.phi aP.eQ⟩ (hf.step aP) QQ λ o F' H' n' m' φ' D' a' w' px q hx hst' pp=>hQ o F' H' n' m' φ' D' a' w' px q (aP.trans hx) hst' pp
theorem wp_skip {rest:List Nat}{o:Oper}{pd:Pd}{F:Fr}{H:Hp}{n:Nat}{m:List Dm}{Q:QA}(kO:yQ nt o.dst pd)(h:Wp nt (λ QQ a w=>wpOpsIn (FW r) 0 P ops QQ rest a w) (pd.f (.aW []) F) H n m Q):
  Wp nt (λ QQ a w=>wpOpsIn (FW r) 0 P ops QQ rest (a.put o.dst undef) w) F H n m Q:=by
 intro φ D a w st hf QQ hQ;have hfr:=kO (.aW []) F φ D a undef st.fr st.sz (.aW _ _ .nil);exact h φ D (a.put o.dst undef) w ⟨st.rel,hfr.1,hfr.2,by rw[put_defers];exact st.uM⟩ hf QQ hQ
theorem zC {o:Oper}{g:G}{as:List G}(h:yE P o=.call g as):∃c,o.op=.call c/\sB P c g/\jt c.args.toList=some as:=by
 unfold yE at h
 split at h
 ·rename_i f args tys ho
  split at h
  ·cases h
  split at h
  ·rename_i g' as' h1 h2;injection h with a b;subst a b;exact⟨_,ho,.value rfl h1,h2⟩
  cases h
 ·rename_i f name args tys ho
  split at h
  ·rename_i g' as' h1 h2;injection h with a b;subst a b;exact⟨_,ho,.invoke rfl h1,h2⟩
  cases h
 ·split at h<;>cases h
 ·split at h<;>cases h
 split at h<;>cases h
theorem EG {o:Oper}{e:Eff}(h:yE P o=.eff e):dS P o=some e:=by
 unfold yE at h
 split at h
 ·split at h
  ·rename_i h1;injection h with h;subst h;exact h1
  split at h<;>cases h
 ·split at h<;>cases h
 ·split at h<;>cases h
 ·split at h<;>cases h
 split at h
 ·rename_i h1;injection h with h;subst h;exact h1
 cases h
theorem tell {F:Fr}{φ:Ph}{D:Da}{a:Act}{j d:Nat}(hd:(ops[j]?).bind (·.dst)=some d)(hF:FR φ D F.get a.tmps){v:AV}(hv:F.get d=some v):(∀c,v=.bool c->yielded ops a.tmps j=some c)/\((∀c,v≠.bool c)->yielded ops a.tmps j=none):=by
 obtain⟨x,hx,wJ⟩:=hF.1 d v hv;unfold yielded;rw[hd];simp only[Option.bind_some,hx];refine⟨λ c hc=>?_,λ hc=>?_⟩
 ·subst hc;cases wJ;rfl
 cases x<;>first|rfl|exact aj (Aw wJ) (hc _)
theorem yU : ∀ (l : List Oper) (i:Nat) (F:Fr) (H:Hp) (n:Nat) (m:List Dm) (Q:QA),ops.toList.drop i=l->fy P (l.map (uT P nt ops)) F H n m Q ->
  Wp nt (λ QQ a w=>wpOpsIn (FW r) 0 P ops QQ (range' i l.length) a w) F H n m Q
 |[],i,F,H,n,m,Q,_,h=>λ φ D a w st hf QQ hQ=>hQ .normal F H n m φ D a w undef h (Ext.refl ..) st trivial
 |o :: l, i, F, H,n,m,Q,hl,h=>by
  have hi:ops[i]?=some o:=by
   have:=congrArg (λ(x:List Oper)=>x[0]?) hl;simpa[js]using this
  have hl':ops.toList.drop (i+1)=l:=by
   have:=congrArg (λ(x:List Oper)=>x.drop 1) hl;simpa[drop_drop]using this
  have ih:=λ F H n=>yU l (i+1) F H n m Q hl';have h0:=h;simp only[map_cons]at h;unfold uT at h
  cases hp:fq nt o.dst with
  |none=>rw[hp]at h;exact aj h id
  |some pd =>
   rw[hp]at h;have kO:=te hp;dsimp only at h
   cases hgd:o.guard with
   |none =>
    rw[hgd]at h;dsimp only at h
    have fin:Wp nt (λ QQ a w=>o.wpIn (FW r) 0 P a w (wpOpsIn (FW r) 0 P ops QQ (range' (i+1) l.length)) QQ) F H n m Q->Wp nt (λ QQ a w=>wpOpsIn (FW r) 0 P ops QQ (range' i (l.length+1)) a w) F H n m Q:=by
     intro hw φ D a w st hf QQ hQ;show wpOpsIn (FW r) 0 P ops QQ (i::range' (i+1) l.length) a w;simp only[wpOpsIn,hi,Region.wanted,hgd,if_true];exact hw φ D a w st hf QQ hQ
    refine fin ?_
    cases hk:yE P o with
    |bad=>rw[hk]at h;exact aj h id
    |jH e=>rw[hk]at h;exact aj h id
    |raw f=>rw[hk]at h;exact aj h id
    |eff e =>
     rw[hk]at h;have hc:=EG hk;exact Qi (X:=λ F H n=>fy P (l.map (uT P nt ops)) F H n m Q) (gW hc) (dX hc) kO (λ F H n hx=>ih F H n hx) h
    |call g as =>
     rw[hk]at h;obtain⟨c,h1,h2,h4⟩:=zC hk;exact KA (X:=λ F H n=>fy P (l.map (uT P nt ops)) F H n m Q) h1 h2 h4 kO (λ F H n hx=>ih F H n hx) h
   |some x =>
    obtain⟨j,b⟩:=x;rw[hgd]at h;dsimp only at h
    cases hd:(ops[j]?).bind (·.dst)with
    |none=>rw[hd]at h;exact aj h id
    |some d =>
     rw[hd]at h;dsimp only at h
     have fin:∀(Y N:Prop),(Y->Wp nt (λ QQ a w=>o.wpIn (FW r) 0 P a w (wpOpsIn (FW r) 0 P ops QQ (range' (i+1) l.length)) QQ) F H n m Q)->(N->fy P (l.map (uT P nt ops)) (pd.f (.aW []) F) H n m Q) ->
       gd ((ao d).f F) b Y N->Wp nt (λ QQ a w=>wpOpsIn (FW r) 0 P ops QQ (range' i (l.length+1)) a w) F H n m Q:=by
      intro Y N hY hN hG
      have no:N->∀ φ D a w,St nt φ D F H m a w->FrA φ n->∀QQ:QT,(∀o F' H' n' m' φ' D' a' w' px,Q o F' H' n' m'->Ext φ D H.get w n φ' D' H'.get w' n'->St nt φ' D' F' H' m' a' w'->yR φ' D' px o->QQ (jd px o) a' w')->wpOpsIn (FW r) 0 P ops QQ (range' (i+1) l.length) (a.put o.dst undef) w:=
       λ hN'=>wp_skip kO (ih _ _ _ (hN hN'))
      rw[gV]at hG;intro φ D a w st hf QQ hQ;show wpOpsIn (FW r) 0 P ops QQ (i::range' (i+1) l.length) a w
      cases hv:F.get d with
      |none=>rw[hv]at hG;exact aj hG id
      |some v =>
       rw[hv]at hG
       by_cases hb:∃c,v=.bool c
       ·obtain⟨c,rfl⟩:=hb;have hy:=(tell hd st.fr hv).1 c rfl;have hG:(bif c == b then Y else N):=hG;simp only[wpOpsIn,hi,Region.wanted,hgd,hy]
        cases hcb:c == b with
        |true =>
         rw[hcb]at hG;rw[ak (by simpa using hcb)];exact hY hG φ D a w st hf QQ hQ
        |false =>
         rw[hcb]at hG;rw[ae (by simpa using hcb)];exact⟨λ _ _=>trivial,no hG φ D a w st hf QQ hQ⟩
       have hnb:∀c,v≠.bool c:=λ c e=>hb ⟨c,e⟩;have hy:=(tell hd st.fr hv).2 hnb
       have hG:N:=by
        cases v<;>first|exact hG|exact aj rfl (hnb _)
       simp only[wpOpsIn,hi,Region.wanted,hgd,hy];rw[ae (by simp)];exact⟨λ _ _=>trivial,no hG φ D a w st hf QQ hQ⟩
     cases hk:yE P o with
     |bad=>rw[hk]at h;exact fin _ _ (λ h=>aj h id) (λ h=>h) h
     |jH e=>rw[hk]at h;exact fin _ _ (λ h=>aj h id) (λ h=>h) h
     |raw f=>rw[hk]at h;exact fin _ _ (λ h=>aj h id) (λ h=>h) h
     |eff e =>
      rw[hk]at h;have hc:=EG hk;exact fin _ _ (λ hy=>Qi (X:=λ F H n=>fy P (l.map (uT P nt ops)) F H n m Q) (gW hc) (dX hc) kO (λ F H n hx=>ih F H n hx) hy) (λ h=>h) h
     |call g as =>
      rw[hk]at h;obtain⟨c,h1,h2,h4⟩:=zC hk;exact fin _ _ (λ hy=>KA (X:=λ F H n=>fy P (l.map (uT P nt ops)) F H n m Q) h1 h2 h4 kO (λ F H n hx=>ih F H n hx) hy) (λ h=>h) h
theorem Wp.seq {x y:Code}{F:Fr}{H:Hp}{n:Nat}{m:List Dm}{Q R:QA}(h1:Wp nt (λ QQ a w=>x.wpIn (FW r) 0 P QQ a w) F H n m R)
  (h2:∀o F' H' n' m',R o F' H' n' m'->match o with
   |.normal=>Wp nt (λ QQ a w=>y.wpIn (FW r) 0 P QQ a w) F' H' n' m' Q
   |.exit i=>Q (.exit i) F' H' n' m'
   |.ret=>Q .ret F' H' n' m'
   |.panic _=>False):Wp nt (λ QQ a w=>(Code.seq x y).wpIn (FW r) 0 P QQ a w) F H n m Q:=by
 intro φ D a w st hf QQ hQ;refine wpIn_seq (h1 φ D a w st hf _ λ o F' H' n' m' φ' D' a' w' px hr e st' pp=>?_);have:=h2 o F' H' n' m' hr
 cases o with
 |normal=>exact this φ' D' a' w' st' (hf.step e) QQ λ o2 F2 H2 n2 m2 φ2 D2 a2 w2 px q e2 s2 pp=>hQ o2 F2 H2 n2 m2 φ2 D2 a2 w2 px q (e.trans e2) s2 pp
 |exit i=>exact hQ _ _ _ _ _ _ _ _ _ _ this e st' pp
 |ret=>exact hQ _ _ _ _ _ _ _ _ _ _ this e st' pp
 |panic v=>exact aj this id
theorem Wp.rounds {b:Code}{Q:QA}{I J:Nat->Fr->Hp->Nat->List Dm->Prop}(hj:∀k F H n m,J k F H n m->Zs I k F H n m)(hb:∀k F H n m,I k F H n m->Wp nt (λ QQ a w=>b.wpIn (FW r) 0 P QQ a w) F H n m (BQ J k Q)):
  ∀(j k:Nat) (F:Fr) (H:Hp) (n:Nat) (m:List Dm),k<j->J k F H n m->Wp nt (λ QQ a w=>Code.roundsIn (FW r) 0 P b QQ j a w) F H n m Q
 |0,k,_,_,_,_,h,_=>by omega
 |j + 1,k,F,H,n,m,h,hI=>by
  obtain⟨hh,F0,H0,hs,hI0⟩:=hj k F H n m hI;refine Wp.shut hs ?_;intro φ D a w st hf QQ hQ;show Code.roundsIn (FW r) 0 P b QQ (j+1) a w;rw[roundsIn_succ];refine hb k F0 H0 n m hI0 φ D a w st hf _ λ o F' H' n' m' φ' D' a' w' px hr e st' pp=>?_
  cases o with
  |normal =>
   obtain⟨k',hk,hI'⟩:=hr;exact Wp.rounds hj hb j k' F' H' n' m' (by omega) hI' φ' D' a' w' st' (hf.step e) QQ λ o2 F2 H2 n2 m2 φ2 D2 a2 w2 px q e2 s2 pp=>hQ o2 F2 H2 n2 m2 φ2 D2 a2 w2 px q (e.trans e2) s2 pp
  |exit i=>exact hQ _ _ _ _ _ _ _ _ _ _ hr e st' pp
  |ret=>exact hQ _ _ _ _ _ _ _ _ _ _ hr e st' pp
  |panic v=>exact aj hr id
theorem Qh {g:Operand}{x:G}{ps:Array Tmp}{ca cb:Code}{F:Fr}{H:Hp}{n:Nat}{m:List Dm}{Q:QA}(hg:cA g=some x) (h:VC P (.range nt x ps.toList ca cb) F H n m Q):Wp nt (λ QQ a w=>(Code.rangeFunc g ps ca cb).wpIn (FW none) 0 P QQ a w) F H n m Q:=by
 obtain⟨f,first,cap,hx,⟨fn,b,hfn,hb,hname⟩,hcs⟩:=h;intro φ D a w D4 hf QQ hQ;refine wpIn_rangeFunc λ fid _=>?_;have hgr:=aJ hg F φ D a D4.fr _ hx
 cases hxv:a.eval g with
 |func ff fx cx =>
  rw[hxv]at hgr
  cases hgr with
  |fn _ _ _ fl cl h1 h2 =>
  obtain⟨r1,e1⟩:=m0 (n:=n+1) D4.rel (λ b hb1 hb2=>hf b (by omega)) (.deferred (some [])) 0 .mR (World.ni w _);rw[k9]at r1 e1;let w1:=World.newObj w (.deferred (some []));let φ1:=Ph.set φ (n+1) (w.heap.size,0,0)
  have hf1:cK φ1 n (n+1):=by
   intro b hb1 hb2;have:b≠n+1:=by omega
   simp only[φ1,Ph.set,this,if_false];exact hf b (by omega)
  obtain⟨r2,e2⟩:=m0 (n:=n) r1 hf1 (.loop {state:=.ready,pending:=none,fn:=fid,tmps:=a.tmps,params:=ps,assign:=ca,body:=cb,defers:=w.heap.size}) 0 (.loop .ready .normal nt F ps.toList ca cb)
   ⟨_,World.ni w1 _,rfl,rfl,D4.sz,(D4.fr.mono e1.phi (λ _ _ h=>h)).mono (Ph.iT (hf1 n (aM _) (by omega))) (λ _ _ h=>h),rfl,rfl,rfl⟩
  rw[k9]at r2 e2;let w2:=World.newObj w1 (.loop {state:=.ready,pending:=none,fn:=fid,tmps:=a.tmps,params:=ps,assign:=ca,body:=cb,defers:=w.heap.size});let φ2:=Ph.set φ1 n (w1.heap.size,0,0)
  have e12:Ext φ D H.get w n φ2 D ((H.put (n+1) (some .mR)).put n (some (.loop .ready .normal nt F ps.toList ca cb))).get w2 (n+2):=
   (e1.wide (Nat.le_succ n) (aM _)).join (e2.wide (aM _) (by omega))
  have hsz1:w1.heap.size=w.heap.size+1:=by simp[w1,World.newObj]
  have hφn:φ2 n=some (w.heap.size+1,0,0):=by simp only[φ2,Ph.set,if_true,hsz1]
  have hφm:φ2 (n+1)=some (w.heap.size,0,0):=e2.phi _ _ (by simp[Ph.set]);refine⟨w.heap.size+1,[{target:=.collected w.heap.size,args:=#[]}],w2,{target:=.fn (.func f) ⟨cl⟩,args:=⟨fl⟩++#[.func (.yield (w.heap.size+1)) #[] #[]]},w2,f,⟨fl++(.func (.yield (w.heap.size+1)) #[] #[]::cl)⟩,w2,run_enterLoop_outer ..,?_,λ _ _=>trivial,?_,λ h=>by simp[FW]at h,?_⟩
  ·simp only[resolve,hxv,Deferred.ofValue,cS];simp[Act.eval]
  ·have harr:(⟨fl⟩:Array Value)++#[Value.func (.yield (w.heap.size+1)) #[] #[]]++⟨cl⟩=⟨fl++(.func (.yield (w.heap.size+1)) #[] #[]::cl)⟩:=by apply Array.ext';simp
   simp only[invoke,callFunc,bZ,run_program,bX,hfn,hname,hb,harr];simp
  refine jK (hcs φ2 D w2 _ r2 ((h1.mono e12.phi (λ _ _ h=>h)).append (.cons _ _ _ _ (.j9 _ _ _ _ hφn) (h2.mono e12.phi (λ _ _ h=>h)))) (hf.step e12) _ λ v H1 n1 φ3 D3 w3 cv hE e3 hr3 _=>?_);obtain⟨st,j,GL,G3,GK,a3,b3,hq,hst,ER,hQj⟩:=hE;obtain⟨hlt,rr,q1,q2,q3,q4,q5,q6⟩:=hr3.block hq (e3.phi _ _ hφn);have q1:w3.heap[w.heap.size+1]?=some (.loop rr):=q1;have hend:=run_endLoop (P:=P) q1 (by rw[q2];exact hst);obtain⟨k1,k2⟩:=rel_drop (n:=n1) hr3 (b:=n) (by rw[hq];simp) (e3.phi _ _ hφn) (Go.World.putObj w3 (w.heap.size+1) (.loop {rr with state:=.exhausted})) (λ c hc=>Go.World.putObj_heap_other hc) Go.World.putObj_size rfl rfl;rw[k9]at k1 k2;have sX:=(e12.trans e3).trans k2
  have hst':St nt φ3 D3 F (H1.put n none) (.qw (Nat.succ n)::m) {a with defers:=[{target:=.collected w.heap.size,args:=#[]}]++a.defers} (Go.World.putObj w3 (w.heap.size+1) (.loop {rr with state:=.exhausted})):=
   ⟨k1,D4.fr.mono sX.phi sX.eQ,D4.sz,⟨_,_,_,_,e3.phi _ _ hφm,rfl,D4.uM.mono sX.phi sX.eQ⟩⟩
  refine⟨_,_,hend,?_⟩;have:=hQ j F _ n1 _ φ3 D3 _ _ undef hQj sX hst';rw[q3]at this ⊢
  cases j with
  |panic v=>exact aj rfl (ER v)
  |normal=>exact this trivial
  |exit i=>exact wpIn_exit (this trivial)
  |ret=>exact wpIn_ret (this trivial)
 |_=>rw[hxv]at hgr;cases hgr
theorem gR:∀(c:Code) (F:Fr) (H:Hp) (n:Nat) (m:List Dm) (Q:QA),VC P (fF P nt r.isSome c) F H n m Q->Wp nt (λ QQ a w=>c.wpIn (FW r) 0 P QQ a w) F H n m Q
 |.skip,F,H,n,m,Q,h=>λ φ D a w st hf QQ hQ=>wpIn_skip (hQ .normal _ _ _ _ _ _ _ _ undef h (Ext.refl ..) st trivial)
 |.exit i,F,H,n,m,Q,h=>λ φ D a w st hf QQ hQ=>wpIn_exit (hQ (.exit i) _ _ _ _ _ _ _ _ undef h (Ext.refl ..) st trivial)
 |.ret,F,H,n,m,Q,h=>λ φ D a w st hf QQ hQ=>wpIn_ret (hQ .ret _ _ _ _ _ _ _ _ undef h (Ext.refl ..) st trivial)
 |.region rid ops d,F,H,n,m,Q,h=>by
  cases d with
  |false =>
   simp only[fF,cond_false]at h
   have h:fy P (ops.toList.map (uT P nt ops)) F H n m Q:=by
    cases hr:r.isSome&&eo ops.toList with
    |true=>rw[hr]at h;exact aj h id
    |false=>rw[hr]at h;exact h
   have:=yU (P:=P) (nt:=nt) (ops:=ops) (r:=r) ops.toList 0 F H n m Q rfl h;intro φ D a w st hf QQ hQ;refine wpIn_region ?_;rw[range_eq_range'];exact this φ D a w st hf QQ hQ
  |true =>
   simp only[fF,cond_true]at h
   cases Bt:P.follows .mixedOrders with
   |false=>rw[Bt]at h;exact aj h id
   |true =>
    rw[Bt]at h;simp only[cond_true]at h
    have hk:∃ce h F2 H2,iQ P ce/\jm h F H F2 H2/\Ev ((comp P nt r.isSome (.region rid ops true)).f ce F2 H2 n m) Q:=by
     cases hp:u3 (mU ops.toList 0 .nil) ops (OM (mU ops.toList 0 .nil) ops.toList)with
     |false=>rw[hp]at h;exact aj h id
     |true =>
      rw[hp]at h;obtain⟨ce,hh,F2,H2,h1,hs,h2⟩:=h;refine⟨ce,hh,F2,H2,h1,hs,?_⟩;rw[lS];simp only[fF,cond_true,Bt,hp];exact h2
    obtain⟨ce,hh,F2,H2,h1,hs,h2⟩:=hk;exact Wp.shut hs (tV (bp (P:=P) (nt:=nt) (r:=r) h1 (.region rid ops true)) h2)
 |.seq x y,F,H,n,m,Q,h=>by
  refine Wp.seq (gR x F H n m _ h) λ o F' H' n' m' hr=>?_
  cases o with
  |normal=>exact gR y F' H' n' m' Q hr
  |exit i=>exact hr
  |ret=>exact hr
  |panic v=>exact aj hr id
 |.cond c x y,F,H,n,m,Q,h=>by
  simp only[fF]at h
  cases hc:cA c with
  |none=>rw[hc]at h;exact aj h id
  |some g =>
   rw[hc]at h;have h:o6 (g.f F) (VC P (fF P nt r.isSome x) F H n m Q) (VC P (fF P nt r.isSome y) F H n m Q):=h;intro φ D a w st hf QQ hQ
   cases hg:g.f F with
   |none=>rw[hg]at h;exact aj h id
   |some v =>
    have hv:=aJ hc F φ D a st.fr _ hg;rw[hg]at h
    cases v with
    |bool b =>
     generalize hz:a.eval c=z at hv;cases hv
     cases b with
     |true=>exact wpIn_cond (t:=true) hz (gR x F H n m Q h φ D a w st hf QQ hQ)
     |false=>exact wpIn_cond (t:=false) hz (gR y F H n m Q h φ D a w st hf QQ hQ)
    |_=>exact aj h id
 |.block id b,F,H,n,m,Q,h=>by
  intro φ D a w st hf QQ hQ;refine wpIn_block (gR b F H n m (jN id Q) h φ D a w st hf _ λ o F' H' n' m' φ' D' a' w' px hr e st' pp=>?_)
  cases o with
  |normal=>exact hQ _ _ _ _ _ _ _ _ _ _ hr e st' pp
  |ret=>exact hQ _ _ _ _ _ _ _ _ _ _ hr e st' pp
  |panic v=>exact False.elim hr
  |exit j =>
   have hr:(if id=j then Q .normal F' H' n' m' else Q (.exit j) F' H' n' m'):=hr
   by_cases hij:j=id
   ·subst hij;rw[ak rfl]at hr;simp only[jd,Exit.inBlock,if_true];exact hQ _ _ _ _ _ _ _ _ _ px hr e st' trivial
   rw[ae (λ e=>hij e.symm)]at hr;simp only[jd,Exit.inBlock,hij,if_false];exact hQ _ _ _ _ _ _ _ _ _ _ hr e st' pp
 |.loop b,F,H,n,m,Q,h=>by
  have ib:=gR b
  have plain:VC P (.loop (fF P nt r.isSome b)) F H n m Q->Wp nt (λ QQ a w=>(Code.loop b).wpIn (FW r) 0 P QQ a w) F H n m Q:=by
   intro h;obtain⟨I,J,k,hI,hj,hs⟩:=h;intro φ D a w st hf QQ hQ;exact wpIn_loop_rounds (k+1) (Wp.rounds hj (λ k F H n m hi=>ib F H n m _ (hs k F H n m hi)) (k+1) k F H n m (by omega) hI φ D a w st hf QQ hQ)
  cases b with
  |seq x y =>
   cases hm:zw x with
   |none =>
    refine plain ?_;simp only[fF,hm]at h;exact h
   |some q =>
    obtain⟨x',d,ops,os⟩:=q;simp only[fF,hm]at h
    cases hr:r.isSome&&eo os with
    |true=>rw[hr]at h;exact aj h id
    |false =>
     rw[hr]at h;obtain⟨ce,h1,h2⟩:=h;refine tV (bp (P:=P) (nt:=nt) (r:=r) h1 (.loop (.seq x y))) ?_;have:comp P nt r.isSome (.loop (.seq x y))=abv P nt x' d ops os (comp P nt r.isSome y):=by simp only[comp,hm,hr];rfl
     rw[this];exact h2
  |_=>exact plain h
 |.rangeFunc g ps ca cb,F,H,n,m,Q,h=>by
  simp only[fF]at h
  cases hc:cA g with
  |none=>rw[hc]at h;exact aj h id
  |some x =>
   rw[hc]at h
   cases r with
   |some cb0=>exact aj h id
   |none=>exact Qh hc h
 |.scope b,F,H,n,m,Q,h=>by
  intro φ D a w st hf QQ hQ;refine vD (gR b F H n m Q h φ D a w st hf _ λ o F' H' n' m' φ' D' a' w' px hr e st' pp=>?_);have:=hQ o F' H' n' m' φ' D' a' w' px hr e st' pp
  cases o<;>exact this
 |.label _,F,H,n,m,Q,h=>λ φ D a w st hf QQ hQ=>wpIn_label (hQ .normal _ _ _ _ _ _ _ _ undef h (Ext.refl ..) st trivial)
 |.goto _,_,_,_,_,_,h=>aj h id
 |.refuse _,_,_,_,_,_,h=>aj h id
theorem ar.of {g:FuncId}{c:CF}{args:List AV}{H:Hp}{n:Nat}{R:AV->Hp->Nat->Prop}(hc:PI P g=some c) (hl:args.length<=c.nt)
  (h:∀F:Fr,(∀i,F.get i=args[i]?)->VC P c.code F H n [] (fQ c.res R)):ar P g args H n R:=by
 unfold PI at hc
 split at hc
 ·rename_i fn hfn
  split at hc
  ·rename_i b hb
   split at hc
   ·cases hc
   rename_i hname
   split at hc
   ·rename_i gs hgs;injection hc with hc;subst hc;dsimp only at hl h;refine⟨⟨fn,b,hfn,hb,by simpa using hname⟩,λ φ D w xs hrel hvs hf RR hR=>?_⟩;refine callsIn_of_wp_marks hfn hb trivial ?_
    have hsz:((⟨xs⟩:Array Value)++Array.replicate (fn.ntmps - (⟨xs⟩:Array Value).size) undef).size=fn.ntmps:=by
     have:=hvs.length;simp;omega
    have hv:=h (Tr.bW args 0 .nil) λ i=>by
     rw[Tr.bR]
     split
     ·simp
     rw[getElem?_eq_none (by omega)];rfl
    refine gR (r:=none) b _ _ _ _ _ hv φ D {tmps:=(⟨xs⟩:Array Value)++Array.replicate (fn.ntmps - (⟨xs⟩:Array Value).size) undef,defers:=[]} w ⟨hrel,wR hrel.eQ.2 hvs _,hsz,rfl⟩ hf _ λ o F1 H1 n1 m1 φ1 D1 a1 w1 px hq aP st1 pp=>?_
    have key:(o=.normal∨o=.ret)->LeavesInM Fence.wide 0 P fn a1.tmps RR a1.defers .returning w1:=by
     intro ho
     have hq:uD (eW m1 H1) λ H'=>uD (vd F1 H' gs) λ vs=>R (uG vs) H' n1:=by
      rcases ho with rfl|rfl
      ·simpa using hq
      simpa using hq
     cases hu:eW m1 H1 with
     |none=>rw[hu]at hq;exact aj hq id
     |some H2 =>
      rw[hu]at hq;simp only[wj]at hq
      cases he:vd F1 H2 gs with
      |none=>rw[he]at hq;exact aj hq id
      |some vs =>
       rw[he]at hq;exact zy (P:=P) (fn:=fn) (vs:=vs) hgs he m1 H1 a1.defers a1.tmps φ1 D1 w1 _ RR hu st1.rel st1.fr st1.uM λ φ2 D2 w2 x h1 h2 h3=>hR _ _ _ φ2 D2 w2 x hq (aP.trans h1) h2 h3
    cases o with
    |normal=>exact key (.inl rfl)
    |ret=>exact key (.inr rfl)
    |exit i=>exact aj hq id
    |panic v=>exact aj hq id
   cases hc
  cases hc
 cases hc
theorem ah.ofR {g:FuncId}{args:List AV}{v:AV}(hp:aT args)(hv:Pure v)(h:ar P g args .nil 0 (λ v1 H' _=>fW H'.get v1 v)):ah P g args v:=by
 obtain⟨hb,hs⟩:=h;refine⟨hb,hp,hv,λ D w xs hd hv R hR=>?_⟩;refine hs nR D w xs (vY hd) hv (λ _ _=>rfl) R λ v1 H' n' φ' D' w' x h2 aP hrel hx=>?_;refine hR (shut φ' D' H'.get w') w' x ⟨λ c x hx=>eV c x (aP.eQ c x hx),aP.size,λ c hc=>aP.keep c hc λ b p hb=>by simp at hb,λ c hc=>?_,aP.os,aP.out⟩ (mA hrel.eQ) (h2.vr hrel hx);unfold shut at hc
 split at hc
 ·rename_i y hy
  rcases aP.lj c (by rw[hy];simp)with h|h|⟨b0,p0,hh,_⟩
  ·exact .inl h
  ·exact .inr h
  simp at hh
 split at hc
 ·rename_i hex;obtain⟨b,p,hb,hp,rfl⟩:=hex
  rcases aP.live b p hb hp with h|⟨b0,p0,hh,_⟩
  ·exact .inr h
  simp at hh
 exact aj rfl hc
theorem ah.hU {g:FuncId}{args:List AV}{v:AV}(h:ah P g args v)(H:Hp)(n:Nat):ar P g args H n (λ u K k=>u=v/\K=H/\k=n):=(h.BL H n).hU
mutual
def Flat:AV->Prop
 |.int _ _=>True
 |.bool _=>True
 |.str _=>True
 |.aI _=>True
 |.agg cs _=>fM cs
 |.aW cs=>fM cs
 |.fO _ v=>Flat v
 |_=>False
def fM:List AV->Prop
 |[]=>True
 |v::r=>Flat v/\fM r
end
@[simp] theorem anp (k:IntKind)(i:Int):Flat (.int k i):=by simp only[Flat]
@[simp] theorem akq (b:Bool):Flat (.bool b):=by simp only[Flat]
@[simp] theorem ano (l:List Nat):Flat (.str l):=by simp only[Flat]
@[simp] theorem flat_agg (cs:List AV)(n:Nat):Flat (.agg cs n)=fM cs:=by simp only[Flat]
@[simp] theorem ann (cs:List AV):Flat (.aW cs)=fM cs:=by simp only[Flat]
@[simp] theorem akr:fM []:=by simp only[fM]
@[simp] theorem aiq (v:AV)(r:List AV):fM (v::r)=(Flat v/\fM r):=by simp only[fM]
mutual
theorem Flat.out {φ φ':Ph}{D D':Da}:∀ {v:AV}{x:Value},Flat v->VR φ D v x->VR φ' D' v x
 |.int _ _,_,_,.int _ _=>.int _ _
 |.bool _,_,_,.bool _=>.bool _
 |.str _,_,_,.str _ _ e=>.str _ _ e
 |.aI _,_,_,.aI _ e=>.aI _ e
 |.agg _ _,_,h,.agg _ _ _ a b=>.agg _ _ _ (fM.uW (by simpa only [Flat]using h) a) b
 |.aW _,_,h,.aW _ _ a=>.aW _ _ (fM.uW (by simpa only [Flat]using h) a)
 |.fO _ _,_,h,.fO _ _ _ a=>.fO _ _ _ (Flat.out (by simpa only [Flat]using h) a)
theorem fM.uW {φ φ':Ph}{D D':Da}:∀ {vs:List AV}{xs:List Value},fM vs->cw φ D vs xs->cw φ' D' vs xs
 |[],_,_,.nil=>.nil
 |_::_,_,h,.cons _ _ _ _ h1 h2=>.cons _ _ _ _ (Flat.out (by simp only[fM]at h;exact h.1) h1) (fM.uW (by simp only[fM]at h;exact h.2) h2)
end
theorem ah.adP {g:FuncId}{args args':List AV}{v:AV}(h:ah P g args' v) (hf:Flat v){H:Hp}(n:Nat) (hz:cM H.get args args'):∀ φ D w xs,Rel φ D H.get w->cw φ D args xs->∀R:Ending->World->Prop,
  (∀ φ' D' w' x,Ext φ D H.get w n φ' D' H.get w' n->Rel φ' D' H.get w'->VR φ' D' v x->R (.returned x) w')->CallsIn Fence.wide 0 P g ⟨xs⟩ w R:=by
 intro φ D w xs hr hv R hR;refine h.run (shut φ D H.get w) w xs (mA hr.eQ) (hz.uW hr hv) R λ D' w' x hk hd hx=>?_
 let D2:Da:=λ c=>match D c with
  |some y=>some y
  |none=>match shut φ D H.get w c with
   |some _=>none
   |none=>D' c
 have e1:∀c x,D c=some x->D2 c=some x:=λ c x hc=>by simp only[D2,hc]
 have e2:∀c x,D2 c=some x->D' c=some x:=by
  intro c x hc;simp only[D2]at hc
  split at hc
  ·rename_i y hy;injection hc with hc;subst hc;exact hk.eQ c _ (eV c _ hy)
  split at hc
  ·cases hc
  exact hc
 have e3:∀c,D2 c≠none->D c≠none∨w.heap.size<=c:=by
  intro c hc;simp only[D2]at hc
  split at hc
  ·rename_i y hy;exact .inl (by rw[hy];simp)
  split at hc
  ·exact aj rfl hc
  rename_i hs
  rcases hk.lj c hc with h|h
  ·exact aj hs h
  exact .inr h
 refine hR φ D2 w' x ⟨aM _,λ _ _ h=>h,λ _ a b=>aj a b,e1,hk.size,λ c hc _=>hk.keep c hc,λ b p hb hp=>.inr ⟨b,p,hb,hp,rfl⟩,λ c hc=>(e3 c hc).elim .inl λ h=>.inr (.inl h),λ _ h=>.inl h,hk.os,hk.out⟩ ?_ (hf.out hx);refine⟨λ b k hb=>?_,hr.inj,λ b p hb hp=>?_,⟨λ c x hc=>hd.1 c x (e2 c x hc),hr.eQ.2.mono e1⟩⟩
 ·obtain⟨p,hp,hl,hk'⟩:=hr.blk b k hb;exact⟨p,hp,Nat.lt_of_lt_of_le hl hk.size,hk'.mono (λ _ _ h=>h) e1 (hk.keep _ hl)⟩
 cases hD:D2 p.1 with
 |none=>rfl
 |some x =>
  rcases e3 p.1 (by rw[hD];simp)with h1|h1
  ·exact aj (hr.sep b p hb hp) h1
  cases hx:H.get b with
  |none=>exact aj hx hb
  |some k=>have:=(hr.block hx hp).1;omega
theorem ah.aoe {g:FuncId}{args args':List AV}{v:AV}(h:ah P g args' v)(hf:Flat v){H:Hp}(n:Nat)(hz:cM H.get args args'):ar P g args H n (λ u K k=>u=v/\K=H/\k=n):=
 ⟨h.body,λ φ D w xs hr hv _ R hR=>h.adP hf n hz φ D w xs hr hv R λ φ' D' w' x e r k=>hR v H n φ' D' w' x ⟨rfl,rfl,rfl⟩ e r k⟩
theorem ah.ace {g:FuncId}{args args':List AV}{v:AV}(h:ah P g args' v)(hf:Flat v){H:Hp}(n:Nat)(hz:cM H.get args args'):bO P g args H n v H n:=
 ⟨h.body,aM _,λ φ D w xs hr hv _ R hR=>h.adP hf n hz φ D w xs hr hv R hR⟩
end
end Go.Abs
namespace Go.Abs
open List
def tC (P:Program)(b:CT)(Q:QA):QA:=λ o F' H' n' m'=>match o with
 |.normal=>VC P b F' H' n' m' Q
 |.exit i=>Q (.exit i) F' H' n' m'
 |.ret=>Q .ret F' H' n' m'
 |.panic _=>False
def Au (v:Option AV)(a b:CT)(P:Program)(F:Fr)(H:Hp)(n:Nat)(m:List Dm)(Q:QA):Prop:=o6 v (VC P a F H n m Q) (VC P b F H n m Q)
def Dt (x:bg)(pd:Pd)(r:List (Option GO))(P:Program)(F:Fr)(H:Hp)(n:Nat)(m:List Dm)(Q:QA):Prop:=DR x H n λ v H' n'=>fy P r (pd.f v F) H' n' m Q
def au (f:FuncId)(vs:List AV)(pd:Pd)(r:List (Option GO))(P:Program)(F:Fr)(H:Hp)(n:Nat)(m:List Dm)(Q:QA):Prop:=ar P f vs H n λ v H' n'=>fy P r (pd.f v F) H' n' m Q
def P' (vs:Option (List AV))(f:FuncId)(pd:Pd)(r:List (Option GO))(P:Program)(F:Fr)(H:Hp)(n:Nat)(m:List Dm)(Q:QA):Prop:=uD vs λ vs=>au f vs pd r P F H n m Q
def Io (q:Nat)(vs:List AV)(pd:Pd)(r:List (Option GO))(P:Program)(F:Fr)(H:Hp)(n:Nat)(m:List Dm)(Q:QA):Prop:=yN P q vs H n λ v H' n'=>fy P r (pd.f v F) H' n' m Q
def GA (v:Option AV)(vs:Option (List AV))(pd:Pd)(r:List (Option GO))(P:Program)(F:Fr)(H:Hp)(n:Nat)(m:List Dm)(Q:QA):Prop:=match v with
 |some (.fn (.func f) first cap)=>uD vs λ vs=>au f (first++(vs++cap)) pd r P F H n m Q
 |some (.j9 q)=>uD vs λ vs=>Io q vs pd r P F H n m Q
 |_=>False
def Uj (v:Option AV)(nt:Nat)(ps:List Nat)(a b:Code)(P:Program)(F:Fr)(H:Hp)(n:Nat)(m:List Dm)(Q:QA):Prop:=match v with
 |some (.fn (.func f) first cap)=>ar P f (first++(.j9 n::cap)) ((H.put (Nat.succ n) (some .mR)).put n (some (.loop .ready .normal nt F ps a b))) (Nat.succ (Nat.succ n)) λ _ H' n'=>acA n F m Q H' n'
 |_=>False
def P6 (v:Option AV)(b:Bool)(pd:Pd)(e:Eff)(r:List (Option GO))(P:Program)(F:Fr)(H:Hp)(n:Nat)(m:List Dm)(Q:QA):Prop:=gd v b (Dt (e F H n) pd r P F H n m Q) (fy P r (pd.f (.aW []) F) H n m Q)
def P7 (v:Option AV)(b:Bool)(pd:Pd)(f:FuncId)(as:List G)(r:List (Option GO))(P:Program)(F:Fr)(H:Hp)(n:Nat)(m:List Dm)(Q:QA):Prop:=gd v b (P' (evs F as) f pd r P F H n m Q) (fy P r (pd.f (.aW []) F) H n m Q)
def P5 (v:Option AV)(b:Bool)(pd:Pd)(g:G)(as:List G)(r:List (Option GO))(P:Program)(F:Fr)(H:Hp)(n:Nat)(m:List Dm)(Q:QA):Prop:=gd v b (GA (g.f F) (evs F as) pd r P F H n m Q) (fy P r (pd.f (.aW []) F) H n m Q)
def aG (b:CT)(P:Program)(F:Fr)(H:Hp)(n:Nat)(m:List Dm)(Q:QA):Prop:=∃(I J:Nat->Fr->Hp->Nat->List Dm->Prop)(k:Nat),J k F H n m/\(∀k F H n m,J k F H n m->Zs I k F H n m)/\∀k F H n m,I k F H n m->VC P b F H n m (BQ J k Q)
def bD (ds:List Nat)(l:List (Option RO))(P:Program)(F:Fr)(H:Hp)(n:Nat)(m:List Dm)(Q:QA):Prop:=∃ce h F2 H2,iQ P ce/\jm h F H F2 H2/\Ev ((PH ds (iF l)).f ce F2 H2 n m) Q
section
variable {P:Program}{F:Fr}{H:Hp}{n:Nat}{m:List Dm}{Q:QA}
@[simp] theorem ac4 (b:CT):tC P b Q .normal F H n m=VC P b F H n m Q:=propext Iff.rfl
@[simp] theorem aj6 (b:CT)(i:Nat):tC P b Q (.exit i) F H n m=Q (.exit i) F H n m:=propext Iff.rfl
@[simp] theorem aln (b:CT):tC P b Q .ret F H n m=Q .ret F H n m:=propext Iff.rfl
@[simp] theorem aiW (a b:CT):Au (some (.bool true)) a b P F H n m Q=VC P a F H n m Q:=propext Iff.rfl
@[simp] theorem adI (a b:CT):Au (some (.bool false)) a b P F H n m Q=VC P b F H n m Q:=propext Iff.rfl
@[simp] theorem aqV (l:List (Option GO)):VC P (.eC l) F H n m Q=fy P l F H n m Q:=propext Iff.rfl
@[simp] theorem aqW (ds:List Nat)(l:List (Option RO)):VC P (.eM ds l) F H n m Q=bD ds l P F H n m Q:=propext Iff.rfl
@[simp] theorem eh (a b:CT):VC P (.seq a b) F H n m Q=VC P a F H n m (tC P b Q):=propext Iff.rfl
@[simp] theorem apg (g:G)(a b:CT):VC P (.cond g a b) F H n m Q=Au (g.f F) a b P F H n m Q:=propext Iff.rfl
@[simp] theorem Ql (i:Nat)(b:CT):VC P (.block i b) F H n m Q=VC P b F H n m (jN i Q):=propext Iff.rfl
@[simp] theorem ape (b:CT):VC P (.loop b) F H n m Q=aG b P F H n m Q:=propext Iff.rfl
@[simp] theorem apf (i:Nat):VC P (.exit i) F H n m Q=Q (.exit i) F H n m:=propext Iff.rfl
@[simp] theorem aqU:VC P .ret F H n m Q=Q .ret F H n m:=propext Iff.rfl
@[simp] theorem apd:VC P .skip F H n m Q=Q .normal F H n m:=propext Iff.rfl
@[simp] theorem al5 (pd:Pd)(r:List (Option GO)):Dt .fail pd r P F H n m Q=False:=propext Iff.rfl
@[simp] theorem apB (v:AV)(pd:Pd)(r:List (Option GO)):Dt (.val v) pd r P F H n m Q=fy P r (pd.f v F) H n m Q:=propext Iff.rfl
@[simp] theorem apD (v:AV)(k:bz)(pd:Pd)(r:List (Option GO)):Dt (.new v k) pd r P F H n m Q=fy P r (pd.f v F) (H.put n (some k)) (n+1) m Q:=propext Iff.rfl
@[simp] theorem apC (v:AV)(b:Nat)(k:bz)(pd:Pd)(r:List (Option GO)):Dt (.upd v b k) pd r P F H n m Q=fy P r (pd.f v F) (H.put b (some k)) n m Q:=propext Iff.rfl
@[simp] theorem arA (v:AV)(b:Nat)(k:bz)(pd:Pd)(r:List (Option GO)):Dt (.mv v b k) pd r P F H n m Q=fy P r (pd.f v F) ((H.put b none).put n (some k)) (n+1) m Q:=propext Iff.rfl
@[simp] theorem akR (vs:List AV)(f:FuncId)(pd:Pd)(r:List (Option GO)):P' (some vs) f pd r P F H n m Q=au f vs pd r P F H n m Q:=propext Iff.rfl
@[simp] theorem akp (f:FuncId)(first cap vs:List AV)(pd:Pd)(r:List (Option GO)):GA (some (.fn (.func f) first cap)) (some vs) pd r P F H n m Q=au f (first++(vs++cap)) pd r P F H n m Q:=propext Iff.rfl
@[simp] theorem asA (pd:Pd)(e:Eff)(r:List (Option GO)):P6 (some (.bool true)) true pd e r P F H n m Q=Dt (e F H n) pd r P F H n m Q:=propext Iff.rfl
@[simp] theorem asB (pd:Pd)(e:Eff)(r:List (Option GO)):P6 (some (.bool false)) true pd e r P F H n m Q=fy P r (pd.f (.aW []) F) H n m Q:=propext Iff.rfl
@[simp] theorem apX (pd:Pd)(e:Eff)(r:List (Option GO)):P6 (some (.bool true)) false pd e r P F H n m Q=fy P r (pd.f (.aW []) F) H n m Q:=propext Iff.rfl
@[simp] theorem apY (pd:Pd)(e:Eff)(r:List (Option GO)):P6 (some (.bool false)) false pd e r P F H n m Q=Dt (e F H n) pd r P F H n m Q:=propext Iff.rfl
@[simp] theorem am6 (l:List AV)(b:Bool)(pd:Pd)(e:Eff)(r:List (Option GO)):P6 (some (.aW l)) b pd e r P F H n m Q=fy P r (pd.f (.aW []) F) H n m Q:=propext Iff.rfl
@[simp] theorem asG (pd:Pd)(f:FuncId)(as:List G)(r:List (Option GO)):P7 (some (.bool true)) true pd f as r P F H n m Q=P' (evs F as) f pd r P F H n m Q:=propext Iff.rfl
@[simp] theorem asH (pd:Pd)(f:FuncId)(as:List G)(r:List (Option GO)):P7 (some (.bool false)) true pd f as r P F H n m Q=fy P r (pd.f (.aW []) F) H n m Q:=propext Iff.rfl
@[simp] theorem ap3 (pd:Pd)(f:FuncId)(as:List G)(r:List (Option GO)):P7 (some (.bool true)) false pd f as r P F H n m Q=fy P r (pd.f (.aW []) F) H n m Q:=propext Iff.rfl
@[simp] theorem ap4 (pd:Pd)(f:FuncId)(as:List G)(r:List (Option GO)):P7 (some (.bool false)) false pd f as r P F H n m Q=P' (evs F as) f pd r P F H n m Q:=propext Iff.rfl
@[simp] theorem am9 (l:List AV)(b:Bool)(pd:Pd)(f:FuncId)(as:List G)(r:List (Option GO)):P7 (some (.aW l)) b pd f as r P F H n m Q=fy P r (pd.f (.aW []) F) H n m Q:=propext Iff.rfl
@[simp] theorem asy (pd:Pd)(g:G)(as:List G)(r:List (Option GO)):P5 (some (.bool true)) true pd g as r P F H n m Q=GA (g.f F) (evs F as) pd r P F H n m Q:=propext Iff.rfl
@[simp] theorem asz (pd:Pd)(g:G)(as:List G)(r:List (Option GO)):P5 (some (.bool false)) true pd g as r P F H n m Q=fy P r (pd.f (.aW []) F) H n m Q:=propext Iff.rfl
@[simp] theorem apV (pd:Pd)(g:G)(as:List G)(r:List (Option GO)):P5 (some (.bool true)) false pd g as r P F H n m Q=fy P r (pd.f (.aW []) F) H n m Q:=propext Iff.rfl
@[simp] theorem apW (pd:Pd)(g:G)(as:List G)(r:List (Option GO)):P5 (some (.bool false)) false pd g as r P F H n m Q=GA (g.f F) (evs F as) pd r P F H n m Q:=propext Iff.rfl
@[simp] theorem am5 (l:List AV)(b:Bool)(pd:Pd)(g:G)(as:List G)(r:List (Option GO)):P5 (some (.aW l)) b pd g as r P F H n m Q=fy P r (pd.f (.aW []) F) H n m Q:=propext Iff.rfl
@[simp] theorem aph:fy P [] F H n m Q=Q .normal F H n m:=propext Iff.rfl
@[simp] theorem aqX (pd:Pd)(e:Eff)(r:List (Option GO)):fy P (oP pd e::r) F H n m Q=Dt (e F H n) pd r P F H n m Q:=propext Iff.rfl
@[simp] theorem aqY (g:G)(b:Bool)(pd:Pd)(e:Eff)(r:List (Option GO)):fy P (gP g b pd e::r) F H n m Q=P6 (g.f F) b pd e r P F H n m Q:=propext Iff.rfl
theorem H6 (g:G)(as:List G)(K:FuncId->List AV->Prop)(K2:Nat->List AV->Prop):((∃f first cap vs,g.f F=some (.fn (.func f) first cap)/\evs F as=some vs/\K f (first++(vs++cap)))∨(∃q vs,g.f F=some (.j9 q)/\evs F as=some vs/\K2 q vs))↔(match g.f F with
  |some (.fn (.func f) first cap)=>uD (evs F as) λ vs=>K f (first++(vs++cap))
  |some (.j9 q)=>uD (evs F as) λ vs=>K2 q vs
  |_=>False):=by
 constructor
 ·rintro(⟨f,first,cap,vs,h1,h2,h3⟩|⟨q,vs,h1,h2,h3⟩)
  ·rw[h1,h2];exact h3
  rw[h1,h2];exact h3
 intro h
 split at h
 ·rename_i f first cap hg
  cases hv:evs F as with
  |none=>rw[hv]at h;exact aj h id
  |some vs=>rw[hv]at h;exact .inl ⟨f,first,cap,vs,hg,rfl,h⟩
 ·rename_i q hg
  cases hv:evs F as with
  |none=>rw[hv]at h;exact aj h id
  |some vs=>rw[hv]at h;exact .inr ⟨q,vs,hg,rfl,h⟩
 exact aj h id
@[simp] theorem Qm (pd:Pd)(g:G)(as:List G)(r:List (Option GO)):fy P (vP pd g as::r) F H n m Q=GA (g.f F) (evs F as) pd r P F H n m Q:=by
 refine Eq.trans (propext (H6 (F:=F) g as (λ f l=>au f l pd r P F H n m Q) λ q l=>Io q l pd r P F H n m Q)) ?_;unfold GA;rfl
@[simp] theorem agB (pd:Pd)(f:FuncId)(as:List G)(r:List (Option GO)):fy P (cP pd f as::r) F H n m Q=P' (evs F as) f pd r P F H n m Q:=by
 refine Eq.trans (Qm pd (aK (.fn (.func f) [] [])) as r) ?_;simp only[Fg,GA,P',nil_append,append_nil]
@[simp] theorem apj (g:G)(b:Bool)(pd:Pd)(f:FuncId)(as:List G)(r:List (Option GO)):fy P (nO g b pd f as::r) F H n m Q=P7 (g.f F) b pd f as r P F H n m Q:=by
 show gd (g.f F) b (fy P (cP pd f as::r) F H n m Q) _=_;rw[agB];rfl
def gvP (g:G)(b:Bool)(pd:Pd)(h:G)(as:List G):Option GO:=some ⟨some (g,b),pd,.call h as⟩
@[simp] theorem api (g:G)(b:Bool)(pd:Pd)(h:G)(as:List G)(r:List (Option GO)):fy P (gvP g b pd h as::r) F H n m Q=P5 (g.f F) b pd h as r P F H n m Q:=by
 show gd (g.f F) b (fy P (vP pd h as::r) F H n m Q) _=_;rw[Qm];rfl
@[simp] theorem ani (q:Nat)(vs:List AV)(pd:Pd)(r:List (Option GO)):GA (some (.j9 q)) (some vs) pd r P F H n m Q=Io q vs pd r P F H n m Q:=propext Iff.rfl
theorem Oy (g:G)(K:FuncId->List AV->List AV->Prop):(∃f first cap,g.f F=some (.fn (.func f) first cap)/\K f first cap)↔(match g.f F with
  |some (.fn (.func f) first cap)=>K f first cap
  |_=>False):=by
 constructor
 ·rintro⟨f,first,cap,h1,h2⟩;rw[h1];exact h2
 intro h
 split at h
 ·rename_i f first cap hg;exact⟨f,first,cap,hg,h⟩
 exact aj h id
@[simp] theorem ala (nt:Nat)(g:G)(ps:List Nat)(a b:Code):VC P (.range nt g ps a b) F H n m Q=Uj (g.f F) nt ps a b P F H n m Q:=
 Eq.trans (propext (Oy (F:=F) g λ f first cap=>ar P f (first++(.j9 n::cap)) ((H.put (Nat.succ n) (some .mR)).put n (some (.loop .ready .normal nt F ps a b))) (Nat.succ (Nat.succ n)) λ _ H' n'=>acA n F m Q H' n')) (by unfold Uj;rfl)
theorem Uj.of {f:FuncId}{first cap:List AV}{nt:Nat}{ps:List Nat}{a b:Code}(h:ar P f (first++(.j9 n::cap)) ((H.put (n+1) (some .mR)).put n (some (.loop .ready .normal nt F ps a b))) (n+2) λ _ H' n'=>acA n F m Q H' n'):Uj (some (.fn (.func f) first cap)) nt ps a b P F H n m Q:=h
theorem GH.of {nt:Nat}{c:Code}{Q:QA}(h:VC P (fF P nt true c) F H n [] Q):GH P nt c F H n Q:=λ cb=>gR (r:=some cb) c F H n [] Q h
theorem Io.of {q:Nat}{vs:List AV}{pd:Pd}{r:List (Option GO)}{st:LoopState}{j:nI}{nt:Nat}{F0 F1:Fr}{ps:List Nat}{a b:Code}(hq:H.get q=some (.loop st j nt F0 ps a b))(hp:qo nt ps vs F0=some F1)
  (ha:VC P (fF P nt true a) F1 H n [] λ o F2 H2 n2 m2=>o=.normal/\m2=[]/\∃j2 Hm G2 ps2 a2 b2,H2.get q=some (.loop .ready j2 Hm G2 ps2 a2 b2)/\VC P (fF P nt true b) F2 (H2.put q (some (.loop .busy j2 Hm G2 ps2 a2 b2))) n2 [] λ j3 _ H3 n3 _=>PY q (λ v H' n'=>fy P r (pd.f v F) H' n' m Q) j3 H3 n3):Io q vs pd r P F H n m Q:=by
 refine⟨st,j,nt,F0,ps,a,b,F1,hq,hp,λ cb=>?_⟩;refine λ φ D ac w D4 hf QQ hQ=>gR (r:=some cb) a F1 H n [] _ ha φ D ac w D4 hf QQ λ o F' H' n' m' φ' D' a' w' px h e s pp=>hQ o F' H' n' m' φ' D' a' w' px ?_ e s pp;obtain⟨h1,h2,j2,Hm,G2,ps2,a2,b2,h3,h4⟩:=h;exact⟨h1,h2,j2,Hm,G2,ps2,a2,b2,h3,GH.of h4⟩
@[simp] theorem agE {q:Nat}{m:List Dm}{H:Hp}(h:H.get q=some .mR):eW (.qw q::m) H=eW m (H.put q none):=by
 simp only[eW,h]
def Ed:Code->List (Code×Code)
 |.seq a b=>Ed a++Ed b
 |.cond _ a b=>Ed a++Ed b
 |.block _ b=>Ed b
 |.loop b=>Ed b
 |.scope b=>Ed b
 |.rangeFunc _ _ a b=>[(a,b)]
 |_=>[]
def aly (P:Program) (g k:Nat):Code×Code:=match P.funcs[g]? with
 |some fn=>match fn.body with
  |some b=>(Ed b).getD k (.skip,.skip)
  |none=>(.skip,.skip)
 |none=>(.skip,.skip)
theorem au.of {f:FuncId}{vs:List AV}{pd:Pd}{r:List (Option GO)}{R:AV->Hp->Nat->Prop}(h:ar P f vs H n R)(k:∀v H' n',R v H' n'->fy P r (pd.f v F) H' n' m Q):au f vs pd r P F H n m Q:=h.mono k
theorem au.pure {f:FuncId}{vs:List AV}{pd:Pd}{r:List (Option GO)}{v:AV}(h:ah P f vs v)(k:fy P r (pd.f v F) H n m Q):au f vs pd r P F H n m Q:=(h.hU H n).mono λ u K k' ⟨a,b,c⟩=>by subst a b c;exact k
theorem au.lD {f:FuncId}{vs vs':List AV}{pd:Pd}{r:List (Option GO)}{v:AV}(h:ah P f vs' v)(hf:Flat v)(hz:cM H.get vs vs')(k:fy P r (pd.f v F) H n m Q):au f vs pd r P F H n m Q:=(h.aoe hf n hz).mono λ u K k' ⟨a,b,c⟩=>by subst a b c;exact k
theorem aG.of {b:CT}(I:Nat->Fr->Hp->Nat->List Dm->Prop)(k:Nat)(h0:I k F H n m)(hs:∀k F H n m,I k F H n m->VC P b F H n m (BQ I k Q)):aG b P F H n m Q:=⟨I,I,k,h0,λ _ _ _ _ _ h=>Zs.refl h,hs⟩
theorem aG.ofZ {b:CT}(I:Nat->Fr->Hp->Nat->List Dm->Prop)(k:Nat)(h0:Zs I k F H n m)(hs:∀k F H n m,I k F H n m->VC P b F H n m (BQ (Zs I) k Q)):aG b P F H n m Q:=⟨I,Zs I,k,h0,λ _ _ _ _ _ h=>h,hs⟩
theorem bD.of {ds:List Nat}{l:List (Option RO)}{ce:Ce}(hce:iQ P ce)(h:Ev ((PH ds (iF l)).f ce F H n m) Q):bD ds l P F H n m Q:=⟨ce,_,F,H,hce,jm.refl F H,h⟩
theorem Au.ofB {c:Bool}{a b:CT}(h1:c=true->VC P a F H n m Q)(h2:c=false->VC P b F H n m Q):Au (some (.bool c)) a b P F H n m Q:=by
 cases c
 ·exact h2 rfl
 exact h1 rfl
theorem bh:iQ P (r6 λ _ _ _ _=>.fail):=BK λ _ _ _ _ _ _ _ h=>by cases h
theorem eY {g:FuncId}{c:CF}{args:List AV}{v:AV}(hc:PI P g=some c)(hp:aT args)(hv:Pure v)(hl:args.length<=c.nt)
  (h:∀F:Fr,(∀i,F.get i=args[i]?)->VC P c.code F .nil 0 [] (fQ c.res λ v1 H' _=>fW H'.get v1 v)):ah P g args v:=ah.ofR hp hv (ar.of hc hl h)
def asP (r:kC):Option AV:=match r with
 |.mk v _ _=>some v
 |_=>none
theorem ah.aoF {g:FuncId}{args:List AV}{v:AV}(k:Nat)(hp:aT args)(hv:Pure v)(h:asP ((Go.Abs.run P (k+1)).call g args .nil 0)=some v):ah P g args v:=by
 refine ah.of (QD (P:=P) k) hp ?_;have e:oC P (Go.Abs.run P k) g args .nil 0=(Go.Abs.run P (k+1)).call g args .nil 0:=rfl
 cases hr:oC P (Go.Abs.run P k) g args .nil 0 with
 |fail=>rw[<-e,hr]at h;cases h
 |rG v1 H' n'=>rw[<-e,hr]at h;cases h
 |mk v1 H' n'=>rw[<-e,hr]at h;injection h with h;subst h;exact⟨_,_,_,rfl,.pure _ hv⟩
mutual
theorem VR.back {φ φ':Ph}{D D':Da}(hφ:∀b x,φ b=some x->φ' b=some x):∀ {v x x'},VR φ D v x->VR φ' D' v x'->VR φ D' v x'
 |_,_,_,.int _ _,.int _ _=>.int _ _
 |_,_,_,.bool _,.bool _=>.bool _
 |_,_,_,.str _ _ _,.str _ _ e=>.str _ _ e
 |_,_,_,.ptr _ _ _ _ _ h,.ptr _ _ _ _ _ k=>by rw[hφ _ _ h]at k;injection k with k;injection k with a b;injection b with b c;subst a b c;exact .ptr _ _ _ _ _ h
 |_,_,_,.sl _ _ _ _ _ _ _ _ _ h _ _,.sl _ _ _ _ _ _ _ _ _ k p q=>by rw[hφ _ _ h]at k;injection k with k;injection k with a b;injection b with b c;subst a b c;exact .sl _ _ _ _ _ _ _ _ _ h p q
 |_,_,_,.agg _ _ _ h _,.agg _ _ _ k e=>.agg _ _ _ (cw.back hφ h k) e
 |_,_,_,.aW _ _ h,.aW _ _ k=>.aW _ _ (cw.back hφ h k)
 |_,_,_,.fO _ _ _ h,.fO _ _ _ k=>.fO _ _ _ (VR.back hφ h k)
 |_,_,_,.fn _ _ _ _ _ h1 h2,.fn _ _ _ _ _ k1 k2=>.fn _ _ _ _ _ (cw.back hφ h1 k1) (cw.back hφ h2 k2)
 |_,_,_,.map _ _ _ _ h,.map _ _ _ _ k=>by rw[hφ _ _ h]at k;injection k with k;injection k with a b;injection b with b c;subst a b c;exact .map _ _ _ _ h
 |_,_,_,.ds _ _ _ _ _ _ _ _ _ _ _ h _,.ds _ _ _ _ _ _ _ _ a b c k e=>.ds _ _ _ _ _ _ _ _ a b c (cw.back hφ h k) e
 |_,_,_,.ds _ _ _ _ _ _ _ _ _ _ _ _ _,.rT _ _ _=>.rT _ _ _
 |_,_,_,.ds _ _ _ _ _ _ _ _ _ _ _ _ _,.uv _=>.uv _
 |_,_,_,.rT _ _ _,.ds _ _ _ _ _ _ _ _ a b c k e=>.ds _ _ _ _ _ _ _ _ a b c (by cases k;exact .nil) e
 |_,_,_,.rT _ _ _,.rT _ _ _=>.rT _ _ _
 |_,_,_,.rT _ _ _,.uv _=>.uv _
 |_,_,_,.uv _,.ds _ _ _ _ _ _ _ _ a b c k e=>.ds _ _ _ _ _ _ _ _ a b c (by cases k;exact .nil) e
 |_,_,_,.uv _,.rT _ _ _=>.rT _ _ _
 |_,_,_,.uv _,.uv _=>.uv _
 |_,_,_,.dp _ _ _ _ _ _ _ h,.dp _ _ _ _ _ a b k=>.dp _ _ _ _ _ a b (cw.back hφ h k)
 |_,_,_,.j9 _ _ _ _ h,.j9 _ _ _ _ k=>by rw[hφ _ _ h]at k;injection k with k;injection k with a b;injection b with b c;subst a b c;exact .j9 _ _ _ _ h
 |_,_,_,.aI _ _,.aI _ e=>.aI _ e
theorem cw.back {φ φ':Ph}{D D':Da}(hφ:∀b x,φ b=some x->φ' b=some x):∀ {v x x'},cw φ D v x->cw φ' D' v x'->cw φ D' v x'
 |_,_,_,.nil,.nil=>.nil
 |_,_,_,.cons _ _ _ _ h1 h2,.cons _ _ _ _ k1 k2=>.cons _ _ _ _ (VR.back hφ h1 k1) (cw.back hφ h2 k2)
end
theorem vA.back {φ φ':Ph}{D D':Da}(hφ:∀b x,φ b=some x->φ' b=some x):∀ {v x x'},vA φ D v x->vA φ' D' v x'->vA φ D' v x'
 |_,_,_,.nil,.nil=>.nil
 |_,_,_,.cons _ _ _ _ _ _ _ a b c,.cons _ _ _ _ _ _ _ a' b' c'=>.cons _ _ _ _ _ _ _ (a.back hφ a') (b.back hφ b') (vA.back hφ c c')
theorem FR.back {φ φ':Ph}{D D':Da}(hφ:∀b x,φ b=some x->φ' b=some x){F:Ff}{t t':Array Value}(h:FR φ D F t)(k:FR φ' D' F t'):FR φ D' F t':=by
 refine⟨λ s v hv=>?_,k.2⟩;obtain⟨x,_,h2⟩:=h.1 s v hv;obtain⟨y,k1,k2⟩:=k.1 s v hv;exact⟨y,k1,h2.back hφ k2⟩
theorem jq.back {φ φ':Ph}{D D':Da}{w w':World} {p}(hφ:∀b x,φ b=some x->φ' b=some x){k:bz}(h:jq φ D w p k)(k':jq φ' D' w' p k):jq φ D' w' p k:=by
 cases k with
 |cells u z bs t =>
  obtain⟨c,e,fr,h1,h2,h3,h4,h5⟩:=h;obtain⟨c',e',fr',k1,k2,k3,k4,k5⟩:=k';exact⟨c',e',fr',k1,k2,k3,λ i v hv=>let ⟨x,_,a⟩:=h4 i v hv;let ⟨y,b,b'⟩:=k4 i v hv;⟨y,b,a.back hφ b'⟩,k5⟩
 |map es clk=>obtain⟨c,h1,h2⟩:=h;obtain⟨c',k1,k2⟩:=k';exact⟨c',k1,h2.back hφ k2⟩
 |loop st j nt F ps a b =>
  obtain⟨r,h1,h2,h3,h4,h5,h6⟩:=h;obtain⟨r',k1,k2,k3,k4,k5,k6⟩:=k';exact⟨r',k1,k2,k3,k4,h5.back hφ k5,k6⟩
 |mR=>exact k'
 |iter m s l c =>
  obtain⟨h0,cm,h1,h2⟩:=h;obtain⟨_,cm',k1,k2⟩:=k';refine⟨h0,cm',k1,?_⟩
  cases m with
  |none=>exact k2
  |some b =>
   obtain⟨cb,co,cz,h3,_⟩:=h2;obtain⟨cb',co',cz',k3,k4⟩:=k2;have:=hφ _ _ h3;rw[this]at k3;injection k3 with k3;injection k3 with e1 e2;exact⟨cb,co,cz,h3,by rw[k4,e1]⟩
theorem ar.forget {g:FuncId}{args:List AV}{v0:AV}(hv:Flat v0)(h:ar P g args H n (λ v H' _=>v=v0/\∀b,H.get b≠none->H'.get b=H.get b)):ar P g args H n (λ u K k=>u=v0/\K=H/\k=n):=by
 refine⟨h.1,λ φ D w xs hr hvs hf RR hR=>h.2 φ D w xs hr hvs hf RR λ v H' n' φ' D' w' x ⟨hz,hk⟩ e r hx=>?_⟩;subst hz;refine hR v H n φ D' w' x ⟨rfl,rfl,rfl⟩ ⟨aM _,λ _ _ h=>h,λ _ a b=>aj a b,e.eQ,e.size,e.keep,λ b p hb hp=>.inr ⟨b,p,hb,hp,rfl⟩,e.lj,λ _ h=>.inl h,e.os,e.out⟩ ?_ (hv.out hx);refine⟨λ b k hb=>?_,hr.inj,λ b p hb hp=>?_,r.eQ⟩
 ·obtain⟨p,hp,hl,hb1⟩:=hr.blk b k hb;have hb':H'.get b=some k:=by rw[hk b (by rw[hb];simp),hb]
  have:=(r.block hb' (e.phi _ _ hp)).2;exact⟨p,hp,Nat.lt_of_lt_of_le hl e.size,hb1.back e.phi this⟩
 exact r.sep b p (by rw[hk b hb];exact hb) (e.phi _ _ hp)
theorem au.same {f:FuncId}{vs:List AV}{pd:Pd}{r:List (Option GO)}{v:AV}(h:ar P f vs H n (λ u K k=>u=v/\K=H/\k=n))(k:fy P r (pd.f v F) H n m Q):au f vs pd r P F H n m Q:=h.mono λ u K k' ⟨a,b,c⟩=>by subst a b c;exact k
end
end Go.Abs
namespace Go.Abs
open List
section
variable {P:Program}
theorem DR.mono {r:bg}{H:Hp}{n:Nat}{k k':AV->Hp->Nat->Prop}(h:DR r H n k)(hk:∀v H n,k v H n->k' v H n):DR r H n k':=by
 cases r<;>first|exact h|exact hk _ _ _ h
theorem gd.mono {v:Option AV}{b:Bool}{p q p' q':Prop}(h:gd v b p q)(hp:p->p')(hq:q->q'):gd v b p' q':=by
 unfold gd at h ⊢
 split at h
 ·rename_i c
  cases hc:(c == b)with
  |true=>rw[hc]at h;exact hp h
  |false=>rw[hc]at h;exact hq h
 ·exact hq h
 exact h
theorem o6.mono {v:Option AV}{p q p' q':Prop}(h:o6 v p q)(hp:p->p')(hq:q->q'):o6 v p' q':=by
 unfold o6 at h ⊢
 split at h
 ·exact hp h
 ·exact hq h
 exact h
theorem Ev.mono {r:LZ}{Q Q':QA}(h:Ev r Q)(hq:∀o F H n m,Q o F H n m->Q' o F H n m):Ev r Q':=by
 unfold Ev at h ⊢
 split at h
 ·exact h
 ·exact hq _ _ _ _ _ h
 exact h
theorem GH.mono {nt:Nat}{c:Code}{F:Fr}{H:Hp}{n:Nat}{Q Q':QA}(h:GH P nt c F H n Q)(hq:∀o F H n m,Q o F H n m->Q' o F H n m):GH P nt c F H n Q':=
 λ cb φ D a w st hf QQ hQ=>h cb φ D a w st hf QQ λ o F' H' n' m' φ' D' a' w' px q=>hQ o F' H' n' m' φ' D' a' w' px (hq _ _ _ _ _ q)
theorem yN.mono {q:Nat}{vs:List AV}{H:Hp}{n:Nat}{R S:AV->Hp->Nat->Prop}(h:yN P q vs H n R)(hs:∀v H' n',R v H' n'->S v H' n'):yN P q vs H n S:=by
 obtain⟨st,j,nt,F0,ps,a,b,F1,h1,h2,h3⟩:=h;refine⟨st,j,nt,F0,ps,a,b,F1,h1,h2,h3.mono ?_⟩;rintro o F2 H2 n2 m2 ⟨rfl,rfl,j2,Hm,G2,ps2,a2,b2,h4,h5⟩;refine⟨rfl,rfl,j2,Hm,G2,ps2,a2,b2,h4,h5.mono ?_⟩;rintro j3 _ H3 n3 _ ⟨st,nt,G,ps,a,b,j0,h6,h7⟩;refine⟨st,nt,G,ps,a,b,j0,h6,?_⟩
 cases j3<;>first|exact hs _ _ _ h7|exact h7
theorem Ae {x:Option AV}{as:Option (List AV)}{H:Hp}{n:Nat}{R S:AV->Hp->Nat->Prop}(hs:∀v H' n',R v H' n'->S v H' n')
  (h:(∃f first cap vs,x=some (.fn (.func f) first cap)/\as=some vs/\ar P f (first++(vs++cap)) H n R)∨(∃q vs,x=some (.j9 q)/\as=some vs/\yN P q vs H n R)):
  (∃f first cap vs,x=some (.fn (.func f) first cap)/\as=some vs/\ar P f (first++(vs++cap)) H n S)∨(∃q vs,x=some (.j9 q)/\as=some vs/\yN P q vs H n S):=by
 rcases h with⟨f,first,cap,vs,a,b,c⟩|⟨q,vs,a,b,c⟩
 ·exact .inl ⟨f,first,cap,vs,a,b,c.mono hs⟩
 exact .inr ⟨q,vs,a,b,c.mono hs⟩
theorem fy.mono:∀(l:List (Option GO))(F:Fr)(H:Hp)(n:Nat)(m:List Dm)(Q Q':QA),(∀o F H n m,Q o F H n m->Q' o F H n m)->fy P l F H n m Q->fy P l F H n m Q'
 |[],_F,_H,_n,_m,_Q,_Q',hq,h=>hq _ _ _ _ _ h
 |none::_,_,_,_,_,_,_,_,h=>h
 |some ⟨none,_pd,.eff _e⟩::r,_F,_H,_n,_m,_Q,_Q',hq,h=>DR.mono h λ _v _H' _n'=>fy.mono r _ _ _ _ _ _ hq
 |some ⟨none,_pd,.call _g _as⟩::r,_F,_H,_n,_m,_Q,_Q',hq,h=>Ae (λ _v _H' _n'=>fy.mono r _ _ _ _ _ _ hq) h
 |some ⟨none,_,.bad⟩::_,_,_,_,_,_,_,_,h=>h
 |some ⟨none,_,.jH _⟩::_,_,_,_,_,_,_,_,h=>h
 |some ⟨none,_,.raw _⟩::_,_,_,_,_,_,_,_,h=>h
 |some ⟨some (_g,_b),_pd,.eff _e⟩::r,_F,_H,_n,_m,_Q,_Q',hq,h=>gd.mono h (λ h=>DR.mono h λ _v _H' _n'=>fy.mono r _ _ _ _ _ _ hq) (fy.mono r _ _ _ _ _ _ hq)
 |some ⟨some (_g,_b),_pd,.call _ _as⟩::r,_F,_H,_n,_m,_Q,_Q',hq,h=>gd.mono h (λ h=>Ae (λ _v _H' _n'=>fy.mono r _ _ _ _ _ _ hq) h) (fy.mono r _ _ _ _ _ _ hq)
 |some ⟨some (_g,_b),_pd,.bad⟩::r,_F,_H,_n,_m,_Q,_Q',hq,h=>gd.mono h id (fy.mono r _ _ _ _ _ _ hq)
 |some ⟨some (_g,_b),_pd,.jH _⟩::r,_F,_H,_n,_m,_Q,_Q',hq,h=>gd.mono h id (fy.mono r _ _ _ _ _ _ hq)
 |some ⟨some (_g,_b),_pd,.raw _⟩::r,_F,_H,_n,_m,_Q,_Q',hq,h=>gd.mono h id (fy.mono r _ _ _ _ _ _ hq)
theorem VC.mono:∀(c:CT)(F:Fr)(H:Hp)(n:Nat)(m:List Dm)(Q Q':QA),(∀o F H n m,Q o F H n m->Q' o F H n m)->VC P c F H n m Q->VC P c F H n m Q'
 |.eC l,F,H,n,m,Q,Q',hq,h=>fy.mono l F H n m Q Q' hq h
 |.eM ds l,F,H,n,m,Q,Q',hq,⟨ce,h,F2,H2,a,s,b⟩=>⟨ce,h,F2,H2,a,s,b.mono hq⟩
 |.seq a b,F,H,n,m,Q,Q',hq,h=>VC.mono a F H n m _ _ (λ o F' H' n' m' h'=>match o,h' with
  |.normal,h'=>VC.mono b F' H' n' m' _ _ hq h'
  |.exit i,h'=>hq _ _ _ _ _ h'
  |.ret,h'=>hq _ _ _ _ _ h'
  |.panic _,h'=>h') h
 |.cond g a b,F,H,n,m,Q,Q',hq,h=>o6.mono h (VC.mono a _ _ _ _ _ _ hq) (VC.mono b _ _ _ _ _ _ hq)
 |.block i b,F,H,n,m,Q,Q',hq,h=>VC.mono b F H n m _ _ (λ o F' H' n' m' h'=>match o,h' with
  |.normal,h'=>hq _ _ _ _ _ h'
  |.exit j,h'=>by
   unfold jN at h' ⊢;dsimp only at h' ⊢
   split at h'
   ·rename_i e;rw[ak e];exact hq _ _ _ _ _ h'
   rename_i e;rw[ae e];exact hq _ _ _ _ _ h'
  |.ret,h'=>hq _ _ _ _ _ h'
  |.panic _,h'=>h') h
 |.loop b,F,H,n,m,Q,Q',hq,⟨I,J,k,h0,hj,hs⟩=>⟨I,J,k,h0,hj,λ k F H n m hi=>VC.mono b F H n m _ _ (λ o F' H' n' m' h'=>match o,h' with
  |.normal,h'=>h'
  |.exit i,h'=>hq _ _ _ _ _ h'
  |.ret,h'=>hq _ _ _ _ _ h'
  |.panic _,h'=>h') (hs k F H n m hi)⟩
 |.exit i,F,H,n,m,Q,Q',hq,h=>hq _ _ _ _ _ h
 |.ret,F,H,n,m,Q,Q',hq,h=>hq _ _ _ _ _ h
 |.skip,F,H,n,m,Q,Q',hq,h=>hq _ _ _ _ _ h
 |.range nt g ps a b,F,H,n,m,Q,Q',hq,⟨f,first,cap,h1,h2⟩=>⟨f,first,cap,h1,h2.mono λ v H' n' ⟨st,j,nt,G,ps,a,b,e1,e2,e3,e4⟩=>⟨st,j,nt,G,ps,a,b,e1,e2,e3,hq _ _ _ _ _ e4⟩⟩
 |.bad,_,_,_,_,_,_,_,h=>h
 |.raw k,F,H,n,m,Q,Q',hq,⟨ce,a,b⟩=>⟨ce,a,b.mono hq⟩
def jy (P:Program) (b:CT) (Q:QA):Nat->Fr->Hp->Nat->List Dm->Prop
 |0,_,_,_,_=>False
 |k+1,F,H,n,m=>VC P b F H n m λ o F' H' n' m'=>match o with
  |.normal=>jy P b Q k F' H' n' m'
  |.exit i=>Q (.exit i) F' H' n' m'
  |.ret=>Q .ret F' H' n' m'
  |.panic _=>False
def acB (P:Program)(b:CT)(Q:QA)(k:Nat):QA:=λ o F' H' n' m'=>match o with
 |.normal=>jy P b Q k F' H' n' m'
 |.exit i=>Q (.exit i) F' H' n' m'
 |.ret=>Q .ret F' H' n' m'
 |.panic _=>False
variable {F:Fr}{H:Hp}{n:Nat}{m:List Dm}{Q:QA}
@[simp] theorem ac8 (b:CT)(k:Nat):acB P b Q k .normal F H n m=jy P b Q k F H n m:=propext Iff.rfl
@[simp] theorem aj9 (b:CT)(k i:Nat):acB P b Q k (.exit i) F H n m=Q (.exit i) F H n m:=propext Iff.rfl
@[simp] theorem alz (b:CT)(k:Nat):acB P b Q k .ret F H n m=Q .ret F H n m:=propext Iff.rfl
theorem jy.step {b:CT}{k:Nat}(h:VC P b F H n m (acB P b Q k)):jy P b Q (k+1) F H n m:=h
theorem aG.ofU {b:CT}(k:Nat)(h:jy P b Q (k+1) F H n m):aG b P F H n m Q:=
 ⟨λ k F H n m=>jy P b Q k F H n m,λ k F H n m=>jy P b Q k F H n m,k+1,h,λ _ _ _ _ _ h=>Zs.refl h,λ k F H n m hi=>by
  cases k with
  |zero=>exact hi.elim
  |succ k =>
   refine VC.mono b F H n m _ _ (λ o F' H' n' m' h'=>?_) hi
   cases o with
   |normal=>exact⟨k,Nat.lt_succ_self k,h'⟩
   |exit i=>exact h'
   |ret=>exact h'
   |panic v=>exact h'⟩
end
end Go.Abs
namespace Go.Abs
open List
def OwnB (k:bz)(l:List AV):Prop:=∃u z bs t,k=.cells u z bs t/\u=l.length/\(∀i,gZ u z bs t i=l[i]?)/\(t=.nil->z=[]->bs.length=u)
theorem OwnB.list {l:List AV}{u:Nat}(h:u=l.length):OwnB (.cells u [] l .nil) l:=⟨u,[],l,.nil,rfl,h,λ i=>by
 rw[mP]
 split
 ·rfl
 rw[getElem?_eq_none (by omega)],λ _ _=>h.symm⟩
theorem pF {u:Nat}{z bs:List AV}{t:Ov AV}{l:List AV}(hg:∀i,gZ u z bs t i=l[i]?)(o:Nat):∀(k:Nat)(acc:List AV),o+k<=l.length->uf u z bs t o k acc=some ((l.drop o).take k++acc)
 |0,acc,_=>by simp;rfl
 |k+1,acc,h=>by
  show lH (gZ u z bs t (o+k)) none (λ v=>uf u z bs t o k (v::acc))=_;rw[hg,dU (by omega)];simp only[OU];rw[pF hg o k _ (by omega),take_add_one,append_assoc]
  congr 1
  simp[js,dU (show o+k<l.length by omega)]
theorem OwnB.ju {k:bz}{l:List AV}(h:OwnB k l){o c:Nat}(hc:o+c<=l.length):∃u z bs t,k=.cells u z bs t/\Go.Abs.ju u z bs t o c=some ((l.drop o).take c):=by
 obtain⟨u,z,bs,t,rfl,hu,hg,hi⟩:=h;refine⟨u,z,bs,t,rfl,?_⟩
 have ex:∃r,Go.Abs.ju u z bs t o c=some r:=by
  have hb:Nat.ble (Nat.add o c) u=true:=rD (by rw[hu];exact hc)
  have orr:∀r,∃l',orR r u z bs t o c=some l':=by
   intro r;unfold orR
   split
   ·exact⟨_,rfl⟩
   exact⟨_,pF hg o c [] hc⟩
  unfold Go.Abs.ju
  split
  ·split
   ·split
    ·exact⟨_,rfl⟩
    rw[hb];exact orr _
   split
   ·rw[hb];exact⟨_,rfl⟩
   exact⟨_,pF hg o c [] hc⟩
  ·rw[hb];exact orr _
  rw[hb];dsimp only
  split
  ·split
   ·exact orr _
   exact orr _
  exact⟨_,pF hg o c [] hc⟩
 obtain⟨r,hr⟩:=ex;rw[hr];obtain⟨h1,h2⟩:=jG hi hr
 congr 1
 apply ext_getElem?;intro i
 by_cases hlt:i<c
 ·rw[<-h2 i hlt,hg,getElem?_take,ak hlt,js]
 rw[getElem?_eq_none (by omega),getElem?_eq_none (by simp;omega)]
def aC (H:Hp)(n:Nat)(v:AV)(l:List AV)(len sz:Nat):Prop:=l.length=len*sz/\((v=.aI (.slice none 0 0)/\len=0)∨∃b k,v=.sl b 0 len sz/\b<n/\H.get b=some k/\OwnB k l)
section
variable {P:Program}{F:Fr}{H:Hp}{n:Nat}{m:List Dm}{Q:QA}
theorem aC.nil (H:Hp)(n sz:Nat):aC H n (.aI (.slice none 0 0)) [] 0 sz:=⟨by simp,.inl ⟨rfl,rfl⟩⟩
theorem aC.lD {v:AV}{l l':List AV}{len sz:Nat}(h:aC H n v l len sz)(hl:cM H.get l l')(hz:0<sz:=by omega):fW H.get v (.ds l' len sz):=by
 obtain⟨s',rfl⟩:∃k,sz=k+1:=⟨sz - 1,by omega⟩;obtain⟨h0,⟨rfl,rfl⟩|⟨b,k,rfl,hb,hk,ho⟩⟩:=h
 ·have:l=[]:=by simpa using h0
  subst this;cases hl;exact .nil _
 obtain⟨u,z,bs,t,rfl,hg⟩:=ho.ju (o:=0) (c:=len*(s'+1)) (by omega);refine .sl _ _ _ _ _ _ _ _ _ _ hk hg ?_;rw[drop_zero,eS (by omega)];exact hl
theorem cM.pure {h:Hf}{l:List AV}(hl:aT l):cM h l l:=by
 induction l with
 |nil=>exact .nil
 |cons v r ih=>simp only[qB]at hl;exact .cons _ _ _ _ (.pure _ hl.1) (ih hl.2)
theorem aC.fP {v x:AV}{l new:List AV}{len sz eT k:Nat}(h:aC H n v l len sz) (hx:aS H sz x=some new) (hk:sliceLen x=some k) (hn:new.length=k*sz)
  (hs:0<sz)(hk0:0<k)(hbig:len+k<=big)(hby:eT<=4096)(h1:aX new=true):
  ∃H',(∀K:AV->Hp->Nat->Prop,DR (Go.Abs.fP sz eT n v x H) H n K=K (.sl n 0 (len+k) sz) H' (n+1))/\aC H' (n+1) (.sl n 0 (len+k) sz) (l++new) (len+k) sz/\∀c,c≠n->v≠.sl c 0 len sz->H'.get c=H.get c:=by
 unfold Go.Abs.fP;rw[hx,hk];dsimp only;obtain⟨h0,⟨rfl,rfl⟩|⟨b,kb,rfl,hb,hkb,u,z,bs,t,rfl,hu,hg,hi⟩⟩:=h
 ·have hl:l=[]:=by simpa using h0
  subst hl
  have e:nP sz eT n k new H (.aI (.slice none 0 0))=.new (.sl n 0 k sz) (.cells (k*sz) [] new .nil):=by
   unfold nP;simp only[lP,u5,rK,show ¬k=0 by omega,hs,show k<=big by omega,hby,h1,decide_true,decide_false,Bool.and_self]
  rw[e];refine⟨_,λ K=>(by rw[gz];rfl),⟨by simp[hn],.inr ⟨n,.cells (k*sz) [] new .nil,by simp,by omega,by simp,?_⟩⟩,λ c hc _=>?_⟩
  ·simpa using OwnB.list (l:=new) hn.symm
  simp[show ¬c=n by omega]
 have e:nP sz eT n k new H (.sl b 0 len sz)=.mv (.sl n 0 (len+k) sz) b (.cells ((len+k)*sz) z bs (Ov.bW new (len*sz) t)):=by
  unfold nP LR;simp only[lP,u5,rK,show ¬k=0 by omega,hs,hbig,hby,h1,decide_true,decide_false,Bool.and_self,hkb,hu,h0,aM,cX]
 rw[e];have hm:(len+k)*sz=len*sz+k*sz:=Nat.add_mul _ _ _;refine⟨_,λ K=>rfl,⟨by simp[hn,h0,hm],.inr ⟨n,.cells ((len+k)*sz) z bs (Ov.bW new (len*sz) t),rfl,by omega,by simp,_,z,bs,_,rfl,by simp[hn,h0,hm],λ i=>?_,λ ht=>?_⟩⟩,λ c hc hne=>?_⟩
 ·rw[cQ,Ov.bR]
  by_cases hlt:i<(len+k)*sz
  ·rw[ak hlt]
   by_cases eZ:len*sz<=i/\i<len*sz+new.length
   ·rw[ak eZ,getElem?_append_right (by omega),h0];rw[dU (by omega)]
   rw[ae eZ,getElem?_append_left (by omega)];have:=hg i;rw[cQ,ak (by omega)]at this;exact this
  rw[ae hlt,getElem?_eq_none (by simp[h0,hn];omega)]
 ·exfalso
  cases new with
  |nil=>simp at hn;have:0<k*sz:=Nat.mul_pos hk0 hs;omega
  |cons v r =>
   have:=Ov.bR (v::r) (len*sz) t (len*sz);rw[ht,ak (by simp)]at this;simp at this
 have:c≠b:=λ e=>hne (by rw[e]);simp[show ¬c=n by omega,this]
theorem aC.app {v x:AV}{l new:List AV}{len sz eT k:Nat}{pd:Pd}{r:List (Option GO)}(h:aC H n v l len sz)(hx:aS H sz x=some new)(hk:sliceLen x=some k)(hn:new.length=k*sz)
  (hs:0<sz)(hk0:0<k)(hbig:len+k<=big)(hby:eT<=4096)(h1:aX new=true)
  (hgo:∀H',aC H' (n+1) (.sl n 0 (len+k) sz) (l++new) (len+k) sz->(∀c,c<n->v≠.sl c 0 len sz->H'.get c=H.get c)->fy P r (pd.f (.sl n 0 (len+k) sz) F) H' (n+1) m Q):Dt (Go.Abs.fP sz eT n v x H) pd r P F H n m Q:=by
 obtain⟨H',e,h1,h2⟩:=h.fP hx hk hn hs hk0 hbig hby h1;unfold Dt;rw[e];exact hgo H' h1 λ c hc=>h2 c (Nat.ne_of_lt hc)
theorem aC.atq {ce:Ce}{Hs:List Hp}{v x:AV}{l new:List AV}{len sz eT k:Nat}{pd:Pd}{r:List (Option RO)}(h:aC H n v l len sz)(hx:aS H sz x=some new)(hk:sliceLen x=some k)(hn:new.length=k*sz)
  (hs:0<sz)(hk0:0<k)(hbig:len+k<=big)(hby:eT<=4096)(h1:aX new=true)
  (hgo:∀H',aC H' (n+1) (.sl n 0 (len+k) sz) (l++new) (len+k) sz->(∀c,c<n->v≠.sl c 0 len sz->H'.get c=H.get c)->Ev ((iF r).f ce (pd.f (.sl n 0 (len+k) sz) F) H' (H'::Hs) (n+1) m) Q):Og (Go.Abs.fP sz eT n v x H) pd r ce F H Hs n m Q:=by
 obtain⟨H',e,h1,h2⟩:=h.fP hx hk hn hs hk0 hbig hby h1;unfold Og;rw[e];exact hgo H' h1 λ c hc=>h2 c (Nat.ne_of_lt hc)
def yx (P:Program)(g:FuncId)(args l:List AV)(len sz:Nat):Prop:=∀(H:Hp)(n:Nat),bO P g args H n (.sl n 0 len sz) (H.put n (some (.cells (len*sz) [] l .nil))) (n+1)
theorem yx.of {g:FuncId}{args l:List AV}{len sz:Nat}(hp:aT args) (hl:aT l) (h0:0<len) (h:ar P g args .nil 0 (λ v H' n'=>aC H' n' v l len sz)):yx P g args l len sz:=by
 intro H n;refine⟨h.1,Nat.le_succ n,λ φ D w xs hr hv hf R hR=>?_⟩;refine h.2 nR D w xs (vY hr.eQ) (hp.uW hv) (λ _ _=>rfl) R λ v H' n' φ' D' w' x ho e r hx=>?_;obtain⟨hlen,⟨_,hz⟩|⟨b,k,rfl,hb,hk,ho⟩⟩:=ho
 ·omega
 cases hx with
 |sl _ _ _ _ cb co cz cap ad hp' hle had =>
 have hn:φ n=none:=hf n (aM _) (by omega);have hm:=Ph.iT (p:=(cb,co,cz)) hn;have hlive:=r.block hk hp'
 have hcb:w.heap.size<=cb:=by
  rcases e.live b _ (by rw[hk];simp) hp' with h|⟨b0,p0,hh,_⟩
  ·exact h
  simp at hh
 have hdn:∀c,D' c≠none->D c≠none∨w.heap.size<=c:=by
  intro c hc
  rcases e.lj c hc with h|h|⟨b0,p0,hh,_⟩
  ·exact .inl h
  ·exact .inr h
  simp at hh
 have hold:∀c p,H.get c≠none->φ c=some p->p.1<w.heap.size:=by
  intro c p hc hp
  cases hx:H.get c with
  |none=>exact aj hx hc
  |some k=>exact(hr.block hx hp).1
 have hhn:H.get n=none:=by
  cases hx:H.get n with
  |none=>rfl
  |some k=>obtain⟨p,hp,_⟩:=hr.blk n k hx;rw[hn]at hp;cases hp
 refine hR (φ.set n (cb,co,cz)) D' w' _ ⟨Nat.le_succ n,hm,?_,e.eQ,e.size,λ c hc _=>e.keep c hc λ b p hb=>by simp at hb,?_,λ c hc=>(hdn c hc).elim .inl λ h=>.inr (.inl h),?_,e.os,e.out⟩ ⟨?_,?_,?_,r.eQ⟩ ?_
 ·intro c h0 h1;unfold Ph.set at h1
  by_cases hc:c=n
  ·omega
  simp[hc,h0]at h1
 ·intro c p hc hp;rw[Tr.get_put]at hc;unfold Ph.set at hp
  by_cases hcn:c=n
  ·subst hcn;simp at hp;subst hp;exact .inl hcb
  simp[hcn]at hc hp;exact .inr ⟨c,p,hc,hp,rfl⟩
 ·intro c hc;rw[Tr.get_put]at hc
  by_cases hcn:c=n
  ·exact .inr (by omega)
  simp[hcn]at hc;exact .inl hc
 ·intro c kk hc;rw[Tr.get_put]at hc
  by_cases hcn:c=n
  ·subst hcn;simp at hc;subst hc;refine⟨(cb,co,cz),by simp[Ph.set],hlive.1,?_⟩;obtain⟨u,z,bs,t,rfl,hu,hg,hi⟩:=ho;obtain⟨cc,ee,fr,q1,q2,q3,q4,q5,q6⟩:=hlive.2;refine⟨cc,ee,fr,q1,q2,q3,λ i v hv=>?_,λ _ _=>hlen,by omega⟩;rw[mP]at hv
   split at hv
   ·have:=hg i;rw[hv]at this;obtain⟨y,hy,hvy⟩:=q4 i v this;exact⟨y,hy,(hl.mem v (mem_of_getElem? hv)).out hvy⟩
   cases hv
  rw[ae hcn]at hc;obtain⟨p,hp,hlt,hbk⟩:=hr.blk c kk hc;exact⟨p,hm _ _ hp,Nat.lt_of_lt_of_le hlt e.size,hbk.mono hm e.eQ (e.keep _ hlt λ b p hb=>by simp at hb)⟩
 ·intro c d p q hc hd hp hq hpq;rw[Tr.get_put]at hc hd;unfold Ph.set at hp hq
  by_cases h1:c=n<;>by_cases h2:d=n<;>simp[h1,h2]at hc hd hp hq ⊢
  ·have:=hold d q hd hq;rw[<-hp]at hpq;simp at hpq;omega
  ·have:=hold c p hc hp;rw[<-hq]at hpq;simp at hpq;omega
  exact hr.inj c d p q hc hd hp hq hpq
 ·intro c p hc hp;rw[Tr.get_put]at hc;unfold Ph.set at hp
  by_cases h1:c=n
  ·subst h1;simp at hp;subst hp;exact r.sep b (cb,co,cz) (by rw[hk];simp) hp'
  simp[h1]at hc hp
  cases hD:D' p.1 with
  |none=>rfl
  |some x =>
   rcases hdn p.1 (by rw[hD];simp)with h|h
   ·exact aj (hr.sep c p hc hp) h
   have:=hold c p hc hp;omega
 exact .sl _ _ _ _ cb co cz cap ad (by simp[Ph.set]) hle had
theorem au.own {f:FuncId}{vs l:List AV}{len sz:Nat}{pd:Pd}{r:List (Option GO)}(h:yx P f vs l len sz)(k:fy P r (pd.f (.sl n 0 len sz) F) (H.put n (some (.cells (len*sz) [] l .nil))) (n+1) m Q):au f vs pd r P F H n m Q:=
 (h H n).hU.mono λ u K k' ⟨a,b,c⟩=>by subst a b c;exact k
open Classical in
def yz (l:List (FuncId×List AV×(Hp->Nat->kC))):Ce:=r6 λ g args H n=>match l.find? (λ x=>decide (x.1=g/\x.2.1=args))with
 |some x=>x.2.2 H n
 |none=>.fail
theorem cL {l:List (FuncId×List AV×(Hp->Nat->kC))}(h:∀x∈l,∀H n v H' n',x.2.2 H n=.mk v H' n'->bO P x.1 x.2.1 H n v H' n'):iQ P (yz l):=by
 refine BK λ g args H n v H' n' e=>?_
 split at e
 ·rename_i x hx;have h1:=find?_some hx;simp at h1;obtain⟨rfl,rfl⟩:=h1;exact h x (mem_of_find?_eq_some hx) H n v H' n' e
 cases e
theorem bK (g:FuncId)(args:List AV)(f:Hp->Nat->kC)(l:List (FuncId×List AV×(Hp->Nat->kC)))(H:Hp)(n:Nat):(yz ((g,args,f)::l)).call g args H n=kV (f H n):=by
 simp[yz,r6]
theorem tj {g g':FuncId}{args args':List AV}{f:Hp->Nat->kC}{l:List (FuncId×List AV×(Hp->Nat->kC))}(h:g=g'->args=args'->∀H n,(yz l).call g args H n=kV (f H n))(H:Hp)(n:Nat):(yz ((g',args',f)::l)).call g args H n=(yz l).call g args H n:=by
 by_cases e:g'=g/\args'=args
 ·obtain⟨rfl,rfl⟩:=e;rw[h rfl rfl,bK]
 simp only[yz,r6,find?_cons,e,decide_false]
theorem aQ {g:FuncId}{args:List AV}{u:AV}(h:ah P g args u):∀H n v H' n',kC.mk u H n=.mk v H' n'->bO P g args H n v H' n':=by
 intro H n v H' n' e;cases e;exact h.BL H n
end
theorem fW.bool {h:Hf}{a b:Bool}(e:a=b):fW h (.bool a) (.bool b):=by subst e;exact .pure _ (by simp)
theorem fW.eq {h:Hf}{v v':AV}(hp:Pure v')(e:v=v'):fW h v v':=by subst e;exact .pure _ hp
@[simp] theorem aad (H:Hp)(cs:List AV)(len sz:Nat):aS H sz (.ds cs len sz)=some cs:=by simp[aS]
@[simp] theorem ac0 (cs:List AV)(len sz:Nat):sliceLen (.ds cs len sz)=some len:=Eq.trans rfl rfl
@[simp] theorem acZ (b o len sz:Nat):sliceLen (.sl b o len sz)=some len:=Eq.trans rfl rfl
theorem fB {H:Hp}{b o len sz:Nat}{k:bz}{l:List AV}(hb:H.get b=some k)(ho:OwnB k l)(hl:o+len*sz<=l.length):aS H sz (.sl b o len sz)=some ((l.drop o).take (len*sz)):=by
 obtain⟨u,z,bs,t,rfl,hg⟩:=ho.ju hl;simp only[aS,lP,decide_true,cond_true,hb,hg]
end Go.Abs
namespace Go.Abs
open List
open Go.RowKit Go.ChangeShapes
def gQ (w:World):Da:=λ c=>match w.heap[c]? with
 |some (.cells x _ _)=>some x
 |_=>none
theorem Tu (w:World)(hg:GB (gQ w)):Dat (gQ w) w:=by
 refine⟨λ c x h=>?_,hg⟩;unfold gQ at h
 split at h
 ·rename_i y e fr hy;injection h with h;subst h;exact⟨e,fr,hy⟩
 cases h
inductive tR {α β:Type} (R:α->β->Prop):List α->List β->Prop
 |nil:tR R [] []
 |cons {a b l m}:R a b->tR R l m->tR R (a::l) (b::m)
theorem tR.append {α β:Type}{R:α->β->Prop} {a b c d}(h:tR R a b)(k:tR R c d):tR R (a++c) (b++d):=by
 induction h with
 |nil=>exact k
 |cons h1 _ ih=>exact .cons h1 ih
section
variable {H:Type}{enc:TypeId×Value->H}{P:Program}{w:World}{base:Nat}{spare:Nat->Bool}{held:Bool}
theorem EE {α:Type}{f:Nat->Option α}:∀ {k:Nat}{l:List α},(List.range k).mapM f=some l->l.length=k/\∀i,i<k->f i=l[i]?:=by
 intro k l h;exact⟨by simpa using mapM_some_length h,λ i hi=>mapM_some_get h i i (by simp[hi])⟩
theorem FA {cb co i s:Nat}{x:Array Value}{e:TypeId}{fr:Nat×Nat}{cs:List Value}(hx:w.heap[cb]?=some (.cells x e fr)) (h:w.cells? base ((⟨cb,co,none⟩:Addr).add i) s=some cs):cs=(x.toList.drop (co+i)).take s/\cs.length=s:=by
 unfold World.cells? at h
 split at h
 ·obtain⟨hl,hg⟩:=EE h;refine⟨?_,hl⟩;apply ext_getElem?;intro j
  by_cases hj:j<s
  ·rw[<-hg j hj,getElem?_take,ak hj,js]
   have ha:((⟨cb,co,none⟩:Addr).add i).add j=⟨cb,co+i+j,none⟩:=by
    unfold Addr.add
    by_cases h1:i=0<;>by_cases h2:j=0<;>simp[h1,h2]
   rw[ha];simp[World.cell?,hx]
  rw[getElem?_eq_none (by omega),getElem?_eq_none (by simp;omega)]
 cases h
theorem E3 {α:Type}{av:α->List AV}{s:Nat}(hav:∀a,(av a).length=s)(l:List α):(l.flatMap av).length=l.length*s:=by
 induction l with
 |nil=>simp
 |cons a r ih=>rw[flatMap_cons,length_append,ih,hav,length_cons,Nat.add_mul];omega
theorem Ha {α:Type}{av:α->List AV}{R:α->DataW H->Prop}{t e:TypeId}{s fuel:Nat}{cs:List Value}{x:DataW H×List MemPlace}(ht:P.underlying t=some (.slice e)) (hs:P.cellsOf e=s) (h0:0<s) (hav:∀a,(av a).length=s)
  (hel:∀n cs y,n<fuel->DataW.trod enc P w base spare held n e cs=some y->∃a,cw nR (gQ w) (av a) cs/\R a y.1)
  (h:DataW.trod enc P w base spare held fuel t cs=some x):∃v l,cs=[v]/\VR nR (gQ w) (.ds (l.flatMap av) l.length s) v/\((l=[]/\x.1=.nil)∨∃ds rest,x.1=.slice ds rest/\tR R l ds):=by
 rcases DataW.trod_slice ht h with⟨rfl,rfl⟩|⟨a,len,cap,elems,rest,n,rfl,rfl,rfl,_,hle,_,hlen,hg,_,_⟩
 ·obtain⟨s,rfl⟩:∃k,s=k+1:=⟨s - 1,by omega⟩;exact⟨_,[],rfl,.uv s,.inl ⟨rfl,rfl⟩⟩
 refine⟨.slice (some a) len cap,?_⟩
 by_cases hl0:len=0
 ·subst hl0;have:elems=[]:=length_eq_zero_iff.1 hlen;subst this;exact⟨[],rfl,.rT _ _ _,.inr ⟨_,_,rfl,.nil⟩⟩
 rw[hs]at hg;have h00:=hg 0 (by omega);have hlt0:0<elems.length:=by omega
 rw[dU hlt0,fN]at h00;obtain⟨cs0,hc0,_⟩:=h00;obtain⟨cb,co,sp⟩:=a
 have hsp:sp=none/\∃x e fr,w.heap[cb]?=some (.cells x e fr):=by
  unfold World.cells? at hc0
  split at hc0
  ·obtain⟨hl,hg'⟩:=EE hc0;have:=hg' 0 h0;rw[dU (by omega)]at this;simp only[Nat.zero_mul,Addr.add,if_true,World.cell?]at this
   split at this
   ·rename_i x e fr hx
    cases sp with
    |none=>exact⟨rfl,x,e,fr,hx⟩
    |some _=>simp at this
   cases this
  cases hc0
 obtain⟨rfl,xs,ee,fr,hx⟩:=hsp;have hD:gQ w cb=some xs:=by simp[gQ,hx]
 have key:∀k,k<=len->∃l:List α,l.length=k/\cw nR (gQ w) (l.flatMap av) ((xs.toList.drop co).take (k*s))/\tR R l ((elems.map (·.1)).take k):=by
  intro k
  induction k with
  |zero=>intro _;exact⟨[],rfl,by simpa using cw.nil,by simpa using tR.nil⟩
  |succ k ih =>
   intro hk;obtain⟨l,h1,h2,h3⟩:=ih (by omega);have hk':k<elems.length:=by omega
   have:=hg k (by omega);rw[dU hk',fN]at this;obtain⟨ck,hck,htk⟩:=this;obtain⟨b,hb1,hb2⟩:=hel n ck _ (Nat.lt_succ_self n) htk;obtain⟨hcc,hcl⟩:=FA hx hck;refine⟨l++[b],by simp[h1],?_,?_⟩
   ·rw[flatMap_append,show (k+1)*s=k*s+s by rw[Nat.add_mul];simp,take_add,drop_drop];refine h2.append ?_;rw[<-hcc];simpa using hb1
   rw[take_succ_eq_append_getElem (by simpa using hk')];exact tR.append h3 (.cons (by simpa using hb2) .nil)
 obtain⟨l,h1,h2,h3⟩:=key len (aM _);refine⟨l,rfl,?_,.inr ⟨_,_,rfl,?_⟩⟩
 ·rw[h1];refine .ds _ _ _ _ _ _ _ _ hD rfl ?_ h2 hle;rw[E3 hav,h1]
 rw[eS (by simp;omega)]at h3;exact h3
end
theorem Ef {φ:Ph}{D:Da}{cs:List AV}{n:Nat}{v:Value}(hl:cs.length=n)(h2:n≠1)(h:cw φ D cs v.cells.toList):VR φ D (.agg cs n) v:=by
 cases v with
 |agg xs=>obtain⟨l⟩:=xs;exact .agg _ _ _ h hl
 |_=>have:=h.length;simp[Value.cells]at this;omega
theorem abB {w w':World}{may:MemPlace->Prop}(hos:w'.os=w.os)(hout:w'.output=w.output)(hk:∀c,c<w.heap.size->w'.heap[c]?=w.heap[c]?):w.keptBut w' may:=by
 refine⟨hos,hout,λ i hi=>?_⟩;rw[hk i hi]
 cases w.heap[i]? with
 |none=>trivial
 |some o=>cases o<;>simp
theorem aaD {w w':World}(hk:∀c,c<w.heap.size->w'.heap[c]?=w.heap[c]?){p:MemPlace}(hp:p.block<w.heap.size):w.sameAt w' p:=by
 cases p with
 |cell b o=>exact World.cell?_of_block (w:=w) (hk b hp)
 |map b=>exact hk b hp
theorem trod_stays {H:Type}{enc:TypeId×Value->H}{P:Program}{t:TypeId}(hl:laidOutB P=true)(hr:P.readableRec t=true)(hrow:t<P.types.size){w w':World}{v:Value}{d:DataW H}{ps:List MemPlace}
  (h:DataW.Trod enc P w 0 (λ _=>true) true t v d ps)(hk:∀c,c<w.heap.size->w'.heap[c]?=w.heap[c]?)(hlt:∀x∈ps,x.block<w.heap.size):
  DataW.Trod enc P w' 0 (λ b=>decide (b<w.heap.size)) true t v d ps:=
 WideElems.Trod_stays hl hr hrow h (λ x hx=>aaD hk (hlt x hx)) (λ x hx=>by simpa using hlt x hx)
theorem qj {H:Type}{enc:TypeId×Value->H}{P:Program}(hl:laidOutB P=true){w w':World}(hk:∀c,c<w.heap.size->w'.heap[c]?=w.heap[c]?):∀ {ts:List TypeId}{vs:List Value}{ds:List (DataW H)}{ps:List MemPlace},
  (∀t∈ts,P.readableRec t=true/\t<P.types.size)->DataW.TrodAll enc P w 0 (λ _=>true) true ts vs ds ps->(∀x∈ps,x.block<w.heap.size)->DataW.TrodAll enc P w' 0 (λ b=>decide (b<w.heap.size)) true ts vs ds ps
 |[],[],[],_,_,h,_=>h
 |t::ts,v::vs,d::ds,_,ht,⟨p,q,h1,h2,e⟩,hlt=>by
  subst e;exact⟨p,q,trod_stays hl (ht t (by simp)).1 (ht t (by simp)).2 h1 hk λ x hx=>hlt x (by simp[hx]),qj hl hk (λ u hu=>ht u (by simp[hu])) h2 λ x hx=>hlt x (by simp[hx]),rfl⟩
 |[],_::_,_,_,_,h,_=>h.elim
 |[],[],_::_,_,_,h,_=>h.elim
 |_::_,[],_,_,_,h,_=>h.elim
 |_::_,_::_,[],_,_,h,_=>h.elim
theorem RN {H:Type}{enc:TypeId×Value->H}{P:Program}{f:Func}{s:ChangeSpec}{w w':World}{args:Array Value}{ds gs:List (DataW H)}{before:List MemPlace}{tb:TypeId}(hl:laidOutB P=true)
  (ht:∀t∈f.params.toList,P.readableRec t=true/\t<P.types.size)(hvars:s.vars=[])(hres:f.resultTypes=#[tb])(hb:P.underlying tb=some .bool)
  (hfn:s.fn H (ds++gs)={results:=[.lit (.bool true)],args:=ds,vars:=[]})
  (hW:DataW.Whole enc P f.params.toList s.vars false w args.toList ds gs before)(hos:w'.os=w.os)(hout:w'.output=w.output)(hk:∀c,c<w.heap.size->w'.heap[c]?=w.heap[c]?):
  s.post enc P f false true false false w args (.bool true) w':=by
 have hW':=hW;obtain⟨p,q,hA,hV,rfl,hfz,hnd⟩:=hW;rw[hvars]at hV
 obtain⟨rfl,rfl⟩:gs=[]/\q=[]:=by
  cases gs with
  |nil=>exact⟨rfl,hV⟩
  |cons=>exact hV.elim
 refine⟨ds,[],p++[],[],p,[],hW',?_,?_,?_,abB hos hout hk,λ h=>by cases h⟩
 ·rw[hfn,hres];simp only[Value.resultList];exact⟨[],[],⟨1,by unfold DataW.trod;simp[hb,Value.cells]⟩,rfl,rfl⟩
 ·rw[hfn];exact qj hl hk ht hA λ x hx=>by simpa using hW'.lt x (by simp[hx])
 rw[hfn,hvars];exact rfl
end Go.Abs
