/- A part. -/
import Derived.Test.YtfdoeenlgkkaiaaGreatAbs4
import Derived.ChangeArms
import Derived.Carry
import Derived.OpenShut
import Derived.ProofKit
import Derived.JoinedCond
import Derived.WalkKit
noncomputable section
namespace Go.Abs
open List
mutual
def Pure:AV->Prop
 | .int _ _=>True
 | .bool _=>True
 | .str _=>True
 | .ak _=>True
 | .agg cs _=>aL cs
 | .bg cs=>aL cs
 | .ds cs _ _=>aL cs
 | .dp cs=>aL cs
 | .fn _ a b=>aL a/\aL b
 | .kV _ v=>Pure v
 | .ptr _ _=>False
 | .sl _ _ _ _=>False
 | .map _=>False
 | .je _=>False
def aL:List AV->Prop
 | []=>True
 | v::r=>Pure v/\aL r
end
mutual
theorem Pure.out {φ φ':Ph}{D:Da}:∀ {v:AV}{x:Value},Pure v->VR φ D v x->VR φ' D v x
 | .int _ _,_,_,.int _ _=>.int _ _
 | .bool _,_,_,.bool _=>.bool _
 | .str _,_,_,.str _ _ e=>.str _ _ e
 | .ak _,_,_,.ak _ e=>.ak _ e
 | .agg _ _,_,h,.agg _ _ _ a b=>.agg _ _ _ (aL.oQ (by simpa only [Pure]using h) a) b
 | .bg _,_,h,.bg _ _ a=>.bg _ _ (aL.oQ (by simpa only [Pure]using h) a)
 | .ds _ _ _,_,h,.ds _ _ _ _ _ _ _ _ a b c d e=>.ds _ _ _ _ _ _ _ _ a b c (aL.oQ (by simpa only [Pure]using h) d) e
 | .ds _ _ _,_,_,.rK _ _ _=>.rK _ _ _
 | .ds _ _ _,_,_,.sC _=>.sC _
 | .dp _,_,h,.dp _ _ _ _ _ a b c=>.dp _ _ _ _ _ a b (aL.oQ (by simpa only [Pure]using h) c)
 | .fn _ _ _,_,h,.fn _ _ _ _ _ a b=>.fn _ _ _ _ _ (aL.oQ (by simp only[Pure]at h;exact h.1) a) (aL.oQ (by simp only[Pure]at h;exact h.2) b)
 | .kV _ _,_,h,.kV _ _ _ a=>.kV _ _ _ (Pure.out (by simpa only [Pure]using h) a)
theorem aL.oQ {φ φ':Ph}{D:Da}:∀ {vs:List AV}{xs:List Value},aL vs->bW φ D vs xs->bW φ' D vs xs
 | [],_,_,.nil=>.nil
 | _::_,_,h,.cons _ _ _ _ h1 h2=>.cons _ _ _ _ (Pure.out (by simp only[aL]at h;exact h.1) h1) (aL.oQ (by simp only[aL]at h;exact h.2) h2)
end
@[simp] theorem ank (k:IntKind)(i:Int):Pure (.int k i):=by simp only[Pure]
@[simp] theorem alH (b:Bool):Pure (.bool b):=by simp only[Pure]
@[simp] theorem anj (l:List Nat):Pure (.str l):=by simp only[Pure]
@[simp] theorem anl (v:Value):Pure (.ak v):=by simp only[Pure]
@[simp] theorem asn (cs:List AV)(len sz:Nat):Pure (.ds cs len sz)=aL cs:=by simp only[Pure]
@[simp] theorem aso (cs:List AV):Pure (.dp cs)=aL cs:=by simp only[Pure]
@[simp] theorem anm (cs:List AV)(n:Nat):Pure (.agg cs n)=aL cs:=by simp only[Pure]
@[simp] theorem ani (cs:List AV):Pure (.bg cs)=aL cs:=by simp only[Pure]
@[simp] theorem asl (f:Fn)(a b:List AV):Pure (.fn f a b)=(aL a/\aL b):=by simp only[Pure]
@[simp] theorem NC:aL []:=by simp only[aL]
@[simp] theorem pC (v:AV)(r:List AV):aL (v::r)=(Pure v/\aL r):=by simp only[aL]
@[simp] theorem aaj (a b:List AV):aL (a++b)=(aL a/\aL b):=by
 induction a with
 | nil=>simp
 | cons v r ih=>simp[ih,and_assoc]
theorem aL.mem {a:List AV}(h:aL a):∀v∈a,Pure v:=by
 induction a with
 | nil=>intro v hv;simp at hv
 | cons u r ih =>
  simp only[pC]at h;intro v hv
  cases hv with
  | head=>exact h.1
  | tail _ hm=>exact ih h.2 v hm
theorem aL.vg {a:List AV}(h:∀v∈a,Pure v):aL a:=by
 induction a with
 | nil=>simp
 | cons v r ih=>simp only[pC];exact⟨h v (by simp),ih λ u hu=>h u (by simp[hu])⟩
section
variable {P:Program}
def bT (P:Program) (g:FuncId) (args:List AV) (H:Hp) (n:Nat) (v:AV) (H':Hp) (n':Nat):Prop:=
 (∃ fn b, P.funcs[g]? = some fn ∧ fn.body = some b ∧ (fn.name == "runtime.NumGoroutine") = false) ∧ n ≤ n' ∧
  ∀ φ D w xs,Rel φ D H.get w->bW φ D args xs->cB φ n n'->∀R:Ending->World->Prop,
   (∀ φ' D' w' x,Ext φ D H.get w n φ' D' H'.get w' n'->Rel φ' D' H'.get w'->VR φ' D' v x->R (.returned x) w')->CallsIn Fence.wide 0 P g ⟨xs⟩ w R
theorem Oi {ce:Ce}(hce:gL P ce){g:FuncId}{args:List AV}{H:Hp}{n:Nat}{v:AV}{H':Hp}{n':Nat}(h:jl P ce g args H n=.mk v H' n'):bT P g args H n v H' n':=
 pW hce h (.ret ..)
def jW:Ph:=λ _=>none
structure Kept (D D':Da)(w w':World):Prop where
 dat:∀c x,D c=some x->D' c=some x
 size:w.heap.size<=w'.heap.size
 keep:∀c,c<w.heap.size->w'.heap[c]?=w.heap[c]?
 jz:∀c,D' c≠none->D c≠none∨w.heap.size<=c
 os:w'.os=w.os
 out:w'.output=w.output
structure ai (P:Program)(g:FuncId)(args:List AV)(v:AV):Prop where
 body : ∃ fn b, P.funcs[g]? = some fn ∧ fn.body = some b ∧ (fn.name == "runtime.NumGoroutine") = false
 ant:aL args
 anh:Pure v
 run:∀D w xs,Dat D w->bW jW D args xs->∀R:Ending->World->Prop,(∀D' w' x,Kept D D' w w'->Dat D' w'->VR jW D' v x->R (.returned x) w')->CallsIn Fence.wide 0 P g ⟨xs⟩ w R
theorem ai.gY {g:FuncId}{args:List AV}{v:AV}(h:ai P g args v) (H:Hp) (n:Nat):bT P g args H n v H n:=by
 refine⟨h.body,Nat.le_refl _,λ φ D w xs hr hv _ R hR=>?_⟩;refine h.run D w xs hr.dat (h.ant.oQ hv) R λ D' w' x hk hd hx=>?_;refine hR φ D' w' x ⟨Nat.le_refl _,λ _ _ h=>h,λ _ a b=>absurd a b,hk.dat,hk.size,λ c hc _=>hk.keep c hc,λ b p hb hp=>.inr ⟨b,p,hb,hp,rfl⟩,λ c hc=>(hk.jz c hc).elim .inl λ h=>.inr (.inl h),λ _ h=>.inl h,hk.os,hk.out⟩ ?_ (h.anh.out hx);refine⟨λ b k hb=>?_,hr.inj,λ b p hb hp=>?_,hd⟩
 ·obtain⟨p,hp,hl,hk'⟩:=hr.blk b k hb;exact⟨p,hp,Nat.lt_of_lt_of_le hl hk.size,hk'.mono (λ _ _ h=>h) hk.dat (hk.keep _ hl)⟩
 cases hD:D' p.1 with
 | none=>rfl
 | some x =>
  rcases hk.jz p.1 (by rw[hD];simp)with h1 | h1
  ·exact absurd (hr.sep b p hb hp) h1
  cases hx:H.get b with
  | none=>exact absurd hx hb
  | some k=>have:=(hr.block hx hp).1;omega
mutual
inductive dU (h:Hf):AV->AV->Prop
 | pure (v):Pure v->dU h v v
 | nil (sz):dU h (.ak (.slice none 0 0)) (.ds [] 0 (sz+1))
 | sl (b o len sz u z bs t cs cs'):h b=some (.cells u z bs t)->gJ u z bs t o (len*sz)=some cs->aN h cs cs'->dU h (.sl b o len sz) (.ds cs' len sz)
 | ptr (b o sz u z bs t cs cs'):h b=some (.cells u z bs t)->gJ u z bs t o sz=some cs->aN h cs cs'->dU h (.ptr b o) (.dp cs')
 | agg (cs cs' n):aN h cs cs'->dU h (.agg cs n) (.agg cs' n)
 | bg (cs cs'):aN h cs cs'->dU h (.bg cs) (.bg cs')
inductive aN (h:Hf):List AV->List AV->Prop
 | nil:aN h [] []
 | cons (v v' vs vs'):dU h v v'->aN h vs vs'->aN h (v::vs) (v'::vs')
end
theorem aN.length {h:Hf}:∀ {vs vs'},aN h vs vs'->vs'.length=vs.length
 | _,_,.nil=>rfl
 | _,_,.cons _ _ _ _ _ k=>by simp[aN.length k]
mutual
theorem dU.lJ {h:Hf}:∀ {v v'},dU h v v'->Pure v'
 | _,_,.pure _ k=>k
 | _,_,.nil _=>by simp
 | _,_,.sl _ _ _ _ _ _ _ _ _ _ _ _ k=>by simpa using aN.lJ k
 | _,_,.ptr _ _ _ _ _ _ _ _ _ _ _ k=>by simpa using aN.lJ k
 | _,_,.agg _ _ _ k=>by simpa using aN.lJ k
 | _,_,.bg _ _ k=>by simpa using aN.lJ k
theorem aN.lJ {h:Hf}:∀ {v v'},aN h v v'->aL v'
 | _,_,.nil=>NC
 | _,_,.cons _ _ _ _ a b=>by simpa using⟨dU.lJ a,aN.lJ b⟩
end
open Classical in
def shut (φ:Ph) (D:Da) (h:Hf) (w:World):Da:=λ c=>match D c with
 | some x=>some x
 | none=>if ∃b p,h b≠none/\φ b=some p/\p.1=c then (match w.heap[c]? with
  | some (.cells x _ _)=>some x
  | _=>none)else none
theorem fg {φ:Ph}{D:Da}{h:Hf}{w:World}:∀c x,D c=some x->shut φ D h w c=some x:=by
 intro c x hx;unfold shut;rw[hx]
theorem jH {φ:Ph}{D:Da}{h:Hf}{w:World}(hd:Dat D w):Dat (shut φ D h w) w:=by
 refine⟨λ c x hx=>?_,hd.2.mono fg⟩;unfold shut at hx
 split at hx
 ·rename_i y hy;injection hx with hx;subst hx;exact hd.1 c _ hy
 split at hx
 ·split at hx
  ·rename_i y e fr hy;injection hx with hx;subst hx;exact⟨e,fr,hy⟩
  cases hx
 cases hx
theorem yx {φ:Ph}{D:Da}{h:Hf}{w:World}(hr:Rel φ D h w){b:Nat} {p}{x:Array Value} {e fr}(hb:h b≠none)(hp:φ b=some p)(hx:w.heap[p.1]?=some (.cells x e fr)):shut φ D h w p.1=some x:=by
 unfold shut;rw[hr.sep b p hb hp];dsimp only;rw[if_pos ⟨b,p,hb,hp,rfl⟩,hx]
mutual
theorem dU.vr {φ:Ph}{D:Da}{h:Hf}{w:World}(hr:Rel φ D h w):∀ {v v' x},dU h v v'->VR φ D v x->VR jW (shut φ D h w) v' x
 | _,_,_,.pure v k,hx=>k.out (hx.mono (λ _ _ h=>h) fg)
 | _,_,_,.nil sz,hx=>by cases hx;exact .sC _
 | _,_,_,.sl b o len sz u z bs t cs cs' hb hg k,hx=>by
  cases hx with
  | sl _ _ _ _ cb co cz cap ad hp hle had =>
  obtain⟨hlt,c,e,fr,q1,q2,q3,q4,q5,q6⟩:=hr.block hb hp;obtain⟨g1,g2⟩:=jF q5 hg
  by_cases hc:0<cap
  ·obtain⟨rfl,hfit⟩:=had hc;refine .ds _ _ _ _ _ _ _ _ (yx hr (by rw[hb];simp) hp q1) rfl (by rw[aN.length k,g1]) ?_ hle;refine aN.oQ hr k (bW.mW ?_ λ i v hv=>?_)
   ·dsimp only at q1 q2 q3 q4 q5 q6;have hm:len*sz<=cap*sz:=Nat.mul_le_mul_right _ hle;rw[length_take,length_drop,g1,Array.length_toList];omega
   have hi:i<len*sz:=by rw[<-g1];exact(List.getElem?_eq_some_iff.1 hv).1
   have:=g2 i hi;rw[hv]at this;obtain⟨x,hx,vw⟩:=q4 _ _ this;dsimp only at hx;refine⟨x,?_,vw⟩;rw[getElem?_take,if_pos hi,getElem?_drop];rw[show co+o+i=co+(o+i)from by omega];simpa using hx
  have hc0:cap=0:=by omega
  have hl0:len=0:=by omega
  subst hc0 hl0
  have:cs'=[]:=by
   have:=aN.length k;simp at g1;subst g1;simpa using this
  subst this;exact .rK _ _ _
 | _,_,_,.ptr b o sz u z bs t cs cs' hb hg k,hx=>by
  cases hx with
  | ptr _ _ cb co cz hp =>
  obtain⟨hlt,c,e,fr,q1,q2,q3,q4,q5,q6⟩:=hr.block hb hp;obtain⟨g1,g2⟩:=jF q5 hg;dsimp only at q1 q2 q3 q4 q5 q6
  have hat:∀i v,cs[i]?=some v->∃x,c.toList[co+o+i]?=some x/\VR φ D v x:=λ i v hv=>by
   have hi:i<sz:=by rw[<-g1];exact(List.getElem?_eq_some_iff.1 hv).1
   have:=g2 i hi;rw[hv]at this;obtain⟨x,hx,vw⟩:=q4 _ _ this;refine⟨x,?_,vw⟩;rw[show co+o+i=co+(o+i)from by omega];simpa using hx
  refine .dp _ _ _ _ _ (yx hr (by rw[hb];simp) hp q1) rfl (aN.oQ hr k (bW.mW ?_ λ i v hv=>?_))
  ·rw[aN.length k,length_take,length_drop]
   rcases Nat.eq_zero_or_pos cs.length with h0 | h0
   ·omega
   obtain⟨x,hx,_⟩:=hat (cs.length - 1) _ (getElem?_eq_getElem (by omega));have:=(List.getElem?_eq_some_iff.1 hx).1;rw[Array.length_toList]at this ⊢;omega
  obtain⟨x,hx,vw⟩:=hat i v hv;refine⟨x,?_,vw⟩;have hi:i<cs.length:=(List.getElem?_eq_some_iff.1 hv).1;rw[aN.length k,getElem?_take,if_pos hi,getElem?_drop];exact hx
 | _,_,_,.agg cs cs' n k,hx=>by
  cases hx with
  | agg _ l _ a b=>exact .agg _ _ _ (aN.oQ hr k a) (by rw[aN.length k,b])
 | _,_,_,.bg cs cs' k,hx=>by
  cases hx with
  | bg _ l a=>exact .bg _ _ (aN.oQ hr k a)
theorem aN.oQ {φ:Ph}{D:Da}{h:Hf}{w:World}(hr:Rel φ D h w):∀ {vs vs' xs},aN h vs vs'->bW φ D vs xs->bW jW (shut φ D h w) vs' xs
 | _,_,_,.nil,.nil=>.nil
 | _,_,_,.cons _ _ _ _ a b,.cons _ _ _ _ c d=>.cons _ _ _ _ (dU.vr hr a c) (aN.oQ hr b d)
end
theorem qL {D:Da}{w:World}(hd:Dat D w):Rel jW D (Tr.nil:Hp).get w:=
 ⟨λ b k hb=>by simp at hb,λ b c p q hb=>by simp at hb,λ b p hb=>by simp at hb,hd⟩
theorem ai.of {ce:Ce}(hce:gL P ce){g:FuncId}{args:List AV}{v:AV}(hp:aL args)(h:∃v1 H' n',jl P ce g args .nil 0=.mk v1 H' n'/\dU H'.get v1 v):ai P g args v:=by
 obtain⟨v1,H',n',h1,h2⟩:=h;obtain⟨hb,hn,hs⟩:=Oi hce h1;refine⟨hb,hp,h2.lJ,λ D w xs hd hv R hR=>?_⟩;refine hs jW D w xs (qL hd) hv (λ _ _ _=>rfl) R λ φ' D' w' x aQ hrel hx=>?_;refine hR (shut φ' D' H'.get w') w' x ⟨λ c x hx=>fg c x (aQ.dat c x hx),aQ.size,λ c hc=>aQ.keep c hc λ b p hb=>by simp at hb,λ c hc=>?_,aQ.os,aQ.out⟩ (jH hrel.dat) (h2.vr hrel hx);unfold shut at hc
 split at hc
 ·rename_i y hy
  rcases aQ.jz c (by rw[hy];simp)with h | h | ⟨b0,p0,hh,_⟩
  ·exact .inl h
  ·exact .inr h
  simp at hh
 split at hc
 ·rename_i hex;obtain⟨b,p,hb,hp,rfl⟩:=hex
  rcases aQ.live b p hb hp with h | ⟨b0,p0,hh,_⟩
  ·exact .inr h
  simp at hh
 exact absurd rfl hc
def vj:iq->iq
 | .mk v H n=>.mk v H n
 | _=>.fail
def xQ (f:FuncId->List AV->Hp->Nat->iq):Ce:={call:=λ g args H n=>vj (f g args H n),code:=λ _ _ _ _ _=>.fail,dcall:=λ _ _ _ _ _=>.fail}
theorem Bg {f:FuncId->List AV->Hp->Nat->iq}(h:∀g args H n v H' n',f g args H n=.mk v H' n'->bT P g args H n v H' n'):gL P (xQ f):=by
 refine⟨λ g args H n v H' n' e=>?_,λ g args H n v H' n' e=>?_,λ _ _ _ _ _ _ _ _ _ _ e=>(by cases e),λ _ _ _ _ _ _ _ _ e=>(by cases e)⟩
 ·have e:vj (f g args H n)=.mk v H' n':=e
  cases hc:f g args H n with
  | mk v1 H1 n1=>rw[hc]at e;cases e;exact h g args H n v H' n' hc
  | fail=>rw[hc]at e;cases e
  | pE v1 H1 n1=>rw[hc]at e;cases e
 have e:vj (f g args H n)=.pE v H' n':=e
 cases hc:f g args H n with
 | mk v1 H1 n1=>rw[hc]at e;cases e
 | fail=>rw[hc]at e;cases e
 | pE v1 H1 n1=>rw[hc]at e;cases e
@[simp] theorem anK (v:AV)(H:Hp)(n:Nat):vj (.mk v H n)=.mk v H n:=Eq.trans rfl rfl
structure Fam where
 {α:Type}
 dom:α->Prop
 enc:α->List AV
 val:α->AV
open Classical in
def Fam.spec (f:Fam)(args:List AV)(H:Hp)(n:Nat):iq:=if h:∃a,f.dom a/\f.enc a=args then .mk (f.val (Classical.choose h)) H n else .fail
theorem Fam.ok {f:Fam}{g:FuncId}(hf:∀a,f.dom a->ai P g (f.enc a) (f.val a)) {args H n v H' n'}(h:f.spec args H n=.mk v H' n'):bT P g args H n v H' n':=by
 unfold Fam.spec at h
 split at h
 ·rename_i hx;injection h with h1 h2 h3;subst h1 h2 h3;have:=Classical.choose_spec hx;have hh:=(hf _ this.1).gY H n;rw[this.2]at hh;exact hh
 cases h
end
end Go.Abs
namespace Go.Abs
open List
abbrev QA:=mF->Fr->Hp->Nat->List Dm->Prop
def Ev (r:Kv)(Q:QA):Prop:=match r with
 | .mk (.panic _) _ _ _ _=>False
 | .mk o F H n m=>Q o F H n m
 | .fail=>False
def EvC (r:iq)(R:AV->Hp->Nat->Prop):Prop:=match r with
 | .mk v H n=>R v H n
 | _=>False
def yd (r:bP)(H:Hp)(n:Nat)(k:AV->Hp->Nat->Prop):Prop:=match r with
 | .fail=>False
 | .val v=>k v H n
 | .new v b=>k v (H.put n (some b)) (n+1)
 | .upd v b x=>k v (H.put b (some x)) n
 | .mv v b x=>k v ((H.put b none).put n (some x)) (n+1)
def abU (b:K)(ce:Ce)(Q:QA):QA:=λ o F H n m=>match o with
 | .normal=>Ev (b.f ce F H n m) Q
 | .exit i=>Q (.exit i) F H n m
 | .ret=>Q .ret F H n m
 | .panic _=>False
def bX (i:Nat)(Q:QA):QA:=λ o F H n m=>match o with
 | .normal=>Q .normal F H n m
 | .exit j=>if i=j then Q .normal F H n m else Q (.exit j) F H n m
 | .ret=>Q .ret F H n m
 | .panic _=>False
def iR (res:List (Fr->Hp->Option AV)) (R:AV->Hp->Nat->Prop):QA:=λ o F H n m=>match o with
 | .exit _=>False
 | .panic _=>False
 | _ => match ez m H with
  | some H'=>match ux F H' res with
   | some vs=>R (t_ vs) H' n
   | none=>False
  | none=>False
def nP (v:Option AV)(p q:Prop):Prop:=match v with
 | some (.bool true)=>p
 | some (.bool false)=>q
 | _=>False
def MY (v:Option AV)(a b:K)(ce:Ce)(F:Fr)(H:Hp)(n:Nat)(m:List Dm)(Q:QA):Prop:=nP v (Ev (a.f ce F H n m) Q) (Ev (b.f ce F H n m) Q)
def eZ (v:Option AV)(want:Bool)(p q:Prop):Prop:=match v with
 | some (.bool b)=>bif b == want then p else q
 | some _=>q
 | none=>False
def rM {α:Type}(o:Option α)(k:α->Prop):Prop:=match o with
 | some x=>k x
 | none=>False
section
variable {ce:Ce}{F:Fr}{H:Hp}{n:Nat}{m:List Dm}{Q:QA}
@[simp] theorem awq:Ev (.mk .normal F H n m) Q=Q .normal F H n m:=propext Iff.rfl
@[simp] theorem awr (i:Nat):Ev (.mk (.exit i) F H n m) Q=Q (.exit i) F H n m:=propext Iff.rfl
@[simp] theorem awo:Ev (.mk .ret F H n m) Q=Q .ret F H n m:=propext Iff.rfl
@[simp] theorem awp (v:AV):Ev (.mk (.panic v) F H n m) Q=False:=propext Iff.rfl
@[simp] theorem awC (v:AV)(R:AV->Hp->Nat->Prop):EvC (.mk v H n) R=R v H n:=propext Iff.rfl
@[simp] theorem ao8 (k:AV->Hp->Nat->Prop):yd .fail H n k=False:=propext Iff.rfl
@[simp] theorem atp (v:AV)(k:AV->Hp->Nat->Prop):yd (.val v) H n k=k v H n:=propext Iff.rfl
@[simp] theorem atr (v:AV)(b:bI)(k:AV->Hp->Nat->Prop):yd (.new v b) H n k=k v (H.put n (some b)) (n+1):=propext Iff.rfl
@[simp] theorem atq (v:AV)(b:Nat)(x:bI)(k:AV->Hp->Nat->Prop):yd (.upd v b x) H n k=k v (H.put b (some x)) n:=propext Iff.rfl
@[simp] theorem awB (v:AV)(b:Nat)(x:bI)(k:AV->Hp->Nat->Prop):yd (.mv v b x) H n k=k v ((H.put b none).put n (some x)) (n+1):=propext Iff.rfl
@[simp] theorem acr (b:K):abU b ce Q .normal F H n m=Ev (b.f ce F H n m) Q:=propext Iff.rfl
@[simp] theorem alB (b:K)(i:Nat):abU b ce Q (.exit i) F H n m=Q (.exit i) F H n m:=propext Iff.rfl
@[simp] theorem am0 (b:K):abU b ce Q .ret F H n m=Q .ret F H n m:=propext Iff.rfl
@[simp] theorem ac3 (i:Nat):bX i Q .normal F H n m=Q .normal F H n m:=propext Iff.rfl
@[simp] theorem amd (i j:Nat):bX i Q (.exit j) F H n m=if i=j then Q .normal F H n m else Q (.exit j) F H n m:=propext Iff.rfl
@[simp] theorem apT (i:Nat):bX i Q .ret F H n m=Q .ret F H n m:=propext Iff.rfl
@[simp] theorem aj8 (p q:Prop):nP (some (.bool true)) p q=p:=propext Iff.rfl
@[simp] theorem acV (p q:Prop):nP (some (.bool false)) p q=q:=propext Iff.rfl
@[simp] theorem av5 (p q:Prop):eZ (some (.bool true)) true p q=p:=propext Iff.rfl
@[simp] theorem av6 (p q:Prop):eZ (some (.bool false)) true p q=q:=propext Iff.rfl
@[simp] theorem as6 (p q:Prop):eZ (some (.bool true)) false p q=q:=propext Iff.rfl
@[simp] theorem as7 (p q:Prop):eZ (some (.bool false)) false p q=p:=propext Iff.rfl
@[simp] theorem aoH (l:List AV)(b:Bool)(p q:Prop):eZ (some (.bg l)) b p q=q:=propext Iff.rfl
@[simp] theorem qR {α:Type}(x:α)(k:α->Prop):rM (some x) k=k x:=propext Iff.rfl
@[simp] theorem anA {α:Type}(k:α->Prop):rM none k=False:=propext Iff.rfl
@[simp] theorem am_ (res:List (Fr->Hp->Option AV))(R:AV->Hp->Nat->Prop):iR res R .ret F H n m=rM (ez m H) λ H'=>rM (ux F H' res) λ vs=>R (t_ vs) H' n:=by
 unfold iR rM;dsimp only;split<;>first | (split<;>simp_all) | simp_all
@[simp] theorem acw (res:List (Fr->Hp->Option AV))(R:AV->Hp->Nat->Prop):iR res R .normal F H n m=rM (ez m H) λ H'=>rM (ux F H' res) λ vs=>R (t_ vs) H' n:=by
 unfold iR rM;dsimp only;split<;>first | (split<;>simp_all) | simp_all
theorem ajS {r:Kv}(h:Ev r Q):∃o F H n m,r=.mk o F H n m/\Q o F H n m:=by
 cases r with
 | fail=>exact absurd h id
 | mk o F H n m=>cases o<;>first | exact absurd h id | exact⟨_,_,_,_,_,rfl,h⟩
@[simp] theorem awx:Ev (Eg.f ce F H n m) Q=Q .normal F H n m:=propext Iff.rfl
@[simp] theorem awm (a b:K):Ev ((Fu a b).f ce F H n m) Q=Ev (a.f ce F H n m) (abU b ce Q):=by
 simp only[Fu]
 cases h:a.f ce F H n m with
 | fail=>simp[Ev]
 | mk o F' H' n' m'=>cases o<;>rfl
@[simp] theorem aj7 (a b:K):MY (some (.bool true)) a b ce F H n m Q=Ev (a.f ce F H n m) Q:=propext Iff.rfl
@[simp] theorem acU (a b:K):MY (some (.bool false)) a b ce F H n m Q=Ev (b.f ce F H n m) Q:=propext Iff.rfl
@[simp] theorem ath (g:G)(a b:K):Ev ((zb g a b).f ce F H n m) Q=MY (g.f F) a b ce F H n m Q:=by
 simp only[zb,MY]
 cases g.f F with
 | none=>rfl
 | some v=>cases v with
  | bool b=>cases b<;>rfl
  | _=>rfl
@[simp] theorem ao4 (i:Nat)(b:K):Ev ((sK i b).f ce F H n m) Q=Ev (b.f ce F H n m) (bX i Q):=by
 simp only[sK]
 cases h:b.f ce F H n m with
 | fail=>simp[Ev]
 | mk o F' H' n' m' =>
  cases o with
  | normal=>rfl
  | ret=>rfl
  | panic v=>rfl
  | exit j =>
   dsimp only
   cases hij:Nat.beq i j with
   | true=>have:=Nat.eq_of_beq_eq_true hij;subst this;simp
   | false =>
    have:¬i=j:=λ e=>by rw[e]at hij;simp at hij
    simp[this]
@[simp] theorem atf (i:Nat):Ev ((J3 i).f ce F H n m) Q=Q (.exit i) F H n m:=propext Iff.rfl
@[simp] theorem awn:Ev (Z6.f ce F H n m) Q=Q .ret F H n m:=propext Iff.rfl
theorem Ec {b:K}(I:Nat->Fr->Hp->Nat->List Dm->Prop)
  (hstep:∀k F H n m,I k F H n m->Ev (b.f ce F H n m) (λ o F' H' n' m'=>match o with
   | .normal=>∃k',k'<k/\I k' F' H' n' m'
   | .exit i=>Q (.exit i) F' H' n' m'
   | .ret=>Q .ret F' H' n' m'
   | .panic _=>False)):∀(j k:Nat) (F:Fr) (H:Hp) (n:Nat) (m:List Dm),k<j->I k F H n m->Ev (DD b ce j F H n m) Q
 | 0,k,_,_,_,_,h,_=>by omega
 | j + 1,k,F,H,n,m,h,hI=>by
  have:=hstep k F H n m hI
  show Ev (match b.f ce F H n m with
   | .mk .normal F' H' n' m'=>DD b ce j F' H' n' m'
   | r=>r) Q
  cases hb:b.f ce F H n m with
  | fail=>rw[hb]at this;exact this
  | mk o F' H' n' m' =>
   rw[hb]at this
   cases o with
   | normal=>obtain⟨k',hk,hI'⟩:=this;exact Ec I hstep j k' F' H' n' m' (by omega) hI'
   | exit i=>exact this
   | ret=>exact this
   | panic v=>exact this
def mE (I:Nat->Fr->Hp->Nat->List Dm->Prop)(k:Nat)(Q:QA):QA:=λ o F' H' n' m'=>match o with
 | .normal=>∃k',k'<k/\I k' F' H' n' m'
 | .exit i=>Q (.exit i) F' H' n' m'
 | .ret=>Q .ret F' H' n' m'
 | .panic _=>False
@[simp] theorem acv (I:Nat->Fr->Hp->Nat->List Dm->Prop)(k:Nat):mE I k Q .normal F H n m=∃k',k'<k/\I k' F H n m:=propext Iff.rfl
@[simp] theorem alE (I:Nat->Fr->Hp->Nat->List Dm->Prop)(k i:Nat):mE I k Q (.exit i) F H n m=Q (.exit i) F H n m:=propext Iff.rfl
@[simp] theorem am6 (I:Nat->Fr->Hp->Nat->List Dm->Prop)(k:Nat):mE I k Q .ret F H n m=Q .ret F H n m:=propext Iff.rfl
theorem ate {b:K}(I:Nat->Fr->Hp->Nat->List Dm->Prop)(k:Nat)(hk:k<big)(h0:I k F H n m)(hstep:∀k F H n m,I k F H n m->Ev (b.f ce F H n m) (mE I k Q)):Ev ((yO b).f ce F H n m) Q:=
 Ec I hstep big k F H n m hk h0
def aM (d:Nat):Pd:=⟨λ v F=>(Tr.uZ (Nat.succ d) d).f (some v) F⟩
def Ab:Pd:=⟨λ _ F=>F⟩
def Fp (d:Nat)(v:AV)(F:Fr):Fr:=(Tr.uZ (Nat.succ d) d).f (some v) F
@[simp] theorem axt (d:Nat)(v:AV):(aM d).f v F=Fp d v F:=Eq.trans rfl rfl
@[simp] theorem axa (d t:Nat)(v:AV):(Fp d v F).get t=if t=d then some v else F.get t:=Tr.iX _ _ _ _ _ (Nat.lt_succ_self d)
@[simp] theorem axu (v:AV):Ab.f v F=F:=Eq.trans rfl rfl
@[simp] theorem zT (t:Nat):(aC t).f F=F.get t:=fT t F
@[simp] theorem vZ (v:AV):(aF v).f F=some v:=Eq.trans rfl rfl
theorem acK {α:Type}(t:Tr α)(a b:Nat)(v:Option α):(t.put a v).get b=if b=a then v else t.get b:=Tr.get_put t a b v
theorem acQ (pd:Pd)(e:Eff)(next:K):Ev ((opK pd e next).f ce F H n m) Q=yd (e F H n) H n (λ v H' n'=>Ev (next.f ce (pd.f v F) H' n' m) Q):=by
 simp only[opK]
 cases e F H n<;>rfl
def aoK (g:G)(want:Bool)(pd:Pd)(e:Eff)(next:K):K:=pQ g want (opK pd e next) (Qx pd next)
theorem ajU (g:G)(want:Bool)(pd:Pd)(e:Eff)(next:K):Ev ((aoK g want pd e next).f ce F H n m) Q=eZ (g.f F) want (yd (e F H n) H n (λ v H' n'=>Ev (next.f ce (pd.f v F) H' n' m) Q)) (Ev (next.f ce (pd.f (.bg []) F) H n m) Q):=by
 simp only[aoK,pQ];unfold eZ
 cases g.f F with
 | none=>rfl
 | some v =>
  cases v with
  | bool b =>
   dsimp only
   cases hb:b == want
   ·rfl
   exact acQ pd e next
  | _=>rfl
def akl (pd:Pd)(f:FuncId)(as:List G)(next:K):K:=rm pd (aF (.fn (.func f) [] [])) as next
theorem RF (pd:Pd)(f:FuncId)(as:List G)(next:K):Ev ((akl pd f as next).f ce F H n m) Q=rM (fM F as) λ vs=>EvC (ce.call f vs H n) (λ v H' n'=>Ev (next.f ce (pd.f v F) H' n' m) Q):=by
 simp only[akl,rm,vZ]
 cases fM F as with
 | none=>rfl
 | some vs =>
  simp only[nil_append,append_nil,qR]
  cases ce.call f vs H n<;>rfl
def acL (g:G)(want:Bool)(pd:Pd)(f:FuncId)(as:List G)(next:K):K:=pQ g want (akl pd f as next) (Qx pd next)
theorem abk (g:G)(want:Bool)(pd:Pd)(f:FuncId)(as:List G)(next:K):Ev ((acL g want pd f as next).f ce F H n m) Q=eZ (g.f F) want (rM (fM F as) λ vs=>EvC (ce.call f vs H n) (λ v H' n'=>Ev (next.f ce (pd.f v F) H' n' m) Q)) (Ev (next.f ce (pd.f (.bg []) F) H n m) Q):=by
 simp only[acL,pQ];unfold eZ
 cases g.f F with
 | none=>rfl
 | some v =>
  cases v with
  | bool b =>
   dsimp only
   cases hb:b == want
   ·rfl
   exact RF pd f as next
  | _=>rfl
theorem abl {pd:Pd}{g:G}{as:List G}{next:K}{f:FuncId}{first cap vs:List AV}(hg:g.f F=some (.fn (.func f) first cap))(ha:fM F as=some vs):
  Ev ((rm pd g as next).f ce F H n m) Q=EvC (ce.call f (first++(vs++cap)) H n) (λ v H' n'=>Ev (next.f ce (pd.f v F) H' n' m) Q):=by
 simp only[rm,hg,ha]
 cases ce.call f (first++(vs++cap)) H n<;>rfl
def Eh (ds:List Nat)(k:KR):K:=.mk <| λ ce F H n m=>k.f ce (gX ds F) H [H] n m
@[simp] theorem awy (ds:List Nat)(k:KR):Ev ((Eh ds k).f ce F H n m) Q=Ev (k.f ce (gX ds F) H [H] n m) Q:=propext Iff.rfl
variable {Hs:List Hp}
@[simp] theorem atg:Ev (ajW.f ce F H Hs n m) Q=Q .normal F H n m:=propext Iff.rfl
def EvM (r:bP)(H:Hp)(n:Nat)(k:AV->Hp->Nat->Prop):Prop:=yd r H n k
def EvR (e:Eff)(F:Fr)(H:Hp)(Hs:List Hp)(n cnt:Nat)(k:AV->Hp->Nat->Prop):Prop:=match e F .nil n with
 | .val v=>k v H n
 | .new v b=>if iI n Hs=true then k v (H.put n (some b)) (n+1)else False
 | .fail=>rM (fb e F n cnt Hs) λ v=>k v H n
 | _=>False
theorem ajT (rs:RS)(pd:Pd)(e:Eff)(cnt:Nat)(next:KR):Ev ((opR rs pd e cnt next).f ce F H Hs n m) Q=EvR e (rs.f F) H Hs n cnt (λ v H' n'=>Ev (next.f ce (pd.f v F) H' Hs n' m) Q):=by
 simp only[opR];unfold EvR
 cases e (rs.f F) .nil n with
 | val v=>rfl
 | new v k=>dsimp only;split<;>simp_all [Ev]
 | fail=>dsimp only;unfold rM;split<;>simp_all [Ev]
 | upd=>rfl
 | mv=>rfl
theorem J4 (rs:RS)(pd:Pd)(e:Eff)(next:KR):Ev ((Dx rs pd e next).f ce F H Hs n m) Q=yd (e (rs.f F) H n) H n (λ v H' n'=>Ev (next.f ce (pd.f v F) H' (H'::Hs) n' m) Q):=by
 simp only[Dx]
 cases e (rs.f F) H n<;>rfl
def akk (rs:RS)(pd:Pd)(f:FuncId)(as:List G)(next:KR):KR:=iB rs pd (aF (.fn (.func f) [] [])) as next
theorem J5 (rs:RS)(pd:Pd)(f:FuncId)(as:List G)(next:KR):Ev ((akk rs pd f as next).f ce F H Hs n m) Q=rM (fM (rs.f F) as) λ vs=>EvC (ce.call f vs H n) (λ v H' n'=>Ev (next.f ce (pd.f v F) H' (H'::Hs) n' m) Q):=by
 simp only[akk,iB,vZ]
 cases fM (rs.f F) as with
 | none=>rfl
 | some vs =>
  simp only[nil_append,append_nil,qR]
  cases ce.call f vs H n<;>rfl
@[simp] theorem auv (l:List Nat)(F:Fr)(t:Nat):((cF l).f F).get t=if t∈l then F.get t else none:=by
 induction l with
 | nil=>rfl
 | cons a r ih =>
  simp only[cF,Pp,zT];rw[Tr.iX _ _ _ _ _ (Nat.lt_succ_self a),ih]
  by_cases h:t=a
  ·subst h;simp
  simp[h]
end
end Go.Abs
namespace Go.Abs
open List
@[simp] theorem ajn (a b:Nat):((a:Int)=(b:Int))=(a=b):=propext (by omega)
@[simp] theorem ajl (a b:Nat):((a:Int)<(b:Int))=(a<b):=propext (by omega)
@[simp] theorem ajm (a b:Nat):((a:Int)<=(b:Int))=(a<=b):=propext (by omega)
@[simp] theorem Ak (a b:Nat):Nat.ble a b=decide (a<=b):=by
 by_cases h:a<=b
 ·rw[Nat.ble_eq_true_of_le h];simp[h]
 cases hh:Nat.ble a b with
 | true=>exact absurd (Nat.le_of_ble_eq_true hh) h
 | false=>simp[h]
@[simp] theorem JJ (a b:Nat):Nat.blt a b=decide (a<b):=Ak (a+1) b
@[simp] theorem nV (a b:Nat):Nat.beq a b=decide (a=b):=by
 by_cases h:a=b
 ·subst h;simp
 cases hh:Nat.beq a b with
 | true=>exact absurd (Nat.eq_of_beq_eq_true hh) h
 | false=>simp[h]
def oE (o:Option AV)(k:AV->bP):bP:=match o with
 | some v=>k v
 | none=>.fail
def lE (o:Option (List AV))(k:List AV->bP):bP:=match o with
 | some v=>k v
 | none=>.fail
@[simp] theorem asA (v:AV)(k:AV->bP):oE (some v) k=k v:=Eq.trans rfl rfl
@[simp] theorem asG (v:List AV)(k:List AV->bP):lE (some v) k=k v:=Eq.trans rfl rfl
@[simp] theorem amj (cs:List AV)(n:Nat):(AV.agg cs n).len=n:=Eq.trans rfl rfl
@[simp] theorem ac9 (cs:List AV)(n:Nat):(AV.agg cs n).cells=cs:=Eq.trans rfl rfl
@[simp] theorem amg (k:IntKind)(n:Int):(AV.int k n).len=1:=Eq.trans rfl rfl
@[simp] theorem aku (b:Bool):(AV.bool b).len=1:=Eq.trans rfl rfl
@[simp] theorem ame (b:List Nat):(AV.str b).len=1:=Eq.trans rfl rfl
@[simp] theorem amf (a b:Nat):(AV.ptr a b).len=1:=Eq.trans rfl rfl
@[simp] theorem apV (a b c d:Nat):(AV.sl a b c d).len=1:=Eq.trans rfl rfl
@[simp] theorem apX (cs:List AV)(c d:Nat):(AV.ds cs c d).len=1:=Eq.trans rfl rfl
@[simp] theorem ami (v:Value):(AV.ak v).len=1:=Eq.trans rfl rfl
@[simp] theorem apW (f:Fn)(a b:List AV):(AV.fn f a b).len=1:=Eq.trans rfl rfl
@[simp] theorem amh (t:TypeId)(v:AV):(AV.kV t v).len=1:=Eq.trans rfl rfl
@[simp] theorem ac6 (k:IntKind)(n:Int):(AV.int k n).cells=[.int k n]:=Eq.trans rfl rfl
@[simp] theorem abO (b:Bool):(AV.bool b).cells=[.bool b]:=Eq.trans rfl rfl
@[simp] theorem ac4 (b:List Nat):(AV.str b).cells=[.str b]:=Eq.trans rfl rfl
@[simp] theorem ac5 (a b:Nat):(AV.ptr a b).cells=[.ptr a b]:=Eq.trans rfl rfl
@[simp] theorem akv (a b c d:Nat):(AV.sl a b c d).cells=[.sl a b c d]:=Eq.trans rfl rfl
@[simp] theorem akx (cs:List AV)(c d:Nat):(AV.ds cs c d).cells=[.ds cs c d]:=Eq.trans rfl rfl
@[simp] theorem ac8 (v:Value):(AV.ak v).cells=[.ak v]:=Eq.trans rfl rfl
@[simp] theorem akw (f:Fn)(a b:List AV):(AV.fn f a b).cells=[.fn f a b]:=Eq.trans rfl rfl
@[simp] theorem ac7 (t:TypeId)(v:AV):(AV.kV t v).cells=[.kV t v]:=Eq.trans rfl rfl
@[simp] theorem akz:bm []=true:=Eq.trans rfl rfl
@[simp] theorem tM (v:AV)(r:List AV):bm (v::r)=(v.one&&bm r):=Eq.trans rfl rfl
@[simp] theorem aas (k:IntKind)(n:Int):(AV.int k n).one=true:=Eq.trans rfl rfl
@[simp] theorem anB (b:Bool):(AV.bool b).one=true:=Eq.trans rfl rfl
@[simp] theorem asu (b:List Nat):(AV.str b).one=true:=Eq.trans rfl rfl
@[simp] theorem asv (a b:Nat):(AV.ptr a b).one=true:=Eq.trans rfl rfl
@[simp] theorem au0 (a b c d:Nat):(AV.sl a b c d).one=true:=Eq.trans rfl rfl
@[simp] theorem au2 (cs:List AV)(c d:Nat):(AV.ds cs c d).one=true:=Eq.trans rfl rfl
@[simp] theorem asx (v:Value):(AV.ak v).one=true:=Eq.trans rfl rfl
@[simp] theorem au1 (f:Fn)(a b:List AV):(AV.fn f a b).one=true:=Eq.trans rfl rfl
@[simp] theorem asw (t:TypeId)(v:AV):(AV.kV t v).one=true:=Eq.trans rfl rfl
@[simp] theorem ZR (a b:List AV):bm (a++b)=(bm a&&bm b):=by
 induction a with
 | nil=>simp
 | cons v r ih=>simp[ih,Bool.and_assoc]
section
variable {F:Fr}{H:Hp}{n:Nat}
@[simp] theorem awF (x:G):eF x F H n=oE (x.f F) .val:=by unfold eF oE;cases x.f F<;>rfl
def Dk (c:Option AV)(a b:bP):bP:=match c with
 | some (.bool true)=>a
 | some (.bool false)=>b
 | _=>.fail
@[simp] theorem asp (a b:bP):Dk (some (.bool true)) a b=a:=Eq.trans rfl rfl
@[simp] theorem asq (a b:bP):Dk (some (.bool false)) a b=b:=Eq.trans rfl rfl
@[simp] theorem atw (c a b:G):vT c a b F H n=Dk (c.f F) (oE (a.f F) .val) (oE (b.f F) .val):=by
 unfold vT
 cases c.f F with
 | none=>rfl
 | some v=>cases v with
  | bool x =>
   cases x
   ·simp only[Dk,eF];cases b.f F<;>rfl
   simp only[Dk,eF];cases a.f F<;>rfl
  | _=>rfl
@[simp] theorem apg (z:List AV)(k:Nat):ay z k F H n=.new (.ptr n 0) (.cells k [] z .nil):=Eq.trans rfl rfl
@[simp] theorem awG (x:G):Oq x F H n=oE (x.f F) λ v=>.new (.ptr n 0) (.cells v.len [] v.cells .nil):=by unfold Oq oE;cases x.f F<;>rfl
@[simp] theorem alY (cs:List AV):js F [] cs=some cs:=Eq.trans rfl rfl
@[simp] theorem ajR (o s:Nat)(x:G)(r:List (Nat×Nat×G))(cs:List AV):js F ((o,s,x)::r) cs=(x.f F).bind λ v=>bif Nat.beq v.len s&&Nat.blt 0 s then (patch cs o v.cells).bind (λ cs'=>js F r cs')else none:=by
 rw[js]
 cases x.f F with
 | none=>rfl
 | some v =>
  dsimp only [Option.bind]
  cases Nat.beq v.len s&&Nat.blt 0 s with
  | false=>rfl
  | true=>dsimp only [cond];cases patch cs o v.cells<;>rfl
@[simp] theorem alI (cs:List AV)(o:Nat):patch cs o []=some cs:=by cases cs<;>cases o<;>rfl
def RZ (v:AV)(o:Option (List AV)):Option (List AV):=match o with
 | some l=>some (v::l)
 | none=>none
@[simp] theorem aj3 (v:AV)(l:List AV):RZ v (some l)=some (v::l):=Eq.trans rfl rfl
@[simp] theorem Fz (c v:AV)(cs vs:List AV):patch (c::cs) 0 (v::vs)=RZ v (patch cs 0 vs):=by
 rw[patch];cases patch cs 0 vs<;>rfl
@[simp] theorem aiL (c v:AV)(cs vs:List AV)(o:Nat):patch (c::cs) (o+1) (v::vs)=RZ c (patch cs o (v::vs)):=by
 rw[patch];cases patch cs o (v::vs)<;>rfl
@[simp] theorem yE {bs vs:List AV}(h:vs.length=bs.length):patch bs 0 vs=some vs:=by
 induction vs generalizing bs with
 | nil=>cases bs<;>simp_all
 | cons v r ih =>
  cases bs with
  | nil=>simp at h
  | cons b bs=>rw[Fz,ih (by simpa using h)];rfl
@[simp] theorem apf (z:List AV)(k:Nat)(ps:List (Nat×Nat×G)):aJ z k ps F H n=lE (js F ps z) λ cs=>.val (.agg cs k):=by unfold aJ lE;cases js F ps z<;>rfl
@[simp] theorem al5 (z:List AV)(k sz:Nat)(ps:List (Nat×Nat×G)):aO z k sz ps F H n=lE (js F ps (rep z k)) λ cs=>.new (.sl n 0 k sz) (.cells (k*sz) [] cs .nil):=by unfold aO lE;cases js F ps (rep z k)<;>rfl
@[simp] theorem am' (z:List AV):rep z 0=[]:=Eq.trans rfl rfl
theorem Pr (z:List AV)(n:Nat):rep z (n+1)=z++rep z n:=rfl
@[simp] theorem asd (z:List AV):rep z 1=z:=by simp[Pr]
@[simp] theorem ape (x:G):sy x F H n=oE (x.f F) λ v=>eT v H:=by unfold sy oE;cases x.f F<;>rfl
@[simp] theorem apd (k:Nat)(x:G):kE k x F H n=oE (x.f F) λ v=>eo k v H:=by unfold kE oE;cases x.f F<;>rfl
@[simp] theorem apc (k:Nat)(x v:G):ej k x v F H n=oE (x.f F) λ a=>oE (v.f F) λ v=>sI k a v H:=by
 unfold ej oE
 cases x.f F with
 | none=>rfl
 | some a=>dsimp only;cases v.f F<;>rfl
@[simp] theorem atx (x:G):bu x F H n=oE (x.f F) zi:=by unfold bu oE;cases x.f F<;>rfl
@[simp] theorem e1_f (c:AV->bP)(x:G):e1 c x F H n=oE (x.f F) c:=by unfold e1 oE;cases x.f F<;>rfl
@[simp] theorem e2_f (c:AV->AV->bP)(x y:G):e2 c x y F H n=oE (x.f F) λ a=>oE (y.f F) λ b=>c a b:=by
 unfold e2 oE
 cases x.f F with
 | none=>rfl
 | some a=>dsimp only;cases y.f F<;>rfl
@[simp] theorem atd:fM F []=some []:=Eq.trans rfl rfl
@[simp] theorem ao1 (x:G)(r:List G):fM F (x::r)=(x.f F).bind λ a=>(fM F r).bind λ l=>some (a::l):=by
 rw[fM]
 cases x.f F with
 | none=>rfl
 | some a=>cases fM F r<;>rfl
@[simp] theorem atz (f:Fn)(a b:List G):iA f a b F H n=lE (fM F a) λ a=>lE (fM F b) λ b=>.val (.fn f a b):=by
 unfold iA lE
 cases fM F a with
 | none=>rfl
 | some a=>dsimp only;cases fM F b<;>rfl
@[simp] theorem awH (sz jV:Nat)(s x:G):dG sz jV s x F H n=oE (s.f F) λ s=>oE (x.f F) λ x=>lU sz jV n s x H:=by
 unfold dG oE
 cases s.f F with
 | none=>rfl
 | some a=>dsimp only;cases x.f F<;>rfl
def sE (o:Option (Option AV))(k:Option AV->bP):bP:=match o with
 | some v=>k v
 | none=>.fail
@[simp] theorem asb (v:Option AV)(k:Option AV->bP):sE (some v) k=k v:=Eq.trans rfl rfl
@[simp] theorem anG:uk F none=some none:=Eq.trans rfl rfl
@[simp] theorem anF (x:G):uk F (some x)=(x.f F).map some:=Eq.trans rfl rfl
@[simp] theorem ayn (c:Option AV->Option AV->Option AV->AV->bP)(x:G)(lo hi mx:Option G):xO c x lo hi mx F H n=sE (uk F lo) λ lo=>sE (uk F hi) λ hi=>sE (uk F mx) λ mx=>oE (x.f F) λ v=>c lo hi mx v:=by
 unfold xO sE oE
 cases uk F lo with
 | none=>rfl
 | some a=>cases uk F hi with
  | none=>rfl
  | some b=>cases uk F mx with
   | none=>rfl
   | some d=>dsimp only;cases x.f F<;>rfl
end
section
variable {H:Hp}{n:Nat}
@[simp] theorem aoL {α:Type}(t:Tr α)(a b:Nat)(v:Option α):(t.put a v).get b=if b=a then v else t.get b:=Tr.get_put t a b v
def ld1 (k:Option bI)(o:Nat):bP:=match k with
 | some (.cells u z bs t)=>oE (fY u z bs t o) .val
 | _=>.fail
def gM (k:Option bI)(o c:Nat):bP:=match k with
 | some (.cells u z bs t)=>lE (gJ u z bs t o c) λ l=>.val (.agg l c)
 | _=>.fail
@[simp] theorem anX (u z bs t o):ld1 (some (.cells u z bs t)) o=oE (fY u z bs t o) .val:=Eq.trans rfl rfl
@[simp] theorem anV (u z bs t o c):gM (some (.cells u z bs t)) o c=lE (gJ u z bs t o c) λ l=>.val (.agg l c):=Eq.trans rfl rfl
@[simp] theorem anY (o:Nat):ld1 none o=.fail:=Eq.trans rfl rfl
@[simp] theorem anW (o c:Nat):gM none o c=.fail:=Eq.trans rfl rfl
@[simp] theorem ac0 (b o:Nat):eT (.ptr b o) H=ld1 (H.get b) o:=by
 unfold eT ld1 oE;dsimp only
 cases H.get b with
 | none=>rfl
 | some k=>cases k with
  | cells u z bs t=>dsimp only;cases fY u z bs t o<;>rfl
  | _=>rfl
@[simp] theorem al8 (v:AV)(r:List AV):eT (.dp (v::r)) H=.val v:=Eq.trans rfl rfl
@[simp] theorem acZ (k b o:Nat):eo k (.ptr b o) H=gM (H.get b) o k:=by
 unfold eo gM lE;dsimp only
 cases H.get b with
 | none=>rfl
 | some x=>cases x with
  | cells u z bs t=>dsimp only;cases gJ u z bs t o k<;>rfl
  | _=>rfl
theorem zj {k:Nat}{l:List AV}(r:List AV)(h:l.length=k):eo k (.dp (l++r)) H=.val (.agg l k):=by
 unfold eo;dsimp only;have:Nat.ble k (l++r).length=true:=Nat.ble_eq_true_of_le (by simp;omega);rw[this];dsimp only;rw[<-h,take_left]
theorem jG (u:Nat)(bs:List AV)(i:Nat):fY u [] bs .nil i=if i<u then bs[i]? else none:=by
 rw[cW]
 split
 ·simp only[Ov.get_nil];cases bs[i]?<;>rfl
 rfl
@[simp] theorem jP (u:Nat)(bs:List AV)(i:Nat):fY u [] bs .nil i=if i<u then bs[i]? else none:=jG u bs i
theorem F9 (u:Nat)(bs:List AV)(hl:bs.length=u)(o:Nat):∀(k:Nat)(acc:List AV),o+k<=u->oV u [] bs .nil o k acc=some ((bs.drop o).take k++acc)
 | 0,acc,h=>by simp;rfl
 | k+1,acc,h=>by
  show jK (fY u [] bs .nil (o+k)) none (λ v=>oV u [] bs .nil o k (v::acc))=_;rw[jG,if_pos (by omega),getElem?_eq_getElem (by omega)];simp only[yH];rw[F9 u bs hl o k _ (by omega),take_add_one,append_assoc]
  congr 1
  simp[getElem?_drop,getElem?_eq_getElem (show o+k<bs.length by omega)]
@[simp] theorem Og {u:Nat}{bs:List AV}{o k:Nat}(hl:bs.length=u)(h:o+k<=u):gJ u [] bs .nil o k=some ((bs.drop o).take k):=by
 unfold gJ;dsimp only
 split
 ·rename_i hb;simp at hb;obtain⟨rfl,rfl⟩:=hb;simp[<-hl]
 have e:u4 k o bs=some ((bs.drop o).take k):=by
  unfold u4;dsimp only;rw[uM,nn,iJ];have:((bs.drop o).take k).length=k:=by simp;omega
  have hb:Nat.beq ((bs.drop o).take k).length k=true:=by rw[this];exact Nat.beq_refl k
  rw[hb]
 rw[show Nat.ble (Nat.add o k) u=true from Nat.ble_eq_true_of_le h,e];rfl
@[simp high] theorem Rr (u:Nat) (bs:List AV):gJ u [] bs .nil 0 u=some bs:=by
 unfold gJ;simp
def stE (k:Nat)(v:AV)(x:Option bI)(b o:Nat):bP:=match x with
 | some (.cells u z bs t)=>bif Nat.beq v.len k&&Nat.ble (o+k) u&&bm v.cells then .upd (.bg []) b (mi u z bs t v.cells o)else .fail
 | _=>.fail
@[simp] theorem amU (k:Nat)(v:AV) (u z bs t b o):stE k v (some (.cells u z bs t)) b o=bif Nat.beq v.len k&&Nat.ble (o+k) u&&bm v.cells then .upd (.bg []) b (mi u z bs t v.cells o)else .fail:=Eq.trans rfl rfl
@[simp] theorem akm (k b o:Nat)(v:AV):sI k (.ptr b o) v H=stE k v (H.get b) b o:=by
 unfold sI stE;dsimp only
 cases H.get b with
 | none=>rfl
 | some x=>cases x with
  | cells u z bs t=>dsimp only;cases Nat.beq v.len k&&Nat.ble (o+k) u&&bm v.cells<;>rfl
  | _=>rfl
def stL (u:Nat)(bs vs:List AV)(o:Nat)(r:Option (List AV)):bI:=match r with
 | some bs'=>.cells u [] bs' .nil
 | none=>.cells u [] bs (Ov.bO vs o .nil)
@[simp] theorem amT (u:Nat)(bs vs:List AV)(o:Nat)(r:List AV):stL u bs vs o (some r)=.cells u [] r .nil:=Eq.trans rfl rfl
@[simp] theorem ack {u:Nat}{bs vs:List AV}{o:Nat}(h:u<=64):mi u [] bs .nil vs o=stL u bs vs o (patch bs o vs):=by
 unfold mi stL;simp only[Nat.ble_eq_true_of_le h]
 cases patch bs o vs<;>rfl
@[simp] theorem al7 (b o:Nat):zi (.ptr b o)=.val (.ptr b o):=Eq.trans rfl rfl
@[simp] theorem apr (cs:List AV):zi (.dp cs)=.val (.dp cs):=Eq.trans rfl rfl
@[simp] theorem amb (k b o:Nat):wo k (.ptr b o)=.val (.ptr b (o+k)):=by unfold wo;dsimp only;rw[ed]
@[simp] theorem apO (k:Nat)(cs:List AV):wo k (.dp cs)=.val (.dp (cs.drop k)):=Eq.trans rfl rfl
def nE (o:Option AV):bP:=match o with
 | some v=>.val v
 | none=>.fail
@[simp] theorem asD (v:AV):nE (some v)=.val v:=Eq.trans rfl rfl
@[simp] theorem ama (o:Nat)(cs:List AV)(k:Nat):ac2 o (.agg cs k)=nE (cs[o]?):=by
 unfold ac2 nE;dsimp only;rw[pI];cases cs[o]?<;>rfl
@[simp] theorem al' (o k m:Nat)(cs:List AV):ac1 o k (.agg cs m)=bif Nat.ble (o+k) m then .val (.agg ((cs.drop o).take k) k)else .fail:=by
 unfold ac1;dsimp only
 cases Nat.ble (o+k) m<;>rfl
@[simp] theorem apw (i:Nat)(vs:List AV):mD i (.bg vs)=nE (vs[i]?):=by
 unfold mD nE;dsimp only;rw[pI];cases vs[i]?<;>rfl
theorem Bj {cs:List AV}{len sz i:Nat}{k:IntKind}(h:i<len):cO sz (.ds cs len sz) (.int k (i:Int))=.val (.dp (cs.drop (i*sz))):=by
 show (match Nat.blt i len&&Nat.beq sz sz with
  | true=>bP.val (.dp (cs.drop (i*sz)))
  | false=>.fail)=_
 rw[show Nat.blt i len=true from Nat.ble_eq_true_of_le h,Nat.beq_refl];rfl
theorem lT {b o len sz i:Nat}{k:IntKind}(h:i<len):cO sz (.sl b o len sz) (.int k (i:Int))=.val (.ptr b (o+i*sz)):=by
 show (match Nat.blt i len&&Nat.beq sz sz with
  | true=>iL (o+i*sz) λ o'=>bP.val (.ptr b o')
  | false=>.fail)=_
 rw[show Nat.blt i len=true from Nat.ble_eq_true_of_le h,Nat.beq_refl];exact ed _ _
@[simp] theorem apu (cs:List AV)(len sz:Nat):aX (.ds cs len sz)=.val (.int .i64 (len:Int)):=Eq.trans rfl rfl
@[simp] theorem apt (b o len sz:Nat):aX (.sl b o len sz)=.val (.int .i64 (len:Int)):=Eq.trans rfl rfl
@[simp] theorem al_:aX (.ak (.slice none 0 0))=.val (.int .i64 0):=Eq.trans rfl rfl
@[simp] theorem al9 (l:List Nat):my (.str l)=.val (.int .i64 (l.length:Int)):=by unfold my;dsimp only;rw[cr];rfl
@[simp] theorem ar5 (k:IntKind)(i:Int):lq k i=.val (.int k i):=by unfold lq;rw[oq]
@[simp] theorem apN:aV .add=Gu:=Eq.trans rfl rfl
@[simp] theorem apJ:aV .lss=oM .lss:=Eq.trans rfl rfl
@[simp] theorem apK:aV .leq=oM .leq:=Eq.trans rfl rfl
@[simp] theorem apL:aV .gtr=oM .gtr:=Eq.trans rfl rfl
@[simp] theorem apM:aV .geq=oM .geq:=Eq.trans rfl rfl
@[simp] theorem apD:aV .sub=xM (iP .sub):=Eq.trans rfl rfl
@[simp] theorem apI:aV .mul=xM (iP .mul):=Eq.trans rfl rfl
@[simp] theorem apH:aV .quo=xM (iP .quo):=Eq.trans rfl rfl
@[simp] theorem apG:aV .rem=xM (iP .rem):=Eq.trans rfl rfl
@[simp] theorem apF:aV .shl=sJ .shl:=Eq.trans rfl rfl
@[simp] theorem apE:aV .shr=sJ .shr:=Eq.trans rfl rfl
@[simp] theorem aoc (c:IntKind->Int->Int->bP)(k:IntKind)(a b:Int):xM c (.int k a) (.int k b)=c k a b:=by simp[xM]
@[simp] theorem akn (k:IntKind)(a b:Int):iP .sub k a b=.val (.int k (k.wrap (a - b))):=by simp[iP]
@[simp] theorem ako (k:IntKind)(a b:Int):iP .mul k a b=.val (.int k (k.wrap (a*b))):=by simp[iP]
@[simp] theorem apP (k:IntKind)(a b:Int):Gu (.int k a) (.int k b)=.val (.int k (k.wrap (a+b))):=by simp[Gu]
@[simp] theorem apz (k:IntKind)(a b:Int):oM .lss (.int k a) (.int k b)=.val (.bool (decide (a<b))):=by simp[oM]
@[simp] theorem apA (k:IntKind)(a b:Int):oM .leq (.int k a) (.int k b)=.val (.bool (decide (a<=b))):=by simp[oM]
@[simp] theorem apB (k:IntKind)(a b:Int):oM .gtr (.int k a) (.int k b)=.val (.bool (decide (b<a))):=by simp[oM]
@[simp] theorem apC (k:IntKind)(a b:Int):oM .geq (.int k a) (.int k b)=.val (.bool (decide (b<=a))):=by simp[oM]
@[simp] theorem atJ (k:IntKind)(a b:Int):bl false .num (.int k a) (.int k b)=.val (.bool (decide (a=b))):=by simp only[bl,mq,if_true];by_cases h:a=b<;>simp[h]
@[simp] theorem atH (k:IntKind)(a b:Int):bl true .num (.int k a) (.int k b)=.val (.bool (decide (a≠b))):=by
 simp only[bl,mq,if_true];by_cases h:a=b<;>simp[h]
@[simp] theorem atI (a b:List Nat):bl false .num (.str a) (.str b)=.val (.bool (decide (a=b))):=by simp only[bl,mq,gG];by_cases h:a=b<;>simp[h]
@[simp] theorem atG (a b:List Nat):bl true .num (.str a) (.str b)=.val (.bool (decide (a≠b))):=by simp only[bl,mq,gG];by_cases h:a=b<;>simp[h]
@[simp] theorem apx (a b:Bool):bl false .bool (.bool a) (.bool b)=.val (.bool (a == b)):=by simp[bl,mq]
@[simp] theorem aps (a b:Bool):bl true .bool (.bool a) (.bool b)=.val (.bool (a != b)):=by cases a<;>cases b<;>rfl
def xT (b:Bool)(r:Option Bool):Option Bool:=if b then r else some false
@[simp] theorem amn (b c:Bool):xT b (some c)=some (b&&c):=by cases b<;>rfl
@[simp] theorem acR:cg [] [] []=some true:=Eq.trans rfl rfl
@[simp] theorem al2 (qs:List LK)(k:IntKind)(a b:Int)(x y:List AV):cg (.i::qs) (.int k a::x) (.int k b::y)=xT (decide (a=b)) (cg qs x y):=by
 by_cases h:a=b
 ·simp[cg,e9,h,xT]
 have:(a == b)=false:=by simpa using h
 simp only[cg,e9,if_true,this,h,xT,decide_false];rfl
@[simp] theorem al1 (qs:List LK)(a b:List Nat)(x y:List AV):cg (.s::qs) (.str a::x) (.str b::y)=xT (decide (a=b)) (cg qs x y):=by
 by_cases h:a=b
 ·simp[cg,e9,gG,h,xT]
 have:(a == b)=false:=by simpa using h
 simp only[cg,e9,gG,this,h,xT,decide_false];rfl
@[simp] theorem al3 (qs:List LK)(a b:Bool)(x y:List AV):cg (.b::qs) (.bool a::x) (.bool b::y)=xT (decide (a=b)) (cg qs x y):=by
 by_cases h:a=b
 ·simp[cg,e9,h,xT]
 have:(a == b)=false:=by simpa using h
 simp only[cg,e9,this,h,xT,decide_false];rfl
def bE (neg:Bool)(r:Option Bool):bP:=match r with
 | some b=>.val (.bool (neg != b))
 | none=>.fail
@[simp] theorem atN (neg b:Bool):bE neg (some b)=.val (.bool (neg != b)):=Eq.trans rfl rfl
@[simp] theorem apy (neg:Bool)(ks:List LK)(a b:List AV)(n m:Nat):rq neg ks (.agg a n) (.agg b m)=if n=ks.length/\m=ks.length then bE neg (cg ks a b)else .fail:=by
 unfold rq bE;dsimp only;rw[nV,nV]
 by_cases h:n=ks.length/\m=ks.length
 ·rw[if_pos h];simp only[h.1,h.2,decide_true,Bool.and_self];cases cg ks a b<;>rfl
 rw[if_neg h]
 have:(decide (n=ks.length)&&decide (m=ks.length))=false:=by
  by_cases h1:n=ks.length<;>by_cases h2:m=ks.length<;>simp_all
 rw[this]
@[simp] theorem atF (b:Bool):fa .not (.bool b)=.val (.bool (!b)):=Eq.trans rfl rfl
theorem qJ {ce:Ce}:∀ {m:List Dm}{H H':Hp}{n:Nat},ez m H=some H'->jI ce m .ret H n=.mk .ret H' n
 | [],H,H',n,h=>by simp only[ez]at h;injection h with h;subst h;simp only[jI]
 | .cu k::m,H,H',n,h=>by
  simp only[ez]at h
  split at h
  ·rename_i hk;simp only[jI,hk];exact qJ h
  cases h
 | .fn _ _::m,H,H',n,h=>by simp[ez]at h
@[simp] theorem aiz:ez [] H=some H:=Eq.trans rfl rfl
def aP (t:Nat):Fr->Hp->Option AV:=λ F _=>(aC t).f F
def vE (r:bP):Option AV:=match r with
 | .val v=>some v
 | _=>none
@[simp] theorem aum (v:AV):vE (.val v)=some v:=Eq.trans rfl rfl
def dm (a k:Nat):Fr->Hp->Option AV:=λ F H=>match (aC a).f F with
 | some v=>match eo k v H with
  | .val v=>some v
  | _=>none
 | none=>none
def PS (a:Nat):Fr->Hp->Option AV:=λ F H=>match (aC a).f F with
 | some v=>match eT v H with
  | .val v=>some v
  | _=>none
 | none=>none
variable {F:Fr}
@[simp] theorem ati:ux F H []=some []:=Eq.trans rfl rfl
@[simp] theorem ao5 (x:Fr->Hp->Option AV)(r:List (Fr->Hp->Option AV)):ux F H (x::r)=(x F H).bind λ v=>(ux F H r).bind λ l=>some (v::l):=by
 rw[ux]
 cases x F H with
 | none=>rfl
 | some a=>cases ux F H r<;>rfl
@[simp] theorem auy (t:Nat):aP t F H=F.get t:=by simp[aP]
@[simp] theorem asi (a k:Nat):dm a k F H=(F.get a).bind λ v=>vE (eo k v H):=by
 simp only[dm,zT]
 cases F.get a with
 | none=>rfl
 | some v=>dsimp only [Option.bind];cases eo k v H<;>rfl
@[simp] theorem asj (a:Nat):PS a F H=(F.get a).bind λ v=>vE (eT v H):=by
 simp only[PS,zT]
 cases F.get a with
 | none=>rfl
 | some v=>dsimp only [Option.bind];cases eT v H<;>rfl
@[simp] theorem am8 (v:AV):t_ [v]=v:=Eq.trans rfl rfl
@[simp] theorem am9:t_ []=.bg []:=Eq.trans rfl rfl
@[simp] theorem am7 (v u:AV)(l:List AV):t_ (v::u::l)=.bg (v::u::l):=Eq.trans rfl rfl
end
section
variable {P:Program}{ce:Ce}
@[simp] theorem u0 {α:Type}(i:Nat)(t:Tr α):Tr.bO [] i t=t:=Eq.trans rfl rfl
theorem enter {g:FuncId}{af:AF}{args:List AV}{H:Hp}{n:Nat}{R:AV->Hp->Nat->Prop}(h:J7 P g=some af) (hl:args.length<=af.nt)
  (hb:∀F:Fr,(∀i,F.get i=args[i]?)->Ev (af.code.f ce F H n []) (iR af.res R)):EvC (jl P ce g args H n) R:=by
 unfold jl;rw[h];dsimp only;rw[cr,Nat.ble_eq_true_of_le hl];dsimp only
 have:=hb (Tr.bO args 0 .nil) λ i=>by
  rw[Tr.bG]
  split
  ·simp
  rw[getElem?_eq_none (by omega)];rfl
 cases hr:af.code.f ce (Tr.bO args 0 .nil) H n []with
 | fail=>rw[hr]at this;exact this
 | mk o F1 H1 n1 m1 =>
  rw[hr]at this
  have key:(o=.normal∨o=.ret)->EvC (kC af.res F1 (jI ce m1 .ret H1 n1)) R:=by
   intro ho
   have:rM (ez m1 H1) λ H'=>rM (ux F1 H' af.res) λ vs=>R (t_ vs) H' n1:=by
    rcases ho with rfl | rfl
    ·simpa using this
    simpa using this
   cases hu:ez m1 H1 with
   | none=>rw[hu]at this;exact absurd this id
   | some H2 =>
    rw[hu]at this;rw[qJ hu];unfold kC;dsimp only;simp only[qR]at this
    cases he:ux F1 H2 af.res with
    | none=>rw[he]at this;exact this
    | some vs=>rw[he]at this;exact this
  cases o with
  | normal=>exact key (.inl rfl)
  | ret=>exact key (.inr rfl)
  | exit i=>exact this
  | panic v=>exact absurd this id
end
end Go.Abs
namespace Go.Abs
open List
inductive KO where
 | xN (e:Eff)
 | call (g:G) (as:List G)
 | bad
 | iM (e:Eff)
 | raw (f:Pd->K->K)
structure GO where
 g:Option (G×Bool)
 pd:Pd
 op:KO
def inO (pd:Pd)(o:KO)(next:K):K:=match o with
 | .xN e=>opK pd e next
 | .call g as=>rm pd g as next
 | .bad=>gF
 | .iM _=>gF
 | .raw f=>f pd next
def goK (o:Option GO)(next:K):K:=match o with
 | some ⟨none,pd,k⟩=>inO pd k next
 | some ⟨some (g,b),pd,k⟩=>pQ g b (inO pd k next) (Qx pd next)
 | none=>gF
def qC:List (Option GO)->K
 | []=>Eg
 | o::r=>goK o (qC r)
def xL (P:Program) (o:Oper):KO:=match o.op with
 | .call {callee:=.value f,args,argTypes:=_}=>match dN P o with
  | some e=>.xN e
  | none=>match dM f,jv args.toList with
   | some g,some as=>.call g as
   | _,_=>.bad
 | .call {callee:=.invoke x name,args,argTypes:=_}=>match dM x,jv args.toList with
  | some g,some as=>.call (FO P name g) as
  | _,_=>.bad
 | .panic x=>match dM x with
  | some g=>.raw λ _ _=>Ad g
  | none=>.bad
 | .defer {callee:=.value f,args,argTypes:=_}=>match dM f,jv args.toList with
  | some g,some as=>.raw λ pd next=>AZ pd g as next
  | _,_=>.bad
 | _=>match dN P o with
  | some e=>.xN e
  | none=>.bad
def koM (P:Program) (o:Oper):KO:=match o.op with
 | .call {callee:=.value f,args,argTypes:=_}=>match dN P o with
  | some e=>.xN e
  | none=>match dM f,jv args.toList with
   | some g,some as=>.call g as
   | _,_=>.bad
 | .call {callee:=.invoke x name,args,argTypes:=_}=>match dM x,jv args.toList with
  | some g,some as=>.call (FO P name g) as
  | _,_=>.bad
 | _=>match dN P o with
  | some e=>.xN e
  | none=>.bad
def uf (P:Program) (nt:Nat) (ops:Array Oper) (o:Oper):Option GO:=match eS nt o.dst with
 | none=>none
 | some pd=>match o.guard with
  | none=>some ⟨none,pd,xL P o⟩
  | some (j,b)=>match (ops[j]?).bind (·.dst)with
   | some d=>some ⟨some (aC d,b),pd,xL P o⟩
   | none=>none
theorem zd (P:Program)(pd:Pd)(o:Oper)(next:K):sF P pd o next=inO pd (xL P o) next:=by
 unfold sF xL
 split
 ·rename_i ho;rw[ho]
  cases dN P o with
  | some e=>rfl
  | none=>dsimp only;split<;>simp_all [inO]
 ·split<;>simp_all [inO]
 ·split<;>simp_all [inO]
 ·split<;>simp_all [inO]
 split<;>simp_all [inO]
theorem Gm (P:Program)(nt:Nat)(ops:Array Oper)(o:Oper)(next:K):ri P nt ops o next=goK (uf P nt ops o) next:=by
 unfold ri uf
 cases eS nt o.dst with
 | none=>rfl
 | some pd =>
  dsimp only
  cases o.guard with
  | none=>exact zd ..
  | some x =>
   obtain⟨j,b⟩:=x;dsimp only
   cases (ops[j]?).bind (·.dst)with
   | none=>rfl
   | some d=>simp only[goK,zd]
theorem we (P:Program)(nt:Nat)(ops:Array Oper):∀l,qZ P nt ops l=qC (l.map (uf P nt ops))
 | []=>rfl
 | o::l=>by simp only[qZ,map_cons,qC,Gm,we P nt ops l]
structure RO where
 rs:RS
 g:Option (G×Bool)
 pd:Pd
 op:KO
 cnt:Option Nat
def DT (o:RO)(next:KR):KR:=match o.op,o.cnt with
 | .xN e,some c=>opR o.rs o.pd e c next
 | .xN e,none=>Dx o.rs o.pd e next
 | .call g as,none=>iB o.rs o.pd g as next
 | .iM e,none=>Rw o.rs o.pd e next
 | _,_=>iz
def aaD (o:RO)(next:KR):KR:=match o.cnt with
 | some _=>NN o.pd next
 | none=>NP o.pd next
def roR (o:Option RO) (next:KR):KR:=match o with
 | some o=>match o.g with
  | none=>DT o next
  | some (g,b)=>vF o.rs g b (DT o next) (aaD o next)
 | none=>iz
def fH:List (Option RO)->KR
 | []=>ajW
 | o::r=>roR o (fH r)
def Nl (_P:Program) (nt:Nat) (ops:Array Oper) (i:Nat) (k:Oper->KO) (cnt:Option Nat):Option RO:=match ops[i]? with
 | some o=>match eS nt o.dst with
  | some pd=>match o.guard with
   | none=>some ⟨cF (slotsOf ops o),none,pd,k o,cnt⟩
   | some (j,b)=>match (ops[j]?).bind (·.dst)with
    | some d=>some ⟨cF (slotsOf ops o),some (aC d,b),pd,k o,cnt⟩
    | none=>none
  | none=>none
 | none=>none
def koR (P:Program)(o:Oper):KO:=match dN P o with
 | some e=>.xN e
 | none=>.bad
def koF (P:Program) (o:Oper):KO:=match o.op with
 | .store _ _ _=>match dN P o with
  | some e=>.iM e
  | none=>.bad
 | _=>.bad
def roF (P:Program) (nt:Nat) (ops:Array Oper) (i:Nat):Option RO:=match ops[i]? with
 | some o=>match eS nt o.dst with
  | some pd=>match o.guard with
   | none=>some ⟨cF (slotsOf ops o),none,pd,koF P o,none⟩
   | some _=>none
  | none=>none
 | none=>none
def kB (P:Program)(nt:Nat)(ops:Array Oper):List eL->Nat->List (Option RO)
 | [],_=>[]
 | .op i e::l,j=>Nl P nt ops i (koR P) (some (Nat.succ (Nat.sub j e)))::kB P nt ops l j
 | .mod i::l,j=>Nl P nt ops i (koM P) none::kB P nt ops l (Nat.succ j)
 | .Di i::l,j=>Nl P nt ops i (koR P) (some 0)::kB P nt ops l j
 | .iM i::l,j=>roF P nt ops i::kB P nt ops l j
theorem ajo (P:Program)(rs:RS)(pd:Pd)(o:Oper)(next:KR)(g:Option (G×Bool)):inF P rs pd o next=DT ⟨rs,g,pd,koF P o,none⟩ next:=by
 unfold inF DT koF;dsimp only
 split
 ·split<;>simp_all
 split<;>simp_all
theorem AG (P:Program)(rs:RS)(pd:Pd)(o:Oper)(c:Nat)(next:KR)(g:Option (G×Bool)):inR P rs pd o c next=DT ⟨rs,g,pd,koR P o,some c⟩ next:=by
 unfold inR DT koR
 cases dN P o<;>rfl
theorem Ra (P:Program)(rs:RS)(pd:Pd)(o:Oper)(next:KR)(g:Option (G×Bool)):inM P rs pd o next=DT ⟨rs,g,pd,koM P o,none⟩ next:=by
 unfold inM DT koM;dsimp only
 split
 ·rename_i ho;rw[ho]
  cases dN P o with
  | some e=>rfl
  | none=>dsimp only;split<;>simp_all
 ·split<;>simp_all
 split<;>simp_all
theorem iZ (P:Program) (nt:Nat) (ops:Array Oper):∀l j,fO P nt ops l j=fH (kB P nt ops l j)
 | [],_=>rfl
 | .op i e::l,j=>by
  simp only[fO,kB,fH,Nl]
  cases ops[i]? with
  | none=>rfl
  | some o =>
   dsimp only
   cases eS nt o.dst with
   | none=>rfl
   | some pd =>
    dsimp only [guarded]
    cases o.guard with
    | none=>dsimp only [roR];rw[iZ P nt ops l j,AG (g:=none)]
    | some x =>
     obtain⟨q,b⟩:=x;dsimp only
     cases (ops[q]?).bind (·.dst)with
     | none=>rfl
     | some d=>dsimp only [roR,aaD];rw[iZ P nt ops l j,AG (g:=some (aC d,b))]
 | .mod i::l,j=>by
  simp only[fO,kB,fH,Nl]
  cases ops[i]? with
  | none=>rfl
  | some o =>
   dsimp only
   cases eS nt o.dst with
   | none=>rfl
   | some pd =>
    dsimp only [guarded]
    cases o.guard with
    | none=>dsimp only [roR];rw[iZ P nt ops l (Nat.succ j),Ra (g:=none)]
    | some x =>
     obtain⟨q,b⟩:=x;dsimp only
     cases (ops[q]?).bind (·.dst)with
     | none=>rfl
     | some d=>dsimp only [roR,aaD];rw[iZ P nt ops l (Nat.succ j),Ra (g:=some (aC d,b))]
 | .Di i :: l,j=>by
  simp only[fO,kB,fH,Nl]
  cases ops[i]? with
  | none=>rfl
  | some o =>
   dsimp only
   cases eS nt o.dst with
   | none=>rfl
   | some pd =>
    dsimp only [guarded]
    cases o.guard with
    | none=>dsimp only [roR];rw[iZ P nt ops l j,AG (g:=none)]
    | some x =>
     obtain⟨q,b⟩:=x;dsimp only
     cases (ops[q]?).bind (·.dst)with
     | none=>rfl
     | some d=>dsimp only [roR,aaD];rw[iZ P nt ops l j,AG (g:=some (aC d,b))]
 | .iM i::l,j=>by
  simp only[fO,kB,fH,roF]
  cases ops[i]? with
  | none=>rfl
  | some o =>
   dsimp only
   cases eS nt o.dst with
   | none=>rfl
   | some pd =>
    dsimp only
    cases o.guard with
    | none=>dsimp only [roR];rw[iZ P nt ops l j,ajo (g:=none)]
    | some x=>rfl
inductive CT where
 | reg (l:List (Option GO))
 | fi (ds:List Nat) (l:List (Option RO))
 | seq (a b:CT)
 | cond (g:G) (a b:CT)
 | block (i:Nat) (b:CT)
 | loop (b:CT)
 | exit (i:Nat)
 | ret
 | skip
 | range (nt:Nat) (g:G) (ps:List Nat) (a b:Code)
 | bad
 | raw (k:K)
def qD:CT->K
 | .reg l=>qC l
 | .fi ds l=>Eh ds (fH l)
 | .seq a b=>Fu (qD a) (qD b)
 | .cond g a b=>zb g (qD a) (qD b)
 | .block i b=>sK i (qD b)
 | .loop b=>yO (qD b)
 | .exit i=>J3 i
 | .ret=>Z6
 | .skip=>Eg
 | .range nt g ps a b=>zX nt g ps a b
 | .bad=>gF
 | .raw k=>k
def aiJ (P:Program)(nt:Nat)(ops:Array Oper)(pl:List eL)(ok:Bool):CT:=match ok with
 | true=>.fi (gW ops.toList) (kB P nt ops pl 0)
 | false=>.bad
theorem Z8 (P:Program)(nt:Nat)(ops:Array Oper)(pl:List eL)(ok:Bool):Z9 P nt ops pl ok=qD (aiJ P nt ops pl ok):=by
 cases ok with
 | false=>rfl
 | true=>simp only[Z9,aiJ,qD,Eh,iZ]
def e_ (P:Program) (nt:Nat) (rd:Bool):Code->CT
 | .skip=>.skip
 | .region _ ops d=>bif d then (bif P.follows .mixedOrders then aiJ P nt ops (NG (k_ ops.toList 0 .nil) ops.toList) (ui (k_ ops.toList 0 .nil) ops (NG (k_ ops.toList 0 .nil) ops.toList))else .bad)else (bif rd&&dX ops.toList then .bad else .reg (ops.toList.map (uf P nt ops)))
 | .seq a b=>.seq (e_ P nt rd a) (e_ P nt rd b)
 | .cond c a b=>match dM c with
  | some x=>.cond x (e_ P nt rd a) (e_ P nt rd b)
  | none=>.bad
 | .block id b=>.block id (e_ P nt rd b)
 | .loop (.seq a rest)=>match yN a with
  | some (x,d,ops,os)=>bif rd&&dX os then .bad else .raw (aaZ P nt x d ops os (comp P nt rd rest))
  | none=>.loop (.seq (e_ P nt rd a) (e_ P nt rd rest))
 | .loop b=>.loop (e_ P nt rd b)
 | .exit id=>.exit id
 | .ret=>.ret
 | .scope b=>e_ P nt rd b
 | .label _=>.skip
 | .rangeFunc f ps a b=>match dM f with
  | some x=>bif rd then .bad else .range nt x ps.toList a b
  | none=>.bad
 | _=>.bad
theorem kg (P:Program)(nt:Nat)(rd:Bool):∀c,comp P nt rd c=qD (e_ P nt rd c)
 | .skip=>rfl
 | .region _ ops d=>by
  simp only[comp,e_,J6,Z8,we]
  cases d with
  | false=>simp only[cond_false];cases (rd&&dX ops.toList)<;>rfl
  | true=>simp only[cond_true];cases P.follows .mixedOrders<;>rfl
 | .seq a b=>by simp only[comp,e_,qD,kg P nt rd a,kg P nt rd b]
 | .cond c a b=>by simp only[comp,e_,kg P nt rd a,kg P nt rd b];cases dM c<;>rfl
 | .block id b=>by simp only[comp,e_,qD,kg P nt rd b]
 | .loop b=>by
  have ib:=kg P nt rd b
  cases b with
  | seq a rest =>
   simp only[comp,e_];simp only[comp,e_,qD]at ib
   cases yN a with
   | none=>simp only[qD,ib]
   | some y=>obtain⟨x,d,ops,os⟩:=y;dsimp only;cases (rd&&dX os)<;>rfl
  | _=>simp only[comp,e_,qD,ib]<;>(try simp only[comp,e_,qD]at ib;simp only[ib])
 | .exit id=>rfl
 | .ret=>rfl
 | .rangeFunc f ps a b=>by
  simp only[comp,e_]
  cases dM f with
  | none=>rfl
  | some x=>dsimp only;cases rd<;>rfl
 | .scope b=>by simp only[comp,e_,kg P nt rd b]
 | .label _=>rfl
 | .goto _=>rfl
 | .refuse _=>rfl
structure CF where
 res:List (Fr->Hp->Option AV)
 code:CT
 nt:Nat
def cG (P:Program) (g:FuncId):Option CF:=match P.funcs[g]? with
 | some fn=>match fn.body with
  | some b => match fn.name == "runtime.NumGoroutine" with
   | true=>none
   | false=>match ji P fn.results.toList with
    | some r=>some {res:=r,code:=e_ P fn.ntmps false b,nt:=fn.ntmps}
    | none=>none
  | none=>none
 | none=>none
section
variable {ce:Ce}{F:Fr}{H:Hp}{n:Nat}{m:List Dm}{Q:QA}{Hs:List Hp}
@[simp] theorem asL (l:List (Option GO)):qD (.reg l)=qC l:=Eq.trans rfl rfl
@[simp] theorem asM (ds:List Nat)(l:List (Option RO)):qD (.fi ds l)=Eh ds (fH l):=Eq.trans rfl rfl
@[simp] theorem asJ (a b:CT):qD (.seq a b)=Fu (qD a) (qD b):=Eq.trans rfl rfl
@[simp] theorem an6 (g:G)(a b:CT):qD (.cond g a b)=zb g (qD a) (qD b):=Eq.trans rfl rfl
@[simp] theorem alO (i:Nat)(b:CT):qD (.block i b)=sK i (qD b):=Eq.trans rfl rfl
@[simp] theorem an4 (b:CT):qD (.loop b)=yO (qD b):=Eq.trans rfl rfl
@[simp] theorem an5 (i:Nat):qD (.exit i)=J3 i:=Eq.trans rfl rfl
@[simp] theorem asK:qD .ret=Z6:=Eq.trans rfl rfl
@[simp] theorem an3:qD .skip=Eg:=Eq.trans rfl rfl
def oP (pd:Pd)(e:Eff):Option GO:=some ⟨none,pd,.xN e⟩
def gP (g:G)(b:Bool)(pd:Pd)(e:Eff):Option GO:=some ⟨some (g,b),pd,.xN e⟩
def cP (pd:Pd)(f:FuncId)(as:List G):Option GO:=some ⟨none,pd,.call (aF (.fn (.func f) [] [])) as⟩
def eK (g:G)(b:Bool)(pd:Pd)(f:FuncId)(as:List G):Option GO:=some ⟨some (g,b),pd,.call (aF (.fn (.func f) [] [])) as⟩
def vP (pd:Pd)(g:G)(as:List G):Option GO:=some ⟨none,pd,.call g as⟩
@[simp] theorem ao3:Ev ((qC []).f ce F H n m) Q=Q .normal F H n m:=propext Iff.rfl
def EvO (x:bP)(pd:Pd)(r:List (Option GO))(ce:Ce)(F:Fr)(H:Hp)(n:Nat)(m:List Dm)(Q:QA):Prop:=yd x H n λ v H' n'=>Ev ((qC r).f ce (pd.f v F) H' n' m) Q
def acg (x:iq)(pd:Pd)(r:List (Option GO))(ce:Ce)(F:Fr)(m:List Dm)(Q:QA):Prop:=EvC x λ v H' n'=>Ev ((qC r).f ce (pd.f v F) H' n' m) Q
def ZH (vs:Option (List AV))(f:FuncId)(pd:Pd)(r:List (Option GO))(ce:Ce)(F:Fr)(H:Hp)(n:Nat)(m:List Dm)(Q:QA):Prop:=rM vs λ vs=>acg (ce.call f vs H n) pd r ce F m Q
def OL (v:Option AV)(b:Bool)(pd:Pd)(e:Eff)(r:List (Option GO))(ce:Ce)(F:Fr)(H:Hp)(n:Nat)(m:List Dm)(Q:QA):Prop:=eZ v b (EvO (e F H n) pd r ce F H n m Q) (Ev ((qC r).f ce (pd.f (.bg []) F) H n m) Q)
def OO (v:Option AV)(b:Bool)(pd:Pd)(f:FuncId)(as:List G)(r:List (Option GO))(ce:Ce)(F:Fr)(H:Hp)(n:Nat)(m:List Dm)(Q:QA):Prop:=eZ v b (ZH (fM F as) f pd r ce F H n m Q) (Ev ((qC r).f ce (pd.f (.bg []) F) H n m) Q)
@[simp] theorem ao6 (pd:Pd)(r:List (Option GO)):EvO .fail pd r ce F H n m Q=False:=propext Iff.rfl
@[simp] theorem atj (v:AV)(pd:Pd)(r:List (Option GO)):EvO (.val v) pd r ce F H n m Q=Ev ((qC r).f ce (pd.f v F) H n m) Q:=propext Iff.rfl
@[simp] theorem atl (v:AV)(k:bI)(pd:Pd)(r:List (Option GO)):EvO (.new v k) pd r ce F H n m Q=Ev ((qC r).f ce (pd.f v F) (H.put n (some k)) (n+1) m) Q:=propext Iff.rfl
@[simp] theorem atk (v:AV)(b:Nat)(k:bI)(pd:Pd)(r:List (Option GO)):EvO (.upd v b k) pd r ce F H n m Q=Ev ((qC r).f ce (pd.f v F) (H.put b (some k)) n m) Q:=propext Iff.rfl
@[simp] theorem awz (v:AV)(b:Nat)(k:bI)(pd:Pd)(r:List (Option GO)):EvO (.mv v b k) pd r ce F H n m Q=Ev ((qC r).f ce (pd.f v F) ((H.put b none).put n (some k)) (n+1) m) Q:=propext Iff.rfl
@[simp] theorem atD (v:AV)(H':Hp)(n':Nat)(pd:Pd)(r:List (Option GO)):acg (.mk v H' n') pd r ce F m Q=Ev ((qC r).f ce (pd.f v F) H' n' m) Q:=propext Iff.rfl
@[simp] theorem aml (vs:List AV)(f:FuncId)(pd:Pd)(r:List (Option GO)):ZH (some vs) f pd r ce F H n m Q=acg (ce.call f vs H n) pd r ce F m Q:=propext Iff.rfl
@[simp] theorem av3 (pd:Pd)(e:Eff)(r:List (Option GO)):OL (some (.bool true)) true pd e r ce F H n m Q=EvO (e F H n) pd r ce F H n m Q:=propext Iff.rfl
@[simp] theorem av4 (pd:Pd)(e:Eff)(r:List (Option GO)):OL (some (.bool false)) true pd e r ce F H n m Q=Ev ((qC r).f ce (pd.f (.bg []) F) H n m) Q:=propext Iff.rfl
@[simp] theorem as4 (pd:Pd)(e:Eff)(r:List (Option GO)):OL (some (.bool true)) false pd e r ce F H n m Q=Ev ((qC r).f ce (pd.f (.bg []) F) H n m) Q:=propext Iff.rfl
@[simp] theorem as5 (pd:Pd)(e:Eff)(r:List (Option GO)):OL (some (.bool false)) false pd e r ce F H n m Q=EvO (e F H n) pd r ce F H n m Q:=propext Iff.rfl
@[simp] theorem aoG (l:List AV)(b:Bool)(pd:Pd)(e:Eff)(r:List (Option GO)):OL (some (.bg l)) b pd e r ce F H n m Q=Ev ((qC r).f ce (pd.f (.bg []) F) H n m) Q:=propext Iff.rfl
@[simp] theorem av9 (pd:Pd)(f:FuncId)(as:List G)(r:List (Option GO)):OO (some (.bool true)) true pd f as r ce F H n m Q=ZH (fM F as) f pd r ce F H n m Q:=propext Iff.rfl
@[simp] theorem av_ (pd:Pd)(f:FuncId)(as:List G)(r:List (Option GO)):OO (some (.bool false)) true pd f as r ce F H n m Q=Ev ((qC r).f ce (pd.f (.bg []) F) H n m) Q:=propext Iff.rfl
@[simp] theorem as_ (pd:Pd)(f:FuncId)(as:List G)(r:List (Option GO)):OO (some (.bool true)) false pd f as r ce F H n m Q=Ev ((qC r).f ce (pd.f (.bg []) F) H n m) Q:=propext Iff.rfl
@[simp] theorem ata (pd:Pd)(f:FuncId)(as:List G)(r:List (Option GO)):OO (some (.bool false)) false pd f as r ce F H n m Q=ZH (fM F as) f pd r ce F H n m Q:=propext Iff.rfl
@[simp] theorem aoJ (l:List AV)(b:Bool)(pd:Pd)(f:FuncId)(as:List G)(r:List (Option GO)):OO (some (.bg l)) b pd f as r ce F H n m Q=Ev ((qC r).f ce (pd.f (.bg []) F) H n m) Q:=propext Iff.rfl
@[simp] theorem ayh (pd:Pd)(e:Eff)(r:List (Option GO)):Ev ((qC (oP pd e::r)).f ce F H n m) Q=EvO (e F H n) pd r ce F H n m Q:=acQ pd e (qC r)
@[simp] theorem ayj (g:G)(b:Bool)(pd:Pd)(e:Eff)(r:List (Option GO)):Ev ((qC (gP g b pd e::r)).f ce F H n m) Q=OL (g.f F) b pd e r ce F H n m Q:=ajU g b pd e (qC r)
@[simp] theorem ayl (pd:Pd)(f:FuncId)(as:List G)(r:List (Option GO)):Ev ((qC (cP pd f as::r)).f ce F H n m) Q=ZH (fM F as) f pd r ce F H n m Q:=RF pd f as (qC r)
@[simp] theorem awv (g:G)(b:Bool)(pd:Pd)(f:FuncId)(as:List G)(r:List (Option GO)):Ev ((qC (eK g b pd f as::r)).f ce F H n m) Q=OO (g.f F) b pd f as r ce F H n m Q:=abk g b pd f as (qC r)
theorem ayf {pd:Pd}{g:G}{as:List G}{r:List (Option GO)}{f:FuncId}{first cap vs:List AV}(hg:g.f F=some (.fn (.func f) first cap))(ha:fM F as=some vs):
  Ev ((qC (vP pd g as::r)).f ce F H n m) Q=acg (ce.call f (first++(vs++cap)) H n) pd r ce F m Q:=abl hg ha
theorem lW (e:Eff)(F:Fr)(n:Nat)(A:Hp)(As:List Hp):fb e F n 1 (A::As)=vE (e F A n):=by
 simp only[fb];unfold vE
 cases e F A n<;>rfl
def ZQ (v:AV)(u:Option AV):Option AV:=u.bind λ u=>if Gy v u=true then some u else none
theorem iQ (e:Eff)(F:Fr)(n k:Nat)(A:Hp)(As:List Hp):fb e F n (k+2) (A::As)=(vE (e F A n)).bind λ v=>ZQ v (fb e F n (k+1) As):=by
 rw[fb];unfold vE ZQ
 cases e F A n with
 | val v =>
  dsimp only [Option.bind]
  cases fb e F n (k+1) As with
  | none=>rfl
  | some u=>dsimp only;cases Gy v u<;>rfl
 | _=>rfl
@[simp] theorem ap4 (e:Eff)(F:Fr)(n:Nat)(A:Hp)(As:List Hp):fb e F n 1 (A::As)=vE (e F A n):=lW e F n A As
@[simp] theorem ap3 (e:Eff)(F:Fr)(n:Nat)(A B:Hp)(As:List Hp):fb e F n 2 (A::B::As)=(vE (e F A n)).bind λ v=>ZQ v (vE (e F B n)):=by rw[iQ e F n 0,lW]
@[simp] theorem ap2 (e:Eff)(F:Fr)(n:Nat)(A B C:Hp)(As:List Hp):fb e F n 3 (A::B::C::As)=(vE (e F A n)).bind λ v=>ZQ v ((vE (e F B n)).bind λ v=>ZQ v (vE (e F C n))):=by rw[iQ e F n 1,iQ e F n 0,lW]
@[simp] theorem ao' (v:AV):ZQ v (some v)=some v:=by simp[ZQ,OC]
def oI (rs:List Nat)(pd:Pd)(e:Eff)(c:Nat):Option RO:=some ⟨cF rs,none,pd,.xN e,some c⟩
def mI (rs:List Nat)(pd:Pd)(e:Eff):Option RO:=some ⟨cF rs,none,pd,.xN e,none⟩
def cI (rs:List Nat)(pd:Pd)(f:FuncId)(as:List G):Option RO:=some ⟨cF rs,none,pd,.call (aF (.fn (.func f) [] [])) as,none⟩
def dL (rs:List Nat)(g:G)(b:Bool)(pd:Pd)(e:Eff)(c:Nat):Option RO:=some ⟨cF rs,some (g,b),pd,.xN e,some c⟩
def gmI (rs:List Nat)(g:G)(b:Bool)(pd:Pd)(e:Eff):Option RO:=some ⟨cF rs,some (g,b),pd,.xN e,none⟩
def gcI (rs:List Nat)(g:G)(b:Bool)(pd:Pd)(f:FuncId)(as:List G):Option RO:=some ⟨cF rs,some (g,b),pd,.call (aF (.fn (.func f) [] [])) as,none⟩
def fI (rs:List Nat)(pd:Pd)(e:Eff):Option RO:=some ⟨cF rs,none,pd,.iM e,none⟩
def vI (rs:List Nat)(pd:Pd)(g:G)(as:List G):Option RO:=some ⟨cF rs,none,pd,.call g as,none⟩
@[simp] theorem al0:Ev ((fH []).f ce F H Hs n m) Q=Q .normal F H n m:=propext Iff.rfl
def OP (x:bP)(pd:Pd)(r:List (Option RO))(ce:Ce)(F:Fr)(H:Hp)(Hs:List Hp)(n:Nat)(m:List Dm)(Q:QA):Prop:=yd x H n λ v H' n'=>Ev ((fH r).f ce (pd.f v F) H' (H'::Hs) n' m) Q
def ErI (x:bP)(e:Eff)(c:Nat)(F0:Fr)(pd:Pd)(r:List (Option RO))(ce:Ce)(F:Fr)(H:Hp)(Hs:List Hp)(n:Nat)(m:List Dm)(Q:QA):Prop:=match x with
 | .val v=>Ev ((fH r).f ce (pd.f v F) H Hs n m) Q
 | .new v b=>if iI n Hs=true then Ev ((fH r).f ce (pd.f v F) (H.put n (some b)) Hs (n+1) m) Q else False
 | .fail=>rM (fb e F0 n c Hs) λ v=>Ev ((fH r).f ce (pd.f v F) H Hs n m) Q
 | _=>False
def AvI (x:Option AV)(pd:Pd)(r:List (Option RO))(ce:Ce)(F:Fr)(H:Hp)(Hs:List Hp)(n:Nat)(m:List Dm)(Q:QA):Prop:=rM x λ v=>Ev ((fH r).f ce (pd.f v F) H Hs n m) Q
def E7 (x:iq)(pd:Pd)(r:List (Option RO))(ce:Ce)(F:Fr)(Hs:List Hp)(m:List Dm)(Q:QA):Prop:=EvC x λ v H' n'=>Ev ((fH r).f ce (pd.f v F) H' (H'::Hs) n' m) Q
def ZI (vs:Option (List AV))(f:FuncId)(pd:Pd)(r:List (Option RO))(ce:Ce)(F:Fr)(H:Hp)(Hs:List Hp)(n:Nat)(m:List Dm)(Q:QA):Prop:=rM vs λ vs=>E7 (ce.call f vs H n) pd r ce F Hs m Q
@[simp] theorem ao7 (pd:Pd)(r:List (Option RO)):OP .fail pd r ce F H Hs n m Q=False:=propext Iff.rfl
@[simp] theorem atm (v:AV)(pd:Pd)(r:List (Option RO)):OP (.val v) pd r ce F H Hs n m Q=Ev ((fH r).f ce (pd.f v F) H (H::Hs) n m) Q:=propext Iff.rfl
@[simp] theorem ato (v:AV)(k:bI)(pd:Pd)(r:List (Option RO)):OP (.new v k) pd r ce F H Hs n m Q=Ev ((fH r).f ce (pd.f v F) (H.put n (some k)) (H.put n (some k)::Hs) (n+1) m) Q:=propext Iff.rfl
@[simp] theorem atn (v:AV)(b:Nat)(k:bI)(pd:Pd)(r:List (Option RO)):OP (.upd v b k) pd r ce F H Hs n m Q=Ev ((fH r).f ce (pd.f v F) (H.put b (some k)) (H.put b (some k)::Hs) n m) Q:=propext Iff.rfl
@[simp] theorem awA (v:AV)(b:Nat)(k:bI)(pd:Pd)(r:List (Option RO)):OP (.mv v b k) pd r ce F H Hs n m Q=Ev ((fH r).f ce (pd.f v F) ((H.put b none).put n (some k)) ((H.put b none).put n (some k)::Hs) (n+1) m) Q:=propext Iff.rfl
@[simp] theorem att (v:AV)(e:Eff)(c:Nat)(F0:Fr)(pd:Pd)(r:List (Option RO)):ErI (.val v) e c F0 pd r ce F H Hs n m Q=Ev ((fH r).f ce (pd.f v F) H Hs n m) Q:=propext Iff.rfl
@[simp] theorem atu (v:AV)(k:bI)(e:Eff)(c:Nat)(F0:Fr)(pd:Pd)(r:List (Option RO)):ErI (.new v k) e c F0 pd r ce F H Hs n m Q=if iI n Hs=true then Ev ((fH r).f ce (pd.f v F) (H.put n (some k)) Hs (n+1) m) Q else False:=propext Iff.rfl
@[simp] theorem ao_ (e:Eff)(c:Nat)(F0:Fr)(pd:Pd)(r:List (Option RO)):ErI .fail e c F0 pd r ce F H Hs n m Q=AvI (fb e F0 n c Hs) pd r ce F H Hs n m Q:=propext Iff.rfl
@[simp] theorem apZ (v:AV)(pd:Pd)(r:List (Option RO)):AvI (some v) pd r ce F H Hs n m Q=Ev ((fH r).f ce (pd.f v F) H Hs n m) Q:=propext Iff.rfl
@[simp] theorem atE (v:AV)(H':Hp)(n':Nat)(pd:Pd)(r:List (Option RO)):E7 (.mk v H' n') pd r ce F Hs m Q=Ev ((fH r).f ce (pd.f v F) H' (H'::Hs) n' m) Q:=propext Iff.rfl
@[simp] theorem amm (vs:List AV)(f:FuncId)(pd:Pd)(r:List (Option RO)):ZI (some vs) f pd r ce F H Hs n m Q=E7 (ce.call f vs H n) pd r ce F Hs m Q:=propext Iff.rfl
@[simp] theorem ao2 (rs:List Nat)(pd:Pd)(e:Eff)(c:Nat)(r:List (Option RO)):Ev ((fH (oI rs pd e c::r)).f ce F H Hs n m) Q=ErI (e ((cF rs).f F) .nil n) e c ((cF rs).f F) pd r ce F H Hs n m Q:=by
 have:=ajT (ce:=ce) (F:=F) (H:=H) (Hs:=Hs) (n:=n) (m:=m) (Q:=Q) (cF rs) pd e c (fH r);refine Eq.trans this ?_;unfold EvR ErI
 cases e ((cF rs).f F) .nil n<;>rfl
def FlI (x:bP) (pd:Pd) (r:List (Option RO)) (ce:Ce) (F:Fr) (H B:Hp) (Hs:List Hp) (n:Nat) (m:List Dm) (Q:QA):Prop:=match x with
 | .upd v b k=>match B.get b with
  | some _=>Ev ((fH r).f ce (pd.f v F) (H.put b (some k)) (B.put b none::Hs) n m) Q
  | none=>False
 | _=>False
@[simp] theorem aoX (v:AV)(b:Nat)(k:bI)(pd:Pd)(r:List (Option RO))(B:Hp):FlI (.upd v b k) pd r ce F H B Hs n m Q=rM (B.get b) λ _=>Ev ((fH r).f ce (pd.f v F) (H.put b (some k)) (B.put b none::Hs) n m) Q:=by
 unfold FlI rM;dsimp only;cases B.get b<;>rfl
@[simp] theorem aoY (pd:Pd)(r:List (Option RO))(B:Hp):FlI .fail pd r ce F H B Hs n m Q=False:=propext Iff.rfl
@[simp] theorem ayk (rs:List Nat)(pd:Pd)(e:Eff)(r:List (Option RO))(B:Hp):Ev ((fH (fI rs pd e::r)).f ce F H (B::Hs) n m) Q=FlI (e ((cF rs).f F) B n) pd r ce F H B Hs n m Q:=by
 show Ev ((Rw (cF rs) pd e (fH r)).f ce F H (B::Hs) n m) Q=_;simp only[Rw];unfold FlI
 cases e ((cF rs).f F) B n with
 | upd v b k=>dsimp only;cases B.get b<;>rfl
 | _=>rfl
@[simp] theorem ayi (rs:List Nat)(pd:Pd)(e:Eff)(r:List (Option RO)):Ev ((fH (mI rs pd e::r)).f ce F H Hs n m) Q=OP (e ((cF rs).f F) H n) pd r ce F H Hs n m Q:=J4 _ pd e (fH r)
@[simp] theorem aym (rs:List Nat)(pd:Pd)(f:FuncId)(as:List G)(r:List (Option RO)):Ev ((fH (cI rs pd f as::r)).f ce F H Hs n m) Q=ZI (fM ((cF rs).f F) as) f pd r ce F H Hs n m Q:=J5 _ pd f as (fH r)
def GoI (v:Option AV)(b:Bool)(F0:Fr)(pd:Pd)(e:Eff)(c:Nat)(r:List (Option RO))(ce:Ce)(F:Fr)(H:Hp)(Hs:List Hp)(n:Nat)(m:List Dm)(Q:QA):Prop:=eZ v b (ErI (e F0 .nil n) e c F0 pd r ce F H Hs n m Q) (Ev ((fH r).f ce (pd.f (.bg []) F) H Hs n m) Q)
def GmI (v:Option AV)(b:Bool)(F0:Fr)(pd:Pd)(e:Eff)(r:List (Option RO))(ce:Ce)(F:Fr)(H:Hp)(Hs:List Hp)(n:Nat)(m:List Dm)(Q:QA):Prop:=eZ v b (OP (e F0 H n) pd r ce F H Hs n m Q) (Ev ((fH r).f ce (pd.f (.bg []) F) H (H::Hs) n m) Q)
def GcI (v:Option AV)(b:Bool)(F0:Fr)(pd:Pd)(f:FuncId)(as:List G)(r:List (Option RO))(ce:Ce)(F:Fr)(H:Hp)(Hs:List Hp)(n:Nat)(m:List Dm)(Q:QA):Prop:=eZ v b (ZI (fM F0 as) f pd r ce F H Hs n m Q) (Ev ((fH r).f ce (pd.f (.bg []) F) H (H::Hs) n m) Q)
theorem oA {rs:RS}{g:G}{b:Bool}{yes no:KR}:Ev ((vF rs g b yes no).f ce F H Hs n m) Q=eZ (g.f (rs.f F)) b (Ev (yes.f ce F H Hs n m) Q) (Ev (no.f ce F H Hs n m) Q):=by
 simp only[vF];unfold eZ
 cases g.f (rs.f F)with
 | none=>rfl
 | some v=>cases v with
  | bool x=>dsimp only;cases x == b<;>rfl
  | _=>rfl
theorem abj (rs:List Nat)(g:G)(b:Bool)(pd:Pd)(e:Eff)(c:Nat)(r:List (Option RO)):Ev ((fH (dL rs g b pd e c::r)).f ce F H Hs n m) Q=eZ (g.f ((cF rs).f F)) b (Ev ((fH (oI rs pd e c::r)).f ce F H Hs n m) Q) (Ev ((fH r).f ce (pd.f (.bg []) F) H Hs n m) Q):=
 oA (ce:=ce) (F:=F) (H:=H) (Hs:=Hs) (n:=n) (m:=m) (Q:=Q) (rs:=cF rs) (g:=g) (b:=b) (yes:=opR (cF rs) pd e c (fH r)) (no:=NN pd (fH r))
@[simp] theorem awt (rs:List Nat)(g:G)(b:Bool)(pd:Pd)(e:Eff)(c:Nat)(r:List (Option RO)):Ev ((fH (dL rs g b pd e c::r)).f ce F H Hs n m) Q=GoI (g.f ((cF rs).f F)) b ((cF rs).f F) pd e c r ce F H Hs n m Q:=by
 rw[abj,ao2];rfl
@[simp] theorem awu (rs:List Nat)(g:G)(b:Bool)(pd:Pd)(e:Eff)(r:List (Option RO)):Ev ((fH (gmI rs g b pd e::r)).f ce F H Hs n m) Q=GmI (g.f ((cF rs).f F)) b ((cF rs).f F) pd e r ce F H Hs n m Q:=by
 have h1:=oA (ce:=ce) (F:=F) (H:=H) (Hs:=Hs) (n:=n) (m:=m) (Q:=Q) (rs:=cF rs) (g:=g) (b:=b) (yes:=Dx (cF rs) pd e (fH r)) (no:=NP pd (fH r));rw[J4]at h1;exact h1
@[simp] theorem aww (rs:List Nat)(g:G)(b:Bool)(pd:Pd)(f:FuncId)(as:List G)(r:List (Option RO)):Ev ((fH (gcI rs g b pd f as::r)).f ce F H Hs n m) Q=GcI (g.f ((cF rs).f F)) b ((cF rs).f F) pd f as r ce F H Hs n m Q:=by
 have h1:=oA (ce:=ce) (F:=F) (H:=H) (Hs:=Hs) (n:=n) (m:=m) (Q:=Q) (rs:=cF rs) (g:=g) (b:=b) (yes:=akk (cF rs) pd f as (fH r)) (no:=NP pd (fH r));rw[J5]at h1;exact h1
@[simp] theorem ax7 (F0:Fr)(pd:Pd)(e:Eff)(c:Nat)(r:List (Option RO)):GoI (some (.bool true)) true F0 pd e c r ce F H Hs n m Q=ErI (e F0 .nil n) e c F0 pd r ce F H Hs n m Q:=propext Iff.rfl
@[simp] theorem ax8 (F0:Fr)(pd:Pd)(e:Eff)(c:Nat)(r:List (Option RO)):GoI (some (.bool false)) true F0 pd e c r ce F H Hs n m Q=Ev ((fH r).f ce (pd.f (.bg []) F) H Hs n m) Q:=propext Iff.rfl
@[simp] theorem awa (F0:Fr)(pd:Pd)(e:Eff)(c:Nat)(r:List (Option RO)):GoI (some (.bool true)) false F0 pd e c r ce F H Hs n m Q=Ev ((fH r).f ce (pd.f (.bg []) F) H Hs n m) Q:=propext Iff.rfl
@[simp] theorem awb (F0:Fr)(pd:Pd)(e:Eff)(c:Nat)(r:List (Option RO)):GoI (some (.bool false)) false F0 pd e c r ce F H Hs n m Q=ErI (e F0 .nil n) e c F0 pd r ce F H Hs n m Q:=propext Iff.rfl
@[simp] theorem atb (l:List AV)(b:Bool)(F0:Fr)(pd:Pd)(e:Eff)(c:Nat)(r:List (Option RO)):GoI (some (.bg l)) b F0 pd e c r ce F H Hs n m Q=Ev ((fH r).f ce (pd.f (.bg []) F) H Hs n m) Q:=propext Iff.rfl
@[simp] theorem awc (F0:Fr)(pd:Pd)(e:Eff)(r:List (Option RO)):GmI (some (.bool true)) false F0 pd e r ce F H Hs n m Q=Ev ((fH r).f ce (pd.f (.bg []) F) H (H::Hs) n m) Q:=propext Iff.rfl
@[simp] theorem awd (F0:Fr)(pd:Pd)(e:Eff)(r:List (Option RO)):GmI (some (.bool false)) false F0 pd e r ce F H Hs n m Q=OP (e F0 H n) pd r ce F H Hs n m Q:=propext Iff.rfl
@[simp] theorem awe (F0:Fr)(pd:Pd)(f:FuncId)(as:List G)(r:List (Option RO)):GcI (some (.bool true)) false F0 pd f as r ce F H Hs n m Q=Ev ((fH r).f ce (pd.f (.bg []) F) H (H::Hs) n m) Q:=propext Iff.rfl
@[simp] theorem awf (F0:Fr)(pd:Pd)(f:FuncId)(as:List G)(r:List (Option RO)):GcI (some (.bool false)) false F0 pd f as r ce F H Hs n m Q=ZI (fM F0 as) f pd r ce F H Hs n m Q:=propext Iff.rfl
@[simp] theorem ax9 (F0:Fr)(pd:Pd)(e:Eff)(r:List (Option RO)):GmI (some (.bool true)) true F0 pd e r ce F H Hs n m Q=OP (e F0 H n) pd r ce F H Hs n m Q:=propext Iff.rfl
@[simp] theorem ax_ (F0:Fr)(pd:Pd)(e:Eff)(r:List (Option RO)):GmI (some (.bool false)) true F0 pd e r ce F H Hs n m Q=Ev ((fH r).f ce (pd.f (.bg []) F) H (H::Hs) n m) Q:=propext Iff.rfl
@[simp] theorem ax' (F0:Fr)(pd:Pd)(f:FuncId)(as:List G)(r:List (Option RO)):GcI (some (.bool true)) true F0 pd f as r ce F H Hs n m Q=ZI (fM F0 as) f pd r ce F H Hs n m Q:=propext Iff.rfl
@[simp] theorem aya (F0:Fr)(pd:Pd)(f:FuncId)(as:List G)(r:List (Option RO)):GcI (some (.bool false)) true F0 pd f as r ce F H Hs n m Q=Ev ((fH r).f ce (pd.f (.bg []) F) H (H::Hs) n m) Q:=propext Iff.rfl
end
end Go.Abs
namespace Go.Abs
open List
section
variable {φ:Ph}{D:Da}{w:World}{n:Nat}
def FI (h:Hf)(v v':AV):Prop:=v=v'∨dU h v v'
def BZ (h:Hf)(y0 y:bI):Prop:=y0=y∨∃u z bs t l,y0=.cells u z bs t/\y=.cells u [] l .nil/\l.length=u/\∀(i:Nat) v',l[i]?=some v'->∃v,fY u z bs t i=some v/\FI h v v'
structure eH (h:Hf)(F:Fr)(H:Hp)(F2:Fr)(H2:Hp):Prop where
 sub:∀b k,h b=some k->H.get b=some k
 gone:∀b,h b≠none->H2.get b=none
 fr:∀(t:Nat) v,F2.get t=some v->∃u,F.get t=some u/\FI h u v
 hp:∀b y,H2.get b=some y->∃y0,H.get b=some y0/\BZ h y0 y
theorem eH.refl (F:Fr)(H:Hp):eH (λ _=>none) F H F H:=
 ⟨λ b k h=>by simp at h,λ b h=>absurd rfl h,λ t v h=>⟨v,h,.inl rfl⟩,λ b y h=>⟨y,h,.inl rfl⟩⟩
theorem Rel.sub {h h':Hf}(hr:Rel φ D h w)(hs:∀b k,h' b=some k->h b=some k):Rel φ D h' w:=by
 have ne:∀b,h' b≠none->h b≠none:=λ b hb=>by
  cases hx:h' b with
  | none=>exact absurd hx hb
  | some k=>rw[hs b k hx];simp
 exact⟨λ b k hb=>hr.blk b k (hs b k hb),λ b c p q hb hc=>hr.inj b c p q (ne b hb) (ne c hc),λ b p hb=>hr.sep b p (ne b hb),hr.dat⟩
theorem FI.vr {h:Hf}(hr:Rel φ D h w){v v':AV}{x:Value}(hf:FI h v v')(hx:VR φ D v x):VR φ (shut φ D h w) v' x:=by
 rcases hf with rfl | hf
 ·exact hx.mono (λ _ _ h=>h) fg
 exact(hf.vr hr hx).mono (λ b p hb=>by simp[jW]at hb) (λ _ _ h=>h)
theorem BZ.apS {h:Hf}(hr:Rel φ D h w){y0 y:bI}(hz:BZ h y0 y) {p}(hb:iT φ D w p y0):iT φ (shut φ D h w) w p y:=by
 rcases hz with rfl | ⟨u,z,bs,t,l,rfl,rfl,hl,hz⟩
 ·exact hb.mono (λ _ _ h=>h) fg rfl
 obtain⟨c,e,fr,h1,h2,h3,h4,h5,h6⟩:=hb;refine⟨c,e,fr,h1,h2,h3,λ i v hv=>?_,λ _ _=>hl,h6⟩;rw[jG]at hv
 split at hv
 ·skip
  obtain⟨v0,h7,h8⟩:=hz i v hv;obtain⟨x,h9,h10⟩:=h4 i v0 h7;exact⟨x,h9,h8.vr hr h10⟩
 cases hv
theorem rR {h:Hf}{p:Nat×Nat×Nat}(hb:D p.1=none)(hn:∀b' p',h b'≠none->φ b'=some p'->p'.1≠p.1):shut φ D h w p.1=none:=by
 unfold shut;rw[hb];dsimp only;rw[if_neg];rintro⟨b',p',h1,h2,h3⟩;exact hn b' p' h1 h2 h3
theorem C9 {h:Hf}{c:Nat}(hc:shut φ D h w c≠none):D c≠none∨∃b p,h b≠none/\φ b=some p/\p.1=c:=by
 unfold shut at hc
 split at hc
 ·rename_i x hx;exact .inl (by rw[hx];simp)
 split at hc
 ·rename_i hh;exact .inr hh
 exact absurd rfl hc
theorem eH.rel {h:Hf}{F F2:Fr}{H H2:Hp}(s:eH h F H F2 H2)(hr:Rel φ D H.get w):Rel φ (shut φ D h w) H2.get w:=by
 have hs:=hr.sub s.sub
 have ne:∀b,H2.get b≠none->H.get b≠none:=λ b hb=>by
  cases hx:H2.get b with
  | none=>exact absurd hx hb
  | some k=>obtain⟨y0,h0,_⟩:=s.hp b k hx;rw[h0];simp
 have neh:∀b,h b≠none->H.get b≠none:=λ b hb=>by
  cases hx:h b with
  | none=>exact absurd hx hb
  | some k=>rw[s.sub b k hx];simp
 refine⟨λ b k hb=>?_,λ b c p q hb hc=>hr.inj b c p q (ne b hb) (ne c hc),λ b p hb hp=>?_,jH hr.dat⟩
 ·obtain⟨y0,h0,hz⟩:=s.hp b k hb;obtain⟨p,hp,hl,hk⟩:=hr.blk b y0 h0;exact⟨p,hp,hl,hz.apS hs hk⟩
 refine rR (hr.sep b p (ne b hb) hp) λ b' p' h1 h2 h3=>?_;have:=hr.inj b' b p' p (neh b' h1) (ne b hb) h2 hp h3;subst this;exact hb (s.gone b' h1)
theorem eH.ext {h:Hf}{F F2:Fr}{H H2:Hp}(s:eH h F H F2 H2):Ext φ D H.get w n φ (shut φ D h w) H2.get w n:=by
 have ne:∀b,H2.get b≠none->H.get b≠none:=λ b hb=>by
  cases hx:H2.get b with
  | none=>exact absurd hx hb
  | some k=>obtain⟨y0,h0,_⟩:=s.hp b k hx;rw[h0];simp
 have neh:∀b,h b≠none->H.get b≠none:=λ b hb=>by
  cases hx:h b with
  | none=>exact absurd hx hb
  | some k=>rw[s.sub b k hx];simp
 refine⟨Nat.le_refl _,λ _ _ h=>h,λ b a c=>absurd a c,fg,Nat.le_refl _,λ _ _ _=>rfl,λ b p hb hp=>.inr ⟨b,p,ne b hb,hp,rfl⟩,λ c hc=>?_,λ b hb=>.inl (ne b hb),rfl,rfl⟩
 rcases C9 hc with h1 | ⟨b,p,h1,h2,h3⟩
 ·exact .inl h1
 exact .inr (.inr ⟨b,p,neh b h1,h2,h3⟩)
theorem eH.st {h:Hf}{nt:Nat}{m:List Dm}{a:Act}{F F2:Fr}{H H2:Hp}(s:eH h F H F2 H2)(st:St nt φ D F H m a w):St nt φ (shut φ D h w) F2 H2 m a w:=
 ⟨s.rel st.rel,⟨λ t v hv=>by
  obtain⟨u,h1,h2⟩:=s.fr t v hv;obtain⟨x,h3,h4⟩:=st.fr.1 t u h1;exact⟨x,h3,h2.vr (st.rel.sub s.sub) h4⟩,st.fr.2.mono fg⟩,st.sz,st.ud.mono (λ _ _ h=>h) fg⟩
def Zs (I:Nat->Fr->Hp->Nat->List Dm->Prop)(k:Nat)(F:Fr)(H:Hp)(n:Nat)(m:List Dm):Prop:=∃h F2 H2,eH h F H F2 H2/\I k F2 H2 n m
theorem Zs.refl {I:Nat->Fr->Hp->Nat->List Dm->Prop}{k:Nat}{F:Fr}{H:Hp}{m:List Dm}(h:I k F H n m):Zs I k F H n m:=⟨_,F,H,eH.refl F H,h⟩
end
end Go.Abs
namespace Go.Abs
open List
def FrA (φ:Ph)(n:Nat):Prop:=∀b,n<=b->φ b=none
theorem FrA.fresh {φ:Ph}{n:Nat}(h:FrA φ n)(k:Nat):cB φ n k:=λ b hb _=>h b hb
theorem FrA.step {φ D h w n φ' D' h' w' n'}(hf:FrA φ n)(e:Ext φ D h w n φ' D' h' w' n'):FrA φ' n':=by
 intro b hb
 cases hx:φ' b with
 | none=>rfl
 | some p=>have:=e.new b (hf b (Nat.le_trans e.le hb)) (by rw[hx];simp);omega
section
variable {P:Program}
def aH (P:Program) (g:FuncId) (args:List AV) (H:Hp) (n:Nat) (R:AV->Hp->Nat->Prop):Prop:=
 (∃ fn b, P.funcs[g]? = some fn ∧ fn.body = some b ∧ (fn.name == "runtime.NumGoroutine") = false) ∧
  ∀ φ D w xs,Rel φ D H.get w->bW φ D args xs->FrA φ n->∀RR:Ending->World->Prop,
   (∀v H' n' φ' D' w' x,R v H' n'->Ext φ D H.get w n φ' D' H'.get w' n'->Rel φ' D' H'.get w'->VR φ' D' v x->RR (.returned x) w')->CallsIn Fence.wide 0 P g ⟨xs⟩ w RR
theorem aH.mono {g:FuncId}{args:List AV}{H:Hp}{n:Nat}{R S:AV->Hp->Nat->Prop}(h:aH P g args H n R)(hs:∀v H' n',R v H' n'->S v H' n'):aH P g args H n S:=
 ⟨h.1,λ φ D w xs a b c RR hR=>h.2 φ D w xs a b c RR λ v H' n' φ' D' w' x r=>hR v H' n' φ' D' w' x (hs _ _ _ r)⟩
theorem bT.iB {g:FuncId}{args:List AV}{H:Hp}{n:Nat}{v:AV}{H':Hp}{n':Nat}(h:bT P g args H n v H' n'):aH P g args H n (λ u K k=>u=v/\K=H'/\k=n'):=
 ⟨h.1,λ φ D w xs a b c RR hR=>h.2.2 φ D w xs a b (c.fresh _) RR λ φ' D' w' x e r k=>hR v H' n' φ' D' w' x ⟨rfl,rfl,rfl⟩ e r k⟩
def Wp (nt:Nat)(run:QT->Act->World->Prop)(F:Fr)(H:Hp)(n:Nat)(m:List Dm)(Q:QA):Prop:=
 ∀ φ D a w,St nt φ D F H m a w->FrA φ n->∀QQ:QT,(∀o F' H' n' m' φ' D' a' w' px,Q o F' H' n' m'->Ext φ D H.get w n φ' D' H'.get w' n'->St nt φ' D' F' H' m' a' w'->xY φ' D' px o->QQ (gV px o) a' w')->run QQ a w
theorem Wp.shut {nt:Nat}{run:QT->Act->World->Prop}{h:Hf}{F F2:Fr}{H H2:Hp}{n:Nat}{m:List Dm}{Q:QA}(s:eH h F H F2 H2)(hw:Wp nt run F2 H2 n m Q):Wp nt run F H n m Q:=
 λ φ _D a w st hf QQ hQ=>hw φ _ a w (s.st st) hf QQ λ o F' H' n' m' φ' D' a' w' px q e=>hQ o F' H' n' m' φ' D' a' w' px q (s.ext.trans e)
def E6 (P:Program)(nt:Nat)(c:Code)(F:Fr)(H:Hp)(n:Nat)(Q:QA):Prop:=∀cb:Nat,Wp nt (λ QQ a w=>c.wpIn (FW (some cb)) 0 P QQ a w) F H n [] Q
def OI (q:Nat)(R:AV->Hp->Nat->Prop)(j:mF)(H3:Hp)(n3:Nat):Prop:=∃st nt G ps a b j0,H3.get q=some (.loop st j0 nt G ps a b)/\match j with
 | .normal=>R (.bool true) (H3.put q (some (.loop .ready .normal nt G ps a b))) n3
 | .exit i=>R (.bool false) (H3.put q (some (.loop .done (.exit i) nt G ps a b))) n3
 | .ret=>R (.bool false) (H3.put q (some (.loop .done .ret nt G ps a b))) n3
 | .panic _=>False
def xU (P:Program) (q:Nat) (vs:List AV) (H:Hp) (n:Nat) (R:AV->Hp->Nat->Prop):Prop:=∃st j nt F0 ps a b F1,H.get q=some (.loop st j nt F0 ps a b)/\oT nt ps vs F0=some F1 /\
 E6 P nt a F1 H n λ o F2 H2 n2 m2=>o=.normal/\m2=[]/\∃j2 FC G2 ps2 a2 b2,H2.get q=some (.loop .ready j2 FC G2 ps2 a2 b2) /\
  E6 P nt b F2 (H2.put q (some (.loop .busy j2 FC G2 ps2 a2 b2))) n2 λ j3 _ H3 n3 _=>OI q R j3 H3 n3
def abY (n:Nat)(F:Fr)(m:List Dm)(Q:QA)(H':Hp)(n':Nat):Prop:=∃st j nt G ps a b,H'.get n=some (.loop st j nt G ps a b)/\st≠.busy/\(∀v,j≠.panic v)/\Q j F (H'.put n none) n' (.cu (Nat.succ n)::m)
def fj (P:Program):List (Option GO)->Fr->Hp->Nat->List Dm->QA->Prop
 | [],F,H,n,m,Q=>Q .normal F H n m
 | none::_,_,_,_,_,_=>False
 | some ⟨none,pd,.xN e⟩::r,F,H,n,m,Q=>yd (e F H n) H n λ v H' n'=>fj P r (pd.f v F) H' n' m Q
 | some ⟨none,pd,.call g as⟩::r,F,H,n,m,Q=>(∃f first cap vs,g.f F=some (.fn (.func f) first cap)/\fM F as=some vs/\aH P f (first++(vs++cap)) H n λ v H' n'=>fj P r (pd.f v F) H' n' m Q) ∨
  (∃q vs,g.f F=some (.je q)/\fM F as=some vs/\xU P q vs H n λ v H' n'=>fj P r (pd.f v F) H' n' m Q)
 | some ⟨none,_,.bad⟩::_,_,_,_,_,_=>False
 | some ⟨none,_,.iM _⟩::_,_,_,_,_,_=>False
 | some ⟨none,_,.raw _⟩::_,_,_,_,_,_=>False
 | some ⟨some (g,b),pd,.xN e⟩::r,F,H,n,m,Q=>eZ (g.f F) b (yd (e F H n) H n λ v H' n'=>fj P r (pd.f v F) H' n' m Q) (fj P r (pd.f (.bg []) F) H n m Q)
 | some ⟨some (g,b),pd,.call h as⟩::r,F,H,n,m,Q=>eZ (g.f F) b ((∃f first cap vs,h.f F=some (.fn (.func f) first cap)/\fM F as=some vs/\aH P f (first++(vs++cap)) H n λ v H' n'=>fj P r (pd.f v F) H' n' m Q) ∨
  (∃q vs,h.f F=some (.je q)/\fM F as=some vs/\xU P q vs H n λ v H' n'=>fj P r (pd.f v F) H' n' m Q)) (fj P r (pd.f (.bg []) F) H n m Q)
 | some ⟨some (g,b),pd,.bad⟩::r,F,H,n,m,Q=>eZ (g.f F) b False (fj P r (pd.f (.bg []) F) H n m Q)
 | some ⟨some (g,b),pd,.iM _⟩::r,F,H,n,m,Q=>eZ (g.f F) b False (fj P r (pd.f (.bg []) F) H n m Q)
 | some ⟨some (g,b),pd,.raw _⟩::r,F,H,n,m,Q=>eZ (g.f F) b False (fj P r (pd.f (.bg []) F) H n m Q)
def VC (P:Program):CT->Fr->Hp->Nat->List Dm->QA->Prop
 | .reg l,F,H,n,m,Q=>fj P l F H n m Q
 | .fi ds l,F,H,n,m,Q=>∃ce h F2 H2,gL P ce/\eH h F H F2 H2/\Ev ((Eh ds (fH l)).f ce F2 H2 n m) Q
 | .seq a b,F,H,n,m,Q=>VC P a F H n m λ o F' H' n' m'=>match o with
  | .normal=>VC P b F' H' n' m' Q
  | .exit i=>Q (.exit i) F' H' n' m'
  | .ret=>Q .ret F' H' n' m'
  | .panic _=>False
 | .cond g a b,F,H,n,m,Q=>nP (g.f F) (VC P a F H n m Q) (VC P b F H n m Q)
 | .block i b,F,H,n,m,Q=>VC P b F H n m (bX i Q)
 | .loop b,F,H,n,m,Q=>∃(I J:Nat->Fr->Hp->Nat->List Dm->Prop) (k:Nat),J k F H n m/\(∀k F H n m,J k F H n m->Zs I k F H n m)/\∀k F H n m,I k F H n m->VC P b F H n m (mE J k Q)
 | .exit i,F,H,n,m,Q=>Q (.exit i) F H n m
 | .ret,F,H,n,m,Q=>Q .ret F H n m
 | .skip,F,H,n,m,Q=>Q .normal F H n m
 | .range nt g ps a b,F,H,n,m,Q=>∃f first cap,g.f F=some (.fn (.func f) first cap) /\
  aH P f (first++(.je n::cap)) ((H.put (Nat.succ n) (some .kX)).put n (some (.loop .ready .normal nt F ps a b))) (Nat.succ (Nat.succ n)) λ _ H' n'=>abY n F m Q H' n'
 | .bad,_,_,_,_,_=>False
 | .raw k,F,H,n,m,Q=>∃ce,gL P ce/\Ev (k.f ce F H n m) Q
variable {nt:Nat}{ops:Array Oper}{r:Option Nat}
theorem s5 {run:QT->Act->World->Prop}{f:Fr->Hp->Nat->List Dm->Kv}(hs:Sound nt run f){F:Fr}{H:Hp}{n:Nat}{m:List Dm}{Q:QA}(h:Ev (f F H n m) Q):Wp nt run F H n m Q:=by
 obtain⟨o,F',H',n',m',h1,h2⟩:=ajS h;obtain⟨hn,hk⟩:=hs _ _ _ _ _ _ _ _ _ h1;exact λ φ D a w st hf QQ hQ=>hk φ D a w st (hf.fresh _) QQ λ φ' D' a' w' px e s pp=>hQ o F' H' n' m' φ' D' a' w' px h2 e s pp
theorem O2 {rest:List Nat}{o:Oper}{e:Eff}{pd:Pd}{F:Fr}{H:Hp}{n:Nat}{m:List Dm}{Q:QA}{X:Fr->Hp->Nat->Prop}(he:du P o e)(hq:nT o.op=true)(jE:xX nt o.dst pd)
  (hnext:∀F H n,X F H n->Wp nt (λ QQ a w=>wpOpsIn (FW r) 0 P ops QQ rest a w) F H n m Q)(h:yd (e F H n) H n λ v H' n'=>X (pd.f v F) H' n'):
  Wp nt (λ QQ a w=>o.wpIn (FW r) 0 P a w (wpOpsIn (FW r) 0 P ops QQ rest) QQ) F H n m Q:=by
 intro φ D a w st hf QQ hQ
 have key:∀(v:AV) (H1:Hp) (n1:Nat) (rr:bP),e F H n=rr->rr≠.fail->Qk rr=v->ub rr H.get n=H1.get->rX rr n=n1->X (pd.f v F) H1 n1 ->
   o.wpIn (FW r) 0 P a w (wpOpsIn (FW r) 0 P ops QQ rest) QQ:=by
  intro v H1 n1 rr her hne hv hH hn hX;have hd:=he F H n φ D a w st.rel st.fr (by rw[her];exact hf.fresh _) (by rw[her];exact hne);rw[her]at hd;obtain⟨nx,cv,φ1,w1,hrun,hnx,aQ,hrel,jw⟩:=hd;rw[hH]at aQ hrel;rw[hn]at aQ;rw[hv]at jw;have hfr:=jE v F φ1 D a cv (st.fr.mono aQ.phi (λ _ _ h=>h)) st.sz jw;have hst:St nt φ1 D (pd.f v F) H1 m (a.put o.dst cv) w1:=⟨hrel,hfr.1,hfr.2,by rw[put_defers];exact st.ud.mono aQ.phi aQ.dat⟩;have hgo:=hnext _ _ _ hX φ1 D (a.put o.dst cv) w1 hst (hf.step aQ) QQ λ o F' H' n' m' φ' D' a' w' px q hx hst' pp=>hQ o F' H' n' m' φ' D' a' w' px q (aQ.trans hx) hst' pp;refine⟨λ _ _=>trivial,?_⟩;rw[dS hq,hrun]
  cases hnx with
  | value=>exact hgo
  | skip=>exact hgo
 cases her:e F H n with
 | fail=>rw[her]at h;exact absurd h id
 | val v=>rw[her]at h;exact key v H n _ her (by simp) rfl rfl rfl h
 | new v k=>rw[her]at h;exact key v _ _ _ her (by simp) rfl (mT ..) rfl h
 | upd v b k=>rw[her]at h;exact key v _ _ _ her (by simp) rfl (kU ..) rfl h
 | mv v b k=>rw[her]at h;exact key v _ _ _ her (by simp) rfl (qQ ..) rfl h
theorem Fe {q:Nat}{vs:List AV}{H:Hp}{n:Nat}{R:AV->Hp->Nat->Prop}(h:xU P q vs H n R)(o:Oper)(c:Call)(φ:Ph)(D:Da)(a:Act)(w:World)(x:Operand)(ho:o.op=.call c)(hc:c.callee=.value x)(hyl:VR φ D (.je q) (a.eval x))(hargs:bW φ D vs (c.args.toList.map a.eval))(hrel:Rel φ D H.get w)(hf:FrA φ n)(K:Act->World->Prop)(Q:QT)
  (hK:∀v H' n' φ' D' w' cv,R v H' n'->Ext φ D H.get w n φ' D' H'.get w' n'->Rel φ' D' H'.get w'->VR φ' D' v cv->K (a.put o.dst cv) w'):o.wpIn (FW r) 0 P a w K Q:=by
 obtain⟨st0,j0,nt,F0,ps,ca,cb',F1,hq0,hF1,h1⟩:=h;refine⟨λ _ _=>trivial,?_⟩;generalize hxv:a.eval x=xv at hyl
 cases hyl with
 | je _ cb co cz hp =>
 obtain⟨_,rr,hr1,hr2,hr3,hr4,hr5,hr6,hr7,hr8⟩:=hrel.block hq0 hp;have hr1:w.heap[cb]?=some (.loop rr):=hr1;obtain⟨p1,p2,p3⟩:=uX ps vs _ F0 F1 rr.tmps hF1 hargs hr5 hr4
 have hsz:(c.args.map a.eval).size=rr.params.size:=by
  have e1:rr.params.size=ps.length:=by rw[<-hr6];simp
  rw[e1,p1];simp
 have hrun:(o.semAt (FW r).round a.eval).run P w=.ok (.round cb rr.fn ((rr.params.zip (c.args.map a.eval)).foldl (λ tmps (t,a)=>tmps.setIfInBounds t a) rr.tmps) rr.assign rr.body) w:=by
  rw[dS (by rw[ho];rfl)];have hy:=run_yield (P:=P) (args:=(#[]:Array Value)++Array.map a.eval c.args) hr1 (by simpa using hsz);simp only[execOp,ho,resolve,hc,hxv,Deferred.ofValue,Sem.run_bind,Sem.run_pure,Result.andThen_ok,invoke,hy];simp
 have Rn:(rr.params.zip (c.args.map a.eval)).foldl (λ tmps (t,a)=>tmps.setIfInBounds t a) rr.tmps=((ps.zip (c.args.toList.map a.eval)).foldl (λ t (x:Nat×Value)=>t.setIfInBounds x.1 x.2) rr.tmps):=by
  rw[<-Array.foldl_toList,Array.toList_zip,hr6];simp
 rw[hrun,Rn,hr7,hr8];refine⟨λ h=>by simp[FW]at h,roundIn_of_wpIn trivial ?_⟩;refine h1 cb φ D {tmps:=_,defers:=[]} w ⟨hrel,p2,p3,rfl⟩ hf _ λ o1 F2 H2 n2 m2 φ1 D1 a1 w1 px hq1 e1 st1 pp=>?_;obtain⟨rfl,rfl,j2,FC,G2,ps2,a2,b2,hq2,h2⟩:=hq1;have hp1:=e1.phi _ _ hp;obtain⟨hlt2,r2,FT,ajB,ajA,ajz,ajy,ajx,ajw,ajv⟩:=st1.rel.block hq2 hp1;have FT:w1.heap[cb]?=some (.loop r2):=FT;have hlt2:cb<w1.heap.size:=hlt2;refine⟨_,run_beginRound (P:=P) FT ajB,?_⟩;obtain⟨k1,k2⟩:=kT (n:=n2) (rr:={r2 with state:=.busy}) (k:=.loop .busy j2 FC G2 ps2 a2 b2) st1.rel (by rw[hq2];simp) hp1 ⟨_,Go.World.putObj_heap_same hlt2,rfl,ajA,ajz,ajy,ajx,ajw,ajv⟩;refine h2 cb φ1 D1 a1 _ ⟨k1,st1.fr,st1.sz,st1.ud⟩ ((hf.step e1).step k2) _ λ j3 F3 H3 n3 m3 φ2 D2 a2' w2 px e2 abg st2 pp=>?_;obtain⟨st3,E9,G3,E8,a3,b3,jj,hq3,hR⟩:=e2;have hp2:=abg.phi _ _ hp1;obtain⟨hlt3,r3,AH,avr,avq,Rh,Rf,Re,Rc,Rb⟩:=st2.rel.block hq3 hp2;have AH:w2.heap[cb]?=some (.loop r3):=AH;have hlt3:cb<w2.heap.size:=hlt3
 cases j3 with
 | normal =>
  have hend:=run_endRound (P:=P) (fW (.normal)) AH;obtain⟨k3,k4⟩:=kT (n:=n3) (rr:={r3 with state:=.ready,pending:=fW (.normal)}) (k:=.loop .ready (.normal) E9 G3 E8 a3 b3) st2.rel (by rw[hq3];simp) hp2 ⟨_,Go.World.putObj_heap_same hlt3,rfl,rfl,Rh,Rf,Re,Rc,Rb⟩;exact⟨_,_,hend,hK _ _ _ φ2 D2 _ (.bool true) hR (((e1.trans k2).trans abg).trans k4) k3 (.bool _)⟩
 | exit i =>
  have hend:=run_endRound (P:=P) (fW (.exit i)) AH;obtain⟨k3,k4⟩:=kT (n:=n3) (rr:={r3 with state:=.done,pending:=fW (.exit i)}) (k:=.loop .done (.exit i) E9 G3 E8 a3 b3) st2.rel (by rw[hq3];simp) hp2 ⟨_,Go.World.putObj_heap_same hlt3,rfl,rfl,Rh,Rf,Re,Rc,Rb⟩;exact⟨_,_,hend,hK _ _ _ φ2 D2 _ (.bool false) hR (((e1.trans k2).trans abg).trans k4) k3 (.bool _)⟩
 | ret =>
  have hend:=run_endRound (P:=P) (fW (.ret)) AH;obtain⟨k3,k4⟩:=kT (n:=n3) (rr:={r3 with state:=.done,pending:=fW (.ret)}) (k:=.loop .done (.ret) E9 G3 E8 a3 b3) st2.rel (by rw[hq3];simp) hp2 ⟨_,Go.World.putObj_heap_same hlt3,rfl,rfl,Rh,Rf,Re,Rc,Rb⟩;exact⟨_,_,hend,hK _ _ _ φ2 D2 _ (.bool false) hR (((e1.trans k2).trans abg).trans k4) k3 (.bool _)⟩
 | panic v=>exact absurd hR id
theorem Jp {rest:List Nat}{o:Oper}{c:Call}{g:G}{as:List G}{pd:Pd}{F:Fr}{H:Hp}{n:Nat}{m:List Dm}{Q:QA}{X:Fr->Hp->Nat->Prop}(ho:o.op=.call c)(hg:rH P c g)(has:jv c.args.toList=some as)(jE:xX nt o.dst pd)
  (hnext:∀F H n,X F H n->Wp nt (λ QQ a w=>wpOpsIn (FW r) 0 P ops QQ rest a w) F H n m Q)
  (h:(∃f first cap vs,g.f F=some (.fn (.func f) first cap)/\fM F as=some vs/\aH P f (first++(vs++cap)) H n λ v H' n'=>X (pd.f v F) H' n')∨(∃q vs,g.f F=some (.je q)/\fM F as=some vs/\xU P q vs H n λ v H' n'=>X (pd.f v F) H' n')):
  Wp nt (λ QQ a w=>o.wpIn (FW r) 0 P a w (wpOpsIn (FW r) 0 P ops QQ rest) QQ) F H n m Q:=by
 intro φ D a w st hf QQ hQ
 cases h with
 | inr h =>
  obtain⟨q,vs,hgv,hev,hy⟩:=h;obtain⟨x,hx1,hx2⟩:=hg.je a F φ D q st.fr hgv;refine Fe hy o c φ D a w x ho hx1 hx2 (dV has F φ D a st.fr vs hev) st.rel hf _ _ λ v H' n' φ1 D1 w1 cv hX aQ hrel jw=>?_;have hfr:=jE v F φ1 D1 a cv (st.fr.mono aQ.phi aQ.dat) st.sz jw;exact hnext _ _ _ hX φ1 D1 (a.put o.dst cv) w1 ⟨hrel,hfr.1,hfr.2,by rw[put_defers];exact st.ud.mono aQ.phi aQ.dat⟩ (hf.step aQ) QQ λ o F' H' n' m' φ' D' a' w' px q hx hst' pp=>hQ o F' H' n' m' φ' D' a' w' px q (aQ.trans hx) hst' pp
 | inl h =>
  obtain⟨f,first,cap,vs,hgv,hev,⟨fn,b,hfn,hb,hname⟩,hcs⟩:=h;refine⟨λ _ _=>trivial,?_⟩;obtain⟨fl,cl,h1,h2,vz⟩:=hg.fn o a F φ D f first cap ho st.fr hgv;have h3:=dV has F φ D a st.fr vs hev
  have hrun:(o.semAt (FW r).round a.eval).run P w=.ok (.enter f ⟨fl++(c.args.toList.map a.eval++cl)⟩) w:=by
   rw[dS (by rw[ho];rfl)];exact vz fn b w hfn hname hb
  rw[hrun];refine⟨λ h=>by simp[FW]at h,iO (hcs φ D w _ st.rel (h1.append (h3.append h2)) hf _ λ v H' n' φ1 D1 w1 cv hX aQ hrel jw=>?_)⟩;have hfr:=jE v F φ1 D1 a cv (st.fr.mono aQ.phi aQ.dat) st.sz jw;exact hnext _ _ _ hX φ1 D1 (a.put o.dst cv) w1 ⟨hrel,hfr.1,hfr.2,by rw[put_defers];exact st.ud.mono aQ.phi aQ.dat⟩ (hf.step aQ) QQ λ o F' H' n' m' φ' D' a' w' px q hx hst' pp=>hQ o F' H' n' m' φ' D' a' w' px q (aQ.trans hx) hst' pp
theorem wp_skip {rest:List Nat}{o:Oper}{pd:Pd}{F:Fr}{H:Hp}{n:Nat}{m:List Dm}{Q:QA}(jE:xX nt o.dst pd)(h:Wp nt (λ QQ a w=>wpOpsIn (FW r) 0 P ops QQ rest a w) (pd.f (.bg []) F) H n m Q):
  Wp nt (λ QQ a w=>wpOpsIn (FW r) 0 P ops QQ rest (a.put o.dst undef) w) F H n m Q:=by
 intro φ D a w st hf QQ hQ;have hfr:=jE (.bg []) F φ D a undef st.fr st.sz (.bg _ _ .nil);exact h φ D (a.put o.dst undef) w ⟨st.rel,hfr.1,hfr.2,by rw[put_defers];exact st.ud⟩ hf QQ hQ
theorem yQ {o:Oper}{g:G}{as:List G}(h:xL P o=.call g as):∃c,o.op=.call c/\rH P c g/\jv c.args.toList=some as:=by
 unfold xL at h
 split at h
 ·rename_i f args tys ho
  split at h
  ·cases h
  split at h
  ·rename_i g' as' h1 h2;injection h with a b;subst a b;exact⟨_,ho,.value rfl h1,h2⟩
  cases h
 ·rename_i f name args tys ho
  split at h
  ·rename_i g' as' h1 h2;injection h with a b;subst a b;exact⟨_,ho,.invoke rfl h1,h2⟩
  cases h
 ·split at h<;>cases h
 ·split at h<;>cases h
 split at h<;>cases h
theorem DF {o:Oper}{e:Eff}(h:xL P o=.xN e):dN P o=some e:=by
 unfold xL at h
 split at h
 ·split at h
  ·rename_i h1;injection h with h;subst h;exact h1
  split at h<;>cases h
 ·split at h<;>cases h
 ·split at h<;>cases h
 ·split at h<;>cases h
 split at h
 ·rename_i h1;injection h with h;subst h;exact h1
 cases h
theorem tell {F:Fr}{φ:Ph}{D:Da}{a:Act}{j d:Nat}(hd:(ops[j]?).bind (·.dst)=some d)(hF:FR φ D F.get a.tmps){v:AV}(hv:F.get d=some v):(∀c,v=.bool c->yielded ops a.tmps j=some c)/\((∀c,v≠.bool c)->yielded ops a.tmps j=none):=by
 obtain⟨x,hx,vw⟩:=hF.1 d v hv;unfold yielded;rw[hd];simp only[Option.bind_some,hx];refine⟨λ c hc=>?_,λ hc=>?_⟩
 ·subst hc;cases vw;rfl
 cases x<;>first | rfl | exact absurd (zN vw) (hc _)
theorem ym : ∀ (l : List Oper) (i:Nat) (F:Fr) (H:Hp) (n:Nat) (m:List Dm) (Q:QA),ops.toList.drop i=l->fj P (l.map (uf P nt ops)) F H n m Q ->
  Wp nt (λ QQ a w=>wpOpsIn (FW r) 0 P ops QQ (range' i l.length) a w) F H n m Q
 | [],i,F,H,n,m,Q,_,h=>λ φ D a w st hf QQ hQ=>hQ .normal F H n m φ D a w undef h (Ext.refl ..) st trivial
 | o :: l, i, F, H,n,m,Q,hl,h=>by
  have hi:ops[i]?=some o:=by
   have:=congrArg (λ(x:List Oper)=>x[0]?) hl;simpa[getElem?_drop]using this
  have hl':ops.toList.drop (i+1)=l:=by
   have:=congrArg (λ(x:List Oper)=>x.drop 1) hl;simpa[drop_drop]using this
  have ih:=λ F H n=>ym l (i+1) F H n m Q hl';have h0:=h;simp only[map_cons]at h;unfold uf at h
  cases hp:eS nt o.dst with
  | none=>rw[hp]at h;exact absurd h id
  | some pd =>
   rw[hp]at h;have jE:=sD hp;dsimp only at h
   cases hgd:o.guard with
   | none =>
    rw[hgd]at h;dsimp only at h
    have fin:Wp nt (λ QQ a w=>o.wpIn (FW r) 0 P a w (wpOpsIn (FW r) 0 P ops QQ (range' (i+1) l.length)) QQ) F H n m Q->Wp nt (λ QQ a w=>wpOpsIn (FW r) 0 P ops QQ (range' i (l.length+1)) a w) F H n m Q:=by
     intro hw φ D a w st hf QQ hQ;show wpOpsIn (FW r) 0 P ops QQ (i::range' (i+1) l.length) a w;simp only[wpOpsIn,hi,Region.wanted,hgd,if_true];exact hw φ D a w st hf QQ hQ
    refine fin ?_
    cases hk:xL P o with
    | bad=>rw[hk]at h;exact absurd h id
    | iM e=>rw[hk]at h;exact absurd h id
    | raw f=>rw[hk]at h;exact absurd h id
    | xN e =>
     rw[hk]at h;have hc:=DF hk;exact O2 (X:=λ F H n=>fj P (l.map (uf P nt ops)) F H n m Q) (fV hc) (dR hc) jE (λ F H n hx=>ih F H n hx) h
    | call g as =>
     rw[hk]at h;obtain⟨c,h1,h2,h4⟩:=yQ hk;exact Jp (X:=λ F H n=>fj P (l.map (uf P nt ops)) F H n m Q) h1 h2 h4 jE (λ F H n hx=>ih F H n hx) h
   | some x =>
    obtain⟨j,b⟩:=x;rw[hgd]at h;dsimp only at h
    cases hd:(ops[j]?).bind (·.dst)with
    | none=>rw[hd]at h;exact absurd h id
    | some d =>
     rw[hd]at h;dsimp only at h
     have fin:∀(Y N:Prop),(Y->Wp nt (λ QQ a w=>o.wpIn (FW r) 0 P a w (wpOpsIn (FW r) 0 P ops QQ (range' (i+1) l.length)) QQ) F H n m Q)->(N->fj P (l.map (uf P nt ops)) (pd.f (.bg []) F) H n m Q) ->
       eZ ((aC d).f F) b Y N->Wp nt (λ QQ a w=>wpOpsIn (FW r) 0 P ops QQ (range' i (l.length+1)) a w) F H n m Q:=by
      intro Y N hY hN hG
      have no:N->∀ φ D a w,St nt φ D F H m a w->FrA φ n->∀QQ:QT,(∀o F' H' n' m' φ' D' a' w' px,Q o F' H' n' m'->Ext φ D H.get w n φ' D' H'.get w' n'->St nt φ' D' F' H' m' a' w'->xY φ' D' px o->QQ (gV px o) a' w')->wpOpsIn (FW r) 0 P ops QQ (range' (i+1) l.length) (a.put o.dst undef) w:=
       λ hN'=>wp_skip jE (ih _ _ _ (hN hN'))
      rw[fT]at hG;intro φ D a w st hf QQ hQ;show wpOpsIn (FW r) 0 P ops QQ (i::range' (i+1) l.length) a w
      cases hv:F.get d with
      | none=>rw[hv]at hG;exact absurd hG id
      | some v =>
       rw[hv]at hG
       by_cases hb:∃c,v=.bool c
       ·obtain⟨c,rfl⟩:=hb;have hy:=(tell hd st.fr hv).1 c rfl;have hG:(bif c == b then Y else N):=hG;simp only[wpOpsIn,hi,Region.wanted,hgd,hy]
        cases hcb:c == b with
        | true =>
         rw[hcb]at hG;rw[if_pos (by simpa using hcb)];exact hY hG φ D a w st hf QQ hQ
        | false =>
         rw[hcb]at hG;rw[if_neg (by simpa using hcb)];exact⟨λ _ _=>trivial,no hG φ D a w st hf QQ hQ⟩
       have hnb:∀c,v≠.bool c:=λ c e=>hb ⟨c,e⟩;have hy:=(tell hd st.fr hv).2 hnb
       have hG:N:=by
        cases v<;>first | exact hG | exact absurd rfl (hnb _)
       simp only[wpOpsIn,hi,Region.wanted,hgd,hy];rw[if_neg (by simp)];exact⟨λ _ _=>trivial,no hG φ D a w st hf QQ hQ⟩
     cases hk:xL P o with
     | bad=>rw[hk]at h;exact fin _ _ (λ h=>absurd h id) (λ h=>h) h
     | iM e=>rw[hk]at h;exact fin _ _ (λ h=>absurd h id) (λ h=>h) h
     | raw f=>rw[hk]at h;exact fin _ _ (λ h=>absurd h id) (λ h=>h) h
     | xN e =>
      rw[hk]at h;have hc:=DF hk;exact fin _ _ (λ hy=>O2 (X:=λ F H n=>fj P (l.map (uf P nt ops)) F H n m Q) (fV hc) (dR hc) jE (λ F H n hx=>ih F H n hx) hy) (λ h=>h) h
     | call g as =>
      rw[hk]at h;obtain⟨c,h1,h2,h4⟩:=yQ hk;exact fin _ _ (λ hy=>Jp (X:=λ F H n=>fj P (l.map (uf P nt ops)) F H n m Q) h1 h2 h4 jE (λ F H n hx=>ih F H n hx) hy) (λ h=>h) h
theorem Wp.seq {x y:Code}{F:Fr}{H:Hp}{n:Nat}{m:List Dm}{Q R:QA}(h1:Wp nt (λ QQ a w=>x.wpIn (FW r) 0 P QQ a w) F H n m R)
  (h2:∀o F' H' n' m',R o F' H' n' m'->match o with
   | .normal=>Wp nt (λ QQ a w=>y.wpIn (FW r) 0 P QQ a w) F' H' n' m' Q
   | .exit i=>Q (.exit i) F' H' n' m'
   | .ret=>Q .ret F' H' n' m'
   | .panic _=>False):Wp nt (λ QQ a w=>(Code.seq x y).wpIn (FW r) 0 P QQ a w) F H n m Q:=by
 intro φ D a w st hf QQ hQ;refine wpIn_seq (h1 φ D a w st hf _ λ o F' H' n' m' φ' D' a' w' px hr e st' pp=>?_);have:=h2 o F' H' n' m' hr
 cases o with
 | normal=>exact this φ' D' a' w' st' (hf.step e) QQ λ o2 F2 H2 n2 m2 φ2 D2 a2 w2 px q e2 s2 pp=>hQ o2 F2 H2 n2 m2 φ2 D2 a2 w2 px q (e.trans e2) s2 pp
 | exit i=>exact hQ _ _ _ _ _ _ _ _ _ _ this e st' pp
 | ret=>exact hQ _ _ _ _ _ _ _ _ _ _ this e st' pp
 | panic v=>exact absurd this id
theorem Wp.rounds {b:Code}{Q:QA}{I J:Nat->Fr->Hp->Nat->List Dm->Prop}(hj:∀k F H n m,J k F H n m->Zs I k F H n m)(hb:∀k F H n m,I k F H n m->Wp nt (λ QQ a w=>b.wpIn (FW r) 0 P QQ a w) F H n m (mE J k Q)):
  ∀(j k:Nat) (F:Fr) (H:Hp) (n:Nat) (m:List Dm),k<j->J k F H n m->Wp nt (λ QQ a w=>Code.roundsIn (FW r) 0 P b QQ j a w) F H n m Q
 | 0,k,_,_,_,_,h,_=>by omega
 | j + 1,k,F,H,n,m,h,hI=>by
  obtain⟨hh,F0,H0,hs,hI0⟩:=hj k F H n m hI;refine Wp.shut hs ?_;intro φ D a w st hf QQ hQ;show Code.roundsIn (FW r) 0 P b QQ (j+1) a w;rw[roundsIn_succ];refine hb k F0 H0 n m hI0 φ D a w st hf _ λ o F' H' n' m' φ' D' a' w' px hr e st' pp=>?_
  cases o with
  | normal =>
   obtain⟨k',hk,hI'⟩:=hr;exact Wp.rounds hj hb j k' F' H' n' m' (by omega) hI' φ' D' a' w' st' (hf.step e) QQ λ o2 F2 H2 n2 m2 φ2 D2 a2 w2 px q e2 s2 pp=>hQ o2 F2 H2 n2 m2 φ2 D2 a2 w2 px q (e.trans e2) s2 pp
  | exit i=>exact hQ _ _ _ _ _ _ _ _ _ _ hr e st' pp
  | ret=>exact hQ _ _ _ _ _ _ _ _ _ _ hr e st' pp
  | panic v=>exact absurd hr id
theorem O1 {g:Operand}{x:G}{ps:Array Tmp}{ca cb:Code}{F:Fr}{H:Hp}{n:Nat}{m:List Dm}{Q:QA}(hg:dM g=some x) (h:VC P (.range nt x ps.toList ca cb) F H n m Q):Wp nt (λ QQ a w=>(Code.rangeFunc g ps ca cb).wpIn (FW none) 0 P QQ a w) F H n m Q:=by
 obtain⟨f,first,cap,hx,⟨fn,b,hfn,hb,hname⟩,hcs⟩:=h;intro φ D a w C4 hf QQ hQ;refine wpIn_rangeFunc λ fid _=>?_;have hgr:=aZ hg F φ D a C4.fr _ hx
 cases hxv:a.eval g with
 | func ff fx cx =>
  rw[hxv]at hgr
  cases hgr with
  | fn _ _ _ fl cl h1 h2 =>
  obtain⟨r1,e1⟩:=ly (n:=n+1) C4.rel (λ b hb1 hb2=>hf b (by omega)) (.deferred (some [])) 0 .kX (World.lG w _);rw[jN]at r1 e1;let w1:=World.newObj w (.deferred (some []));let φ1:=Ph.set φ (n+1) (w.heap.size,0,0)
  have hf1:cB φ1 n (n+1):=by
   intro b hb1 hb2;have:b≠n+1:=by omega
   simp only[φ1,Ph.set,this,if_false];exact hf b (by omega)
  obtain⟨r2,e2⟩:=ly (n:=n) r1 hf1 (.loop {state:=.ready,pending:=none,fn:=fid,tmps:=a.tmps,params:=ps,assign:=ca,body:=cb,defers:=w.heap.size}) 0 (.loop .ready .normal nt F ps.toList ca cb)
   ⟨_,World.lG w1 _,rfl,rfl,C4.sz,(C4.fr.mono e1.phi (λ _ _ h=>h)).mono (Ph.gT (hf1 n (Nat.le_refl _) (by omega))) (λ _ _ h=>h),rfl,rfl,rfl⟩
  rw[jN]at r2 e2;let w2:=World.newObj w1 (.loop {state:=.ready,pending:=none,fn:=fid,tmps:=a.tmps,params:=ps,assign:=ca,body:=cb,defers:=w.heap.size});let φ2:=Ph.set φ1 n (w1.heap.size,0,0)
  have e12:Ext φ D H.get w n φ2 D ((H.put (n+1) (some .kX)).put n (some (.loop .ready .normal nt F ps.toList ca cb))).get w2 (n+2):=
   (e1.wide (Nat.le_succ n) (Nat.le_refl _)).join (e2.wide (Nat.le_refl _) (by omega))
  have hsz1:w1.heap.size=w.heap.size+1:=by simp[w1,World.newObj]
  have hφn:φ2 n=some (w.heap.size+1,0,0):=by simp only[φ2,Ph.set,if_true,hsz1]
  have hφm:φ2 (n+1)=some (w.heap.size,0,0):=e2.phi _ _ (by simp[Ph.set]);refine⟨w.heap.size+1,[{target:=.collected w.heap.size,args:=#[]}],w2,{target:=.fn (.func f) ⟨cl⟩,args:=⟨fl⟩++#[.func (.yield (w.heap.size+1)) #[] #[]]},w2,f,⟨fl++(.func (.yield (w.heap.size+1)) #[] #[]::cl)⟩,w2,run_enterLoop_outer ..,?_,λ _ _=>trivial,?_,λ h=>by simp[FW]at h,?_⟩
  ·simp only[resolve,hxv,Deferred.ofValue,Sem.run_pure];simp[Act.eval]
  ·have harr:(⟨fl⟩:Array Value)++#[Value.func (.yield (w.heap.size+1)) #[] #[]]++⟨cl⟩=⟨fl++(.func (.yield (w.heap.size+1)) #[] #[]::cl)⟩:=by apply Array.ext';simp
   simp only[invoke,callFunc,Sem.run_bind,run_program,Result.andThen_ok,hfn,hname,hb,harr];simp
  refine iO (hcs φ2 D w2 _ r2 ((h1.mono e12.phi (λ _ _ h=>h)).append (.cons _ _ _ _ (.je _ _ _ _ hφn) (h2.mono e12.phi (λ _ _ h=>h)))) (hf.step e12) _ λ v H1 n1 φ3 D3 w3 cv hE e3 hr3 _=>?_);obtain⟨st,j,E9,G3,E8,a3,b3,hq,hst,hnp,hQj⟩:=hE;obtain⟨hlt,rr,q1,q2,q3,q4,q5,q6⟩:=hr3.block hq (e3.phi _ _ hφn);have q1:w3.heap[w.heap.size+1]?=some (.loop rr):=q1;have hend:=run_endLoop (P:=P) q1 (by rw[q2];exact hst);obtain⟨k1,k2⟩:=qM (n:=n1) hr3 (b:=n) (by rw[hq];simp) (e3.phi _ _ hφn) (Go.World.putObj w3 (w.heap.size+1) (.loop {rr with state:=.exhausted})) (λ c hc=>Go.World.putObj_heap_other hc) Go.World.putObj_size rfl rfl;rw[jN]at k1 k2;have sx:=(e12.trans e3).trans k2
  have hst':St nt φ3 D3 F (H1.put n none) (.cu (Nat.succ n)::m) {a with defers:=[{target:=.collected w.heap.size,args:=#[]}]++a.defers} (Go.World.putObj w3 (w.heap.size+1) (.loop {rr with state:=.exhausted})):=
   ⟨k1,C4.fr.mono sx.phi sx.dat,C4.sz,⟨_,_,_,_,e3.phi _ _ hφm,rfl,C4.ud.mono sx.phi sx.dat⟩⟩
  refine⟨_,_,hend,?_⟩;have:=hQ j F _ n1 _ φ3 D3 _ _ undef hQj sx hst';rw[q3]at this ⊢
  cases j with
  | panic v=>exact absurd rfl (hnp v)
  | normal=>exact this trivial
  | exit i=>exact wpIn_exit (this trivial)
  | ret=>exact wpIn_ret (this trivial)
 | _=>rw[hxv]at hgr;cases hgr
theorem fS:∀(c:Code) (F:Fr) (H:Hp) (n:Nat) (m:List Dm) (Q:QA),VC P (e_ P nt r.isSome c) F H n m Q->Wp nt (λ QQ a w=>c.wpIn (FW r) 0 P QQ a w) F H n m Q
 | .skip,F,H,n,m,Q,h=>λ φ D a w st hf QQ hQ=>wpIn_skip (hQ .normal _ _ _ _ _ _ _ _ undef h (Ext.refl ..) st trivial)
 | .exit i,F,H,n,m,Q,h=>λ φ D a w st hf QQ hQ=>wpIn_exit (hQ (.exit i) _ _ _ _ _ _ _ _ undef h (Ext.refl ..) st trivial)
 | .ret,F,H,n,m,Q,h=>λ φ D a w st hf QQ hQ=>wpIn_ret (hQ .ret _ _ _ _ _ _ _ _ undef h (Ext.refl ..) st trivial)
 | .region rid ops d,F,H,n,m,Q,h=>by
  cases d with
  | false =>
   simp only[e_,cond_false]at h
   have h:fj P (ops.toList.map (uf P nt ops)) F H n m Q:=by
    cases hr:r.isSome&&dX ops.toList with
    | true=>rw[hr]at h;exact absurd h id
    | false=>rw[hr]at h;exact h
   have:=ym (P:=P) (nt:=nt) (ops:=ops) (r:=r) ops.toList 0 F H n m Q rfl h;intro φ D a w st hf QQ hQ;refine wpIn_region ?_;rw[range_eq_range'];exact this φ D a w st hf QQ hQ
  | true =>
   simp only[e_,cond_true]at h
   cases AJ:P.follows .mixedOrders with
   | false=>rw[AJ]at h;exact absurd h id
   | true =>
    rw[AJ]at h;simp only[cond_true]at h
    have hk:∃ce h F2 H2,gL P ce/\eH h F H F2 H2/\Ev ((comp P nt r.isSome (.region rid ops true)).f ce F2 H2 n m) Q:=by
     cases hp:ui (k_ ops.toList 0 .nil) ops (NG (k_ ops.toList 0 .nil) ops.toList)with
     | false=>rw[hp]at h;exact absurd h id
     | true =>
      rw[hp]at h;obtain⟨ce,hh,F2,H2,h1,hs,h2⟩:=h;refine⟨ce,hh,F2,H2,h1,hs,?_⟩;rw[kg];simp only[e_,cond_true,AJ,hp];exact h2
    obtain⟨ce,hh,F2,H2,h1,hs,h2⟩:=hk;exact Wp.shut hs (s5 (bq (P:=P) (nt:=nt) (r:=r) h1 (.region rid ops true)) h2)
 | .seq x y,F,H,n,m,Q,h=>by
  refine Wp.seq (fS x F H n m _ h) λ o F' H' n' m' hr=>?_
  cases o with
  | normal=>exact fS y F' H' n' m' Q hr
  | exit i=>exact hr
  | ret=>exact hr
  | panic v=>exact absurd hr id
 | .cond c x y,F,H,n,m,Q,h=>by
  simp only[e_]at h
  cases hc:dM c with
  | none=>rw[hc]at h;exact absurd h id
  | some g =>
   rw[hc]at h;have h:nP (g.f F) (VC P (e_ P nt r.isSome x) F H n m Q) (VC P (e_ P nt r.isSome y) F H n m Q):=h;intro φ D a w st hf QQ hQ
   cases hg:g.f F with
   | none=>rw[hg]at h;exact absurd h id
   | some v =>
    have hv:=aZ hc F φ D a st.fr _ hg;rw[hg]at h
    cases v with
    | bool b =>
     generalize hz:a.eval c=z at hv;cases hv
     cases b with
     | true=>exact wpIn_cond (t:=true) hz (fS x F H n m Q h φ D a w st hf QQ hQ)
     | false=>exact wpIn_cond (t:=false) hz (fS y F H n m Q h φ D a w st hf QQ hQ)
    | _=>exact absurd h id
 | .block id b,F,H,n,m,Q,h=>by
  intro φ D a w st hf QQ hQ;refine wpIn_block (fS b F H n m (bX id Q) h φ D a w st hf _ λ o F' H' n' m' φ' D' a' w' px hr e st' pp=>?_)
  cases o with
  | normal=>exact hQ _ _ _ _ _ _ _ _ _ _ hr e st' pp
  | ret=>exact hQ _ _ _ _ _ _ _ _ _ _ hr e st' pp
  | panic v=>exact False.elim hr
  | exit j =>
   have hr:(if id=j then Q .normal F' H' n' m' else Q (.exit j) F' H' n' m'):=hr
   by_cases hij:j=id
   ·subst hij;rw[if_pos rfl]at hr;simp only[gV,Exit.inBlock,if_true];exact hQ _ _ _ _ _ _ _ _ _ px hr e st' trivial
   rw[if_neg (λ e=>hij e.symm)]at hr;simp only[gV,Exit.inBlock,hij,if_false];exact hQ _ _ _ _ _ _ _ _ _ _ hr e st' pp
 | .loop b,F,H,n,m,Q,h=>by
  have ib:=fS b
  have plain:VC P (.loop (e_ P nt r.isSome b)) F H n m Q->Wp nt (λ QQ a w=>(Code.loop b).wpIn (FW r) 0 P QQ a w) F H n m Q:=by
   intro h;obtain⟨I,J,k,hI,hj,hs⟩:=h;intro φ D a w st hf QQ hQ;exact wpIn_loop_rounds (k+1) (Wp.rounds hj (λ k F H n m hi=>ib F H n m _ (hs k F H n m hi)) (k+1) k F H n m (by omega) hI φ D a w st hf QQ hQ)
  cases b with
  | seq x y =>
   cases hm:yN x with
   | none =>
    refine plain ?_;simp only[e_,hm]at h;exact h
   | some q =>
    obtain⟨x',d,ops,os⟩:=q;simp only[e_,hm]at h
    cases hr:r.isSome&&dX os with
    | true=>rw[hr]at h;exact absurd h id
    | false =>
     rw[hr]at h;obtain⟨ce,h1,h2⟩:=h;refine s5 (bq (P:=P) (nt:=nt) (r:=r) h1 (.loop (.seq x y))) ?_;have:comp P nt r.isSome (.loop (.seq x y))=aaZ P nt x' d ops os (comp P nt r.isSome y):=by simp only[comp,hm,hr];rfl
     rw[this];exact h2
  | _=>exact plain h
 | .rangeFunc g ps ca cb,F,H,n,m,Q,h=>by
  simp only[e_]at h
  cases hc:dM g with
  | none=>rw[hc]at h;exact absurd h id
  | some x =>
   rw[hc]at h
   cases r with
   | some cb0=>exact absurd h id
   | none=>exact O1 hc h
 | .scope b,F,H,n,m,Q,h=>by
  intro φ D a w st hf QQ hQ;refine uJ (fS b F H n m Q h φ D a w st hf _ λ o F' H' n' m' φ' D' a' w' px hr e st' pp=>?_);have:=hQ o F' H' n' m' φ' D' a' w' px hr e st' pp
  cases o<;>exact this
 | .label _,F,H,n,m,Q,h=>λ φ D a w st hf QQ hQ=>wpIn_label (hQ .normal _ _ _ _ _ _ _ _ undef h (Ext.refl ..) st trivial)
 | .goto _,_,_,_,_,_,h=>absurd h id
 | .refuse _,_,_,_,_,_,h=>absurd h id
theorem aH.of {g:FuncId}{c:CF}{args:List AV}{H:Hp}{n:Nat}{R:AV->Hp->Nat->Prop}(hc:cG P g=some c) (hl:args.length<=c.nt)
  (h:∀F:Fr,(∀i,F.get i=args[i]?)->VC P c.code F H n [] (iR c.res R)):aH P g args H n R:=by
 unfold cG at hc
 split at hc
 ·rename_i fn hfn
  split at hc
  ·rename_i b hb
   split at hc
   ·cases hc
   rename_i hname
   split at hc
   ·rename_i gs hgs;injection hc with hc;subst hc;dsimp only at hl h;refine⟨⟨fn,b,hfn,hb,by simpa using hname⟩,λ φ D w xs hrel hvs hf RR hR=>?_⟩;refine callsIn_of_wp_marks hfn hb trivial ?_
    have hsz:((⟨xs⟩:Array Value)++Array.replicate (fn.ntmps - (⟨xs⟩:Array Value).size) undef).size=fn.ntmps:=by
     have:=hvs.length;simp;omega
    have hv:=h (Tr.bO args 0 .nil) λ i=>by
     rw[Tr.bG]
     split
     ·simp
     rw[getElem?_eq_none (by omega)];rfl
    refine fS (r:=none) b _ _ _ _ _ hv φ D {tmps:=(⟨xs⟩:Array Value)++Array.replicate (fn.ntmps - (⟨xs⟩:Array Value).size) undef,defers:=[]} w ⟨hrel,vL hrel.dat.2 hvs _,hsz,rfl⟩ hf _ λ o F1 H1 n1 m1 φ1 D1 a1 w1 px hq aQ st1 pp=>?_
    have key:(o=.normal∨o=.ret)->LeavesInM Fence.wide 0 P fn a1.tmps RR a1.defers .returning w1:=by
     intro ho
     have hq:rM (ez m1 H1) λ H'=>rM (ux F1 H' gs) λ vs=>R (t_ vs) H' n1:=by
      rcases ho with rfl | rfl
      ·simpa using hq
      simpa using hq
     cases hu:ez m1 H1 with
     | none=>rw[hu]at hq;exact absurd hq id
     | some H2 =>
      rw[hu]at hq;simp only[qR]at hq
      cases he:ux F1 H2 gs with
      | none=>rw[he]at hq;exact absurd hq id
      | some vs =>
       rw[he]at hq;exact yP (P:=P) (fn:=fn) (vs:=vs) hgs he m1 H1 a1.defers a1.tmps φ1 D1 w1 _ RR hu st1.rel st1.fr st1.ud λ φ2 D2 w2 x h1 h2 h3=>hR _ _ _ φ2 D2 w2 x hq (aQ.trans h1) h2 h3
    cases o with
    | normal=>exact key (.inl rfl)
    | ret=>exact key (.inr rfl)
    | exit i=>exact absurd hq id
    | panic v=>exact absurd hq id
   cases hc
  cases hc
 cases hc
theorem ai.ofR {g:FuncId}{args:List AV}{v:AV}(hp:aL args)(hv:Pure v)(h:aH P g args .nil 0 (λ v1 H' _=>dU H'.get v1 v)):ai P g args v:=by
 obtain⟨hb,hs⟩:=h;refine⟨hb,hp,hv,λ D w xs hd hv R hR=>?_⟩;refine hs jW D w xs (qL hd) hv (λ _ _=>rfl) R λ v1 H' n' φ' D' w' x h2 aQ hrel hx=>?_;refine hR (shut φ' D' H'.get w') w' x ⟨λ c x hx=>fg c x (aQ.dat c x hx),aQ.size,λ c hc=>aQ.keep c hc λ b p hb=>by simp at hb,λ c hc=>?_,aQ.os,aQ.out⟩ (jH hrel.dat) (h2.vr hrel hx);unfold shut at hc
 split at hc
 ·rename_i y hy
  rcases aQ.jz c (by rw[hy];simp)with h | h | ⟨b0,p0,hh,_⟩
  ·exact .inl h
  ·exact .inr h
  simp at hh
 split at hc
 ·rename_i hex;obtain⟨b,p,hb,hp,rfl⟩:=hex
  rcases aQ.live b p hb hp with h | ⟨b0,p0,hh,_⟩
  ·exact .inr h
  simp at hh
 exact absurd rfl hc
theorem ai.iB {g:FuncId}{args:List AV}{v:AV}(h:ai P g args v)(H:Hp)(n:Nat):aH P g args H n (λ u K k=>u=v/\K=H/\k=n):=(h.gY H n).iB
mutual
def Flat:AV->Prop
 | .int _ _=>True
 | .bool _=>True
 | .str _=>True
 | .ak _=>True
 | .agg cs _=>fE cs
 | .bg cs=>fE cs
 | .kV _ v=>Flat v
 | _=>False
def fE:List AV->Prop
 | []=>True
 | v::r=>Flat v/\fE r
end
@[simp] theorem aoV (k:IntKind)(i:Int):Flat (.int k i):=by simp only[Flat]
@[simp] theorem alW (b:Bool):Flat (.bool b):=by simp only[Flat]
@[simp] theorem aoU (l:List Nat):Flat (.str l):=by simp only[Flat]
@[simp] theorem aoW (v:Value):Flat (.ak v):=by simp only[Flat]
@[simp] theorem flat_agg (cs:List AV)(n:Nat):Flat (.agg cs n)=fE cs:=by simp only[Flat]
@[simp] theorem aoT (cs:List AV):Flat (.bg cs)=fE cs:=by simp only[Flat]
@[simp] theorem alX:fE []:=by simp only[fE]
@[simp] theorem ajN (v:AV)(r:List AV):fE (v::r)=(Flat v/\fE r):=by simp only[fE]
mutual
theorem Flat.out {φ φ':Ph}{D D':Da}:∀ {v:AV}{x:Value},Flat v->VR φ D v x->VR φ' D' v x
 | .int _ _,_,_,.int _ _=>.int _ _
 | .bool _,_,_,.bool _=>.bool _
 | .str _,_,_,.str _ _ e=>.str _ _ e
 | .ak _,_,_,.ak _ e=>.ak _ e
 | .agg _ _,_,h,.agg _ _ _ a b=>.agg _ _ _ (fE.oQ (by simpa only [Flat]using h) a) b
 | .bg _,_,h,.bg _ _ a=>.bg _ _ (fE.oQ (by simpa only [Flat]using h) a)
 | .kV _ _,_,h,.kV _ _ _ a=>.kV _ _ _ (Flat.out (by simpa only [Flat]using h) a)
theorem fE.oQ {φ φ':Ph}{D D':Da}:∀ {vs:List AV}{xs:List Value},fE vs->bW φ D vs xs->bW φ' D' vs xs
 | [],_,_,.nil=>.nil
 | _::_,_,h,.cons _ _ _ _ h1 h2=>.cons _ _ _ _ (Flat.out (by simp only[fE]at h;exact h.1) h1) (fE.oQ (by simp only[fE]at h;exact h.2) h2)
end
theorem ai.acY {g:FuncId}{args args':List AV}{v:AV}(h:ai P g args' v) (hf:Flat v){H:Hp}(n:Nat) (hz:aN H.get args args'):∀ φ D w xs,Rel φ D H.get w->bW φ D args xs->∀R:Ending->World->Prop,
  (∀ φ' D' w' x,Ext φ D H.get w n φ' D' H.get w' n->Rel φ' D' H.get w'->VR φ' D' v x->R (.returned x) w')->CallsIn Fence.wide 0 P g ⟨xs⟩ w R:=by
 intro φ D w xs hr hv R hR;refine h.run (shut φ D H.get w) w xs (jH hr.dat) (hz.oQ hr hv) R λ D' w' x hk hd hx=>?_
 let D2:Da:=λ c=>match D c with
  | some y=>some y
  | none=>match shut φ D H.get w c with
   | some _=>none
   | none=>D' c
 have e1:∀c x,D c=some x->D2 c=some x:=λ c x hc=>by simp only[D2,hc]
 have e2:∀c x,D2 c=some x->D' c=some x:=by
  intro c x hc;simp only[D2]at hc
  split at hc
  ·rename_i y hy;injection hc with hc;subst hc;exact hk.dat c _ (fg c _ hy)
  split at hc
  ·cases hc
  exact hc
 have e3:∀c,D2 c≠none->D c≠none∨w.heap.size<=c:=by
  intro c hc;simp only[D2]at hc
  split at hc
  ·rename_i y hy;exact .inl (by rw[hy];simp)
  split at hc
  ·exact absurd rfl hc
  rename_i hs
  rcases hk.jz c hc with h | h
  ·exact absurd hs h
  exact .inr h
 refine hR φ D2 w' x ⟨Nat.le_refl _,λ _ _ h=>h,λ _ a b=>absurd a b,e1,hk.size,λ c hc _=>hk.keep c hc,λ b p hb hp=>.inr ⟨b,p,hb,hp,rfl⟩,λ c hc=>(e3 c hc).elim .inl λ h=>.inr (.inl h),λ _ h=>.inl h,hk.os,hk.out⟩ ?_ (hf.out hx);refine⟨λ b k hb=>?_,hr.inj,λ b p hb hp=>?_,⟨λ c x hc=>hd.1 c x (e2 c x hc),hr.dat.2.mono e1⟩⟩
 ·obtain⟨p,hp,hl,hk'⟩:=hr.blk b k hb;exact⟨p,hp,Nat.lt_of_lt_of_le hl hk.size,hk'.mono (λ _ _ h=>h) e1 (hk.keep _ hl)⟩
 cases hD:D2 p.1 with
 | none=>rfl
 | some x =>
  rcases e3 p.1 (by rw[hD];simp)with h1 | h1
  ·exact absurd (hr.sep b p hb hp) h1
  cases hx:H.get b with
  | none=>exact absurd hx hb
  | some k=>have:=(hr.block hx hp).1;omega
theorem ai.apq {g:FuncId}{args args':List AV}{v:AV}(h:ai P g args' v)(hf:Flat v){H:Hp}(n:Nat)(hz:aN H.get args args'):aH P g args H n (λ u K k=>u=v/\K=H/\k=n):=
 ⟨h.body,λ φ D w xs hr hv _ R hR=>h.acY hf n hz φ D w xs hr hv R λ φ' D' w' x e r k=>hR v H n φ' D' w' x ⟨rfl,rfl,rfl⟩ e r k⟩
theorem ai.abz {g:FuncId}{args args':List AV}{v:AV}(h:ai P g args' v)(hf:Flat v){H:Hp}(n:Nat)(hz:aN H.get args args'):bT P g args H n v H n:=
 ⟨h.body,Nat.le_refl _,λ φ D w xs hr hv _ R hR=>h.acY hf n hz φ D w xs hr hv R hR⟩
end
end Go.Abs
namespace Go.Abs
open List
def hJ (P:Program)(b:CT)(Q:QA):QA:=λ o F' H' n' m'=>match o with
 | .normal=>VC P b F' H' n' m' Q
 | .exit i=>Q (.exit i) F' H' n' m'
 | .ret=>Q .ret F' H' n' m'
 | .panic _=>False
def tY (v:Option AV)(a b:CT)(P:Program)(F:Fr)(H:Hp)(n:Nat)(m:List Dm)(Q:QA):Prop:=nP v (VC P a F H n m Q) (VC P b F H n m Q)
def Je (x:bP)(pd:Pd)(r:List (Option GO))(P:Program)(F:Fr)(H:Hp)(n:Nat)(m:List Dm)(Q:QA):Prop:=yd x H n λ v H' n'=>fj P r (pd.f v F) H' n' m Q
def ao (f:FuncId)(vs:List AV)(pd:Pd)(r:List (Option GO))(P:Program)(F:Fr)(H:Hp)(n:Nat)(m:List Dm)(Q:QA):Prop:=aH P f vs H n λ v H' n'=>fj P r (pd.f v F) H' n' m Q
def OT (vs:Option (List AV))(f:FuncId)(pd:Pd)(r:List (Option GO))(P:Program)(F:Fr)(H:Hp)(n:Nat)(m:List Dm)(Q:QA):Prop:=rM vs λ vs=>ao f vs pd r P F H n m Q
def GA (q:Nat)(vs:List AV)(pd:Pd)(r:List (Option GO))(P:Program)(F:Fr)(H:Hp)(n:Nat)(m:List Dm)(Q:QA):Prop:=xU P q vs H n λ v H' n'=>fj P r (pd.f v F) H' n' m Q
def E3 (v:Option AV)(vs:Option (List AV))(pd:Pd)(r:List (Option GO))(P:Program)(F:Fr)(H:Hp)(n:Nat)(m:List Dm)(Q:QA):Prop:=match v with
 | some (.fn (.func f) first cap)=>rM vs λ vs=>ao f (first++(vs++cap)) pd r P F H n m Q
 | some (.je q)=>rM vs λ vs=>GA q vs pd r P F H n m Q
 | _=>False
def Sv (v:Option AV)(nt:Nat)(ps:List Nat)(a b:Code)(P:Program)(F:Fr)(H:Hp)(n:Nat)(m:List Dm)(Q:QA):Prop:=match v with
 | some (.fn (.func f) first cap)=>aH P f (first++(.je n::cap)) ((H.put (Nat.succ n) (some .kX)).put n (some (.loop .ready .normal nt F ps a b))) (Nat.succ (Nat.succ n)) λ _ H' n'=>abY n F m Q H' n'
 | _=>False
def OK (v:Option AV)(b:Bool)(pd:Pd)(e:Eff)(r:List (Option GO))(P:Program)(F:Fr)(H:Hp)(n:Nat)(m:List Dm)(Q:QA):Prop:=eZ v b (Je (e F H n) pd r P F H n m Q) (fj P r (pd.f (.bg []) F) H n m Q)
def OM (v:Option AV)(b:Bool)(pd:Pd)(f:FuncId)(as:List G)(r:List (Option GO))(P:Program)(F:Fr)(H:Hp)(n:Nat)(m:List Dm)(Q:QA):Prop:=eZ v b (OT (fM F as) f pd r P F H n m Q) (fj P r (pd.f (.bg []) F) H n m Q)
def OJ (v:Option AV)(b:Bool)(pd:Pd)(g:G)(as:List G)(r:List (Option GO))(P:Program)(F:Fr)(H:Hp)(n:Nat)(m:List Dm)(Q:QA):Prop:=eZ v b (E3 (g.f F) (fM F as) pd r P F H n m Q) (fj P r (pd.f (.bg []) F) H n m Q)
def au (b:CT)(P:Program)(F:Fr)(H:Hp)(n:Nat)(m:List Dm)(Q:QA):Prop:=∃(I J:Nat->Fr->Hp->Nat->List Dm->Prop)(k:Nat),J k F H n m/\(∀k F H n m,J k F H n m->Zs I k F H n m)/\∀k F H n m,I k F H n m->VC P b F H n m (mE J k Q)
def bY (ds:List Nat)(l:List (Option RO))(P:Program)(F:Fr)(H:Hp)(n:Nat)(m:List Dm)(Q:QA):Prop:=∃ce h F2 H2,gL P ce/\eH h F H F2 H2/\Ev ((Eh ds (fH l)).f ce F2 H2 n m) Q
section
variable {P:Program}{F:Fr}{H:Hp}{n:Nat}{m:List Dm}{Q:QA}
@[simp] theorem gz (b:CT):hJ P b Q .normal F H n m=VC P b F H n m Q:=propext Iff.rfl
@[simp] theorem alA (b:CT)(i:Nat):hJ P b Q (.exit i) F H n m=Q (.exit i) F H n m:=propext Iff.rfl
@[simp] theorem amY (b:CT):hJ P b Q .ret F H n m=Q .ret F H n m:=propext Iff.rfl
@[simp] theorem aj6 (a b:CT):tY (some (.bool true)) a b P F H n m Q=VC P a F H n m Q:=propext Iff.rfl
@[simp] theorem acS (a b:CT):tY (some (.bool false)) a b P F H n m Q=VC P b F H n m Q:=propext Iff.rfl
@[simp] theorem auj (l:List (Option GO)):VC P (.reg l) F H n m Q=fj P l F H n m Q:=propext Iff.rfl
@[simp] theorem cH (ds:List Nat)(l:List (Option RO)):VC P (.fi ds l) F H n m Q=bY ds l P F H n m Q:=propext Iff.rfl
@[simp] theorem bA (a b:CT):VC P (.seq a b) F H n m Q=VC P a F H n m (hJ P b Q):=propext Iff.rfl
@[simp] theorem ar9 (g:G)(a b:CT):VC P (.cond g a b) F H n m Q=tY (g.f F) a b P F H n m Q:=propext Iff.rfl
@[simp] theorem amN (i:Nat)(b:CT):VC P (.block i b) F H n m Q=VC P b F H n m (bX i Q):=propext Iff.rfl
@[simp] theorem ar7 (b:CT):VC P (.loop b) F H n m Q=au b P F H n m Q:=propext Iff.rfl
@[simp] theorem ar8 (i:Nat):VC P (.exit i) F H n m Q=Q (.exit i) F H n m:=propext Iff.rfl
@[simp] theorem aui:VC P .ret F H n m Q=Q .ret F H n m:=propext Iff.rfl
@[simp] theorem ar6:VC P .skip F H n m Q=Q .normal F H n m:=propext Iff.rfl
@[simp] theorem anz (pd:Pd)(r:List (Option GO)):Je .fail pd r P F H n m Q=False:=propext Iff.rfl
@[simp] theorem asr (v:AV)(pd:Pd)(r:List (Option GO)):Je (.val v) pd r P F H n m Q=fj P r (pd.f v F) H n m Q:=propext Iff.rfl
@[simp] theorem ast (v:AV)(k:bI)(pd:Pd)(r:List (Option GO)):Je (.new v k) pd r P F H n m Q=fj P r (pd.f v F) (H.put n (some k)) (n+1) m Q:=propext Iff.rfl
@[simp] theorem ass (v:AV)(b:Nat)(k:bI)(pd:Pd)(r:List (Option GO)):Je (.upd v b k) pd r P F H n m Q=fj P r (pd.f v F) (H.put b (some k)) n m Q:=propext Iff.rfl
@[simp] theorem auZ (v:AV)(b:Nat)(k:bI)(pd:Pd)(r:List (Option GO)):Je (.mv v b k) pd r P F H n m Q=fj P r (pd.f v F) ((H.put b none).put n (some k)) (n+1) m Q:=propext Iff.rfl
@[simp] theorem amk (vs:List AV)(f:FuncId)(pd:Pd)(r:List (Option GO)):OT (some vs) f pd r P F H n m Q=ao f vs pd r P F H n m Q:=propext Iff.rfl
@[simp] theorem alV (f:FuncId)(first cap vs:List AV)(pd:Pd)(r:List (Option GO)):E3 (some (.fn (.func f) first cap)) (some vs) pd r P F H n m Q=ao f (first++(vs++cap)) pd r P F H n m Q:=propext Iff.rfl
@[simp] theorem av1 (pd:Pd)(e:Eff)(r:List (Option GO)):OK (some (.bool true)) true pd e r P F H n m Q=Je (e F H n) pd r P F H n m Q:=propext Iff.rfl
@[simp] theorem av2 (pd:Pd)(e:Eff)(r:List (Option GO)):OK (some (.bool false)) true pd e r P F H n m Q=fj P r (pd.f (.bg []) F) H n m Q:=propext Iff.rfl
@[simp] theorem as2 (pd:Pd)(e:Eff)(r:List (Option GO)):OK (some (.bool true)) false pd e r P F H n m Q=fj P r (pd.f (.bg []) F) H n m Q:=propext Iff.rfl
@[simp] theorem as3 (pd:Pd)(e:Eff)(r:List (Option GO)):OK (some (.bool false)) false pd e r P F H n m Q=Je (e F H n) pd r P F H n m Q:=propext Iff.rfl
@[simp] theorem aoF (l:List AV)(b:Bool)(pd:Pd)(e:Eff)(r:List (Option GO)):OK (some (.bg l)) b pd e r P F H n m Q=fj P r (pd.f (.bg []) F) H n m Q:=propext Iff.rfl
@[simp] theorem av7 (pd:Pd)(f:FuncId)(as:List G)(r:List (Option GO)):OM (some (.bool true)) true pd f as r P F H n m Q=OT (fM F as) f pd r P F H n m Q:=propext Iff.rfl
@[simp] theorem av8 (pd:Pd)(f:FuncId)(as:List G)(r:List (Option GO)):OM (some (.bool false)) true pd f as r P F H n m Q=fj P r (pd.f (.bg []) F) H n m Q:=propext Iff.rfl
@[simp] theorem as8 (pd:Pd)(f:FuncId)(as:List G)(r:List (Option GO)):OM (some (.bool true)) false pd f as r P F H n m Q=fj P r (pd.f (.bg []) F) H n m Q:=propext Iff.rfl
@[simp] theorem as9 (pd:Pd)(f:FuncId)(as:List G)(r:List (Option GO)):OM (some (.bool false)) false pd f as r P F H n m Q=OT (fM F as) f pd r P F H n m Q:=propext Iff.rfl
@[simp] theorem aoI (l:List AV)(b:Bool)(pd:Pd)(f:FuncId)(as:List G)(r:List (Option GO)):OM (some (.bg l)) b pd f as r P F H n m Q=fj P r (pd.f (.bg []) F) H n m Q:=propext Iff.rfl
@[simp] theorem avZ (pd:Pd)(g:G)(as:List G)(r:List (Option GO)):OJ (some (.bool true)) true pd g as r P F H n m Q=E3 (g.f F) (fM F as) pd r P F H n m Q:=propext Iff.rfl
@[simp] theorem av0 (pd:Pd)(g:G)(as:List G)(r:List (Option GO)):OJ (some (.bool false)) true pd g as r P F H n m Q=fj P r (pd.f (.bg []) F) H n m Q:=propext Iff.rfl
@[simp] theorem as0 (pd:Pd)(g:G)(as:List G)(r:List (Option GO)):OJ (some (.bool true)) false pd g as r P F H n m Q=fj P r (pd.f (.bg []) F) H n m Q:=propext Iff.rfl
@[simp] theorem as1 (pd:Pd)(g:G)(as:List G)(r:List (Option GO)):OJ (some (.bool false)) false pd g as r P F H n m Q=E3 (g.f F) (fM F as) pd r P F H n m Q:=propext Iff.rfl
@[simp] theorem aoE (l:List AV)(b:Bool)(pd:Pd)(g:G)(as:List G)(r:List (Option GO)):OJ (some (.bg l)) b pd g as r P F H n m Q=fj P r (pd.f (.bg []) F) H n m Q:=propext Iff.rfl
@[simp] theorem zO:fj P [] F H n m Q=Q .normal F H n m:=propext Iff.rfl
@[simp] theorem auk (pd:Pd)(e:Eff)(r:List (Option GO)):fj P (oP pd e::r) F H n m Q=Je (e F H n) pd r P F H n m Q:=propext Iff.rfl
@[simp] theorem aul (g:G)(b:Bool)(pd:Pd)(e:Eff)(r:List (Option GO)):fj P (gP g b pd e::r) F H n m Q=OK (g.f F) b pd e r P F H n m Q:=propext Iff.rfl
theorem Gq (g:G)(as:List G)(K:FuncId->List AV->Prop)(K2:Nat->List AV->Prop):((∃f first cap vs,g.f F=some (.fn (.func f) first cap)/\fM F as=some vs/\K f (first++(vs++cap)))∨(∃q vs,g.f F=some (.je q)/\fM F as=some vs/\K2 q vs))↔(match g.f F with
  | some (.fn (.func f) first cap)=>rM (fM F as) λ vs=>K f (first++(vs++cap))
  | some (.je q)=>rM (fM F as) λ vs=>K2 q vs
  | _=>False):=by
 constructor
 ·rintro(⟨f,first,cap,vs,h1,h2,h3⟩ | ⟨q,vs,h1,h2,h3⟩)
  ·rw[h1,h2];exact h3
  rw[h1,h2];exact h3
 intro h
 split at h
 ·rename_i f first cap hg
  cases hv:fM F as with
  | none=>rw[hv]at h;exact absurd h id
  | some vs=>rw[hv]at h;exact .inl ⟨f,first,cap,vs,hg,rfl,h⟩
 ·rename_i q hg
  cases hv:fM F as with
  | none=>rw[hv]at h;exact absurd h id
  | some vs=>rw[hv]at h;exact .inr ⟨q,vs,hg,rfl,h⟩
 exact absurd h id
@[simp] theorem O6 (pd:Pd)(g:G)(as:List G)(r:List (Option GO)):fj P (vP pd g as::r) F H n m Q=E3 (g.f F) (fM F as) pd r P F H n m Q:=by
 refine Eq.trans (propext (Gq (F:=F) g as (λ f l=>ao f l pd r P F H n m Q) λ q l=>GA q l pd r P F H n m Q)) ?_;unfold E3;rfl
@[simp] theorem aix (pd:Pd)(f:FuncId)(as:List G)(r:List (Option GO)):fj P (cP pd f as::r) F H n m Q=OT (fM F as) f pd r P F H n m Q:=by
 refine Eq.trans (O6 pd (aF (.fn (.func f) [] [])) as r) ?_;simp only[vZ,E3,OT,nil_append,append_nil]
@[simp] theorem ar' (g:G)(b:Bool)(pd:Pd)(f:FuncId)(as:List G)(r:List (Option GO)):fj P (eK g b pd f as::r) F H n m Q=OM (g.f F) b pd f as r P F H n m Q:=by
 show eZ (g.f F) b (fj P (cP pd f as::r) F H n m Q) _=_;rw[aix];rfl
def gvP (g:G)(b:Bool)(pd:Pd)(h:G)(as:List G):Option GO:=some ⟨some (g,b),pd,.call h as⟩
@[simp] theorem ar_ (g:G)(b:Bool)(pd:Pd)(h:G)(as:List G)(r:List (Option GO)):fj P (gvP g b pd h as::r) F H n m Q=OJ (g.f F) b pd h as r P F H n m Q:=by
 show eZ (g.f F) b (fj P (vP pd h as::r) F H n m Q) _=_;rw[O6];rfl
@[simp] theorem aoP (q:Nat)(vs:List AV)(pd:Pd)(r:List (Option GO)):E3 (some (.je q)) (some vs) pd r P F H n m Q=GA q vs pd r P F H n m Q:=propext Iff.rfl
theorem Nm (g:G)(K:FuncId->List AV->List AV->Prop):(∃f first cap,g.f F=some (.fn (.func f) first cap)/\K f first cap)↔(match g.f F with
  | some (.fn (.func f) first cap)=>K f first cap
  | _=>False):=by
 constructor
 ·rintro⟨f,first,cap,h1,h2⟩;rw[h1];exact h2
 intro h
 split at h
 ·rename_i f first cap hg;exact⟨f,first,cap,hg,h⟩
 exact absurd h id
@[simp] theorem amM (nt:Nat)(g:G)(ps:List Nat)(a b:Code):VC P (.range nt g ps a b) F H n m Q=Sv (g.f F) nt ps a b P F H n m Q:=
 Eq.trans (propext (Nm (F:=F) g λ f first cap=>aH P f (first++(.je n::cap)) ((H.put (Nat.succ n) (some .kX)).put n (some (.loop .ready .normal nt F ps a b))) (Nat.succ (Nat.succ n)) λ _ H' n'=>abY n F m Q H' n')) (by unfold Sv;rfl)
theorem Sv.of {f:FuncId}{first cap:List AV}{nt:Nat}{ps:List Nat}{a b:Code}(h:aH P f (first++(.je n::cap)) ((H.put (n+1) (some .kX)).put n (some (.loop .ready .normal nt F ps a b))) (n+2) λ _ H' n'=>abY n F m Q H' n'):Sv (some (.fn (.func f) first cap)) nt ps a b P F H n m Q:=h
theorem E6.of {nt:Nat}{c:Code}{Q:QA}(h:VC P (e_ P nt true c) F H n [] Q):E6 P nt c F H n Q:=λ cb=>fS (r:=some cb) c F H n [] Q h
theorem GA.of {q:Nat}{vs:List AV}{pd:Pd}{r:List (Option GO)}{st:LoopState}{j:mF}{nt:Nat}{F0 F1:Fr}{ps:List Nat}{a b:Code}(hq:H.get q=some (.loop st j nt F0 ps a b))(hp:oT nt ps vs F0=some F1)
  (ha:VC P (e_ P nt true a) F1 H n [] λ o F2 H2 n2 m2=>o=.normal/\m2=[]/\∃j2 FC G2 ps2 a2 b2,H2.get q=some (.loop .ready j2 FC G2 ps2 a2 b2)/\VC P (e_ P nt true b) F2 (H2.put q (some (.loop .busy j2 FC G2 ps2 a2 b2))) n2 [] λ j3 _ H3 n3 _=>OI q (λ v H' n'=>fj P r (pd.f v F) H' n' m Q) j3 H3 n3):GA q vs pd r P F H n m Q:=by
 refine⟨st,j,nt,F0,ps,a,b,F1,hq,hp,λ cb=>?_⟩;refine λ φ D ac w C4 hf QQ hQ=>fS (r:=some cb) a F1 H n [] _ ha φ D ac w C4 hf QQ λ o F' H' n' m' φ' D' a' w' px h e s pp=>hQ o F' H' n' m' φ' D' a' w' px ?_ e s pp;obtain⟨h1,h2,j2,FC,G2,ps2,a2,b2,h3,h4⟩:=h;exact⟨h1,h2,j2,FC,G2,ps2,a2,b2,h3,E6.of h4⟩
@[simp] theorem aiA {q:Nat}{m:List Dm}{H:Hp}(h:H.get q=some .kX):ez (.cu q::m) H=ez m (H.put q none):=by
 simp only[ez,h]
def Db:Code->List (Code×Code)
 | .seq a b=>Db a++Db b
 | .cond _ a b=>Db a++Db b
 | .block _ b=>Db b
 | .loop b=>Db b
 | .scope b=>Db b
 | .rangeFunc _ _ a b=>[(a,b)]
 | _=>[]
def am4 (P:Program) (g k:Nat):Code×Code:=match P.funcs[g]? with
 | some fn=>match fn.body with
  | some b=>(Db b).getD k (.skip,.skip)
  | none=>(.skip,.skip)
 | none=>(.skip,.skip)
theorem ao.of {f:FuncId}{vs:List AV}{pd:Pd}{r:List (Option GO)}{R:AV->Hp->Nat->Prop}(h:aH P f vs H n R)(k:∀v H' n',R v H' n'->fj P r (pd.f v F) H' n' m Q):ao f vs pd r P F H n m Q:=h.mono k
theorem ao.pure {f:FuncId}{vs:List AV}{pd:Pd}{r:List (Option GO)}{v:AV}(h:ai P f vs v)(k:fj P r (pd.f v F) H n m Q):ao f vs pd r P F H n m Q:=(h.iB H n).mono λ u K k' ⟨a,b,c⟩=>by subst a b c;exact k
theorem ao.uw {f:FuncId}{vs vs':List AV}{pd:Pd}{r:List (Option GO)}{v:AV}(h:ai P f vs' v)(hf:Flat v)(hz:aN H.get vs vs')(k:fj P r (pd.f v F) H n m Q):ao f vs pd r P F H n m Q:=(h.apq hf n hz).mono λ u K k' ⟨a,b,c⟩=>by subst a b c;exact k
theorem au.of {b:CT}(I:Nat->Fr->Hp->Nat->List Dm->Prop)(k:Nat)(h0:I k F H n m)(hs:∀k F H n m,I k F H n m->VC P b F H n m (mE I k Q)):au b P F H n m Q:=⟨I,I,k,h0,λ _ _ _ _ _ h=>Zs.refl h,hs⟩
theorem au.ofZ {b:CT}(I:Nat->Fr->Hp->Nat->List Dm->Prop)(k:Nat)(h0:Zs I k F H n m)(hs:∀k F H n m,I k F H n m->VC P b F H n m (mE (Zs I) k Q)):au b P F H n m Q:=⟨I,Zs I,k,h0,λ _ _ _ _ _ h=>h,hs⟩
theorem bY.of {ds:List Nat}{l:List (Option RO)}{ce:Ce}(hce:gL P ce)(h:Ev ((Eh ds (fH l)).f ce F H n m) Q):bY ds l P F H n m Q:=⟨ce,_,F,H,hce,eH.refl F H,h⟩
theorem bY.ofZ {ds:List Nat}{l:List (Option RO)}{ce:Ce}{h:Hf}{F2:Fr}{H2:Hp}(hce:gL P ce)(s:eH h F H F2 H2)(k:Ev ((Eh ds (fH l)).f ce F2 H2 n m) Q):bY ds l P F H n m Q:=⟨ce,h,F2,H2,hce,s,k⟩
theorem tY.of {c:Prop} [Decidable c] {a b:CT}(h1:c->VC P a F H n m Q)(h2:¬c->VC P b F H n m Q):tY (some (.bool (decide c))) a b P F H n m Q:=by
 by_cases h:c
 ·simp[h];exact h1 h
 simp[h];exact h2 h
theorem tY.ofB {c:Bool}{a b:CT}(h1:c=true->VC P a F H n m Q)(h2:c=false->VC P b F H n m Q):tY (some (.bool c)) a b P F H n m Q:=by
 cases c
 ·exact h2 rfl
 exact h1 rfl
theorem bH:gL P (xQ λ _ _ _ _=>.fail):=Bg λ _ _ _ _ _ _ _ h=>by cases h
theorem bf {g:FuncId}{c:CF}{args:List AV}{v:AV}(hc:cG P g=some c)(hp:aL args)(hv:Pure v)(hl:args.length<=c.nt)
  (h:∀F:Fr,(∀i,F.get i=args[i]?)->VC P c.code F .nil 0 [] (iR c.res λ v1 H' _=>dU H'.get v1 v)):ai P g args v:=ai.ofR hp hv (aH.of hc hl h)
def aoM (r:iq):Option AV:=match r with
 | .mk v _ _=>some v
 | _=>none
theorem ai.lit {g:FuncId}{args:List AV}{v:AV}(hp:aL args)(hv:Pure v)(h:aoM (jl P (xQ λ _ _ _ _=>.fail) g args .nil 0)=some v):ai P g args v:=by
 refine ai.of bH hp ?_
 cases hr:jl P (xQ λ _ _ _ _=>.fail) g args .nil 0 with
 | fail=>rw[hr]at h;cases h
 | pE v1 H' n'=>rw[hr]at h;cases h
 | mk v1 H' n'=>rw[hr]at h;injection h with h;subst h;exact⟨_,_,_,rfl,.pure _ hv⟩
theorem ai.apR {g:FuncId}{args:List AV}{v:AV}(k:Nat)(hp:aL args)(hv:Pure v)(h:aoM ((Go.Abs.run P (k+1)).call g args .nil 0)=some v):ai P g args v:=by
 refine ai.of (Fy (P:=P) k) hp ?_;have e:jl P (Go.Abs.run P k) g args .nil 0=(Go.Abs.run P (k+1)).call g args .nil 0:=rfl
 cases hr:jl P (Go.Abs.run P k) g args .nil 0 with
 | fail=>rw[<-e,hr]at h;cases h
 | pE v1 H' n'=>rw[<-e,hr]at h;cases h
 | mk v1 H' n'=>rw[<-e,hr]at h;injection h with h;subst h;exact⟨_,_,_,rfl,.pure _ hv⟩
mutual
theorem VR.back {φ φ':Ph}{D D':Da}(hφ:∀b x,φ b=some x->φ' b=some x):∀ {v x x'},VR φ D v x->VR φ' D' v x'->VR φ D' v x'
 | _,_,_,.int _ _,.int _ _=>.int _ _
 | _,_,_,.bool _,.bool _=>.bool _
 | _,_,_,.str _ _ _,.str _ _ e=>.str _ _ e
 | _,_,_,.ptr _ _ _ _ _ h,.ptr _ _ _ _ _ k=>by rw[hφ _ _ h]at k;injection k with k;injection k with a b;injection b with b c;subst a b c;exact .ptr _ _ _ _ _ h
 | _,_,_,.sl _ _ _ _ _ _ _ _ _ h _ _,.sl _ _ _ _ _ _ _ _ _ k p q=>by rw[hφ _ _ h]at k;injection k with k;injection k with a b;injection b with b c;subst a b c;exact .sl _ _ _ _ _ _ _ _ _ h p q
 | _,_,_,.agg _ _ _ h _,.agg _ _ _ k e=>.agg _ _ _ (bW.back hφ h k) e
 | _,_,_,.bg _ _ h,.bg _ _ k=>.bg _ _ (bW.back hφ h k)
 | _,_,_,.kV _ _ _ h,.kV _ _ _ k=>.kV _ _ _ (VR.back hφ h k)
 | _,_,_,.fn _ _ _ _ _ h1 h2,.fn _ _ _ _ _ k1 k2=>.fn _ _ _ _ _ (bW.back hφ h1 k1) (bW.back hφ h2 k2)
 | _,_,_,.map _ _ _ _ h,.map _ _ _ _ k=>by rw[hφ _ _ h]at k;injection k with k;injection k with a b;injection b with b c;subst a b c;exact .map _ _ _ _ h
 | _,_,_,.ds _ _ _ _ _ _ _ _ _ _ _ h _,.ds _ _ _ _ _ _ _ _ a b c k e=>.ds _ _ _ _ _ _ _ _ a b c (bW.back hφ h k) e
 | _,_,_,.ds _ _ _ _ _ _ _ _ _ _ _ _ _,.rK _ _ _=>.rK _ _ _
 | _,_,_,.ds _ _ _ _ _ _ _ _ _ _ _ _ _,.sC _=>.sC _
 | _,_,_,.rK _ _ _,.ds _ _ _ _ _ _ _ _ a b c k e=>.ds _ _ _ _ _ _ _ _ a b c (by cases k;exact .nil) e
 | _,_,_,.rK _ _ _,.rK _ _ _=>.rK _ _ _
 | _,_,_,.rK _ _ _,.sC _=>.sC _
 | _,_,_,.sC _,.ds _ _ _ _ _ _ _ _ a b c k e=>.ds _ _ _ _ _ _ _ _ a b c (by cases k;exact .nil) e
 | _,_,_,.sC _,.rK _ _ _=>.rK _ _ _
 | _,_,_,.sC _,.sC _=>.sC _
 | _,_,_,.dp _ _ _ _ _ _ _ h,.dp _ _ _ _ _ a b k=>.dp _ _ _ _ _ a b (bW.back hφ h k)
 | _,_,_,.je _ _ _ _ h,.je _ _ _ _ k=>by rw[hφ _ _ h]at k;injection k with k;injection k with a b;injection b with b c;subst a b c;exact .je _ _ _ _ h
 | _,_,_,.ak _ _,.ak _ e=>.ak _ e
theorem bW.back {φ φ':Ph}{D D':Da}(hφ:∀b x,φ b=some x->φ' b=some x):∀ {v x x'},bW φ D v x->bW φ' D' v x'->bW φ D' v x'
 | _,_,_,.nil,.nil=>.nil
 | _,_,_,.cons _ _ _ _ h1 h2,.cons _ _ _ _ k1 k2=>.cons _ _ _ _ (VR.back hφ h1 k1) (bW.back hφ h2 k2)
end
theorem sZ.back {φ φ':Ph}{D D':Da}(hφ:∀b x,φ b=some x->φ' b=some x):∀ {v x x'},sZ φ D v x->sZ φ' D' v x'->sZ φ D' v x'
 | _,_,_,.nil,.nil=>.nil
 | _,_,_,.cons _ _ _ _ _ _ _ a b c,.cons _ _ _ _ _ _ _ a' b' c'=>.cons _ _ _ _ _ _ _ (a.back hφ a') (b.back hφ b') (sZ.back hφ c c')
theorem FR.back {φ φ':Ph}{D D':Da}(hφ:∀b x,φ b=some x->φ' b=some x){F:Ff}{t t':Array Value}(h:FR φ D F t)(k:FR φ' D' F t'):FR φ D' F t':=by
 refine⟨λ s v hv=>?_,k.2⟩;obtain⟨x,_,h2⟩:=h.1 s v hv;obtain⟨y,k1,k2⟩:=k.1 s v hv;exact⟨y,k1,h2.back hφ k2⟩
theorem iT.back {φ φ':Ph}{D D':Da}{w w':World} {p}(hφ:∀b x,φ b=some x->φ' b=some x){k:bI}(h:iT φ D w p k)(k':iT φ' D' w' p k):iT φ D' w' p k:=by
 cases k with
 | cells u z bs t =>
  obtain⟨c,e,fr,h1,h2,h3,h4,h5⟩:=h;obtain⟨c',e',fr',k1,k2,k3,k4,k5⟩:=k';exact⟨c',e',fr',k1,k2,k3,λ i v hv=>let ⟨x,_,a⟩:=h4 i v hv;let ⟨y,b,b'⟩:=k4 i v hv;⟨y,b,a.back hφ b'⟩,k5⟩
 | map es OV=>obtain⟨c,h1,h2⟩:=h;obtain⟨c',k1,k2⟩:=k';exact⟨c',k1,h2.back hφ k2⟩
 | loop st j nt F ps a b =>
  obtain⟨r,h1,h2,h3,h4,h5,h6⟩:=h;obtain⟨r',k1,k2,k3,k4,k5,k6⟩:=k';exact⟨r',k1,k2,k3,k4,h5.back hφ k5,k6⟩
 | kX=>exact k'
 | iter m s l c =>
  obtain⟨h0,cm,h1,h2⟩:=h;obtain⟨_,cm',k1,k2⟩:=k';refine⟨h0,cm',k1,?_⟩
  cases m with
  | none=>exact k2
  | some b =>
   obtain⟨cb,co,cz,h3,_⟩:=h2;obtain⟨cb',co',cz',k3,k4⟩:=k2;have:=hφ _ _ h3;rw[this]at k3;injection k3 with k3;injection k3 with e1 e2;exact⟨cb,co,cz,h3,by rw[k4,e1]⟩
theorem aH.forget {g:FuncId}{args:List AV}{v0:AV}(hv:Flat v0)(h:aH P g args H n (λ v H' _=>v=v0/\∀b,H.get b≠none->H'.get b=H.get b)):aH P g args H n (λ u K k=>u=v0/\K=H/\k=n):=by
 refine⟨h.1,λ φ D w xs hr hvs hf RR hR=>h.2 φ D w xs hr hvs hf RR λ v H' n' φ' D' w' x ⟨hz,hk⟩ e r hx=>?_⟩;subst hz;refine hR v H n φ D' w' x ⟨rfl,rfl,rfl⟩ ⟨Nat.le_refl _,λ _ _ h=>h,λ _ a b=>absurd a b,e.dat,e.size,e.keep,λ b p hb hp=>.inr ⟨b,p,hb,hp,rfl⟩,e.jz,λ _ h=>.inl h,e.os,e.out⟩ ?_ (hv.out hx);refine⟨λ b k hb=>?_,hr.inj,λ b p hb hp=>?_,r.dat⟩
 ·obtain⟨p,hp,hl,hb1⟩:=hr.blk b k hb;have hb':H'.get b=some k:=by rw[hk b (by rw[hb];simp),hb]
  have:=(r.block hb' (e.phi _ _ hp)).2;exact⟨p,hp,Nat.lt_of_lt_of_le hl e.size,hb1.back e.phi this⟩
 exact r.sep b p (by rw[hk b hb];exact hb) (e.phi _ _ hp)
theorem ao.same {f:FuncId}{vs:List AV}{pd:Pd}{r:List (Option GO)}{v:AV}(h:aH P f vs H n (λ u K k=>u=v/\K=H/\k=n))(k:fj P r (pd.f v F) H n m Q):ao f vs pd r P F H n m Q:=h.mono λ u K k' ⟨a,b,c⟩=>by subst a b c;exact k
end
end Go.Abs
namespace Go.Abs
open List
section
variable {P:Program}
theorem yd.mono {r:bP}{H:Hp}{n:Nat}{k k':AV->Hp->Nat->Prop}(h:yd r H n k)(hk:∀v H n,k v H n->k' v H n):yd r H n k':=by
 cases r<;>first | exact h | exact hk _ _ _ h
theorem eZ.mono {v:Option AV}{b:Bool}{p q p' q':Prop}(h:eZ v b p q)(hp:p->p')(hq:q->q'):eZ v b p' q':=by
 unfold eZ at h ⊢
 split at h
 ·rename_i c
  cases hc:(c == b)with
  | true=>rw[hc]at h;exact hp h
  | false=>rw[hc]at h;exact hq h
 ·exact hq h
 exact h
theorem nP.mono {v:Option AV}{p q p' q':Prop}(h:nP v p q)(hp:p->p')(hq:q->q'):nP v p' q':=by
 unfold nP at h ⊢
 split at h
 ·exact hp h
 ·exact hq h
 exact h
theorem Ev.mono {r:Kv}{Q Q':QA}(h:Ev r Q)(hq:∀o F H n m,Q o F H n m->Q' o F H n m):Ev r Q':=by
 unfold Ev at h ⊢
 split at h
 ·exact h
 ·exact hq _ _ _ _ _ h
 exact h
theorem E6.mono {nt:Nat}{c:Code}{F:Fr}{H:Hp}{n:Nat}{Q Q':QA}(h:E6 P nt c F H n Q)(hq:∀o F H n m,Q o F H n m->Q' o F H n m):E6 P nt c F H n Q':=
 λ cb φ D a w st hf QQ hQ=>h cb φ D a w st hf QQ λ o F' H' n' m' φ' D' a' w' px q=>hQ o F' H' n' m' φ' D' a' w' px (hq _ _ _ _ _ q)
theorem xU.mono {q:Nat}{vs:List AV}{H:Hp}{n:Nat}{R S:AV->Hp->Nat->Prop}(h:xU P q vs H n R)(hs:∀v H' n',R v H' n'->S v H' n'):xU P q vs H n S:=by
 obtain⟨st,j,nt,F0,ps,a,b,F1,h1,h2,h3⟩:=h;refine⟨st,j,nt,F0,ps,a,b,F1,h1,h2,h3.mono ?_⟩;rintro o F2 H2 n2 m2 ⟨rfl,rfl,j2,FC,G2,ps2,a2,b2,h4,h5⟩;refine⟨rfl,rfl,j2,FC,G2,ps2,a2,b2,h4,h5.mono ?_⟩;rintro j3 _ H3 n3 _ ⟨st,nt,G,ps,a,b,j0,h6,h7⟩;refine⟨st,nt,G,ps,a,b,j0,h6,?_⟩
 cases j3<;>first | exact hs _ _ _ h7 | exact h7
theorem zh {x:Option AV}{as:Option (List AV)}{H:Hp}{n:Nat}{R S:AV->Hp->Nat->Prop}(hs:∀v H' n',R v H' n'->S v H' n')
  (h:(∃f first cap vs,x=some (.fn (.func f) first cap)/\as=some vs/\aH P f (first++(vs++cap)) H n R)∨(∃q vs,x=some (.je q)/\as=some vs/\xU P q vs H n R)):
  (∃f first cap vs,x=some (.fn (.func f) first cap)/\as=some vs/\aH P f (first++(vs++cap)) H n S)∨(∃q vs,x=some (.je q)/\as=some vs/\xU P q vs H n S):=by
 rcases h with⟨f,first,cap,vs,a,b,c⟩ | ⟨q,vs,a,b,c⟩
 ·exact .inl ⟨f,first,cap,vs,a,b,c.mono hs⟩
 exact .inr ⟨q,vs,a,b,c.mono hs⟩
theorem fj.mono:∀(l:List (Option GO))(F:Fr)(H:Hp)(n:Nat)(m:List Dm)(Q Q':QA),(∀o F H n m,Q o F H n m->Q' o F H n m)->fj P l F H n m Q->fj P l F H n m Q'
 | [],_F,_H,_n,_m,_Q,_Q',hq,h=>hq _ _ _ _ _ h
 | none::_,_,_,_,_,_,_,_,h=>h
 | some ⟨none,_pd,.xN _e⟩::r,_F,_H,_n,_m,_Q,_Q',hq,h=>yd.mono h λ _v _H' _n'=>fj.mono r _ _ _ _ _ _ hq
 | some ⟨none,_pd,.call _g _as⟩::r,_F,_H,_n,_m,_Q,_Q',hq,h=>zh (λ _v _H' _n'=>fj.mono r _ _ _ _ _ _ hq) h
 | some ⟨none,_,.bad⟩::_,_,_,_,_,_,_,_,h=>h
 | some ⟨none,_,.iM _⟩::_,_,_,_,_,_,_,_,h=>h
 | some ⟨none,_,.raw _⟩::_,_,_,_,_,_,_,_,h=>h
 | some ⟨some (_g,_b),_pd,.xN _e⟩::r,_F,_H,_n,_m,_Q,_Q',hq,h=>eZ.mono h (λ h=>yd.mono h λ _v _H' _n'=>fj.mono r _ _ _ _ _ _ hq) (fj.mono r _ _ _ _ _ _ hq)
 | some ⟨some (_g,_b),_pd,.call _ _as⟩::r,_F,_H,_n,_m,_Q,_Q',hq,h=>eZ.mono h (λ h=>zh (λ _v _H' _n'=>fj.mono r _ _ _ _ _ _ hq) h) (fj.mono r _ _ _ _ _ _ hq)
 | some ⟨some (_g,_b),_pd,.bad⟩::r,_F,_H,_n,_m,_Q,_Q',hq,h=>eZ.mono h id (fj.mono r _ _ _ _ _ _ hq)
 | some ⟨some (_g,_b),_pd,.iM _⟩::r,_F,_H,_n,_m,_Q,_Q',hq,h=>eZ.mono h id (fj.mono r _ _ _ _ _ _ hq)
 | some ⟨some (_g,_b),_pd,.raw _⟩::r,_F,_H,_n,_m,_Q,_Q',hq,h=>eZ.mono h id (fj.mono r _ _ _ _ _ _ hq)
theorem VC.mono:∀(c:CT)(F:Fr)(H:Hp)(n:Nat)(m:List Dm)(Q Q':QA),(∀o F H n m,Q o F H n m->Q' o F H n m)->VC P c F H n m Q->VC P c F H n m Q'
 | .reg l,F,H,n,m,Q,Q',hq,h=>fj.mono l F H n m Q Q' hq h
 | .fi ds l,F,H,n,m,Q,Q',hq,⟨ce,h,F2,H2,a,s,b⟩=>⟨ce,h,F2,H2,a,s,b.mono hq⟩
 | .seq a b,F,H,n,m,Q,Q',hq,h=>VC.mono a F H n m _ _ (λ o F' H' n' m' h'=>match o,h' with
  | .normal,h'=>VC.mono b F' H' n' m' _ _ hq h'
  | .exit i,h'=>hq _ _ _ _ _ h'
  | .ret,h'=>hq _ _ _ _ _ h'
  | .panic _,h'=>h') h
 | .cond g a b,F,H,n,m,Q,Q',hq,h=>nP.mono h (VC.mono a _ _ _ _ _ _ hq) (VC.mono b _ _ _ _ _ _ hq)
 | .block i b,F,H,n,m,Q,Q',hq,h=>VC.mono b F H n m _ _ (λ o F' H' n' m' h'=>match o,h' with
  | .normal,h'=>hq _ _ _ _ _ h'
  | .exit j,h'=>by
   unfold bX at h' ⊢;dsimp only at h' ⊢
   split at h'
   ·rename_i e;rw[if_pos e];exact hq _ _ _ _ _ h'
   rename_i e;rw[if_neg e];exact hq _ _ _ _ _ h'
  | .ret,h'=>hq _ _ _ _ _ h'
  | .panic _,h'=>h') h
 | .loop b,F,H,n,m,Q,Q',hq,⟨I,J,k,h0,hj,hs⟩=>⟨I,J,k,h0,hj,λ k F H n m hi=>VC.mono b F H n m _ _ (λ o F' H' n' m' h'=>match o,h' with
  | .normal,h'=>h'
  | .exit i,h'=>hq _ _ _ _ _ h'
  | .ret,h'=>hq _ _ _ _ _ h'
  | .panic _,h'=>h') (hs k F H n m hi)⟩
 | .exit i,F,H,n,m,Q,Q',hq,h=>hq _ _ _ _ _ h
 | .ret,F,H,n,m,Q,Q',hq,h=>hq _ _ _ _ _ h
 | .skip,F,H,n,m,Q,Q',hq,h=>hq _ _ _ _ _ h
 | .range nt g ps a b,F,H,n,m,Q,Q',hq,⟨f,first,cap,h1,h2⟩=>⟨f,first,cap,h1,h2.mono λ v H' n' ⟨st,j,nt,G,ps,a,b,e1,e2,e3,e4⟩=>⟨st,j,nt,G,ps,a,b,e1,e2,e3,hq _ _ _ _ _ e4⟩⟩
 | .bad,_,_,_,_,_,_,_,h=>h
 | .raw k,F,H,n,m,Q,Q',hq,⟨ce,a,b⟩=>⟨ce,a,b.mono hq⟩
def zG (P:Program) (b:CT) (Q:QA):Nat->Fr->Hp->Nat->List Dm->Prop
 | 0,_,_,_,_=>False
 | k+1,F,H,n,m=>VC P b F H n m λ o F' H' n' m'=>match o with
  | .normal=>zG P b Q k F' H' n' m'
  | .exit i=>Q (.exit i) F' H' n' m'
  | .ret=>Q .ret F' H' n' m'
  | .panic _=>False
def Sw (P:Program)(b:CT)(Q:QA)(k:Nat):QA:=λ o F' H' n' m'=>match o with
 | .normal=>zG P b Q k F' H' n' m'
 | .exit i=>Q (.exit i) F' H' n' m'
 | .ret=>Q .ret F' H' n' m'
 | .panic _=>False
variable {F:Fr}{H:Hp}{n:Nat}{m:List Dm}{Q:QA}
@[simp] theorem acu (b:CT)(k:Nat):Sw P b Q k .normal F H n m=zG P b Q k F H n m:=propext Iff.rfl
@[simp] theorem alD (b:CT)(k i:Nat):Sw P b Q k (.exit i) F H n m=Q (.exit i) F H n m:=propext Iff.rfl
@[simp] theorem am5 (b:CT)(k:Nat):Sw P b Q k .ret F H n m=Q .ret F H n m:=propext Iff.rfl
theorem aje (b:CT)(k:Nat):zG P b Q (k+1) F H n m=VC P b F H n m (Sw P b Q k):=propext Iff.rfl
theorem zG.step {b:CT}{k:Nat}(h:VC P b F H n m (Sw P b Q k)):zG P b Q (k+1) F H n m:=h
end
end Go.Abs
namespace Go.Abs
open List
def fe (k:bI)(l:List AV):Prop:=∃u z bs t,k=.cells u z bs t/\u=l.length/\(∀i,fY u z bs t i=l[i]?)/\(t=.nil->z=[]->bs.length=u)
theorem fe.list {l:List AV}{u:Nat}(h:u=l.length):fe (.cells u [] l .nil) l:=⟨u,[],l,.nil,rfl,h,λ i=>by
 rw[jG]
 split
 ·rfl
 rw[getElem?_eq_none (by omega)],λ _ _=>h.symm⟩
theorem oc {u:Nat}{z bs:List AV}{t:Ov AV}{l:List AV}(hg:∀i,fY u z bs t i=l[i]?)(o:Nat):∀(k:Nat)(acc:List AV),o+k<=l.length->oV u z bs t o k acc=some ((l.drop o).take k++acc)
 | 0,acc,_=>by simp;rfl
 | k+1,acc,h=>by
  show jK (fY u z bs t (o+k)) none (λ v=>oV u z bs t o k (v::acc))=_;rw[hg,getElem?_eq_getElem (by omega)];simp only[yH];rw[oc hg o k _ (by omega),take_add_one,append_assoc]
  congr 1
  simp[getElem?_drop,getElem?_eq_getElem (show o+k<l.length by omega)]
theorem fe.gJ {k:bI}{l:List AV}(h:fe k l){o c:Nat}(hc:o+c<=l.length):∃u z bs t,k=.cells u z bs t/\Go.Abs.gJ u z bs t o c=some ((l.drop o).take c):=by
 obtain⟨u,z,bs,t,rfl,hu,hg,hi⟩:=h;refine⟨u,z,bs,t,rfl,?_⟩
 have ex:∃r,Go.Abs.gJ u z bs t o c=some r:=by
  have hb:Nat.ble (Nat.add o c) u=true:=Nat.ble_eq_true_of_le (by rw[hu];exact hc)
  have orr:∀r,∃l',orR r u z bs t o c=some l':=by
   intro r;unfold orR
   split
   ·exact⟨_,rfl⟩
   exact⟨_,oc hg o c [] hc⟩
  unfold Go.Abs.gJ
  split
  ·split
   ·split
    ·exact⟨_,rfl⟩
    rw[hb];exact orr _
   split
   ·rw[hb];exact⟨_,rfl⟩
   exact⟨_,oc hg o c [] hc⟩
  ·rw[hb];exact orr _
  rw[hb];dsimp only
  split
  ·split
   ·exact orr _
   exact orr _
  exact⟨_,oc hg o c [] hc⟩
 obtain⟨r,hr⟩:=ex;rw[hr];obtain⟨h1,h2⟩:=jF hi hr
 congr 1
 apply ext_getElem?;intro i
 by_cases hlt:i<c
 ·rw[<-h2 i hlt,hg,getElem?_take,if_pos hlt,getElem?_drop]
 rw[getElem?_eq_none (by omega),getElem?_eq_none (by simp;omega)]
def ar (H:Hp)(n:Nat)(v:AV)(l:List AV)(len sz:Nat):Prop:=l.length=len*sz/\((v=.ak (.slice none 0 0)/\len=0)∨∃b k,v=.sl b 0 len sz/\b<n/\H.get b=some k/\fe k l)
section
variable {P:Program}{F:Fr}{H:Hp}{n:Nat}{m:List Dm}{Q:QA}
theorem ar.nil (H:Hp)(n sz:Nat):ar H n (.ak (.slice none 0 0)) [] 0 sz:=⟨by simp,.inl ⟨rfl,rfl⟩⟩
theorem ar.uw {v:AV}{l l':List AV}{len sz:Nat}(h:ar H n v l len sz)(hl:aN H.get l l')(hz:0<sz:=by omega):dU H.get v (.ds l' len sz):=by
 obtain⟨s',rfl⟩:∃k,sz=k+1:=⟨sz - 1,by omega⟩;obtain⟨h0,⟨rfl,rfl⟩ | ⟨b,k,rfl,hb,hk,ho⟩⟩:=h
 ·have:l=[]:=by simpa using h0
  subst this;cases hl;exact .nil _
 obtain⟨u,z,bs,t,rfl,hg⟩:=ho.gJ (o:=0) (c:=len*(s'+1)) (by omega);refine .sl _ _ _ _ _ _ _ _ _ _ hk hg ?_;rw[drop_zero,take_of_length_le (by omega)];exact hl
theorem aN.pure {h:Hf}{l:List AV}(hl:aL l):aN h l l:=by
 induction l with
 | nil=>exact .nil
 | cons v r ih=>simp only[pC]at hl;exact .cons _ _ _ _ (.pure _ hl.1) (ih hl.2)
theorem ar.lU {v x:AV}{l new:List AV}{len sz jV k:Nat}(h:ar H n v l len sz) (hx:bZ H sz x=some new) (hk:sliceLen x=some k) (hn:new.length=k*sz)
  (hs:0<sz)(hk0:0<k)(hbig:len+k<=big)(hby:jV<=4096)(h1:bm new=true):
  ∃H',(∀K:AV->Hp->Nat->Prop,yd (Go.Abs.lU sz jV n v x H) H n K=K (.sl n 0 (len+k) sz) H' (n+1))/\ar H' (n+1) (.sl n 0 (len+k) sz) (l++new) (len+k) sz/\∀c,c≠n->v≠.sl c 0 len sz->H'.get c=H.get c:=by
 unfold Go.Abs.lU;rw[hx,hk];dsimp only;obtain⟨h0,⟨rfl,rfl⟩ | ⟨b,kb,rfl,hb,hkb,u,z,bs,t,rfl,hu,hg,hi⟩⟩:=h
 ·have hl:l=[]:=by simpa using h0
  subst hl
  have e:tK sz jV n k new H (.ak (.slice none 0 0))=.new (.sl n 0 k sz) (.cells (k*sz) [] new .nil):=by
   unfold tK;simp only[nV,JJ,Ak,show ¬k=0 by omega,hs,show k<=big by omega,hby,h1,decide_true,decide_false,Bool.and_self]
  rw[e];refine⟨_,λ K=>(by rw[Nat.zero_add];rfl),⟨by simp[hn],.inr ⟨n,.cells (k*sz) [] new .nil,by simp,by omega,by simp,?_⟩⟩,λ c hc _=>?_⟩
  ·simpa using fe.list (l:=new) hn.symm
  simp[show ¬c=n by omega]
 have e:tK sz jV n k new H (.sl b 0 len sz)=.mv (.sl n 0 (len+k) sz) b (.cells ((len+k)*sz) z bs (Ov.bO new (len*sz) t)):=by
  unfold tK Sd;simp only[nV,JJ,Ak,show ¬k=0 by omega,hs,hbig,hby,h1,decide_true,decide_false,Bool.and_self,hkb,hu,h0,Nat.le_refl,ed]
 rw[e];have hm:(len+k)*sz=len*sz+k*sz:=Nat.add_mul _ _ _;refine⟨_,λ K=>rfl,⟨by simp[hn,h0,hm],.inr ⟨n,.cells ((len+k)*sz) z bs (Ov.bO new (len*sz) t),rfl,by omega,by simp,_,z,bs,_,rfl,by simp[hn,h0,hm],λ i=>?_,λ ht=>?_⟩⟩,λ c hc hne=>?_⟩
 ·rw[cW,Ov.bG]
  by_cases hlt:i<(len+k)*sz
  ·rw[if_pos hlt]
   by_cases hin:len*sz<=i/\i<len*sz+new.length
   ·rw[if_pos hin,getElem?_append_right (by omega),h0];rw[getElem?_eq_getElem (by omega)]
   rw[if_neg hin,getElem?_append_left (by omega)];have:=hg i;rw[cW,if_pos (by omega)]at this;exact this
  rw[if_neg hlt,getElem?_eq_none (by simp[h0,hn];omega)]
 ·exfalso
  cases new with
  | nil=>simp at hn;have:0<k*sz:=Nat.mul_pos hk0 hs;omega
  | cons v r =>
   have:=Ov.bG (v::r) (len*sz) t (len*sz);rw[ht,if_pos (by simp)]at this;simp at this
 have:c≠b:=λ e=>hne (by rw[e]);simp[show ¬c=n by omega,this]
theorem ar.app {v x:AV}{l new:List AV}{len sz jV k:Nat}{pd:Pd}{r:List (Option GO)}(h:ar H n v l len sz)(hx:bZ H sz x=some new)(hk:sliceLen x=some k)(hn:new.length=k*sz)
  (hs:0<sz)(hk0:0<k)(hbig:len+k<=big)(hby:jV<=4096)(h1:bm new=true)
  (hgo:∀H',ar H' (n+1) (.sl n 0 (len+k) sz) (l++new) (len+k) sz->(∀c,c<n->v≠.sl c 0 len sz->H'.get c=H.get c)->fj P r (pd.f (.sl n 0 (len+k) sz) F) H' (n+1) m Q):Je (Go.Abs.lU sz jV n v x H) pd r P F H n m Q:=by
 obtain⟨H',e,h1,h2⟩:=h.lU hx hk hn hs hk0 hbig hby h1;unfold Je;rw[e];exact hgo H' h1 λ c hc=>h2 c (Nat.ne_of_lt hc)
theorem ar.awS {ce:Ce}{Hs:List Hp}{v x:AV}{l new:List AV}{len sz jV k:Nat}{pd:Pd}{r:List (Option RO)}(h:ar H n v l len sz)(hx:bZ H sz x=some new)(hk:sliceLen x=some k)(hn:new.length=k*sz)
  (hs:0<sz)(hk0:0<k)(hbig:len+k<=big)(hby:jV<=4096)(h1:bm new=true)
  (hgo:∀H',ar H' (n+1) (.sl n 0 (len+k) sz) (l++new) (len+k) sz->(∀c,c<n->v≠.sl c 0 len sz->H'.get c=H.get c)->Ev ((fH r).f ce (pd.f (.sl n 0 (len+k) sz) F) H' (H'::Hs) (n+1) m) Q):OP (Go.Abs.lU sz jV n v x H) pd r ce F H Hs n m Q:=by
 obtain⟨H',e,h1,h2⟩:=h.lU hx hk hn hs hk0 hbig hby h1;unfold OP;rw[e];exact hgo H' h1 λ c hc=>h2 c (Nat.ne_of_lt hc)
def mz (P:Program)(g:FuncId)(args l:List AV)(len sz:Nat):Prop:=∀(H:Hp)(n:Nat),bT P g args H n (.sl n 0 len sz) (H.put n (some (.cells (len*sz) [] l .nil))) (n+1)
theorem mz.of {g:FuncId}{args l:List AV}{len sz:Nat}(hp:aL args) (hl:aL l) (h0:0<len) (h:aH P g args .nil 0 (λ v H' n'=>ar H' n' v l len sz)):mz P g args l len sz:=by
 intro H n;refine⟨h.1,Nat.le_succ n,λ φ D w xs hr hv hf R hR=>?_⟩;refine h.2 jW D w xs (qL hr.dat) (hp.oQ hv) (λ _ _=>rfl) R λ v H' n' φ' D' w' x ho e r hx=>?_;obtain⟨hlen,⟨_,hz⟩ | ⟨b,k,rfl,hb,hk,ho⟩⟩:=ho
 ·omega
 cases hx with
 | sl _ _ _ _ cb co cz cap ad hp' hle had =>
 have hn:φ n=none:=hf n (Nat.le_refl _) (by omega);have hm:=Ph.gT (p:=(cb,co,cz)) hn;have hlive:=r.block hk hp'
 have hcb:w.heap.size<=cb:=by
  rcases e.live b _ (by rw[hk];simp) hp' with h | ⟨b0,p0,hh,_⟩
  ·exact h
  simp at hh
 have hdn:∀c,D' c≠none->D c≠none∨w.heap.size<=c:=by
  intro c hc
  rcases e.jz c hc with h | h | ⟨b0,p0,hh,_⟩
  ·exact .inl h
  ·exact .inr h
  simp at hh
 have hold:∀c p,H.get c≠none->φ c=some p->p.1<w.heap.size:=by
  intro c p hc hp
  cases hx:H.get c with
  | none=>exact absurd hx hc
  | some k=>exact(hr.block hx hp).1
 have hhn:H.get n=none:=by
  cases hx:H.get n with
  | none=>rfl
  | some k=>obtain⟨p,hp,_⟩:=hr.blk n k hx;rw[hn]at hp;cases hp
 refine hR (φ.set n (cb,co,cz)) D' w' _ ⟨Nat.le_succ n,hm,?_,e.dat,e.size,λ c hc _=>e.keep c hc λ b p hb=>by simp at hb,?_,λ c hc=>(hdn c hc).elim .inl λ h=>.inr (.inl h),?_,e.os,e.out⟩ ⟨?_,?_,?_,r.dat⟩ ?_
 ·intro c h0 h1;unfold Ph.set at h1
  by_cases hc:c=n
  ·omega
  simp[hc,h0]at h1
 ·intro c p hc hp;rw[Tr.get_put]at hc;unfold Ph.set at hp
  by_cases hcn:c=n
  ·subst hcn;simp at hp;subst hp;exact .inl hcb
  simp[hcn]at hc hp;exact .inr ⟨c,p,hc,hp,rfl⟩
 ·intro c hc;rw[Tr.get_put]at hc
  by_cases hcn:c=n
  ·exact .inr (by omega)
  simp[hcn]at hc;exact .inl hc
 ·intro c kk hc;rw[Tr.get_put]at hc
  by_cases hcn:c=n
  ·subst hcn;simp at hc;subst hc;refine⟨(cb,co,cz),by simp[Ph.set],hlive.1,?_⟩;obtain⟨u,z,bs,t,rfl,hu,hg,hi⟩:=ho;obtain⟨cc,ee,fr,q1,q2,q3,q4,q5,q6⟩:=hlive.2;refine⟨cc,ee,fr,q1,q2,q3,λ i v hv=>?_,λ _ _=>hlen,by omega⟩;rw[jG]at hv
   split at hv
   ·have:=hg i;rw[hv]at this;obtain⟨y,hy,hvy⟩:=q4 i v this;exact⟨y,hy,(hl.mem v (mem_of_getElem? hv)).out hvy⟩
   cases hv
  rw[if_neg hcn]at hc;obtain⟨p,hp,hlt,hbk⟩:=hr.blk c kk hc;exact⟨p,hm _ _ hp,Nat.lt_of_lt_of_le hlt e.size,hbk.mono hm e.dat (e.keep _ hlt λ b p hb=>by simp at hb)⟩
 ·intro c d p q hc hd hp hq hpq;rw[Tr.get_put]at hc hd;unfold Ph.set at hp hq
  by_cases h1:c=n<;>by_cases h2:d=n<;>simp[h1,h2]at hc hd hp hq ⊢
  ·have:=hold d q hd hq;rw[<-hp]at hpq;simp at hpq;omega
  ·have:=hold c p hc hp;rw[<-hq]at hpq;simp at hpq;omega
  exact hr.inj c d p q hc hd hp hq hpq
 ·intro c p hc hp;rw[Tr.get_put]at hc;unfold Ph.set at hp
  by_cases h1:c=n
  ·subst h1;simp at hp;subst hp;exact r.sep b (cb,co,cz) (by rw[hk];simp) hp'
  simp[h1]at hc hp
  cases hD:D' p.1 with
  | none=>rfl
  | some x =>
   rcases hdn p.1 (by rw[hD];simp)with h | h
   ·exact absurd (hr.sep c p hc hp) h
   have:=hold c p hc hp;omega
 exact .sl _ _ _ _ cb co cz cap ad (by simp[Ph.set]) hle had
theorem ao.own {f:FuncId}{vs l:List AV}{len sz:Nat}{pd:Pd}{r:List (Option GO)}(h:mz P f vs l len sz)(k:fj P r (pd.f (.sl n 0 len sz) F) (H.put n (some (.cells (len*sz) [] l .nil))) (n+1) m Q):ao f vs pd r P F H n m Q:=
 (h H n).iB.mono λ u K k' ⟨a,b,c⟩=>by subst a b c;exact k
open Classical in
def ceT (l:List (FuncId×List AV×(Hp->Nat->iq))):Ce:=xQ λ g args H n=>match l.find? (λ x=>decide (x.1=g/\x.2.1=args))with
 | some x=>x.2.2 H n
 | none=>.fail
theorem iN {l:List (FuncId×List AV×(Hp->Nat->iq))}(h:∀x∈l,∀H n v H' n',x.2.2 H n=.mk v H' n'->bT P x.1 x.2.1 H n v H' n'):gL P (ceT l):=by
 refine Bg λ g args H n v H' n' e=>?_
 split at e
 ·rename_i x hx;have h1:=find?_some hx;simp at h1;obtain⟨rfl,rfl⟩:=h1;exact h x (mem_of_find?_eq_some hx) H n v H' n' e
 cases e
theorem fA (g:FuncId)(args:List AV)(f:Hp->Nat->iq)(l:List (FuncId×List AV×(Hp->Nat->iq)))(H:Hp)(n:Nat):(ceT ((g,args,f)::l)).call g args H n=vj (f H n):=by
 simp[ceT,xQ]
theorem akj {g g':FuncId}{args args':List AV}{f:Hp->Nat->iq}{l:List (FuncId×List AV×(Hp->Nat->iq))}(h:g=g'->args=args'->∀H n,(ceT l).call g args H n=vj (f H n))(H:Hp)(n:Nat):(ceT ((g',args',f)::l)).call g args H n=(ceT l).call g args H n:=by
 by_cases e:g'=g/\args'=args
 ·obtain⟨rfl,rfl⟩:=e;rw[h rfl rfl,fA]
 simp only[ceT,xQ,find?_cons,e,decide_false]
theorem eX {g:FuncId}{args:List AV}{u:AV}(h:ai P g args u):∀H n v H' n',iq.mk u H n=.mk v H' n'->bT P g args H n v H' n':=by
 intro H n v H' n' e;cases e;exact h.gY H n
theorem Kj {g:FuncId}{args l:List AV}{len sz:Nat}(h:mz P g args l len sz):∀H n v H' n',iq.mk (.sl n 0 len sz) (H.put n (some (.cells (len*sz) [] l .nil))) (n+1)=.mk v H' n'->bT P g args H n v H' n':=by
 intro H n v H' n' e;cases e;exact h H n
end
theorem dU.bool {h:Hf}{a b:Bool}(e:a=b):dU h (.bool a) (.bool b):=by subst e;exact .pure _ (by simp)
theorem dU.eq {h:Hf}{v v':AV}(hp:Pure v')(e:v=v'):dU h v v':=by subst e;exact .pure _ hp
@[simp] theorem ZL (H:Hp)(cs:List AV)(len sz:Nat):bZ H sz (.ds cs len sz)=some cs:=by simp[bZ]
@[simp] theorem acn (cs:List AV)(len sz:Nat):sliceLen (.ds cs len sz)=some len:=Eq.trans rfl rfl
@[simp] theorem acm (b o len sz:Nat):sliceLen (.sl b o len sz)=some len:=Eq.trans rfl rfl
theorem fU {H:Hp}{b o len sz:Nat}{k:bI}{l:List AV}(hb:H.get b=some k)(ho:fe k l)(hl:o+len*sz<=l.length):bZ H sz (.sl b o len sz)=some ((l.drop o).take (len*sz)):=by
 obtain⟨u,z,bs,t,rfl,hg⟩:=ho.gJ hl;simp only[bZ,nV,decide_true,cond_true,hb,hg]
end Go.Abs
namespace Go.Abs
open List
open Go.RowKit Go.ChangeShapes
def eV (w:World):Da:=λ c=>match w.heap[c]? with
 | some (.cells x _ _)=>some x
 | _=>none
theorem RN (w:World)(hg:GB (eV w)):Dat (eV w) w:=by
 refine⟨λ c x h=>?_,hg⟩;unfold eV at h
 split at h
 ·rename_i y e fr hy;injection h with h;subst h;exact⟨e,fr,hy⟩
 cases h
inductive rI {α β:Type} (R:α->β->Prop):List α->List β->Prop
 | nil:rI R [] []
 | cons {a b l m}:R a b->rI R l m->rI R (a::l) (b::m)
theorem rI.append {α β:Type}{R:α->β->Prop} {a b c d}(h:rI R a b)(k:rI R c d):rI R (a++c) (b++d):=by
 induction h with
 | nil=>exact k
 | cons h1 _ ih=>exact .cons h1 ih
section
variable {H:Type}{enc:TypeId×Value->H}{P:Program}{w:World}{base:Nat}{spare:Nat->Bool}{held:Bool}
theorem DC {α:Type}{f:Nat->Option α}:∀ {k:Nat}{l:List α},(List.range k).mapM f=some l->l.length=k/\∀i,i<k->f i=l[i]?:=by
 intro k l h;exact⟨by simpa using mapM_some_length h,λ i hi=>mapM_some_get h i i (by simp[hi])⟩
theorem Em {cb co i s:Nat}{x:Array Value}{e:TypeId}{fr:Nat×Nat}{cs:List Value}(hx:w.heap[cb]?=some (.cells x e fr)) (h:w.cells? base ((⟨cb,co,none⟩:Addr).add i) s=some cs):cs=(x.toList.drop (co+i)).take s/\cs.length=s:=by
 unfold World.cells? at h
 split at h
 ·obtain⟨hl,hg⟩:=DC h;refine⟨?_,hl⟩;apply ext_getElem?;intro j
  by_cases hj:j<s
  ·rw[<-hg j hj,getElem?_take,if_pos hj,getElem?_drop]
   have ha:((⟨cb,co,none⟩:Addr).add i).add j=⟨cb,co+i+j,none⟩:=by
    unfold Addr.add
    by_cases h1:i=0<;>by_cases h2:j=0<;>simp[h1,h2]
   rw[ha];simp[World.cell?,hx]
  rw[getElem?_eq_none (by omega),getElem?_eq_none (by simp;omega)]
 cases h
theorem D8 {α:Type}{av:α->List AV}{s:Nat}(gN:∀a,(av a).length=s)(l:List α):(l.flatMap av).length=l.length*s:=by
 induction l with
 | nil=>simp
 | cons a r ih=>rw[flatMap_cons,length_append,ih,gN,length_cons,Nat.add_mul];omega
theorem uW {α:Type}{av:α->List AV}{R:α->DataW H->Prop}{t e:TypeId}{s fuel:Nat}{cs:List Value}{x:DataW H×List MemPlace}(ht:P.underlying t=some (.slice e)) (hs:P.cellsOf e=s) (h0:0<s) (gN:∀a,(av a).length=s)
  (hel:∀n cs y,n<fuel->DataW.trod enc P w base spare held n e cs=some y->∃a,bW jW (eV w) (av a) cs/\R a y.1)
  (h:DataW.trod enc P w base spare held fuel t cs=some x):∃v l,cs=[v]/\VR jW (eV w) (.ds (l.flatMap av) l.length s) v/\((l=[]/\x.1=.nil)∨∃ds rest,x.1=.slice ds rest/\rI R l ds):=by
 rcases DataW.trod_slice ht h with⟨rfl,rfl⟩ | ⟨a,len,cap,elems,rest,n,rfl,rfl,rfl,_,hle,_,hlen,hg,_,_⟩
 ·obtain⟨s,rfl⟩:∃k,s=k+1:=⟨s - 1,by omega⟩;exact⟨_,[],rfl,.sC s,.inl ⟨rfl,rfl⟩⟩
 refine⟨.slice (some a) len cap,?_⟩
 by_cases hl0:len=0
 ·subst hl0;have:elems=[]:=length_eq_zero_iff.1 hlen;subst this;exact⟨[],rfl,.rK _ _ _,.inr ⟨_,_,rfl,.nil⟩⟩
 rw[hs]at hg;have h00:=hg 0 (by omega);have aok:0<elems.length:=by omega
 rw[getElem?_eq_getElem aok,Option.bind_eq_some_iff]at h00;obtain⟨cs0,hc0,_⟩:=h00;obtain⟨cb,co,sp⟩:=a
 have hsp:sp=none/\∃x e fr,w.heap[cb]?=some (.cells x e fr):=by
  unfold World.cells? at hc0
  split at hc0
  ·obtain⟨hl,hg'⟩:=DC hc0;have:=hg' 0 h0;rw[getElem?_eq_getElem (by omega)]at this;simp only[Nat.zero_mul,Addr.add,if_true,World.cell?]at this
   split at this
   ·rename_i x e fr hx
    cases sp with
    | none=>exact⟨rfl,x,e,fr,hx⟩
    | some _=>simp at this
   cases this
  cases hc0
 obtain⟨rfl,xs,ee,fr,hx⟩:=hsp;have hD:eV w cb=some xs:=by simp[eV,hx]
 have key:∀k,k<=len->∃l:List α,l.length=k/\bW jW (eV w) (l.flatMap av) ((xs.toList.drop co).take (k*s))/\rI R l ((elems.map (·.1)).take k):=by
  intro k
  induction k with
  | zero=>intro _;exact⟨[],rfl,by simpa using bW.nil,by simpa using rI.nil⟩
  | succ k ih =>
   intro hk;obtain⟨l,h1,h2,h3⟩:=ih (by omega);have hk':k<elems.length:=by omega
   have:=hg k (by omega);rw[getElem?_eq_getElem hk',Option.bind_eq_some_iff]at this;obtain⟨ck,hck,htk⟩:=this;obtain⟨b,hb1,hb2⟩:=hel n ck _ (Nat.lt_succ_self n) htk;obtain⟨hcc,hcl⟩:=Em hx hck;refine⟨l++[b],by simp[h1],?_,?_⟩
   ·rw[flatMap_append,show (k+1)*s=k*s+s by rw[Nat.add_mul];simp,take_add,drop_drop];refine h2.append ?_;rw[<-hcc];simpa using hb1
   rw[take_succ_eq_append_getElem (by simpa using hk')];exact rI.append h3 (.cons (by simpa using hb2) .nil)
 obtain⟨l,h1,h2,h3⟩:=key len (Nat.le_refl _);refine⟨l,rfl,?_,.inr ⟨_,_,rfl,?_⟩⟩
 ·rw[h1];refine .ds _ _ _ _ _ _ _ _ hD rfl ?_ h2 hle;rw[D8 gN,h1]
 rw[take_of_length_le (by simp;omega)]at h3;exact h3
end
theorem Dc {φ:Ph}{D:Da}{cs:List AV}{n:Nat}{v:Value}(hl:cs.length=n)(h2:n≠1)(h:bW φ D cs v.cells.toList):VR φ D (.agg cs n) v:=by
 cases v with
 | agg xs=>obtain⟨l⟩:=xs;exact .agg _ _ _ h hl
 | _=>have:=h.length;simp[Value.cells]at this;omega
theorem aa4 {w w':World}{may:MemPlace->Prop}(hos:w'.os=w.os)(hout:w'.output=w.output)(hk:∀c,c<w.heap.size->w'.heap[c]?=w.heap[c]?):w.keptBut w' may:=by
 refine⟨hos,hout,λ i hi=>?_⟩;rw[hk i hi]
 cases w.heap[i]? with
 | none=>trivial
 | some o=>cases o<;>simp
theorem ZZ {w w':World}(hk:∀c,c<w.heap.size->w'.heap[c]?=w.heap[c]?){p:MemPlace}(hp:p.block<w.heap.size):w.sameAt w' p:=by
 cases p with
 | cell b o=>exact World.cell?_of_block (w:=w) (hk b hp)
 | map b=>exact hk b hp
theorem trod_stays {H:Type}{enc:TypeId×Value->H}{P:Program}{t:TypeId}(hl:laidOutB P=true)(hr:P.readableRec t=true)(hrow:t<P.types.size){w w':World}{v:Value}{d:DataW H}{ps:List MemPlace}
  (h:DataW.Trod enc P w 0 (λ _=>true) true t v d ps)(hk:∀c,c<w.heap.size->w'.heap[c]?=w.heap[c]?)(hlt:∀x∈ps,x.block<w.heap.size):
  DataW.Trod enc P w' 0 (λ b=>decide (b<w.heap.size)) true t v d ps:=
 WideElems.Trod_stays hl hr hrow h (λ x hx=>ZZ hk (hlt x hx)) (λ x hx=>by simpa using hlt x hx)
theorem oR {H:Type}{enc:TypeId×Value->H}{P:Program}(hl:laidOutB P=true){w w':World}(hk:∀c,c<w.heap.size->w'.heap[c]?=w.heap[c]?):∀ {ts:List TypeId}{vs:List Value}{ds:List (DataW H)}{ps:List MemPlace},
  (∀t∈ts,P.readableRec t=true/\t<P.types.size)->DataW.TrodAll enc P w 0 (λ _=>true) true ts vs ds ps->(∀x∈ps,x.block<w.heap.size)->DataW.TrodAll enc P w' 0 (λ b=>decide (b<w.heap.size)) true ts vs ds ps
 | [],[],[],_,_,h,_=>h
 | t::ts,v::vs,d::ds,_,ht,⟨p,q,h1,h2,e⟩,hlt=>by
  subst e;exact⟨p,q,trod_stays hl (ht t (by simp)).1 (ht t (by simp)).2 h1 hk λ x hx=>hlt x (by simp[hx]),oR hl hk (λ u hu=>ht u (by simp[hu])) h2 λ x hx=>hlt x (by simp[hx]),rfl⟩
 | [],_::_,_,_,_,h,_=>h.elim
 | [],[],_::_,_,_,h,_=>h.elim
 | _::_,[],_,_,_,h,_=>h.elim
 | _::_,_::_,[],_,_,h,_=>h.elim
theorem QN {H:Type}{enc:TypeId×Value->H}{P:Program}{f:Func}{s:ChangeSpec}{w w':World}{args:Array Value}{ds gs:List (DataW H)}{before:List MemPlace}{tb:TypeId}(hl:laidOutB P=true)
  (ht:∀t∈f.params.toList,P.readableRec t=true/\t<P.types.size)(hvars:s.vars=[])(hres:f.resultTypes=#[tb])(hb:P.underlying tb=some .bool)
  (hfn:s.fn H (ds++gs)={results:=[.lit (.bool true)],args:=ds,vars:=[]})
  (hW:DataW.Whole enc P f.params.toList s.vars false w args.toList ds gs before)(hos:w'.os=w.os)(hout:w'.output=w.output)(hk:∀c,c<w.heap.size->w'.heap[c]?=w.heap[c]?):
  s.post enc P f false true false false w args (.bool true) w':=by
 have hW':=hW;obtain⟨p,q,hA,hV,rfl,hfz,hnd⟩:=hW;rw[hvars]at hV
 obtain⟨rfl,rfl⟩:gs=[]/\q=[]:=by
  cases gs with
  | nil=>exact⟨rfl,hV⟩
  | cons=>exact hV.elim
 refine⟨ds,[],p++[],[],p,[],hW',?_,?_,?_,aa4 hos hout hk,λ h=>by cases h⟩
 ·rw[hfn,hres];simp only[Value.resultList];exact⟨[],[],⟨1,by unfold DataW.trod;simp[hb,Value.cells]⟩,rfl,rfl⟩
 ·rw[hfn];exact oR hl hk ht hA λ x hx=>by simpa using hW'.lt x (by simp[hx])
 rw[hfn,hvars];exact rfl
end Go.Abs
