/- A part. -/
import Derived.Test.YtlhafglnokpioaaGreatAbs4
import Derived.ChangeArms
import Derived.Carry
import Derived.OpenShut
import Derived.ProofKit
import Derived.JoinedCond
import Derived.WalkKit
noncomputable section
namespace Go.Abs
open List
mutual
def Pure:AV->Prop
 |.int _ _=>True
 |.bool _=>True
 |.str _=>True
 |.aV _=>True
 |.agg cs _=>aS cs
 |.br cs=>aS cs
 |.ds cs _ _=>aS cs
 |.dp cs=>aS cs
 |.fn _ a b=>aS a/\aS b
 |.oQ _ v=>Pure v
 |.ptr _ _=>False
 |.sl _ _ _ _=>False
 |.map _=>False
 |.iZ _=>False
def aS:List AV->Prop
 |[]=>True
 |v::r=>Pure v/\aS r
end
mutual
theorem Pure.out {φ φ':Ph}{D:Da}:∀ {v:AV}{x:Value},Pure v->VR φ D v x->VR φ' D v x
 |.int _ _,_,_,.int _ _=>.int _ _
 |.bool _,_,_,.bool _=>.bool _
 |.str _,_,_,.str _ _ e=>.str _ _ e
 |.aV _,_,_,.aV _ e=>.aV _ e
 |.agg _ _,_,h,.agg _ _ _ a b=>.agg _ _ _ (aS.vW (by simpa only [Pure]using h) a) b
 |.br _,_,h,.br _ _ a=>.br _ _ (aS.vW (by simpa only [Pure]using h) a)
 |.ds _ _ _,_,h,.ds _ _ _ _ _ _ _ _ a b c d e=>.ds _ _ _ _ _ _ _ _ a b c (aS.vW (by simpa only [Pure]using h) d) e
 |.ds _ _ _,_,_,.pY _ _ _=>.pY _ _ _
 |.ds _ _ _,_,_,.tQ _=>.tQ _
 |.dp _,_,h,.dp _ _ _ _ _ a b c=>.dp _ _ _ _ _ a b (aS.vW (by simpa only [Pure]using h) c)
 |.fn _ _ _,_,h,.fn _ _ _ _ _ a b=>.fn _ _ _ _ _ (aS.vW (by simp only[Pure]at h;exact h.1) a) (aS.vW (by simp only[Pure]at h;exact h.2) b)
 |.oQ _ _,_,h,.oQ _ _ _ a=>.oQ _ _ _ (Pure.out (by simpa only [Pure]using h) a)
theorem aS.vW {φ φ':Ph}{D:Da}:∀ {vs:List AV}{xs:List Value},aS vs->bT φ D vs xs->bT φ' D vs xs
 |[],_,_,.nil=>.nil
 |_::_,_,h,.cons _ _ _ _ h1 h2=>.cons _ _ _ _ (Pure.out (by simp only[aS]at h;exact h.1) h1) (aS.vW (by simp only[aS]at h;exact h.2) h2)
end
@[simp] theorem apd (k:IntKind)(i:Int):Pure (.int k i):=by simp only[Pure]
@[simp] theorem anu (b:Bool):Pure (.bool b):=by simp only[Pure]
@[simp] theorem apc (l:List Nat):Pure (.str l):=by simp only[Pure]
@[simp] theorem ape (v:Value):Pure (.aV v):=by simp only[Pure]
@[simp] theorem atk (cs:List AV)(len sz:Nat):Pure (.ds cs len sz)=aS cs:=by simp only[Pure]
@[simp] theorem atl (cs:List AV):Pure (.dp cs)=aS cs:=by simp only[Pure]
@[simp] theorem apf (cs:List AV)(n:Nat):Pure (.agg cs n)=aS cs:=by simp only[Pure]
@[simp] theorem apb (cs:List AV):Pure (.br cs)=aS cs:=by simp only[Pure]
@[simp] theorem atj (f:Fn)(a b:List AV):Pure (.fn f a b)=(aS a/\aS b):=by simp only[Pure]
@[simp] theorem Uo:aS []:=by simp only[aS]
@[simp] theorem rP (v:AV)(r:List AV):aS (v::r)=(Pure v/\aS r):=by simp only[aS]
@[simp] theorem aeY (a b:List AV):aS (a++b)=(aS a/\aS b):=by
 induction a with
 |nil=>simp
 |cons v r ih=>simp[ih,and_assoc]
theorem aS.mem {a:List AV}(h:aS a):∀v∈a,Pure v:=by
 induction a with
 |nil=>intro v hv;simp at hv
 |cons u r ih =>
  simp only[rP]at h;intro v hv
  cases hv with
  |head=>exact h.1
  |tail _ hm=>exact ih h.2 v hm
theorem aS.rT {a:List AV}(h:∀v∈a,Pure v):aS a:=by
 induction a with
 |nil=>simp
 |cons v r ih=>simp only[rP];exact⟨h v ai,ih λ u hu=>h u (by simp[hu])⟩
section
variable {P:Program}
def bC (P:Program) (g:FuncId) (args:List AV) (H:Hp) (n:Nat) (v:AV) (H':Hp) (n':Nat):Prop:=
 (∃ fn b, P.funcs[g]? = some fn ∧ fn.body = some b ∧ (fn.name == "runtime.NumGoroutine") = false) ∧ n ≤ n' ∧
  ∀ φ D w xs,Rel φ D H.get w->bT φ D args xs->df φ n n'->∀R:Ending->World->Prop,
   (∀ φ' D' w' x,Ext φ D H.get w n φ' D' H'.get w' n'->Rel φ' D' H'.get w'->VR φ' D' v x->R (.returned x) w')->CallsIn Fence.wide 0 P g ⟨xs⟩ w R
theorem UU {ce:Ce}(hce:iD P ce){g:FuncId}{args:List AV}{H:Hp}{n:Nat}{v:AV}{H':Hp}{n':Nat}(h:mi P ce g args H n=.mk v H' n'):bC P g args H n v H' n':=
 sD hce h (.ret ..)
def lF:Ph:=λ _=>none
structure Kept (D D':Da)(w w':World):Prop where
 eQ:∀c x,D c=some x->D' c=some x
 size:w.heap.size<=w'.heap.size
 keep:∀c,c<w.heap.size->w'.heap[c]?=w.heap[c]?
 kD:∀c,D' c≠none->D c≠none∨w.heap.size<=c
 os:w'.os=w.os
 out:w'.output=w.output
structure aj (P:Program)(g:FuncId)(args:List AV)(v:AV):Prop where
 body : ∃ fn b, P.funcs[g]? = some fn ∧ fn.body = some b ∧ (fn.name == "runtime.NumGoroutine") = false
 apl:aS args
 apa:Pure v
 run:∀D w xs,Dat D w->bT lF D args xs->∀R:Ending->World->Prop,(∀D' w' x,Kept D D' w w'->Dat D' w'->VR lF D' v x->R (.returned x) w')->CallsIn Fence.wide 0 P g ⟨xs⟩ w R
theorem aj.KV {g:FuncId}{args:List AV}{v:AV}(h:aj P g args v) (H:Hp) (n:Nat):bC P g args H n v H n:=by
 refine⟨h.body,aL _,λ φ D w xs hr hv _ R hR=>?_⟩;refine h.run D w xs hr.eQ (h.apl.vW hv) R λ D' w' x hk hd hx=>?_;refine hR φ D' w' x ⟨aL _,λ _ _ h=>h,λ _ a b=>aw a b,hk.eQ,hk.size,λ c hc _=>hk.keep c hc,λ b p hb hp=>.inr ⟨b,p,hb,hp,rfl⟩,λ c hc=>(hk.kD c hc).elim .inl λ h=>.inr (.inl h),λ _ h=>.inl h,hk.os,hk.out⟩ ?_ (h.apa.out hx);refine⟨λ b k hb=>?_,hr.inj,λ b p hb hp=>?_,hd⟩
 ·obtain⟨p,hp,hl,hk'⟩:=hr.blk b k hb;exact⟨p,hp,Nat.lt_of_lt_of_le hl hk.size,hk'.mono (λ _ _ h=>h) hk.eQ (hk.keep _ hl)⟩
 cases hD:D' p.1 with
 |none=>rfl
 |some x =>
  rcases hk.kD p.1 (by rw[hD];simp)with h1|h1
  ·exact aw (hr.sep b p hb hp) h1
  cases hx:H.get b with
  |none=>exact aw hx hb
  |some k=>have:=(hr.block hx hp).1;omega
mutual
inductive fj (h:Hf):AV->AV->Prop
 |pure (v):Pure v->fj h v v
 |nil (sz):fj h (.aV (.slice none 0 0)) (.ds [] 0 (sz+1))
 |sl (b o len sz u z bs t cs cs'):h b=some (.cells u z bs t)->jT u z bs t o (len*sz)=some cs->bp h cs cs'->fj h (.sl b o len sz) (.ds cs' len sz)
 |ptr (b o sz u z bs t cs cs'):h b=some (.cells u z bs t)->jT u z bs t o sz=some cs->bp h cs cs'->fj h (.ptr b o) (.dp cs')
 |agg (cs cs' n):bp h cs cs'->fj h (.agg cs n) (.agg cs' n)
 |br (cs cs'):bp h cs cs'->fj h (.br cs) (.br cs')
inductive bp (h:Hf):List AV->List AV->Prop
 |nil:bp h [] []
 |cons (v v' vs vs'):fj h v v'->bp h vs vs'->bp h (v::vs) (v'::vs')
end
theorem bp.length {h:Hf}:∀ {vs vs'},bp h vs vs'->vs'.length=vs.length
 |_,_,.nil=>rfl
 |_,_,.cons _ _ _ _ _ k=>by simp[bp.length k]
mutual
theorem fj.pU {h:Hf}:∀ {v v'},fj h v v'->Pure v'
 |_,_,.pure _ k=>k
 |_,_,.nil _=>ai
 |_,_,.sl _ _ _ _ _ _ _ _ _ _ _ _ k=>by simpa using bp.pU k
 |_,_,.ptr _ _ _ _ _ _ _ _ _ _ _ k=>by simpa using bp.pU k
 |_,_,.agg _ _ _ k=>by simpa using bp.pU k
 |_,_,.br _ _ k=>by simpa using bp.pU k
theorem bp.pU {h:Hf}:∀ {v v'},bp h v v'->aS v'
 |_,_,.nil=>Uo
 |_,_,.cons _ _ _ _ a b=>by simpa using⟨fj.pU a,bp.pU b⟩
end
open Classical in
def shut (φ:Ph) (D:Da) (h:Hf) (w:World):Da:=λ c=>match D c with
 |some x=>some x
 |none=>if ∃b p,h b≠none/\φ b=some p/\p.1=c then (match w.heap[c]? with
  |some (.cells x _ _)=>some x
  |_=>none)else none
theorem fa {φ:Ph}{D:Da}{h:Hf}{w:World}:∀c x,D c=some x->shut φ D h w c=some x:=by
 intro c x hx;unfold shut;rw[hx]
theorem mO {φ:Ph}{D:Da}{h:Hf}{w:World}(hd:Dat D w):Dat (shut φ D h w) w:=by
 refine⟨λ c x hx=>?_,hd.2.mono fa⟩;unfold shut at hx
 split at hx
 ·rename_i y hy;injection hx with hx;subst hx;exact hd.1 c _ hy
 split at hx
 ·split at hx
  ·rename_i y e fr hy;injection hx with hx;subst hx;exact⟨e,fr,hy⟩
  cases hx
 cases hx
theorem AQ {φ:Ph}{D:Da}{h:Hf}{w:World}(hr:Rel φ D h w){b:Nat} {p}{x:Array Value} {e fr}(hb:h b≠none)(hp:φ b=some p)(hx:w.heap[p.1]?=some (.cells x e fr)):shut φ D h w p.1=some x:=by
 unfold shut;rw[hr.sep b p hb hp];dsimp only;rw[ay ⟨b,p,hb,hp,rfl⟩,hx]
mutual
theorem fj.vr {φ:Ph}{D:Da}{h:Hf}{w:World}(hr:Rel φ D h w):∀ {v v' x},fj h v v'->VR φ D v x->VR lF (shut φ D h w) v' x
 |_,_,_,.pure v k,hx=>k.out (hx.mono (λ _ _ h=>h) fa)
 |_,_,_,.nil sz,hx=>by cases hx;exact .tQ _
 |_,_,_,.sl b o len sz u z bs t cs cs' hb hg k,hx=>by
  cases hx with
  |sl _ _ _ _ cb co cz cap ad hp hle had =>
  obtain⟨hlt,c,e,fr,q1,q2,q3,q4,q5,q6⟩:=hr.block hb hp;obtain⟨g1,g2⟩:=kL q5 hg
  by_cases hc:0<cap
  ·obtain⟨rfl,hfit⟩:=had hc;refine .ds _ _ _ _ _ _ _ _ (AQ hr (by rw[hb];simp) hp q1) rfl (by rw[bp.length k,g1]) ?_ hle;refine bp.vW hr k (bT.pP ?_ λ i v hv=>?_)
   ·dsimp only at q1 q2 q3 q4 q5 q6;have hm:len*sz<=cap*sz:=Dq _ hle;rw[length_take,length_drop,g1,Array.length_toList];omega
   have hi:i<len*sz:=by rw[<-g1];exact(nL.1 hv).1
   have:=g2 i hi;rw[hv]at this;obtain⟨x,hx,yG⟩:=q4 _ _ this;dsimp only at hx;refine⟨x,?_,yG⟩;rw[getElem?_take,ay hi,kV];rw[show co+o+i=co+(o+i)from by omega];simpa using hx
  have hc0:cap=0:=ah;have hl0:len=0:=ah;subst hc0 hl0
  have:cs'=[]:=by
   have:=bp.length k;simp at g1;subst g1;simpa using this
  subst this;exact .pY _ _ _
 |_,_,_,.ptr b o sz u z bs t cs cs' hb hg k,hx=>by
  cases hx with
  |ptr _ _ cb co cz hp =>
  obtain⟨hlt,c,e,fr,q1,q2,q3,q4,q5,q6⟩:=hr.block hb hp;obtain⟨g1,g2⟩:=kL q5 hg;dsimp only at q1 q2 q3 q4 q5 q6
  have hat:∀i v,cs[i]?=some v->∃x,c.toList[co+o+i]?=some x/\VR φ D v x:=λ i v hv=>by
   have hi:i<sz:=by rw[<-g1];exact(nL.1 hv).1
   have:=g2 i hi;rw[hv]at this;obtain⟨x,hx,yG⟩:=q4 _ _ this;refine⟨x,?_,yG⟩;rw[show co+o+i=co+(o+i)from by omega];simpa using hx
  refine .dp _ _ _ _ _ (AQ hr (by rw[hb];simp) hp q1) rfl (bp.vW hr k (bT.pP ?_ λ i v hv=>?_))
  ·rw[bp.length k,length_take,length_drop]
   rcases Nat.eq_zero_or_pos cs.length with h0|h0
   ·omega
   obtain⟨x,hx,_⟩:=hat (cs.length - 1) _ (cY ah);have:=(nL.1 hx).1;rw[Array.length_toList]at this ⊢;omega
  obtain⟨x,hx,yG⟩:=hat i v hv;refine⟨x,?_,yG⟩;have hi:i<cs.length:=(nL.1 hv).1;rw[bp.length k,getElem?_take,ay hi,kV];exact hx
 |_,_,_,.agg cs cs' n k,hx=>by
  cases hx with
  |agg _ l _ a b=>exact .agg _ _ _ (bp.vW hr k a) (by rw[bp.length k,b])
 |_,_,_,.br cs cs' k,hx=>by
  cases hx with
  |br _ l a=>exact .br _ _ (bp.vW hr k a)
theorem bp.vW {φ:Ph}{D:Da}{h:Hf}{w:World}(hr:Rel φ D h w):∀ {vs vs' xs},bp h vs vs'->bT φ D vs xs->bT lF (shut φ D h w) vs' xs
 |_,_,_,.nil,.nil=>.nil
 |_,_,_,.cons _ _ _ _ a b,.cons _ _ _ _ c d=>.cons _ _ _ _ (fj.vr hr a c) (bp.vW hr b d)
end
theorem tw {D:Da}{w:World}(hd:Dat D w):Rel lF D (Tr.nil:Hp).get w:=
 ⟨λ b k hb=>by simp at hb,λ b c p q hb=>by simp at hb,λ b p hb=>by simp at hb,hd⟩
theorem aj.of {ce:Ce}(hce:iD P ce){g:FuncId}{args:List AV}{v:AV}(hp:aS args)(h:∃v1 H' n',mi P ce g args .nil 0=.mk v1 H' n'/\fj H'.get v1 v):aj P g args v:=by
 obtain⟨v1,H',n',h1,h2⟩:=h;obtain⟨hb,hn,hs⟩:=UU hce h1;refine⟨hb,hp,h2.pU,λ D w xs hd hv R hR=>?_⟩;refine hs lF D w xs (tw hd) hv (λ _ _ _=>rfl) R λ φ' D' w' x bh hrel hx=>?_;refine hR (shut φ' D' H'.get w') w' x ⟨λ c x hx=>fa c x (bh.eQ c x hx),bh.size,λ c hc=>bh.keep c hc λ b p hb=>by simp at hb,λ c hc=>?_,bh.os,bh.out⟩ (mO hrel.eQ) (h2.vr hrel hx);unfold shut at hc
 split at hc
 ·rename_i y hy
  rcases bh.kD c (by rw[hy];simp)with h|h|⟨b0,p0,hh,_⟩
  ·exact .inl h
  ·exact .inr h
  simp at hh
 split at hc
 ·rename_i hex;obtain⟨b,p,hb,hp,rfl⟩:=hex
  rcases bh.live b p hb hp with h|⟨b0,p0,hh,_⟩
  ·exact .inr h
  simp at hh
 exact aw rfl hc
def yw:hU->hU
 |.mk v H n=>.mk v H n
 |_=>.fail
def Au (f:FuncId->List AV->Hp->Nat->hU):Ce:={call:=λ g args H n=>yw (f g args H n),code:=λ _ _ _ _ _=>.fail,dcall:=λ _ _ _ _ _=>.fail}
theorem Ek {f:FuncId->List AV->Hp->Nat->hU}(h:∀g args H n v H' n',f g args H n=.mk v H' n'->bC P g args H n v H' n'):iD P (Au f):=by
 refine⟨λ g args H n v H' n' e=>?_,λ g args H n v H' n' e=>?_,λ _ _ _ _ _ _ _ _ _ _ e=>(by cases e),λ _ _ _ _ _ _ _ _ e=>(by cases e)⟩
 ·have e:yw (f g args H n)=.mk v H' n':=e
  cases hc:f g args H n with
  |mk v1 H1 n1=>rw[hc]at e;cases e;exact h g args H n v H' n' hc
  |fail=>rw[hc]at e;cases e
  |v7 v1 H1 n1=>rw[hc]at e;cases e
 have e:yw (f g args H n)=.v7 v H' n':=e
 cases hc:f g args H n with
 |mk v1 H1 n1=>rw[hc]at e;cases e
 |fail=>rw[hc]at e;cases e
 |v7 v1 H1 n1=>rw[hc]at e;cases e
@[simp] theorem apF (v:AV)(H:Hp)(n:Nat):yw (.mk v H n)=.mk v H n:=Eq.trans rfl rfl
open Classical in
end
end Go.Abs
namespace Go.Abs
open List
abbrev QA:=lG->Fr->Hp->Nat->List Dm->Prop
def Ev (r:QK)(Q:QA):Prop:=match r with
 |.mk (.panic _) _ _ _ _=>False
 |.mk o F H n m=>Q o F H n m
 |.fail=>False
def EvC (r:hU)(R:AV->Hp->Nat->Prop):Prop:=match r with
 |.mk v H n=>R v H n
 |_=>False
def CQ (r:bD)(H:Hp)(n:Nat)(k:AV->Hp->Nat->Prop):Prop:=match r with
 |.fail=>False
 |.val v=>k v H n
 |.new v b=>k v (H.put n (some b)) (n+1)
 |.upd v b x=>k v (H.put b (some x)) n
 |.mv v b x=>k v ((H.put b none).put n (some x)) (n+1)
def agv (b:K)(ce:Ce)(Q:QA):QA:=λ o F H n m=>match o with
 |.normal=>Ev (b.f ce F H n m) Q
 |.exit i=>Q (.exit i) F H n m
 |.ret=>Q .ret F H n m
 |.panic _=>False
def ig (i:Nat)(Q:QA):QA:=λ o F H n m=>match o with
 |.normal=>Q .normal F H n m
 |.exit j=>if i=j then Q .normal F H n m else Q (.exit j) F H n m
 |.ret=>Q .ret F H n m
 |.panic _=>False
def kH (res:List (Fr->Hp->Option AV)) (R:AV->Hp->Nat->Prop):QA:=λ o F H n m=>match o with
 |.exit _=>False
 |.panic _=>False
 |_ => match dK m H with
  |some H'=>match Ap F H' res with
   |some vs=>R (vX vs) H' n
   |none=>False
  |none=>False
def qk (v:Option AV)(p q:Prop):Prop:=match v with
 |some (.bool true)=>p
 |some (.bool false)=>q
 |_=>False
def TG (v:Option AV)(a b:K)(ce:Ce)(F:Fr)(H:Hp)(n:Nat)(m:List Dm)(Q:QA):Prop:=qk v (Ev (a.f ce F H n m) Q) (Ev (b.f ce F H n m) Q)
def fA (v:Option AV)(want:Bool)(p q:Prop):Prop:=match v with
 |some (.bool b)=>bif b == want then p else q
 |some _=>q
 |none=>False
def uw {α:Type}(o:Option α)(k:α->Prop):Prop:=match o with
 |some x=>k x
 |none=>False
section
variable {ce:Ce}{F:Fr}{H:Hp}{n:Nat}{m:List Dm}{Q:QA}
@[simp] theorem axy:Ev (.mk .normal F H n m) Q=Q .normal F H n m:=propext Iff.rfl
@[simp] theorem axz (i:Nat):Ev (.mk (.exit i) F H n m) Q=Q (.exit i) F H n m:=propext Iff.rfl
@[simp] theorem axw:Ev (.mk .ret F H n m) Q=Q .ret F H n m:=propext Iff.rfl
@[simp] theorem axx (v:AV):Ev (.mk (.panic v) F H n m) Q=False:=propext Iff.rfl
@[simp] theorem axK (v:AV)(R:AV->Hp->Nat->Prop):EvC (.mk v H n) R=R v H n:=propext Iff.rfl
@[simp] theorem ara (k:AV->Hp->Nat->Prop):CQ .fail H n k=False:=propext Iff.rfl
@[simp] theorem auH (v:AV)(k:AV->Hp->Nat->Prop):CQ (.val v) H n k=k v H n:=propext Iff.rfl
@[simp] theorem auJ (v:AV)(b:bJ)(k:AV->Hp->Nat->Prop):CQ (.new v b) H n k=k v (H.put n (some b)) (n+1):=propext Iff.rfl
@[simp] theorem auI (v:AV)(b:Nat)(x:bJ)(k:AV->Hp->Nat->Prop):CQ (.upd v b x) H n k=k v (H.put b (some x)) n:=propext Iff.rfl
@[simp] theorem axJ (v:AV)(b:Nat)(x:bJ)(k:AV->Hp->Nat->Prop):CQ (.mv v b x) H n k=k v ((H.put b none).put n (some x)) (n+1):=propext Iff.rfl
@[simp] theorem agU (b:K):agv b ce Q .normal F H n m=Ev (b.f ce F H n m) Q:=propext Iff.rfl
@[simp] theorem ann (b:K)(i:Nat):agv b ce Q (.exit i) F H n m=Q (.exit i) F H n m:=propext Iff.rfl
@[simp] theorem aoV (b:K):agv b ce Q .ret F H n m=Q .ret F H n m:=propext Iff.rfl
@[simp] theorem ahK (i:Nat):ig i Q .normal F H n m=Q .normal F H n m:=propext Iff.rfl
@[simp] theorem aob (i j:Nat):ig i Q (.exit j) F H n m=if i=j then Q .normal F H n m else Q (.exit j) F H n m:=propext Iff.rfl
@[simp] theorem ase (i:Nat):ig i Q .ret F H n m=Q .ret F H n m:=propext Iff.rfl
@[simp] theorem al0 (p q:Prop):qk (some (.bool true)) p q=p:=propext Iff.rfl
@[simp] theorem ahz (p q:Prop):qk (some (.bool false)) p q=q:=propext Iff.rfl
@[simp] theorem aw_ (p q:Prop):fA (some (.bool true)) true p q=p:=propext Iff.rfl
@[simp] theorem aw' (p q:Prop):fA (some (.bool false)) true p q=q:=propext Iff.rfl
@[simp] theorem auk (p q:Prop):fA (some (.bool true)) false p q=q:=propext Iff.rfl
@[simp] theorem aul (p q:Prop):fA (some (.bool false)) false p q=p:=propext Iff.rfl
@[simp] theorem aqJ (l:List AV)(b:Bool)(p q:Prop):fA (some (.br l)) b p q=q:=propext Iff.rfl
@[simp] theorem tH {α:Type}(x:α)(k:α->Prop):uw (some x) k=k x:=propext Iff.rfl
@[simp] theorem apt {α:Type}(k:α->Prop):uw none k=False:=propext Iff.rfl
@[simp] theorem ao8 (res:List (Fr->Hp->Option AV))(R:AV->Hp->Nat->Prop):kH res R .ret F H n m=uw (dK m H) λ H'=>uw (Ap F H' res) λ vs=>R (vX vs) H' n:=by
 unfold kH uw;dsimp only;split<;>first|(split<;>simp_all)|simp_all
@[simp] theorem agZ (res:List (Fr->Hp->Option AV))(R:AV->Hp->Nat->Prop):kH res R .normal F H n m=uw (dK m H) λ H'=>uw (Ap F H' res) λ vs=>R (vX vs) H' n:=by
 unfold kH uw;dsimp only;split<;>first|(split<;>simp_all)|simp_all
theorem alG {r:QK}(h:Ev r Q):∃o F H n m,r=.mk o F H n m/\Q o F H n m:=by
 cases r with
 |fail=>exact aw h id
 |mk o F H n m=>cases o<;>first|exact aw h id|exact⟨_,_,_,_,_,rfl,h⟩
@[simp] theorem axF:Ev (Ig.f ce F H n m) Q=Q .normal F H n m:=propext Iff.rfl
@[simp] theorem axu (a b:K):Ev ((Jx a b).f ce F H n m) Q=Ev (a.f ce F H n m) (agv b ce Q):=by
 simp only[Jx]
 cases h:a.f ce F H n m with
 |fail=>simp[Ev]
 |mk o F' H' n' m'=>cases o<;>rfl
@[simp] theorem alZ (a b:K):TG (some (.bool true)) a b ce F H n m Q=Ev (a.f ce F H n m) Q:=propext Iff.rfl
@[simp] theorem ahy (a b:K):TG (some (.bool false)) a b ce F H n m Q=Ev (b.f ce F H n m) Q:=propext Iff.rfl
@[simp] theorem auz (g:G)(a b:K):Ev ((BS g a b).f ce F H n m) Q=TG (g.f F) a b ce F H n m Q:=by
 simp only[BS,TG]
 cases g.f F with
 |none=>rfl
 |some v=>cases v with
  |bool b=>cases b<;>rfl
  |_=>rfl
@[simp] theorem aq8 (i:Nat)(b:K):Ev ((uX i b).f ce F H n m) Q=Ev (b.f ce F H n m) (ig i Q):=by
 simp only[uX]
 cases h:b.f ce F H n m with
 |fail=>simp[Ev]
 |mk o F' H' n' m' =>
  cases o with
  |normal=>rfl
  |ret=>rfl
  |panic v=>rfl
  |exit j =>
   dsimp only
   cases hij:Nat.beq i j with
   |true=>have:=cZ hij;subst this;simp
   |false =>
    have:¬i=j:=λ e=>by rw[e]at hij;simp at hij
    simp[this]
@[simp] theorem auw (i:Nat):Ev ((P2 i).f ce F H n m) Q=Q (.exit i) F H n m:=propext Iff.rfl
@[simp] theorem axv:Ev (aeL.f ce F H n m) Q=Q .ret F H n m:=propext Iff.rfl
def zE (I:Nat->Fr->Hp->Nat->List Dm->Prop)(k:Nat)(Q:QA):QA:=λ o F' H' n' m'=>match o with
 |.normal=>∃k',k'<k/\I k' F' H' n' m'
 |.exit i=>Q (.exit i) F' H' n' m'
 |.ret=>Q .ret F' H' n' m'
 |.panic _=>False
@[simp] theorem agX (I:Nat->Fr->Hp->Nat->List Dm->Prop)(k:Nat):zE I k Q .normal F H n m=∃k',k'<k/\I k' F H n m:=propext Iff.rfl
@[simp] theorem anr (I:Nat->Fr->Hp->Nat->List Dm->Prop)(k i:Nat):zE I k Q (.exit i) F H n m=Q (.exit i) F H n m:=propext Iff.rfl
@[simp] theorem ao4 (I:Nat->Fr->Hp->Nat->List Dm->Prop)(k:Nat):zE I k Q .ret F H n m=Q .ret F H n m:=propext Iff.rfl
def bc (d:Nat):Pd:=⟨λ v F=>(Tr.yf (Nat.succ d) d).f (some v) F⟩
def rj:Pd:=⟨λ _ F=>F⟩
def Fp (d:Nat)(v:AV)(F:Fr):Fr:=(Tr.yf (Nat.succ d) d).f (some v) F
@[simp] theorem ayU (d:Nat)(v:AV):(bc d).f v F=Fp d v F:=Eq.trans rfl rfl
@[simp] theorem ayp (d t:Nat)(v:AV):(Fp d v F).get t=if t=d then some v else F.get t:=Tr.jJ _ _ _ _ _ (Nat.lt_succ_self d)
@[simp] theorem ayV (v:AV):rj.f v F=F:=Eq.trans rfl rfl
@[simp] theorem C9 (t:Nat):(aA t).f F=F.get t:=gC t F
@[simp] theorem zb (v:AV):(aO v).f F=some v:=Eq.trans rfl rfl
theorem ahs (pd:Pd)(e:Eff)(next:K):Ev ((opK pd e next).f ce F H n m) Q=CQ (e F H n) H n (λ v H' n'=>Ev (next.f ce (pd.f v F) H' n' m) Q):=by
 simp only[opK]
 cases e F H n<;>rfl
def aqM (g:G)(want:Bool)(pd:Pd)(e:Eff)(next:K):K:=r_ g want (opK pd e next) (XR pd next)
theorem alJ (g:G)(want:Bool)(pd:Pd)(e:Eff)(next:K):Ev ((aqM g want pd e next).f ce F H n m) Q=fA (g.f F) want (CQ (e F H n) H n (λ v H' n'=>Ev (next.f ce (pd.f v F) H' n' m) Q)) (Ev (next.f ce (pd.f (.br []) F) H n m) Q):=by
 simp only[aqM,r_];unfold fA
 cases g.f F with
 |none=>rfl
 |some v =>
  cases v with
  |bool b =>
   dsimp only
   cases hb:b == want
   ·rfl
   exact ahs pd e next
  |_=>rfl
def amh (pd:Pd)(f:FuncId)(as:List G)(next:K):K:=Cf pd (aO (.fn (.func f) [] [])) as next
theorem YV (pd:Pd)(f:FuncId)(as:List G)(next:K):Ev ((amh pd f as next).f ce F H n m) Q=uw (evs F as) λ vs=>EvC (ce.call f vs H n) (λ v H' n'=>Ev (next.f ce (pd.f v F) H' n' m) Q):=by
 simp only[amh,Cf,zb]
 cases evs F as with
 |none=>rfl
 |some vs =>
  simp only[nil_append,append_nil,tH]
  cases ce.call f vs H n<;>rfl
def ahl (g:G)(want:Bool)(pd:Pd)(f:FuncId)(as:List G)(next:K):K:=r_ g want (amh pd f as next) (XR pd next)
theorem af9 (g:G)(want:Bool)(pd:Pd)(f:FuncId)(as:List G)(next:K):Ev ((ahl g want pd f as next).f ce F H n m) Q=fA (g.f F) want (uw (evs F as) λ vs=>EvC (ce.call f vs H n) (λ v H' n'=>Ev (next.f ce (pd.f v F) H' n' m) Q)) (Ev (next.f ce (pd.f (.br []) F) H n m) Q):=by
 simp only[ahl,r_];unfold fA
 cases g.f F with
 |none=>rfl
 |some v =>
  cases v with
  |bool b =>
   dsimp only
   cases hb:b == want
   ·rfl
   exact YV pd f as next
  |_=>rfl
def Ii (ds:List Nat)(k:KR):K:=.mk <| λ ce F H n m=>k.f ce (iS ds F) H [H] n m
@[simp] theorem axG (ds:List Nat)(k:KR):Ev ((Ii ds k).f ce F H n m) Q=Ev (k.f ce (iS ds F) H [H] n m) Q:=propext Iff.rfl
variable {Hs:List Hp}
@[simp] theorem auy:Ev (alL.f ce F H Hs n m) Q=Q .normal F H n m:=propext Iff.rfl
def EvR (e:Eff)(F:Fr)(H:Hp)(Hs:List Hp)(n cnt:Nat)(k:AV->Hp->Nat->Prop):Prop:=match e F .nil n with
 |.val v=>k v H n
 |.new v b=>if jo n Hs=true then k v (H.put n (some b)) (n+1)else False
 |.fail=>uw (fG e F n cnt Hs) λ v=>k v H n
 |_=>False
theorem alH (rs:RS)(pd:Pd)(e:Eff)(cnt:Nat)(next:KR):Ev ((opR rs pd e cnt next).f ce F H Hs n m) Q=EvR e (rs.f F) H Hs n cnt (λ v H' n'=>Ev (next.f ce (pd.f v F) H' Hs n' m) Q):=by
 simp only[opR];unfold EvR
 cases e (rs.f F) .nil n with
 |val v=>rfl
 |new v k=>dsimp only;split<;>simp_all [Ev]
 |fail=>dsimp only;unfold uw;split<;>simp_all [Ev]
 |upd=>rfl
 |mv=>rfl
theorem P3 (rs:RS)(pd:Pd)(e:Eff)(next:KR):Ev ((Hr rs pd e next).f ce F H Hs n m) Q=CQ (e (rs.f F) H n) H n (λ v H' n'=>Ev (next.f ce (pd.f v F) H' (H'::Hs) n' m) Q):=by
 simp only[Hr]
 cases e (rs.f F) H n<;>rfl
def amg (rs:RS)(pd:Pd)(f:FuncId)(as:List G)(next:KR):KR:=lz rs pd (aO (.fn (.func f) [] [])) as next
theorem P4 (rs:RS)(pd:Pd)(f:FuncId)(as:List G)(next:KR):Ev ((amg rs pd f as next).f ce F H Hs n m) Q=uw (evs (rs.f F) as) λ vs=>EvC (ce.call f vs H n) (λ v H' n'=>Ev (next.f ce (pd.f v F) H' (H'::Hs) n' m) Q):=by
 simp only[amg,lz,zb]
 cases evs (rs.f F) as with
 |none=>rfl
 |some vs =>
  simp only[nil_append,append_nil,tH]
  cases ce.call f vs H n<;>rfl
@[simp] theorem avz (l:List Nat)(F:Fr)(t:Nat):((cX l).f F).get t=if t∈l then F.get t else none:=by
 induction l with
 |nil=>rfl
 |cons a r ih =>
  simp only[cX,V',C9];rw[Tr.jJ _ _ _ _ _ (Nat.lt_succ_self a),ih]
  by_cases h:t=a
  ·subst h;simp
  simp[h]
end
end Go.Abs
namespace Go.Abs
open List
@[simp] theorem ak1 (a b:Nat):((a:Int)=(b:Int))=(a=b):=propext ah
@[simp] theorem akZ (a b:Nat):((a:Int)<(b:Int))=(a<b):=propext ah
@[simp] theorem ak0 (a b:Nat):((a:Int)<=(b:Int))=(a<=b):=propext ah
@[simp] theorem tJ (a b:Nat):Nat.ble a b=decide (a<=b):=by
 by_cases h:a<=b
 ·rw[vZ h];simp[h]
 cases hh:Nat.ble a b with
 |true=>exact aw (eH hh) h
 |false=>simp[h]
@[simp] theorem wJ (a b:Nat):Nat.blt a b=decide (a<b):=tJ (a+1) b
@[simp] theorem lO (a b:Nat):Nat.beq a b=decide (a=b):=by
 by_cases h:a=b
 ·subst h;simp
 cases hh:Nat.beq a b with
 |true=>exact aw (cZ hh) h
 |false=>simp[h]
def oE (o:Option AV)(k:AV->bD):bD:=match o with
 |some v=>k v
 |none=>.fail
def lE (o:Option (List AV))(k:List AV->bD):bD:=match o with
 |some v=>k v
 |none=>.fail
@[simp] theorem atE (v:AV)(k:AV->bD):oE (some v) k=k v:=Eq.trans rfl rfl
@[simp] theorem atM (v:List AV)(k:List AV->bD):lE (some v) k=k v:=Eq.trans rfl rfl
@[simp] theorem aoi (cs:List AV)(n:Nat):(AV.agg cs n).len=n:=Eq.trans rfl rfl
@[simp] theorem ahR (cs:List AV)(n:Nat):(AV.agg cs n).cells=cs:=Eq.trans rfl rfl
@[simp] theorem aof (k:IntKind)(n:Int):(AV.int k n).len=1:=Eq.trans rfl rfl
@[simp] theorem amu (b:Bool):(AV.bool b).len=1:=Eq.trans rfl rfl
@[simp] theorem aod (b:List Nat):(AV.str b).len=1:=Eq.trans rfl rfl
@[simp] theorem aoe (a b:Nat):(AV.ptr a b).len=1:=Eq.trans rfl rfl
@[simp] theorem asi (a b c d:Nat):(AV.sl a b c d).len=1:=Eq.trans rfl rfl
@[simp] theorem asl (cs:List AV)(c d:Nat):(AV.ds cs c d).len=1:=Eq.trans rfl rfl
@[simp] theorem aoh (v:Value):(AV.aV v).len=1:=Eq.trans rfl rfl
@[simp] theorem asj (f:Fn)(a b:List AV):(AV.fn f a b).len=1:=Eq.trans rfl rfl
@[simp] theorem aog (t:TypeId)(v:AV):(AV.oQ t v).len=1:=Eq.trans rfl rfl
@[simp] theorem ahO (k:IntKind)(n:Int):(AV.int k n).cells=[.int k n]:=Eq.trans rfl rfl
@[simp] theorem agq (b:Bool):(AV.bool b).cells=[.bool b]:=Eq.trans rfl rfl
@[simp] theorem ahM (b:List Nat):(AV.str b).cells=[.str b]:=Eq.trans rfl rfl
@[simp] theorem ahN (a b:Nat):(AV.ptr a b).cells=[.ptr a b]:=Eq.trans rfl rfl
@[simp] theorem amv (a b c d:Nat):(AV.sl a b c d).cells=[.sl a b c d]:=Eq.trans rfl rfl
@[simp] theorem amx (cs:List AV)(c d:Nat):(AV.ds cs c d).cells=[.ds cs c d]:=Eq.trans rfl rfl
@[simp] theorem ahQ (v:Value):(AV.aV v).cells=[.aV v]:=Eq.trans rfl rfl
@[simp] theorem amw (f:Fn)(a b:List AV):(AV.fn f a b).cells=[.fn f a b]:=Eq.trans rfl rfl
@[simp] theorem ahP (t:TypeId)(v:AV):(AV.oQ t v).cells=[.oQ t v]:=Eq.trans rfl rfl
@[simp] theorem amC:bo []=true:=Eq.trans rfl rfl
@[simp] theorem vT (v:AV)(r:List AV):bo (v::r)=(v.one&&bo r):=Eq.trans rfl rfl
@[simp] theorem afa (k:IntKind)(n:Int):(AV.int k n).one=true:=Eq.trans rfl rfl
@[simp] theorem apu (b:Bool):(AV.bool b).one=true:=Eq.trans rfl rfl
@[simp] theorem atv (b:List Nat):(AV.str b).one=true:=Eq.trans rfl rfl
@[simp] theorem atw (a b:Nat):(AV.ptr a b).one=true:=Eq.trans rfl rfl
@[simp] theorem av1 (a b c d:Nat):(AV.sl a b c d).one=true:=Eq.trans rfl rfl
@[simp] theorem av3 (cs:List AV)(c d:Nat):(AV.ds cs c d).one=true:=Eq.trans rfl rfl
@[simp] theorem aty (v:Value):(AV.aV v).one=true:=Eq.trans rfl rfl
@[simp] theorem av2 (f:Fn)(a b:List AV):(AV.fn f a b).one=true:=Eq.trans rfl rfl
@[simp] theorem atx (t:TypeId)(v:AV):(AV.oQ t v).one=true:=Eq.trans rfl rfl
@[simp] theorem aef (a b:List AV):bo (a++b)=(bo a&&bo b):=by
 induction a with
 |nil=>simp
 |cons v r ih=>simp[ih,Bool.and_assoc]
section
variable {F:Fr}{H:Hp}{n:Nat}
@[simp] theorem axP (x:G):eJ x F H n=oE (x.f F) .val:=by unfold eJ oE;cases x.f F<;>rfl
def G9 (c:Option AV)(a b:bD):bD:=match c with
 |some (.bool true)=>a
 |some (.bool false)=>b
 |_=>.fail
@[simp] theorem atn (a b:bD):G9 (some (.bool true)) a b=a:=Eq.trans rfl rfl
@[simp] theorem ato (a b:bD):G9 (some (.bool false)) a b=b:=Eq.trans rfl rfl
@[simp] theorem auM (c a b:G):yY c a b F H n=G9 (c.f F) (oE (a.f F) .val) (oE (b.f F) .val):=by
 unfold yY
 cases c.f F with
 |none=>rfl
 |some v=>cases v with
  |bool x =>
   cases x
   ·simp only[G9,eJ];cases b.f F<;>rfl
   simp only[G9,eJ];cases a.f F<;>rfl
  |_=>rfl
@[simp] theorem art (z:List AV)(k:Nat):au z k F H n=.new (.ptr n 0) (.cells k [] z .nil):=Eq.trans rfl rfl
@[simp] theorem axQ (x:G):Ih x F H n=oE (x.f F) λ v=>.new (.ptr n 0) (.cells v.len [] v.cells .nil):=by unfold Ih oE;cases x.f F<;>rfl
@[simp] theorem anR (cs:List AV):j8 F [] cs=some cs:=Eq.trans rfl rfl
@[simp] theorem alE (o s:Nat)(x:G)(r:List (Nat×Nat×G))(cs:List AV):j8 F ((o,s,x)::r) cs=(x.f F).bind λ v=>bif Nat.beq v.len s&&Nat.blt 0 s then (patch cs o v.cells).bind (λ cs'=>j8 F r cs')else none:=by
 rw[j8]
 cases x.f F with
 |none=>rfl
 |some v =>
  dsimp only [Option.bind]
  cases Nat.beq v.len s&&Nat.blt 0 s with
  |false=>rfl
  |true=>dsimp only [cond];cases patch cs o v.cells<;>rfl
@[simp] theorem anw (cs:List AV)(o:Nat):patch cs o []=some cs:=by cases cs<;>cases o<;>rfl
def Y' (v:AV)(o:Option (List AV)):Option (List AV):=match o with
 |some l=>some (v::l)
 |none=>none
@[simp] theorem alV (v:AV)(l:List AV):Y' v (some l)=some (v::l):=Eq.trans rfl rfl
@[simp] theorem JE (c v:AV)(cs vs:List AV):patch (c::cs) 0 (v::vs)=Y' v (patch cs 0 vs):=by
 rw[patch];cases patch cs 0 vs<;>rfl
@[simp] theorem akf (c v:AV)(cs vs:List AV)(o:Nat):patch (c::cs) (o+1) (v::vs)=Y' c (patch cs o (v::vs)):=by
 rw[patch];cases patch cs o (v::vs)<;>rfl
@[simp] theorem Bi {bs vs:List AV}(h:vs.length=bs.length):patch bs 0 vs=some vs:=by
 induction vs generalizing bs with
 |nil=>cases bs<;>simp_all
 |cons v r ih =>
  cases bs with
  |nil=>simp at h
  |cons b bs=>rw[JE,ih (by simpa using h)];rfl
@[simp] theorem ars (z:List AV)(k:Nat)(ps:List (Nat×Nat×G)):aG z k ps F H n=lE (j8 F ps z) λ cs=>.val (.agg cs k):=by unfold aG lE;cases j8 F ps z<;>rfl
@[simp] theorem anX (z:List AV)(k sz:Nat)(ps:List (Nat×Nat×G)):aJ z k sz ps F H n=lE (j8 F ps (rep z k)) λ cs=>.new (.sl n 0 k sz) (.cells (k*sz) [] cs .nil):=by unfold aJ lE;cases j8 F ps (rep z k)<;>rfl
@[simp] theorem ao9 (z:List AV):rep z 0=[]:=Eq.trans rfl rfl
theorem rep_succ (z:List AV)(n:Nat):rep z (n+1)=z++rep z n:=rfl
@[simp] theorem atb (z:List AV):rep z 1=z:=by simp[rep_succ]
@[simp] theorem arq (x:G):uR x F H n=oE (x.f F) λ v=>cN v H:=by unfold uR oE;cases x.f F<;>rfl
@[simp] theorem arp (k:Nat)(x:G):iP k x F H n=oE (x.f F) λ v=>eE k v H:=by unfold iP oE;cases x.f F<;>rfl
@[simp] theorem ark (k:Nat)(x v:G):dD k x v F H n=oE (x.f F) λ a=>oE (v.f F) λ v=>mC k a v H:=by
 unfold dD oE
 cases x.f F with
 |none=>rfl
 |some a=>dsimp only;cases v.f F<;>rfl
@[simp] theorem auN (x:G):aZ x F H n=oE (x.f F) Cj:=by unfold aZ oE;cases x.f F<;>rfl
@[simp] theorem e1_f (c:AV->bD)(x:G):e1 c x F H n=oE (x.f F) c:=by unfold e1 oE;cases x.f F<;>rfl
@[simp] theorem e2_f (c:AV->AV->bD)(x y:G):e2 c x y F H n=oE (x.f F) λ a=>oE (y.f F) λ b=>c a b:=by
 unfold e2 oE
 cases x.f F with
 |none=>rfl
 |some a=>dsimp only;cases y.f F<;>rfl
@[simp] theorem auv:evs F []=some []:=Eq.trans rfl rfl
@[simp] theorem aq5 (x:G)(r:List G):evs F (x::r)=(x.f F).bind λ a=>(evs F r).bind λ l=>some (a::l):=by
 rw[evs]
 cases x.f F with
 |none=>rfl
 |some a=>cases evs F r<;>rfl
@[simp] theorem auQ (f:Fn)(a b:List G):jl f a b F H n=lE (evs F a) λ a=>lE (evs F b) λ b=>.val (.fn f a b):=by
 unfold jl lE
 cases evs F a with
 |none=>rfl
 |some a=>dsimp only;cases evs F b<;>rfl
@[simp] theorem axR (sz gp:Nat)(s x:G):dL sz gp s x F H n=oE (s.f F) λ s=>oE (x.f F) λ x=>gZ sz gp n s x H:=by
 unfold dL oE
 cases s.f F with
 |none=>rfl
 |some a=>dsimp only;cases x.f F<;>rfl
def sE (o:Option (Option AV))(k:Option AV->bD):bD:=match o with
 |some v=>k v
 |none=>.fail
@[simp] theorem ata (v:Option AV)(k:Option AV->bD):sE (some v) k=k v:=Eq.trans rfl rfl
@[simp] theorem apB:vB F none=some none:=Eq.trans rfl rfl
@[simp] theorem apA (x:G):vB F (some x)=(x.f F).map some:=Eq.trans rfl rfl
@[simp] theorem azU (c:Option AV->Option AV->Option AV->AV->bD)(x:G)(lo hi mx:Option G):wq c x lo hi mx F H n=sE (vB F lo) λ lo=>sE (vB F hi) λ hi=>sE (vB F mx) λ mx=>oE (x.f F) λ v=>c lo hi mx v:=by
 unfold wq sE oE
 cases vB F lo with
 |none=>rfl
 |some a=>cases vB F hi with
  |none=>rfl
  |some b=>cases vB F mx with
   |none=>rfl
   |some d=>dsimp only;cases x.f F<;>rfl
end
section
variable {H:Hp}{n:Nat}
@[simp] theorem aqN {α:Type}(t:Tr α)(a b:Nat)(v:Option α):(t.put a v).get b=if b=a then v else t.get b:=Tr.get_put t a b v
def ld1 (k:Option bJ)(o:Nat):bD:=match k with
 |some (.cells u z bs t)=>oE (gR u z bs t o) .val
 |_=>.fail
def pT (k:Option bJ)(o c:Nat):bD:=match k with
 |some (.cells u z bs t)=>lE (jT u z bs t o c) λ l=>.val (.agg l c)
 |_=>.fail
@[simp] theorem apS (u z bs t o):ld1 (some (.cells u z bs t)) o=oE (gR u z bs t o) .val:=Eq.trans rfl rfl
@[simp] theorem apP (u z bs t o c):pT (some (.cells u z bs t)) o c=lE (jT u z bs t o c) λ l=>.val (.agg l c):=Eq.trans rfl rfl
@[simp] theorem apT (o:Nat):ld1 none o=.fail:=Eq.trans rfl rfl
@[simp] theorem apQ (o c:Nat):pT none o c=.fail:=Eq.trans rfl rfl
@[simp] theorem ahJ (b o:Nat):cN (.ptr b o) H=ld1 (H.get b) o:=by
 unfold cN ld1 oE;dsimp only
 cases H.get b with
 |none=>rfl
 |some k=>cases k with
  |cells u z bs t=>dsimp only;cases gR u z bs t o<;>rfl
  |_=>rfl
@[simp] theorem an0 (v:AV)(r:List AV):cN (.dp (v::r)) H=.val v:=Eq.trans rfl rfl
@[simp] theorem ahI (k b o:Nat):eE k (.ptr b o) H=pT (H.get b) o k:=by
 unfold eE pT lE;dsimp only
 cases H.get b with
 |none=>rfl
 |some x=>cases x with
  |cells u z bs t=>dsimp only;cases jT u z bs t o k<;>rfl
  |_=>rfl
theorem qS {k:Nat}{l:List AV}(r:List AV)(h:l.length=k):eE k (.dp (l++r)) H=.val (.agg l k):=by
 unfold eE;dsimp only;have:Nat.ble k (l++r).length=true:=vZ (by simp;omega);rw[this];dsimp only;rw[<-h,take_left]
theorem jr (u:Nat)(bs:List AV)(i:Nat):gR u [] bs .nil i=if i<u then bs[i]? else none:=by
 rw[cM]
 split
 ·simp only[Ov.get_nil];cases bs[i]?<;>rfl
 rfl
@[simp] theorem nZ (u:Nat)(bs:List AV)(i:Nat):gR u [] bs .nil i=if i<u then bs[i]? else none:=jr u bs i
@[simp] theorem anN {u:Nat}{bs:List AV}{o k:Nat}(hl:bs.length=u)(h:o+k<=u):jT u [] bs .nil o k=some ((bs.drop o).take k):=by
 unfold jT;dsimp only
 split
 ·rename_i hb;simp at hb;obtain⟨rfl,rfl⟩:=hb;simp[<-hl]
 have e:yj k o bs=some ((bs.drop o).take k):=by
  unfold yj;dsimp only;rw[xz,pZ,jq];have:((bs.drop o).take k).length=k:=by simp;omega
  have hb:Nat.beq ((bs.drop o).take k).length k=true:=by rw[this];exact Nat.beq_refl k
  rw[hb]
 rw[show Nat.ble (Nat.add o k) u=true from vZ h,e];rfl
@[simp high] theorem YG (u:Nat) (bs:List AV):jT u [] bs .nil 0 u=some bs:=by
 unfold jT;simp
def stE (k:Nat)(v:AV)(x:Option bJ)(b o:Nat):bD:=match x with
 |some (.cells u z bs t)=>bif Nat.beq v.len k&&Nat.ble (o+k) u&&bo v.cells then .upd (.br []) b (mL u z bs t v.cells o)else .fail
 |_=>.fail
@[simp] theorem aoO (k:Nat)(v:AV) (u z bs t b o):stE k v (some (.cells u z bs t)) b o=bif Nat.beq v.len k&&Nat.ble (o+k) u&&bo v.cells then .upd (.br []) b (mL u z bs t v.cells o)else .fail:=Eq.trans rfl rfl
@[simp] theorem ami (k b o:Nat)(v:AV):mC k (.ptr b o) v H=stE k v (H.get b) b o:=by
 unfold mC stE;dsimp only
 cases H.get b with
 |none=>rfl
 |some x=>cases x with
  |cells u z bs t=>dsimp only;cases Nat.beq v.len k&&Nat.ble (o+k) u&&bo v.cells<;>rfl
  |_=>rfl
def stL (u:Nat)(bs vs:List AV)(o:Nat)(r:Option (List AV)):bJ:=match r with
 |some bs'=>.cells u [] bs' .nil
 |none=>.cells u [] bs (Ov.bO vs o .nil)
@[simp] theorem aoN (u:Nat)(bs vs:List AV)(o:Nat)(r:List AV):stL u bs vs o (some r)=.cells u [] r .nil:=Eq.trans rfl rfl
@[simp] theorem agP {u:Nat}{bs vs:List AV}{o:Nat}(h:u<=64):mL u [] bs .nil vs o=stL u bs vs o (patch bs o vs):=by
 unfold mL stL;simp only[vZ h]
 cases patch bs o vs<;>rfl
@[simp] theorem anZ (b o:Nat):Cj (.ptr b o)=.val (.ptr b o):=Eq.trans rfl rfl
@[simp] theorem arO (cs:List AV):Cj (.dp cs)=.val (.dp cs):=Eq.trans rfl rfl
@[simp] theorem an' (k b o:Nat):zk k (.ptr b o)=.val (.ptr b (o+k)):=by unfold zk;dsimp only;rw[dj]
@[simp] theorem asa (k:Nat)(cs:List AV):zk k (.dp cs)=.val (.dp (cs.drop k)):=Eq.trans rfl rfl
def nE (o:Option AV):bD:=match o with
 |some v=>.val v
 |none=>.fail
@[simp] theorem atH (v:AV):nE (some v)=.val v:=Eq.trans rfl rfl
@[simp] theorem an7 (o:Nat)(cs:List AV)(k:Nat):Qy o (.agg cs k)=nE (cs[o]?):=by
 unfold Qy nE;dsimp only;rw[nQ];cases cs[o]?<;>rfl
@[simp] theorem an4 (o k m:Nat)(cs:List AV):Qx o k (.agg cs m)=bif Nat.ble (o+k) m then .val (.agg ((cs.drop o).take k) k)else .fail:=by
 unfold Qx;dsimp only
 cases Nat.ble (o+k) m<;>rfl
@[simp] theorem arS (i:Nat)(vs:List AV):jw i (.br vs)=nE (vs[i]?):=by
 unfold jw nE;dsimp only;rw[nQ];cases vs[i]?<;>rfl
theorem tY {cs:List AV}{len sz i:Nat}{k:IntKind}(h:i<len):bW sz (.ds cs len sz) (.int k (i:Int))=.val (.dp (cs.drop (i*sz))):=by
 show (match Nat.blt i len&&Nat.beq sz sz with
  |true=>bD.val (.dp (cs.drop (i*sz)))
  |false=>.fail)=_
 rw[show Nat.blt i len=true from vZ h,Nat.beq_refl];rfl
theorem Qw {b o len sz i:Nat}{k:IntKind}(h:i<len):bW sz (.sl b o len sz) (.int k (i:Int))=.val (.ptr b (o+i*sz)):=by
 show (match Nat.blt i len&&Nat.beq sz sz with
  |true=>gz (o+i*sz) λ o'=>bD.val (.ptr b o')
  |false=>.fail)=_
 rw[show Nat.blt i len=true from vZ h,Nat.beq_refl];exact dj _ _
@[simp] theorem arR (cs:List AV)(len sz:Nat):bg (.ds cs len sz)=.val (.int .i64 (len:Int)):=Eq.trans rfl rfl
@[simp] theorem arQ (b o len sz:Nat):bg (.sl b o len sz)=.val (.int .i64 (len:Int)):=Eq.trans rfl rfl
@[simp] theorem an3:bg (.aV (.slice none 0 0))=.val (.int .i64 0):=Eq.trans rfl rfl
@[simp] theorem an2 (l:List Nat):jm (.str l)=.val (.int .i64 (l.length:Int)):=by unfold jm;dsimp only;rw[bN];rfl
@[simp] theorem kh (k:IntKind)(i:Int):kO k i=.val (.int k i):=by unfold kO;rw[mV]
@[simp] theorem ar':bQ .add=Av:=Eq.trans rfl rfl
@[simp] theorem ar7:bQ .lss=ry .lss:=Eq.trans rfl rfl
@[simp] theorem ar8:bQ .leq=ry .leq:=Eq.trans rfl rfl
@[simp] theorem ar9:bQ .gtr=ry .gtr:=Eq.trans rfl rfl
@[simp] theorem ar_:bQ .geq=ry .geq:=Eq.trans rfl rfl
@[simp] theorem ar0:bQ .sub=uJ (bS .sub):=Eq.trans rfl rfl
@[simp] theorem ar6:bQ .mul=uJ (bS .mul):=Eq.trans rfl rfl
@[simp] theorem ar5:bQ .quo=uJ (bS .quo):=Eq.trans rfl rfl
@[simp] theorem ar4:bQ .rem=uJ (bS .rem):=Eq.trans rfl rfl
@[simp] theorem ar2:bQ .shl=eO .shl:=Eq.trans rfl rfl
@[simp] theorem ar1:bQ .shr=eO .shr:=Eq.trans rfl rfl
@[simp] theorem ap_ (c:IntKind->Int->Int->bD)(k:IntKind)(a b:Int):uJ c (.int k a) (.int k b)=c k a b:=by simp[uJ]
@[simp] theorem amj (k:IntKind)(a b:Int):bS .sub k a b=.val (.int k (k.wrap (a - b))):=by simp[bS]
@[simp] theorem amk (k:IntKind)(a b:Int):bS .mul k a b=.val (.int k (k.wrap (a*b))):=by simp[bS]
@[simp] theorem asb (k:IntKind)(a b:Int):Av (.int k a) (.int k b)=.val (.int k (k.wrap (a+b))):=by simp[Av]
@[simp] theorem arV (k:IntKind)(a b:Int):ry .lss (.int k a) (.int k b)=.val (.bool (decide (a<b))):=by simp[ry]
@[simp] theorem arW (k:IntKind)(a b:Int):ry .leq (.int k a) (.int k b)=.val (.bool (decide (a<=b))):=by simp[ry]
@[simp] theorem arX (k:IntKind)(a b:Int):ry .gtr (.int k a) (.int k b)=.val (.bool (decide (b<a))):=by simp[ry]
@[simp] theorem arY (k:IntKind)(a b:Int):ry .geq (.int k a) (.int k b)=.val (.bool (decide (b<=a))):=by simp[ry]
@[simp] theorem auZ (k:IntKind)(a b:Int):kG false .num (.int k a) (.int k b)=.val (.bool (decide (a=b))):=by simp only[kG,ji,if_true];by_cases h:a=b<;>simp[h]
@[simp] theorem auX (k:IntKind)(a b:Int):kG true .num (.int k a) (.int k b)=.val (.bool (decide (a≠b))):=by
 simp only[kG,ji,if_true];by_cases h:a=b<;>simp[h]
@[simp] theorem auY (a b:List Nat):kG false .num (.str a) (.str b)=.val (.bool (decide (a=b))):=by simp only[kG,ji,fD];by_cases h:a=b<;>simp[h]
@[simp] theorem auW (a b:List Nat):kG true .num (.str a) (.str b)=.val (.bool (decide (a≠b))):=by simp only[kG,ji,fD];by_cases h:a=b<;>simp[h]
@[simp] theorem arT (a b:Bool):kG false .bool (.bool a) (.bool b)=.val (.bool (a == b)):=by simp[kG,ji]
@[simp] theorem arP (a b:Bool):kG true .bool (.bool a) (.bool b)=.val (.bool (a != b)):=by cases a<;>cases b<;>rfl
def Az (b:Bool)(r:Option Bool):Option Bool:=if b then r else some false
@[simp] theorem aom (b c:Bool):Az b (some c)=some (b&&c):=by cases b<;>rfl
@[simp] theorem aht:bP [] [] []=some true:=Eq.trans rfl rfl
@[simp] theorem anU (qs:List LK)(k:IntKind)(a b:Int)(x y:List AV):bP (.i::qs) (.int k a::x) (.int k b::y)=Az (decide (a=b)) (bP qs x y):=by
 by_cases h:a=b
 ·simp[bP,dZ,h,Az]
 have:(a == b)=false:=by simpa using h
 simp only[bP,dZ,if_true,this,h,Az,decide_false];rfl
@[simp] theorem anT (qs:List LK)(a b:List Nat)(x y:List AV):bP (.s::qs) (.str a::x) (.str b::y)=Az (decide (a=b)) (bP qs x y):=by
 by_cases h:a=b
 ·simp[bP,dZ,fD,h,Az]
 have:(a == b)=false:=by simpa using h
 simp only[bP,dZ,fD,this,h,Az,decide_false];rfl
@[simp] theorem anV (qs:List LK)(a b:Bool)(x y:List AV):bP (.b::qs) (.bool a::x) (.bool b::y)=Az (decide (a=b)) (bP qs x y):=by
 by_cases h:a=b
 ·simp[bP,dZ,h,Az]
 have:(a == b)=false:=by simpa using h
 simp only[bP,dZ,this,h,Az,decide_false];rfl
def bE (neg:Bool)(r:Option Bool):bD:=match r with
 |some b=>.val (.bool (neg != b))
 |none=>.fail
@[simp] theorem au4 (neg b:Bool):bE neg (some b)=.val (.bool (neg != b)):=Eq.trans rfl rfl
@[simp] theorem arU (neg:Bool)(ks:List LK)(a b:List AV)(n m:Nat):mY neg ks (.agg a n) (.agg b m)=if n=ks.length/\m=ks.length then bE neg (bP ks a b)else .fail:=by
 unfold mY bE;dsimp only;rw[lO,lO]
 by_cases h:n=ks.length/\m=ks.length
 ·rw[ay h];simp only[h.1,h.2,decide_true,Bool.and_self];cases bP ks a b<;>rfl
 rw[ak h]
 have:(decide (n=ks.length)&&decide (m=ks.length))=false:=by
  by_cases h1:n=ks.length<;>by_cases h2:m=ks.length<;>simp_all
 rw[this]
@[simp] theorem auV (b:Bool):cUn .not (.bool b)=.val (.bool (!b)):=Eq.trans rfl rfl
theorem tf {ce:Ce}:∀ {m:List Dm}{H H':Hp}{n:Nat},dK m H=some H'->kS ce m .ret H n=.mk .ret H' n
 |[],H,H',n,h=>by simp only[dK]at h;injection h with h;subst h;simp only[kS]
 |.cD k::m,H,H',n,h=>by
  simp only[dK]at h
  split at h
  ·rename_i hk;simp only[kS,hk];exact tf h
  cases h
 |.fn _ _::m,H,H',n,h=>by simp[dK]at h
@[simp] theorem ajI:dK [] H=some H:=Eq.trans rfl rfl
def aH (t:Nat):Fr->Hp->Option AV:=λ F _=>(aA t).f F
def vE (r:bD):Option AV:=match r with
 |.val v=>some v
 |_=>none
@[simp] theorem avp (v:AV):vE (.val v)=some v:=Eq.trans rfl rfl
def cj (a k:Nat):Fr->Hp->Option AV:=λ F H=>match (aA a).f F with
 |some v=>match eE k v H with
  |.val v=>some v
  |_=>none
 |none=>none
def O3 (a:Nat):Fr->Hp->Option AV:=λ F H=>match (aA a).f F with
 |some v=>match cN v H with
  |.val v=>some v
  |_=>none
 |none=>none
variable {F:Fr}
@[simp] theorem auA:Ap F H []=some []:=Eq.trans rfl rfl
@[simp] theorem aq9 (x:Fr->Hp->Option AV)(r:List (Fr->Hp->Option AV)):Ap F H (x::r)=(x F H).bind λ v=>(Ap F H r).bind λ l=>some (v::l):=by
 rw[Ap]
 cases x F H with
 |none=>rfl
 |some a=>cases Ap F H r<;>rfl
@[simp] theorem avC (t:Nat):aH t F H=F.get t:=by simp[aH]
@[simp] theorem atf (a k:Nat):cj a k F H=(F.get a).bind λ v=>vE (eE k v H):=by
 simp only[cj,C9]
 cases F.get a with
 |none=>rfl
 |some v=>dsimp only [Option.bind];cases eE k v H<;>rfl
@[simp] theorem atg (a:Nat):O3 a F H=(F.get a).bind λ v=>vE (cN v H):=by
 simp only[O3,C9]
 cases F.get a with
 |none=>rfl
 |some v=>dsimp only [Option.bind];cases cN v H<;>rfl
@[simp] theorem ao6 (v:AV):vX [v]=v:=Eq.trans rfl rfl
@[simp] theorem ao7:vX []=.br []:=Eq.trans rfl rfl
@[simp] theorem ao5 (v u:AV)(l:List AV):vX (v::u::l)=.br (v::u::l):=Eq.trans rfl rfl
end
section
variable {P:Program}{ce:Ce}
@[simp] theorem yg {α:Type}(i:Nat)(t:Tr α):Tr.bO [] i t=t:=Eq.trans rfl rfl
theorem enter {g:FuncId}{af:AF}{args:List AV}{H:Hp}{n:Nat}{R:AV->Hp->Nat->Prop}(h:P7 P g=some af) (hl:args.length<=af.nt)
  (hb:∀F:Fr,(∀i,F.get i=args[i]?)->Ev (af.code.f ce F H n []) (kH af.res R)):EvC (mi P ce g args H n) R:=by
 unfold mi;rw[h];dsimp only;rw[bN,vZ hl];dsimp only
 have:=hb (Tr.bO args 0 .nil) λ i=>by
  rw[Tr.bI]
  split
  ·simp
  rw[getElem?_eq_none ah];rfl
 cases hr:af.code.f ce (Tr.bO args 0 .nil) H n []with
 |fail=>rw[hr]at this;exact this
 |mk o F1 H1 n1 m1 =>
  rw[hr]at this
  have key:(o=.normal∨o=.ret)->EvC (mh af.res F1 (kS ce m1 .ret H1 n1)) R:=by
   intro ho
   have:uw (dK m1 H1) λ H'=>uw (Ap F1 H' af.res) λ vs=>R (vX vs) H' n1:=by
    rcases ho with rfl|rfl
    ·simpa using this
    simpa using this
   cases hu:dK m1 H1 with
   |none=>rw[hu]at this;exact aw this id
   |some H2 =>
    rw[hu]at this;rw[tf hu];unfold mh;dsimp only;simp only[tH]at this
    cases he:Ap F1 H2 af.res with
    |none=>rw[he]at this;exact this
    |some vs=>rw[he]at this;exact this
  cases o with
  |normal=>exact key (.inl rfl)
  |ret=>exact key (.inr rfl)
  |exit i=>exact this
  |panic v=>exact aw this id
end
end Go.Abs
namespace Go.Abs
open List
inductive KO where
 |eff (e:Eff)
 |call (g:G) (as:List G)
 |bad
 |js (e:Eff)
 |raw (f:Pd->K->K)
structure GO where
 g:Option (G×Bool)
 pd:Pd
 op:KO
def inO (pd:Pd)(o:KO)(next:K):K:=match o with
 |.eff e=>opK pd e next
 |.call g as=>Cf pd g as next
 |.bad=>jL
 |.js _=>jL
 |.raw f=>f pd next
def goK (o:Option GO)(next:K):K:=match o with
 |some ⟨none,pd,k⟩=>inO pd k next
 |some ⟨some (g,b),pd,k⟩=>r_ g b (inO pd k next) (XR pd next)
 |none=>jL
def tK:List (Option GO)->K
 |[]=>Ig
 |o::r=>goK o (tK r)
def Ak (P:Program) (o:Oper):KO:=match o.op with
 |.call {callee:=.value f,args,argTypes:=_}=>match eh P o with
  |some e=>.eff e
  |none=>match dH f,mg args.toList with
   |some g,some as=>.call g as
   |_,_=>.bad
 |_=>match eh P o with
  |some e=>.eff e
  |none=>.bad
def koM (P:Program) (o:Oper):KO:=match o.op with
 |.call {callee:=.value f,args,argTypes:=_}=>match eh P o with
  |some e=>.eff e
  |none=>match dH f,mg args.toList with
   |some g,some as=>.call g as
   |_,_=>.bad
 |_=>match eh P o with
  |some e=>.eff e
  |none=>.bad
def we (P:Program) (nt:Nat) (ops:Array Oper) (o:Oper):Option GO:=match fF nt o.dst with
 |none=>none
 |some pd=>match o.guard with
  |none=>some ⟨none,pd,Ak P o⟩
  |some (j,b)=>match (ops[j]?).bind (·.dst)with
   |some d=>some ⟨some (aA d,b),pd,Ak P o⟩
   |none=>none
theorem BW (P:Program)(pd:Pd)(o:Oper)(next:K):uU P pd o next=inO pd (Ak P o) next:=by
 unfold uU Ak
 split
 ·rename_i ho;rw[ho]
  cases eh P o with
  |some e=>rfl
  |none=>dsimp only;split<;>simp_all [inO]
 split<;>simp_all [inO]
theorem KI (P:Program)(nt:Nat)(ops:Array Oper)(o:Oper)(next:K):tU P nt ops o next=goK (we P nt ops o) next:=by
 unfold tU we
 cases fF nt o.dst with
 |none=>rfl
 |some pd =>
  dsimp only
  cases o.guard with
  |none=>exact BW ..
  |some x =>
   obtain⟨j,b⟩:=x;dsimp only
   cases (ops[j]?).bind (·.dst)with
   |none=>rfl
   |some d=>simp only[goK,BW]
theorem ze (P:Program)(nt:Nat)(ops:Array Oper):∀l,tR P nt ops l=tK (l.map (we P nt ops))
 |[]=>rfl
 |o::l=>by simp only[tR,map_cons,tK,KI,ze P nt ops l]
structure RO where
 rs:RS
 g:Option (G×Bool)
 pd:Pd
 op:KO
 cnt:Option Nat
def HJ (o:RO)(next:KR):KR:=match o.op,o.cnt with
 |.eff e,some c=>opR o.rs o.pd e c next
 |.eff e,none=>Hr o.rs o.pd e next
 |.call g as,none=>lz o.rs o.pd g as next
 |.js e,none=>YO o.rs o.pd e next
 |_,_=>jK
def afn (o:RO)(next:KR):KR:=match o.cnt with
 |some _=>Uz o.pd next
 |none=>UA o.pd next
def roR (o:Option RO) (next:KR):KR:=match o with
 |some o=>match o.g with
  |none=>HJ o next
  |some (g,b)=>yM o.rs g b (HJ o next) (afn o next)
 |none=>jK
def fY:List (Option RO)->KR
 |[]=>alL
 |o::r=>roR o (fY r)
def T9 (_P:Program) (nt:Nat) (ops:Array Oper) (i:Nat) (k:Oper->KO) (cnt:Option Nat):Option RO:=match ops[i]? with
 |some o=>match fF nt o.dst with
  |some pd=>match o.guard with
   |none=>some ⟨cX (slotsOf ops o),none,pd,k o,cnt⟩
   |some (j,b)=>match (ops[j]?).bind (·.dst)with
    |some d=>some ⟨cX (slotsOf ops o),some (aA d,b),pd,k o,cnt⟩
    |none=>none
  |none=>none
 |none=>none
def koR (P:Program)(o:Oper):KO:=match eh P o with
 |some e=>.eff e
 |none=>.bad
def koF (P:Program) (o:Oper):KO:=match o.op with
 |.store _ _ _=>match eh P o with
  |some e=>.js e
  |none=>.bad
 |_=>.bad
def roF (P:Program) (nt:Nat) (ops:Array Oper) (i:Nat):Option RO:=match ops[i]? with
 |some o=>match fF nt o.dst with
  |some pd=>match o.guard with
   |none=>some ⟨cX (slotsOf ops o),none,pd,koF P o,none⟩
   |some _=>none
  |none=>none
 |none=>none
def l9 (P:Program)(nt:Nat)(ops:Array Oper):List eZ->Nat->List (Option RO)
 |[],_=>[]
 |.op i e::l,j=>T9 P nt ops i (koR P) (some (Nat.succ (Nat.sub j e)))::l9 P nt ops l j
 |.mod i::l,j=>T9 P nt ops i (koM P) none::l9 P nt ops l (Nat.succ j)
 |.Vv i::l,j=>T9 P nt ops i (koR P) (some 0)::l9 P nt ops l j
 |.js i::l,j=>roF P nt ops i::l9 P nt ops l j
theorem ak7 (P:Program)(rs:RS)(pd:Pd)(o:Oper)(next:KR)(g:Option (G×Bool)):inF P rs pd o next=HJ ⟨rs,g,pd,koF P o,none⟩ next:=by
 unfold inF HJ koF;dsimp only
 split
 ·split<;>simp_all
 split<;>simp_all
theorem DV (P:Program)(rs:RS)(pd:Pd)(o:Oper)(c:Nat)(next:KR)(g:Option (G×Bool)):inR P rs pd o c next=HJ ⟨rs,g,pd,koR P o,some c⟩ next:=by
 unfold inR HJ koR
 cases eh P o<;>rfl
theorem Yt (P:Program)(rs:RS)(pd:Pd)(o:Oper)(next:KR)(g:Option (G×Bool)):inM P rs pd o next=HJ ⟨rs,g,pd,koM P o,none⟩ next:=by
 unfold inM HJ koM;dsimp only
 split
 ·rename_i ho;rw[ho]
  cases eh P o with
  |some e=>rfl
  |none=>dsimp only;split<;>simp_all
 split<;>simp_all
theorem jO (P:Program) (nt:Nat) (ops:Array Oper):∀l j,gj P nt ops l j=fY (l9 P nt ops l j)
 |[],_=>rfl
 |.op i e::l,j=>by
  simp only[gj,l9,fY,T9]
  cases ops[i]? with
  |none=>rfl
  |some o =>
   dsimp only
   cases fF nt o.dst with
   |none=>rfl
   |some pd =>
    dsimp only [guarded]
    cases o.guard with
    |none=>dsimp only [roR];rw[jO P nt ops l j,DV (g:=none)]
    |some x =>
     obtain⟨q,b⟩:=x;dsimp only
     cases (ops[q]?).bind (·.dst)with
     |none=>rfl
     |some d=>dsimp only [roR,afn];rw[jO P nt ops l j,DV (g:=some (aA d,b))]
 |.mod i::l,j=>by
  simp only[gj,l9,fY,T9]
  cases ops[i]? with
  |none=>rfl
  |some o =>
   dsimp only
   cases fF nt o.dst with
   |none=>rfl
   |some pd =>
    dsimp only [guarded]
    cases o.guard with
    |none=>dsimp only [roR];rw[jO P nt ops l (Nat.succ j),Yt (g:=none)]
    |some x =>
     obtain⟨q,b⟩:=x;dsimp only
     cases (ops[q]?).bind (·.dst)with
     |none=>rfl
     |some d=>dsimp only [roR,afn];rw[jO P nt ops l (Nat.succ j),Yt (g:=some (aA d,b))]
 |.Vv i :: l,j=>by
  simp only[gj,l9,fY,T9]
  cases ops[i]? with
  |none=>rfl
  |some o =>
   dsimp only
   cases fF nt o.dst with
   |none=>rfl
   |some pd =>
    dsimp only [guarded]
    cases o.guard with
    |none=>dsimp only [roR];rw[jO P nt ops l j,DV (g:=none)]
    |some x =>
     obtain⟨q,b⟩:=x;dsimp only
     cases (ops[q]?).bind (·.dst)with
     |none=>rfl
     |some d=>dsimp only [roR,afn];rw[jO P nt ops l j,DV (g:=some (aA d,b))]
 |.js i::l,j=>by
  simp only[gj,l9,fY,roF]
  cases ops[i]? with
  |none=>rfl
  |some o =>
   dsimp only
   cases fF nt o.dst with
   |none=>rfl
   |some pd =>
    dsimp only
    cases o.guard with
    |none=>dsimp only [roR];rw[jO P nt ops l j,ak7 (g:=none)]
    |some x=>rfl
inductive CT where
 |nw (l:List (Option GO))
 |dI (ds:List Nat) (l:List (Option RO))
 |seq (a b:CT)
 |cond (g:G) (a b:CT)
 |block (i:Nat) (b:CT)
 |loop (b:CT)
 |exit (i:Nat)
 |ret
 |skip
 |range (nt:Nat) (g:G) (ps:List Nat) (a b:Code)
 |bad
 |raw (k:K)
def sY:CT->K
 |.nw l=>tK l
 |.dI ds l=>Ii ds (fY l)
 |.seq a b=>Jx (sY a) (sY b)
 |.cond g a b=>BS g (sY a) (sY b)
 |.block i b=>uX i (sY b)
 |.loop b=>Hw (sY b)
 |.exit i=>P2 i
 |.ret=>aeL
 |.skip=>Ig
 |.range nt g ps a b=>Dl nt g ps a b
 |.bad=>jL
 |.raw k=>k
def ajW (P:Program)(nt:Nat)(ops:Array Oper)(pl:List eZ)(ok:Bool):CT:=match ok with
 |true=>.dI (iR ops.toList) (l9 P nt ops pl 0)
 |false=>.bad
theorem aeN (P:Program)(nt:Nat)(ops:Array Oper)(pl:List eZ)(ok:Bool):aeO P nt ops pl ok=sY (ajW P nt ops pl ok):=by
 cases ok with
 |false=>rfl
 |true=>simp only[aeO,ajW,sY,Ii,jO]
def eN (P:Program) (nt:Nat) (rd:Bool):Code->CT
 |.skip=>.skip
 |.region _ ops d=>bif d then (bif P.follows .mixedOrders then ajW P nt ops (Up (nf ops.toList 0 .nil) ops.toList) (wF (nf ops.toList 0 .nil) ops (Up (nf ops.toList 0 .nil) ops.toList))else .bad)else (bif rd&&eF ops.toList then .bad else .nw (ops.toList.map (we P nt ops)))
 |.seq a b=>.seq (eN P nt rd a) (eN P nt rd b)
 |.cond c a b=>match dH c with
  |some x=>.cond x (eN P nt rd a) (eN P nt rd b)
  |none=>.bad
 |.block id b=>.block id (eN P nt rd b)
 |.loop (.seq a rest)=>match Bw a with
  |some (x,d,ops,os)=>bif rd&&eF os then .bad else .raw (afv P nt x d ops os (comp P nt rd rest))
  |none=>.loop (.seq (eN P nt rd a) (eN P nt rd rest))
 |.loop b=>.loop (eN P nt rd b)
 |.exit id=>.exit id
 |.ret=>.ret
 |.scope b=>eN P nt rd b
 |.label _=>.skip
 |.rangeFunc f ps a b=>match dH f with
  |some x=>bif rd then .bad else .range nt x ps.toList a b
  |none=>.bad
 |_=>.bad
theorem lT (P:Program)(nt:Nat)(rd:Bool):∀c,comp P nt rd c=sY (eN P nt rd c)
 |.skip=>rfl
 |.region _ ops d=>by
  simp only[comp,eN,P5,aeN,ze]
  cases d with
  |false=>simp only[cond_false];cases (rd&&eF ops.toList)<;>rfl
  |true=>simp only[cond_true];cases P.follows .mixedOrders<;>rfl
 |.seq a b=>by simp only[comp,eN,sY,lT P nt rd a,lT P nt rd b]
 |.cond c a b=>by simp only[comp,eN,lT P nt rd a,lT P nt rd b];cases dH c<;>rfl
 |.block id b=>by simp only[comp,eN,sY,lT P nt rd b]
 |.loop b=>by
  have ib:=lT P nt rd b
  cases b with
  |seq a rest =>
   simp only[comp,eN];simp only[comp,eN,sY]at ib
   cases Bw a with
   |none=>simp only[sY,ib]
   |some y=>obtain⟨x,d,ops,os⟩:=y;dsimp only;cases (rd&&eF os)<;>rfl
  |_=>simp only[comp,eN,sY,ib]<;>(try simp only[comp,eN,sY]at ib;simp only[ib])
 |.exit id=>rfl
 |.ret=>rfl
 |.rangeFunc f ps a b=>by
  simp only[comp,eN]
  cases dH f with
  |none=>rfl
  |some x=>dsimp only;cases rd<;>rfl
 |.scope b=>by simp only[comp,eN,lT P nt rd b]
 |.label _=>rfl
 |.goto _=>rfl
 |.refuse _=>rfl
structure CF where
 res:List (Fr->Hp->Option AV)
 code:CT
 nt:Nat
def KE (P:Program) (g:FuncId):Option CF:=match P.funcs[g]? with
 |some fn=>match fn.body with
  | some b => match fn.name == "runtime.NumGoroutine" with
   |true=>none
   |false=>match k_ P fn.results.toList with
    |some r=>some {res:=r,code:=eN P fn.ntmps false b,nt:=fn.ntmps}
    |none=>none
  |none=>none
 |none=>none
section
variable {ce:Ce}{F:Fr}{H:Hp}{n:Nat}{m:List Dm}{Q:QA}{Hs:List Hp}
@[simp] theorem atQ (l:List (Option GO)):sY (.nw l)=tK l:=Eq.trans rfl rfl
@[simp] theorem atS (ds:List Nat)(l:List (Option RO)):sY (.dI ds l)=Ii ds (fY l):=Eq.trans rfl rfl
@[simp] theorem atO (a b:CT):sY (.seq a b)=Jx (sY a) (sY b):=Eq.trans rfl rfl
@[simp] theorem ap0 (g:G)(a b:CT):sY (.cond g a b)=BS g (sY a) (sY b):=Eq.trans rfl rfl
@[simp] theorem anE (i:Nat)(b:CT):sY (.block i b)=uX i (sY b):=Eq.trans rfl rfl
@[simp] theorem apY (b:CT):sY (.loop b)=Hw (sY b):=Eq.trans rfl rfl
@[simp] theorem apZ (i:Nat):sY (.exit i)=P2 i:=Eq.trans rfl rfl
@[simp] theorem atP:sY .ret=aeL:=Eq.trans rfl rfl
@[simp] theorem apX:sY .skip=Ig:=Eq.trans rfl rfl
def oP (pd:Pd)(e:Eff):Option GO:=some ⟨none,pd,.eff e⟩
def gP (g:G)(b:Bool)(pd:Pd)(e:Eff):Option GO:=some ⟨some (g,b),pd,.eff e⟩
def cP (pd:Pd)(f:FuncId)(as:List G):Option GO:=some ⟨none,pd,.call (aO (.fn (.func f) [] [])) as⟩
def j7 (g:G)(b:Bool)(pd:Pd)(f:FuncId)(as:List G):Option GO:=some ⟨some (g,b),pd,.call (aO (.fn (.func f) [] [])) as⟩
def vP (pd:Pd)(g:G)(as:List G):Option GO:=some ⟨none,pd,.call g as⟩
@[simp] theorem aq7:Ev ((tK []).f ce F H n m) Q=Q .normal F H n m:=propext Iff.rfl
def EvO (x:bD)(pd:Pd)(r:List (Option GO))(ce:Ce)(F:Fr)(H:Hp)(n:Nat)(m:List Dm)(Q:QA):Prop:=CQ x H n λ v H' n'=>Ev ((tK r).f ce (pd.f v F) H' n' m) Q
def anb (x:hU)(pd:Pd)(r:List (Option GO))(ce:Ce)(F:Fr)(m:List Dm)(Q:QA):Prop:=EvC x λ v H' n'=>Ev ((tK r).f ce (pd.f v F) H' n' m) Q
def ad5 (vs:Option (List AV))(f:FuncId)(pd:Pd)(r:List (Option GO))(ce:Ce)(F:Fr)(H:Hp)(n:Nat)(m:List Dm)(Q:QA):Prop:=uw vs λ vs=>anb (ce.call f vs H n) pd r ce F m Q
def Vp (v:Option AV)(b:Bool)(pd:Pd)(e:Eff)(r:List (Option GO))(ce:Ce)(F:Fr)(H:Hp)(n:Nat)(m:List Dm)(Q:QA):Prop:=fA v b (EvO (e F H n) pd r ce F H n m Q) (Ev ((tK r).f ce (pd.f (.br []) F) H n m) Q)
def Vr (v:Option AV)(b:Bool)(pd:Pd)(f:FuncId)(as:List G)(r:List (Option GO))(ce:Ce)(F:Fr)(H:Hp)(n:Nat)(m:List Dm)(Q:QA):Prop:=fA v b (ad5 (evs F as) f pd r ce F H n m Q) (Ev ((tK r).f ce (pd.f (.br []) F) H n m) Q)
@[simp] theorem aq_ (pd:Pd)(r:List (Option GO)):EvO .fail pd r ce F H n m Q=False:=propext Iff.rfl
@[simp] theorem auB (v:AV)(pd:Pd)(r:List (Option GO)):EvO (.val v) pd r ce F H n m Q=Ev ((tK r).f ce (pd.f v F) H n m) Q:=propext Iff.rfl
@[simp] theorem auD (v:AV)(k:bJ)(pd:Pd)(r:List (Option GO)):EvO (.new v k) pd r ce F H n m Q=Ev ((tK r).f ce (pd.f v F) (H.put n (some k)) (n+1) m) Q:=propext Iff.rfl
@[simp] theorem auC (v:AV)(b:Nat)(k:bJ)(pd:Pd)(r:List (Option GO)):EvO (.upd v b k) pd r ce F H n m Q=Ev ((tK r).f ce (pd.f v F) (H.put b (some k)) n m) Q:=propext Iff.rfl
@[simp] theorem axH (v:AV)(b:Nat)(k:bJ)(pd:Pd)(r:List (Option GO)):EvO (.mv v b k) pd r ce F H n m Q=Ev ((tK r).f ce (pd.f v F) ((H.put b none).put n (some k)) (n+1) m) Q:=propext Iff.rfl
@[simp] theorem auT (v:AV)(H':Hp)(n':Nat)(pd:Pd)(r:List (Option GO)):anb (.mk v H' n') pd r ce F m Q=Ev ((tK r).f ce (pd.f v F) H' n' m) Q:=propext Iff.rfl
@[simp] theorem aok (vs:List AV)(f:FuncId)(pd:Pd)(r:List (Option GO)):ad5 (some vs) f pd r ce F H n m Q=anb (ce.call f vs H n) pd r ce F m Q:=propext Iff.rfl
@[simp] theorem aw8 (pd:Pd)(e:Eff)(r:List (Option GO)):Vp (some (.bool true)) true pd e r ce F H n m Q=EvO (e F H n) pd r ce F H n m Q:=propext Iff.rfl
@[simp] theorem aw9 (pd:Pd)(e:Eff)(r:List (Option GO)):Vp (some (.bool false)) true pd e r ce F H n m Q=Ev ((tK r).f ce (pd.f (.br []) F) H n m) Q:=propext Iff.rfl
@[simp] theorem aui (pd:Pd)(e:Eff)(r:List (Option GO)):Vp (some (.bool true)) false pd e r ce F H n m Q=Ev ((tK r).f ce (pd.f (.br []) F) H n m) Q:=propext Iff.rfl
@[simp] theorem auj (pd:Pd)(e:Eff)(r:List (Option GO)):Vp (some (.bool false)) false pd e r ce F H n m Q=EvO (e F H n) pd r ce F H n m Q:=propext Iff.rfl
@[simp] theorem aqI (l:List AV)(b:Bool)(pd:Pd)(e:Eff)(r:List (Option GO)):Vp (some (.br l)) b pd e r ce F H n m Q=Ev ((tK r).f ce (pd.f (.br []) F) H n m) Q:=propext Iff.rfl
@[simp] theorem axc (pd:Pd)(f:FuncId)(as:List G)(r:List (Option GO)):Vr (some (.bool true)) true pd f as r ce F H n m Q=ad5 (evs F as) f pd r ce F H n m Q:=propext Iff.rfl
@[simp] theorem axd (pd:Pd)(f:FuncId)(as:List G)(r:List (Option GO)):Vr (some (.bool false)) true pd f as r ce F H n m Q=Ev ((tK r).f ce (pd.f (.br []) F) H n m) Q:=propext Iff.rfl
@[simp] theorem auo (pd:Pd)(f:FuncId)(as:List G)(r:List (Option GO)):Vr (some (.bool true)) false pd f as r ce F H n m Q=Ev ((tK r).f ce (pd.f (.br []) F) H n m) Q:=propext Iff.rfl
@[simp] theorem aup (pd:Pd)(f:FuncId)(as:List G)(r:List (Option GO)):Vr (some (.bool false)) false pd f as r ce F H n m Q=ad5 (evs F as) f pd r ce F H n m Q:=propext Iff.rfl
@[simp] theorem aqL (l:List AV)(b:Bool)(pd:Pd)(f:FuncId)(as:List G)(r:List (Option GO)):Vr (some (.br l)) b pd f as r ce F H n m Q=Ev ((tK r).f ce (pd.f (.br []) F) H n m) Q:=propext Iff.rfl
@[simp] theorem azN (pd:Pd)(e:Eff)(r:List (Option GO)):Ev ((tK (oP pd e::r)).f ce F H n m) Q=EvO (e F H n) pd r ce F H n m Q:=ahs pd e (tK r)
@[simp] theorem azP (g:G)(b:Bool)(pd:Pd)(e:Eff)(r:List (Option GO)):Ev ((tK (gP g b pd e::r)).f ce F H n m) Q=Vp (g.f F) b pd e r ce F H n m Q:=alJ g b pd e (tK r)
@[simp] theorem azR (pd:Pd)(f:FuncId)(as:List G)(r:List (Option GO)):Ev ((tK (cP pd f as::r)).f ce F H n m) Q=ad5 (evs F as) f pd r ce F H n m Q:=YV pd f as (tK r)
@[simp] theorem axD (g:G)(b:Bool)(pd:Pd)(f:FuncId)(as:List G)(r:List (Option GO)):Ev ((tK (j7 g b pd f as::r)).f ce F H n m) Q=Vr (g.f F) b pd f as r ce F H n m Q:=af9 g b pd f as (tK r)
theorem oz (e:Eff)(F:Fr)(n:Nat)(A:Hp)(As:List Hp):fG e F n 1 (A::As)=vE (e F A n):=by
 simp only[fG];unfold vE
 cases e F A n<;>rfl
def eqA (v:AV)(u:Option AV):Option AV:=u.bind λ u=>if Ld v u=true then some u else none
theorem jx (e:Eff)(F:Fr)(n k:Nat)(A:Hp)(As:List Hp):fG e F n (k+2) (A::As)=(vE (e F A n)).bind λ v=>eqA v (fG e F n (k+1) As):=by
 rw[fG];unfold vE eqA
 cases e F A n with
 |val v =>
  dsimp only [Option.bind]
  cases fG e F n (k+1) As with
  |none=>rfl
  |some u=>dsimp only;cases Ld v u<;>rfl
 |_=>rfl
@[simp] theorem asu (e:Eff)(F:Fr)(n:Nat)(A:Hp)(As:List Hp):fG e F n 1 (A::As)=vE (e F A n):=oz e F n A As
@[simp] theorem ast (e:Eff)(F:Fr)(n:Nat)(A B:Hp)(As:List Hp):fG e F n 2 (A::B::As)=(vE (e F A n)).bind λ v=>eqA v (vE (e F B n)):=by rw[jx e F n 0,oz]
@[simp] theorem ass (e:Eff)(F:Fr)(n:Nat)(A B C:Hp)(As:List Hp):fG e F n 3 (A::B::C::As)=(vE (e F A n)).bind λ v=>eqA v ((vE (e F B n)).bind λ v=>eqA v (vE (e F C n))):=by rw[jx e F n 1,jx e F n 0,oz]
@[simp] theorem ard (v:AV):eqA v (some v)=some v:=by simp[eqA,Ve]
def oI (rs:List Nat)(pd:Pd)(e:Eff)(c:Nat):Option RO:=some ⟨cX rs,none,pd,.eff e,some c⟩
def mI (rs:List Nat)(pd:Pd)(e:Eff):Option RO:=some ⟨cX rs,none,pd,.eff e,none⟩
def cI (rs:List Nat)(pd:Pd)(f:FuncId)(as:List G):Option RO:=some ⟨cX rs,none,pd,.call (aO (.fn (.func f) [] [])) as,none⟩
def goI (rs:List Nat)(g:G)(b:Bool)(pd:Pd)(e:Eff)(c:Nat):Option RO:=some ⟨cX rs,some (g,b),pd,.eff e,some c⟩
def gmI (rs:List Nat)(g:G)(b:Bool)(pd:Pd)(e:Eff):Option RO:=some ⟨cX rs,some (g,b),pd,.eff e,none⟩
def gcI (rs:List Nat)(g:G)(b:Bool)(pd:Pd)(f:FuncId)(as:List G):Option RO:=some ⟨cX rs,some (g,b),pd,.call (aO (.fn (.func f) [] [])) as,none⟩
def fI (rs:List Nat)(pd:Pd)(e:Eff):Option RO:=some ⟨cX rs,none,pd,.js e,none⟩
def vI (rs:List Nat)(pd:Pd)(g:G)(as:List G):Option RO:=some ⟨cX rs,none,pd,.call g as,none⟩
@[simp] theorem anS:Ev ((fY []).f ce F H Hs n m) Q=Q .normal F H n m:=propext Iff.rfl
def Vs (x:bD)(pd:Pd)(r:List (Option RO))(ce:Ce)(F:Fr)(H:Hp)(Hs:List Hp)(n:Nat)(m:List Dm)(Q:QA):Prop:=CQ x H n λ v H' n'=>Ev ((fY r).f ce (pd.f v F) H' (H'::Hs) n' m) Q
def ErI (x:bD)(e:Eff)(c:Nat)(F0:Fr)(pd:Pd)(r:List (Option RO))(ce:Ce)(F:Fr)(H:Hp)(Hs:List Hp)(n:Nat)(m:List Dm)(Q:QA):Prop:=match x with
 |.val v=>Ev ((fY r).f ce (pd.f v F) H Hs n m) Q
 |.new v b=>if jo n Hs=true then Ev ((fY r).f ce (pd.f v F) (H.put n (some b)) Hs (n+1) m) Q else False
 |.fail=>uw (fG e F0 n c Hs) λ v=>Ev ((fY r).f ce (pd.f v F) H Hs n m) Q
 |_=>False
def AvI (x:Option AV)(pd:Pd)(r:List (Option RO))(ce:Ce)(F:Fr)(H:Hp)(Hs:List Hp)(n:Nat)(m:List Dm)(Q:QA):Prop:=uw x λ v=>Ev ((fY r).f ce (pd.f v F) H Hs n m) Q
def Jc (x:hU)(pd:Pd)(r:List (Option RO))(ce:Ce)(F:Fr)(Hs:List Hp)(m:List Dm)(Q:QA):Prop:=EvC x λ v H' n'=>Ev ((fY r).f ce (pd.f v F) H' (H'::Hs) n' m) Q
def ad6 (vs:Option (List AV))(f:FuncId)(pd:Pd)(r:List (Option RO))(ce:Ce)(F:Fr)(H:Hp)(Hs:List Hp)(n:Nat)(m:List Dm)(Q:QA):Prop:=uw vs λ vs=>Jc (ce.call f vs H n) pd r ce F Hs m Q
@[simp] theorem aq' (pd:Pd)(r:List (Option RO)):Vs .fail pd r ce F H Hs n m Q=False:=propext Iff.rfl
@[simp] theorem auE (v:AV)(pd:Pd)(r:List (Option RO)):Vs (.val v) pd r ce F H Hs n m Q=Ev ((fY r).f ce (pd.f v F) H (H::Hs) n m) Q:=propext Iff.rfl
@[simp] theorem auG (v:AV)(k:bJ)(pd:Pd)(r:List (Option RO)):Vs (.new v k) pd r ce F H Hs n m Q=Ev ((fY r).f ce (pd.f v F) (H.put n (some k)) (H.put n (some k)::Hs) (n+1) m) Q:=propext Iff.rfl
@[simp] theorem auF (v:AV)(b:Nat)(k:bJ)(pd:Pd)(r:List (Option RO)):Vs (.upd v b k) pd r ce F H Hs n m Q=Ev ((fY r).f ce (pd.f v F) (H.put b (some k)) (H.put b (some k)::Hs) n m) Q:=propext Iff.rfl
@[simp] theorem axI (v:AV)(b:Nat)(k:bJ)(pd:Pd)(r:List (Option RO)):Vs (.mv v b k) pd r ce F H Hs n m Q=Ev ((fY r).f ce (pd.f v F) ((H.put b none).put n (some k)) ((H.put b none).put n (some k)::Hs) (n+1) m) Q:=propext Iff.rfl
@[simp] theorem auK (v:AV)(e:Eff)(c:Nat)(F0:Fr)(pd:Pd)(r:List (Option RO)):ErI (.val v) e c F0 pd r ce F H Hs n m Q=Ev ((fY r).f ce (pd.f v F) H Hs n m) Q:=propext Iff.rfl
@[simp] theorem auL (v:AV)(k:bJ)(e:Eff)(c:Nat)(F0:Fr)(pd:Pd)(r:List (Option RO)):ErI (.new v k) e c F0 pd r ce F H Hs n m Q=if jo n Hs=true then Ev ((fY r).f ce (pd.f v F) (H.put n (some k)) Hs (n+1) m) Q else False:=propext Iff.rfl
@[simp] theorem arc (e:Eff)(c:Nat)(F0:Fr)(pd:Pd)(r:List (Option RO)):ErI .fail e c F0 pd r ce F H Hs n m Q=AvI (fG e F0 n c Hs) pd r ce F H Hs n m Q:=propext Iff.rfl
@[simp] theorem aso (v:AV)(pd:Pd)(r:List (Option RO)):AvI (some v) pd r ce F H Hs n m Q=Ev ((fY r).f ce (pd.f v F) H Hs n m) Q:=propext Iff.rfl
@[simp] theorem auU (v:AV)(H':Hp)(n':Nat)(pd:Pd)(r:List (Option RO)):Jc (.mk v H' n') pd r ce F Hs m Q=Ev ((fY r).f ce (pd.f v F) H' (H'::Hs) n' m) Q:=propext Iff.rfl
@[simp] theorem aol (vs:List AV)(f:FuncId)(pd:Pd)(r:List (Option RO)):ad6 (some vs) f pd r ce F H Hs n m Q=Jc (ce.call f vs H n) pd r ce F Hs m Q:=propext Iff.rfl
@[simp] theorem aq6 (rs:List Nat)(pd:Pd)(e:Eff)(c:Nat)(r:List (Option RO)):Ev ((fY (oI rs pd e c::r)).f ce F H Hs n m) Q=ErI (e ((cX rs).f F) .nil n) e c ((cX rs).f F) pd r ce F H Hs n m Q:=by
 have:=alH (ce:=ce) (F:=F) (H:=H) (Hs:=Hs) (n:=n) (m:=m) (Q:=Q) (cX rs) pd e c (fY r);refine Eq.trans this ?_;unfold EvR ErI
 cases e ((cX rs).f F) .nil n<;>rfl
def FlI (x:bD) (pd:Pd) (r:List (Option RO)) (ce:Ce) (F:Fr) (H B:Hp) (Hs:List Hp) (n:Nat) (m:List Dm) (Q:QA):Prop:=match x with
 |.upd v b k=>match B.get b with
  |some _=>Ev ((fY r).f ce (pd.f v F) (H.put b (some k)) (B.put b none::Hs) n m) Q
  |none=>False
 |_=>False
@[simp] theorem aq0 (v:AV)(b:Nat)(k:bJ)(pd:Pd)(r:List (Option RO))(B:Hp):FlI (.upd v b k) pd r ce F H B Hs n m Q=uw (B.get b) λ _=>Ev ((fY r).f ce (pd.f v F) (H.put b (some k)) (B.put b none::Hs) n m) Q:=by
 unfold FlI uw;dsimp only;cases B.get b<;>rfl
@[simp] theorem aq1 (pd:Pd)(r:List (Option RO))(B:Hp):FlI .fail pd r ce F H B Hs n m Q=False:=propext Iff.rfl
@[simp] theorem azQ (rs:List Nat)(pd:Pd)(e:Eff)(r:List (Option RO))(B:Hp):Ev ((fY (fI rs pd e::r)).f ce F H (B::Hs) n m) Q=FlI (e ((cX rs).f F) B n) pd r ce F H B Hs n m Q:=by
 show Ev ((YO (cX rs) pd e (fY r)).f ce F H (B::Hs) n m) Q=_;simp only[YO];unfold FlI
 cases e ((cX rs).f F) B n with
 |upd v b k=>dsimp only;cases B.get b<;>rfl
 |_=>rfl
@[simp] theorem azO (rs:List Nat)(pd:Pd)(e:Eff)(r:List (Option RO)):Ev ((fY (mI rs pd e::r)).f ce F H Hs n m) Q=Vs (e ((cX rs).f F) H n) pd r ce F H Hs n m Q:=P3 _ pd e (fY r)
@[simp] theorem azS (rs:List Nat)(pd:Pd)(f:FuncId)(as:List G)(r:List (Option RO)):Ev ((fY (cI rs pd f as::r)).f ce F H Hs n m) Q=ad6 (evs ((cX rs).f F) as) f pd r ce F H Hs n m Q:=P4 _ pd f as (fY r)
def GoI (v:Option AV)(b:Bool)(F0:Fr)(pd:Pd)(e:Eff)(c:Nat)(r:List (Option RO))(ce:Ce)(F:Fr)(H:Hp)(Hs:List Hp)(n:Nat)(m:List Dm)(Q:QA):Prop:=fA v b (ErI (e F0 .nil n) e c F0 pd r ce F H Hs n m Q) (Ev ((fY r).f ce (pd.f (.br []) F) H Hs n m) Q)
def GmI (v:Option AV)(b:Bool)(F0:Fr)(pd:Pd)(e:Eff)(r:List (Option RO))(ce:Ce)(F:Fr)(H:Hp)(Hs:List Hp)(n:Nat)(m:List Dm)(Q:QA):Prop:=fA v b (Vs (e F0 H n) pd r ce F H Hs n m Q) (Ev ((fY r).f ce (pd.f (.br []) F) H (H::Hs) n m) Q)
def GcI (v:Option AV)(b:Bool)(F0:Fr)(pd:Pd)(f:FuncId)(as:List G)(r:List (Option RO))(ce:Ce)(F:Fr)(H:Hp)(Hs:List Hp)(n:Nat)(m:List Dm)(Q:QA):Prop:=fA v b (ad6 (evs F0 as) f pd r ce F H Hs n m Q) (Ev ((fY r).f ce (pd.f (.br []) F) H (H::Hs) n m) Q)
theorem qN {rs:RS}{g:G}{b:Bool}{yes no:KR}:Ev ((yM rs g b yes no).f ce F H Hs n m) Q=fA (g.f (rs.f F)) b (Ev (yes.f ce F H Hs n m) Q) (Ev (no.f ce F H Hs n m) Q):=by
 simp only[yM];unfold fA
 cases g.f (rs.f F)with
 |none=>rfl
 |some v=>cases v with
  |bool x=>dsimp only;cases x == b<;>rfl
  |_=>rfl
theorem af8 (rs:List Nat)(g:G)(b:Bool)(pd:Pd)(e:Eff)(c:Nat)(r:List (Option RO)):Ev ((fY (goI rs g b pd e c::r)).f ce F H Hs n m) Q=fA (g.f ((cX rs).f F)) b (Ev ((fY (oI rs pd e c::r)).f ce F H Hs n m) Q) (Ev ((fY r).f ce (pd.f (.br []) F) H Hs n m) Q):=
 qN (ce:=ce) (F:=F) (H:=H) (Hs:=Hs) (n:=n) (m:=m) (Q:=Q) (rs:=cX rs) (g:=g) (b:=b) (yes:=opR (cX rs) pd e c (fY r)) (no:=Uz pd (fY r))
@[simp] theorem axB (rs:List Nat)(g:G)(b:Bool)(pd:Pd)(e:Eff)(c:Nat)(r:List (Option RO)):Ev ((fY (goI rs g b pd e c::r)).f ce F H Hs n m) Q=GoI (g.f ((cX rs).f F)) b ((cX rs).f F) pd e c r ce F H Hs n m Q:=by
 rw[af8,aq6];rfl
@[simp] theorem axC (rs:List Nat)(g:G)(b:Bool)(pd:Pd)(e:Eff)(r:List (Option RO)):Ev ((fY (gmI rs g b pd e::r)).f ce F H Hs n m) Q=GmI (g.f ((cX rs).f F)) b ((cX rs).f F) pd e r ce F H Hs n m Q:=by
 have h1:=qN (ce:=ce) (F:=F) (H:=H) (Hs:=Hs) (n:=n) (m:=m) (Q:=Q) (rs:=cX rs) (g:=g) (b:=b) (yes:=Hr (cX rs) pd e (fY r)) (no:=UA pd (fY r));rw[P3]at h1;exact h1
@[simp] theorem axE (rs:List Nat)(g:G)(b:Bool)(pd:Pd)(f:FuncId)(as:List G)(r:List (Option RO)):Ev ((fY (gcI rs g b pd f as::r)).f ce F H Hs n m) Q=GcI (g.f ((cX rs).f F)) b ((cX rs).f F) pd f as r ce F H Hs n m Q:=by
 have h1:=qN (ce:=ce) (F:=F) (H:=H) (Hs:=Hs) (n:=n) (m:=m) (Q:=Q) (rs:=cX rs) (g:=g) (b:=b) (yes:=amg (cX rs) pd f as (fY r)) (no:=UA pd (fY r));rw[P4]at h1;exact h1
@[simp] theorem azD (F0:Fr)(pd:Pd)(e:Eff)(c:Nat)(r:List (Option RO)):GoI (some (.bool true)) true F0 pd e c r ce F H Hs n m Q=ErI (e F0 .nil n) e c F0 pd r ce F H Hs n m Q:=propext Iff.rfl
@[simp] theorem azE (F0:Fr)(pd:Pd)(e:Eff)(c:Nat)(r:List (Option RO)):GoI (some (.bool false)) true F0 pd e c r ce F H Hs n m Q=Ev ((fY r).f ce (pd.f (.br []) F) H Hs n m) Q:=propext Iff.rfl
@[simp] theorem axf (F0:Fr)(pd:Pd)(e:Eff)(c:Nat)(r:List (Option RO)):GoI (some (.bool true)) false F0 pd e c r ce F H Hs n m Q=Ev ((fY r).f ce (pd.f (.br []) F) H Hs n m) Q:=propext Iff.rfl
@[simp] theorem axg (F0:Fr)(pd:Pd)(e:Eff)(c:Nat)(r:List (Option RO)):GoI (some (.bool false)) false F0 pd e c r ce F H Hs n m Q=ErI (e F0 .nil n) e c F0 pd r ce F H Hs n m Q:=propext Iff.rfl
@[simp] theorem auq (l:List AV)(b:Bool)(F0:Fr)(pd:Pd)(e:Eff)(c:Nat)(r:List (Option RO)):GoI (some (.br l)) b F0 pd e c r ce F H Hs n m Q=Ev ((fY r).f ce (pd.f (.br []) F) H Hs n m) Q:=propext Iff.rfl
@[simp] theorem axh (F0:Fr)(pd:Pd)(e:Eff)(r:List (Option RO)):GmI (some (.bool true)) false F0 pd e r ce F H Hs n m Q=Ev ((fY r).f ce (pd.f (.br []) F) H (H::Hs) n m) Q:=propext Iff.rfl
@[simp] theorem axi (F0:Fr)(pd:Pd)(e:Eff)(r:List (Option RO)):GmI (some (.bool false)) false F0 pd e r ce F H Hs n m Q=Vs (e F0 H n) pd r ce F H Hs n m Q:=propext Iff.rfl
@[simp] theorem axj (F0:Fr)(pd:Pd)(f:FuncId)(as:List G)(r:List (Option RO)):GcI (some (.bool true)) false F0 pd f as r ce F H Hs n m Q=Ev ((fY r).f ce (pd.f (.br []) F) H (H::Hs) n m) Q:=propext Iff.rfl
@[simp] theorem axk (F0:Fr)(pd:Pd)(f:FuncId)(as:List G)(r:List (Option RO)):GcI (some (.bool false)) false F0 pd f as r ce F H Hs n m Q=ad6 (evs F0 as) f pd r ce F H Hs n m Q:=propext Iff.rfl
@[simp] theorem azF (F0:Fr)(pd:Pd)(e:Eff)(r:List (Option RO)):GmI (some (.bool true)) true F0 pd e r ce F H Hs n m Q=Vs (e F0 H n) pd r ce F H Hs n m Q:=propext Iff.rfl
@[simp] theorem azG (F0:Fr)(pd:Pd)(e:Eff)(r:List (Option RO)):GmI (some (.bool false)) true F0 pd e r ce F H Hs n m Q=Ev ((fY r).f ce (pd.f (.br []) F) H (H::Hs) n m) Q:=propext Iff.rfl
@[simp] theorem azH (F0:Fr)(pd:Pd)(f:FuncId)(as:List G)(r:List (Option RO)):GcI (some (.bool true)) true F0 pd f as r ce F H Hs n m Q=ad6 (evs F0 as) f pd r ce F H Hs n m Q:=propext Iff.rfl
@[simp] theorem azI (F0:Fr)(pd:Pd)(f:FuncId)(as:List G)(r:List (Option RO)):GcI (some (.bool false)) true F0 pd f as r ce F H Hs n m Q=Ev ((fY r).f ce (pd.f (.br []) F) H (H::Hs) n m) Q:=propext Iff.rfl
end
end Go.Abs
namespace Go.Abs
open List
section
variable {φ:Ph}{D:Da}{w:World}{n:Nat}
def FI (h:Hf)(v v':AV):Prop:=v=v'∨fj h v v'
def BZ (h:Hf)(y0 y:bJ):Prop:=y0=y∨∃u z bs t l,y0=.cells u z bs t/\y=.cells u [] l .nil/\l.length=u/\∀(i:Nat) v',l[i]?=some v'->∃v,gR u z bs t i=some v/\FI h v v'
structure eG (h:Hf)(F:Fr)(H:Hp)(F2:Fr)(H2:Hp):Prop where
 sub:∀b k,h b=some k->H.get b=some k
 gone:∀b,h b≠none->H2.get b=none
 fr:∀(t:Nat) v,F2.get t=some v->∃u,F.get t=some u/\FI h u v
 hp:∀b y,H2.get b=some y->∃y0,H.get b=some y0/\BZ h y0 y
theorem eG.refl (F:Fr)(H:Hp):eG (λ _=>none) F H F H:=
 ⟨λ b k h=>by simp at h,λ b h=>aw rfl h,λ t v h=>⟨v,h,.inl rfl⟩,λ b y h=>⟨y,h,.inl rfl⟩⟩
theorem Rel.sub {h h':Hf}(hr:Rel φ D h w)(hs:∀b k,h' b=some k->h b=some k):Rel φ D h' w:=by
 have ne:∀b,h' b≠none->h b≠none:=λ b hb=>by
  cases hx:h' b with
  |none=>exact aw hx hb
  |some k=>rw[hs b k hx];simp
 exact⟨λ b k hb=>hr.blk b k (hs b k hb),λ b c p q hb hc=>hr.inj b c p q (ne b hb) (ne c hc),λ b p hb=>hr.sep b p (ne b hb),hr.eQ⟩
theorem FI.vr {h:Hf}(hr:Rel φ D h w){v v':AV}{x:Value}(hf:FI h v v')(hx:VR φ D v x):VR φ (shut φ D h w) v' x:=by
 rcases hf with rfl|hf
 ·exact hx.mono (λ _ _ h=>h) fa
 exact(hf.vr hr hx).mono (λ b p hb=>by simp[lF]at hb) (λ _ _ h=>h)
theorem BZ.agm {h:Hf}(hr:Rel φ D h w){y0 y:bJ}(hz:BZ h y0 y) {p}(hb:iY φ D w p y0):iY φ (shut φ D h w) w p y:=by
 rcases hz with rfl|⟨u,z,bs,t,l,rfl,rfl,hl,hz⟩
 ·exact hb.mono (λ _ _ h=>h) fa rfl
 obtain⟨c,e,fr,h1,h2,h3,h4,h5,h6⟩:=hb;refine⟨c,e,fr,h1,h2,h3,λ i v hv=>?_,λ _ _=>hl,h6⟩;rw[jr]at hv
 split at hv
 ·skip
  obtain⟨v0,h7,h8⟩:=hz i v hv;obtain⟨x,h9,h10⟩:=h4 i v0 h7;exact⟨x,h9,h8.vr hr h10⟩
 cases hv
theorem qx {h:Hf}{p:Nat×Nat×Nat}(hb:D p.1=none)(hn:∀b' p',h b'≠none->φ b'=some p'->p'.1≠p.1):shut φ D h w p.1=none:=by
 unfold shut;rw[hb];dsimp only;rw[ak];rintro⟨b',p',h1,h2,h3⟩;exact hn b' p' h1 h2 h3
theorem xJ {h:Hf}{c:Nat}(hc:shut φ D h w c≠none):D c≠none∨∃b p,h b≠none/\φ b=some p/\p.1=c:=by
 unfold shut at hc
 split at hc
 ·rename_i x hx;exact .inl (by rw[hx];simp)
 split at hc
 ·rename_i hh;exact .inr hh
 exact aw rfl hc
theorem eG.rel {h:Hf}{F F2:Fr}{H H2:Hp}(s:eG h F H F2 H2)(hr:Rel φ D H.get w):Rel φ (shut φ D h w) H2.get w:=by
 have hs:=hr.sub s.sub
 have ne:∀b,H2.get b≠none->H.get b≠none:=λ b hb=>by
  cases hx:H2.get b with
  |none=>exact aw hx hb
  |some k=>obtain⟨y0,h0,_⟩:=s.hp b k hx;rw[h0];simp
 have neh:∀b,h b≠none->H.get b≠none:=λ b hb=>by
  cases hx:h b with
  |none=>exact aw hx hb
  |some k=>rw[s.sub b k hx];simp
 refine⟨λ b k hb=>?_,λ b c p q hb hc=>hr.inj b c p q (ne b hb) (ne c hc),λ b p hb hp=>?_,mO hr.eQ⟩
 ·obtain⟨y0,h0,hz⟩:=s.hp b k hb;obtain⟨p,hp,hl,hk⟩:=hr.blk b y0 h0;exact⟨p,hp,hl,hz.agm hs hk⟩
 refine qx (hr.sep b p (ne b hb) hp) λ b' p' h1 h2 h3=>?_;have:=hr.inj b' b p' p (neh b' h1) (ne b hb) h2 hp h3;subst this;exact hb (s.gone b' h1)
theorem eG.ext {h:Hf}{F F2:Fr}{H H2:Hp}(s:eG h F H F2 H2):Ext φ D H.get w n φ (shut φ D h w) H2.get w n:=by
 have ne:∀b,H2.get b≠none->H.get b≠none:=λ b hb=>by
  cases hx:H2.get b with
  |none=>exact aw hx hb
  |some k=>obtain⟨y0,h0,_⟩:=s.hp b k hx;rw[h0];simp
 have neh:∀b,h b≠none->H.get b≠none:=λ b hb=>by
  cases hx:h b with
  |none=>exact aw hx hb
  |some k=>rw[s.sub b k hx];simp
 refine⟨aL _,λ _ _ h=>h,λ b a c=>aw a c,fa,aL _,λ _ _ _=>rfl,λ b p hb hp=>.inr ⟨b,p,ne b hb,hp,rfl⟩,λ c hc=>?_,λ b hb=>.inl (ne b hb),rfl,rfl⟩
 rcases xJ hc with h1|⟨b,p,h1,h2,h3⟩
 ·exact .inl h1
 exact .inr (.inr ⟨b,p,neh b h1,h2,h3⟩)
theorem eG.st {h:Hf}{nt:Nat}{m:List Dm}{a:Act}{F F2:Fr}{H H2:Hp}(s:eG h F H F2 H2)(st:St nt φ D F H m a w):St nt φ (shut φ D h w) F2 H2 m a w:=
 ⟨s.rel st.rel,⟨λ t v hv=>by
  obtain⟨u,h1,h2⟩:=s.fr t v hv;obtain⟨x,h3,h4⟩:=st.fr.1 t u h1;exact⟨x,h3,h2.vr (st.rel.sub s.sub) h4⟩,st.fr.2.mono fa⟩,st.sz,st.Bv.mono (λ _ _ h=>h) fa⟩
def Zs (I:Nat->Fr->Hp->Nat->List Dm->Prop)(k:Nat)(F:Fr)(H:Hp)(n:Nat)(m:List Dm):Prop:=∃h F2 H2,eG h F H F2 H2/\I k F2 H2 n m
theorem Zs.refl {I:Nat->Fr->Hp->Nat->List Dm->Prop}{k:Nat}{F:Fr}{H:Hp}{m:List Dm}(h:I k F H n m):Zs I k F H n m:=⟨_,F,H,eG.refl F H,h⟩
end
end Go.Abs
namespace Go.Abs
open List
def FrA (φ:Ph)(n:Nat):Prop:=∀b,n<=b->φ b=none
theorem FrA.fresh {φ:Ph}{n:Nat}(h:FrA φ n)(k:Nat):df φ n k:=λ b hb _=>h b hb
theorem FrA.step {φ D h w n φ' D' h' w' n'}(hf:FrA φ n)(e:Ext φ D h w n φ' D' h' w' n'):FrA φ' n':=by
 intro b hb
 cases hx:φ' b with
 |none=>rfl
 |some p=>have:=e.new b (hf b (vY e.le hb)) (by rw[hx];simp);omega
section
variable {P:Program}
def ao (P:Program) (g:FuncId) (args:List AV) (H:Hp) (n:Nat) (R:AV->Hp->Nat->Prop):Prop:=
 (∃ fn b, P.funcs[g]? = some fn ∧ fn.body = some b ∧ (fn.name == "runtime.NumGoroutine") = false) ∧
  ∀ φ D w xs,Rel φ D H.get w->bT φ D args xs->FrA φ n->∀RR:Ending->World->Prop,
   (∀v H' n' φ' D' w' x,R v H' n'->Ext φ D H.get w n φ' D' H'.get w' n'->Rel φ' D' H'.get w'->VR φ' D' v x->RR (.returned x) w')->CallsIn Fence.wide 0 P g ⟨xs⟩ w RR
theorem ao.mono {g:FuncId}{args:List AV}{H:Hp}{n:Nat}{R S:AV->Hp->Nat->Prop}(h:ao P g args H n R)(hs:∀v H' n',R v H' n'->S v H' n'):ao P g args H n S:=
 ⟨h.1,λ φ D w xs a b c RR hR=>h.2 φ D w xs a b c RR λ v H' n' φ' D' w' x r=>hR v H' n' φ' D' w' x (hs _ _ _ r)⟩
theorem bC.lz {g:FuncId}{args:List AV}{H:Hp}{n:Nat}{v:AV}{H':Hp}{n':Nat}(h:bC P g args H n v H' n'):ao P g args H n (λ u K k=>u=v/\K=H'/\k=n'):=
 ⟨h.1,λ φ D w xs a b c RR hR=>h.2.2 φ D w xs a b (c.fresh _) RR λ φ' D' w' x e r k=>hR v H' n' φ' D' w' x ⟨rfl,rfl,rfl⟩ e r k⟩
def Wp (nt:Nat)(run:QT->Act->World->Prop)(F:Fr)(H:Hp)(n:Nat)(m:List Dm)(Q:QA):Prop:=
 ∀ φ D a w,St nt φ D F H m a w->FrA φ n->∀QQ:QT,(∀o F' H' n' m' φ' D' a' w' px,Q o F' H' n' m'->Ext φ D H.get w n φ' D' H'.get w' n'->St nt φ' D' F' H' m' a' w'->I2 φ' D' px o->QQ (jV px o) a' w')->run QQ a w
theorem Wp.shut {nt:Nat}{run:QT->Act->World->Prop}{h:Hf}{F F2:Fr}{H H2:Hp}{n:Nat}{m:List Dm}{Q:QA}(s:eG h F H F2 H2)(hw:Wp nt run F2 H2 n m Q):Wp nt run F H n m Q:=
 λ φ _D a w st hf QQ hQ=>hw φ _ a w (s.st st) hf QQ λ o F' H' n' m' φ' D' a' w' px q e=>hQ o F' H' n' m' φ' D' a' w' px q (s.ext.trans e)
def GG (P:Program)(nt:Nat)(c:Code)(F:Fr)(H:Hp)(n:Nat)(Q:QA):Prop:=∀cb:Nat,Wp nt (λ QQ a w=>c.wpIn (FW (some cb)) 0 P QQ a w) F H n [] Q
def u4 (q:Nat)(R:AV->Hp->Nat->Prop)(j:lG)(H3:Hp)(n3:Nat):Prop:=∃st nt G ps a b j0,H3.get q=some (.loop st j0 nt G ps a b)/\match j with
 |.normal=>R (.bool true) (H3.put q (some (.loop .ready .normal nt G ps a b))) n3
 |.exit i=>R (.bool false) (H3.put q (some (.loop .done (.exit i) nt G ps a b))) n3
 |.ret=>R (.bool false) (H3.put q (some (.loop .done .ret nt G ps a b))) n3
 |.panic _=>False
def wu (P:Program) (q:Nat) (vs:List AV) (H:Hp) (n:Nat) (R:AV->Hp->Nat->Prop):Prop:=∃st j nt F0 ps a b F1,H.get q=some (.loop st j nt F0 ps a b)/\mS nt ps vs F0=some F1 /\
 GG P nt a F1 H n λ o F2 H2 n2 m2=>o=.normal/\m2=[]/\∃j2 Bt G2 ps2 a2 b2,H2.get q=some (.loop .ready j2 Bt G2 ps2 a2 b2) /\
  GG P nt b F2 (H2.put q (some (.loop .busy j2 Bt G2 ps2 a2 b2))) n2 λ j3 _ H3 n3 _=>u4 q R j3 H3 n3
def Vk (n:Nat)(F:Fr)(m:List Dm)(Q:QA)(H':Hp)(n':Nat):Prop:=∃st j nt G ps a b,H'.get n=some (.loop st j nt G ps a b)/\st≠.busy/\(∀v,j≠.panic v)/\Q j F (H'.put n none) n' (.cD (Nat.succ n)::m)
def fE (P:Program):List (Option GO)->Fr->Hp->Nat->List Dm->QA->Prop
 |[],F,H,n,m,Q=>Q .normal F H n m
 |none::_,_,_,_,_,_=>False
 |some ⟨none,pd,.eff e⟩::r,F,H,n,m,Q=>CQ (e F H n) H n λ v H' n'=>fE P r (pd.f v F) H' n' m Q
 |some ⟨none,pd,.call g as⟩::r,F,H,n,m,Q=>(∃f first cap vs,g.f F=some (.fn (.func f) first cap)/\evs F as=some vs/\ao P f (first++(vs++cap)) H n λ v H' n'=>fE P r (pd.f v F) H' n' m Q) ∨
  (∃q vs,g.f F=some (.iZ q)/\evs F as=some vs/\wu P q vs H n λ v H' n'=>fE P r (pd.f v F) H' n' m Q)
 |some ⟨none,_,.bad⟩::_,_,_,_,_,_=>False
 |some ⟨none,_,.js _⟩::_,_,_,_,_,_=>False
 |some ⟨none,_,.raw _⟩::_,_,_,_,_,_=>False
 |some ⟨some (g,b),pd,.eff e⟩::r,F,H,n,m,Q=>fA (g.f F) b (CQ (e F H n) H n λ v H' n'=>fE P r (pd.f v F) H' n' m Q) (fE P r (pd.f (.br []) F) H n m Q)
 |some ⟨some (g,b),pd,.call h as⟩::r,F,H,n,m,Q=>fA (g.f F) b ((∃f first cap vs,h.f F=some (.fn (.func f) first cap)/\evs F as=some vs/\ao P f (first++(vs++cap)) H n λ v H' n'=>fE P r (pd.f v F) H' n' m Q) ∨
  (∃q vs,h.f F=some (.iZ q)/\evs F as=some vs/\wu P q vs H n λ v H' n'=>fE P r (pd.f v F) H' n' m Q)) (fE P r (pd.f (.br []) F) H n m Q)
 |some ⟨some (g,b),pd,.bad⟩::r,F,H,n,m,Q=>fA (g.f F) b False (fE P r (pd.f (.br []) F) H n m Q)
 |some ⟨some (g,b),pd,.js _⟩::r,F,H,n,m,Q=>fA (g.f F) b False (fE P r (pd.f (.br []) F) H n m Q)
 |some ⟨some (g,b),pd,.raw _⟩::r,F,H,n,m,Q=>fA (g.f F) b False (fE P r (pd.f (.br []) F) H n m Q)
def VC (P:Program):CT->Fr->Hp->Nat->List Dm->QA->Prop
 |.nw l,F,H,n,m,Q=>fE P l F H n m Q
 |.dI ds l,F,H,n,m,Q=>∃ce h F2 H2,iD P ce/\eG h F H F2 H2/\Ev ((Ii ds (fY l)).f ce F2 H2 n m) Q
 |.seq a b,F,H,n,m,Q=>VC P a F H n m λ o F' H' n' m'=>match o with
  |.normal=>VC P b F' H' n' m' Q
  |.exit i=>Q (.exit i) F' H' n' m'
  |.ret=>Q .ret F' H' n' m'
  |.panic _=>False
 |.cond g a b,F,H,n,m,Q=>qk (g.f F) (VC P a F H n m Q) (VC P b F H n m Q)
 |.block i b,F,H,n,m,Q=>VC P b F H n m (ig i Q)
 |.loop b,F,H,n,m,Q=>∃(I J:Nat->Fr->Hp->Nat->List Dm->Prop) (k:Nat),J k F H n m/\(∀k F H n m,J k F H n m->Zs I k F H n m)/\∀k F H n m,I k F H n m->VC P b F H n m (zE J k Q)
 |.exit i,F,H,n,m,Q=>Q (.exit i) F H n m
 |.ret,F,H,n,m,Q=>Q .ret F H n m
 |.skip,F,H,n,m,Q=>Q .normal F H n m
 |.range nt g ps a b,F,H,n,m,Q=>∃f first cap,g.f F=some (.fn (.func f) first cap) /\
  ao P f (first++(.iZ n::cap)) ((H.put (Nat.succ n) (some .jN)).put n (some (.loop .ready .normal nt F ps a b))) (Nat.succ (Nat.succ n)) λ _ H' n'=>Vk n F m Q H' n'
 |.bad,_,_,_,_,_=>False
 |.raw k,F,H,n,m,Q=>∃ce,iD P ce/\Ev (k.f ce F H n m) Q
variable {nt:Nat}{ops:Array Oper}{r:Option Nat}
theorem vq {run:QT->Act->World->Prop}{f:Fr->Hp->Nat->List Dm->QK}(hs:Sound nt run f){F:Fr}{H:Hp}{n:Nat}{m:List Dm}{Q:QA}(h:Ev (f F H n m) Q):Wp nt run F H n m Q:=by
 obtain⟨o,F',H',n',m',h1,h2⟩:=alG h;obtain⟨hn,hk⟩:=hs _ _ _ _ _ _ _ _ _ h1;exact λ φ D a w st hf QQ hQ=>hk φ D a w st (hf.fresh _) QQ λ φ' D' a' w' px e s pp=>hQ o F' H' n' m' φ' D' a' w' px h2 e s pp
theorem VD {rest:List Nat}{o:Oper}{e:Eff}{pd:Pd}{F:Fr}{H:Hp}{n:Nat}{m:List Dm}{Q:QA}{X:Fr->Hp->Nat->Prop}(he:cC P o e)(hq:qA o.op=true)(oR:Ge nt o.dst pd)
  (hnext:∀F H n,X F H n->Wp nt (λ QQ a w=>wpOpsIn (FW r) 0 P ops QQ rest a w) F H n m Q)(h:CQ (e F H n) H n λ v H' n'=>X (pd.f v F) H' n'):
  Wp nt (λ QQ a w=>o.wpIn (FW r) 0 P a w (wpOpsIn (FW r) 0 P ops QQ rest) QQ) F H n m Q:=by
 intro φ D a w st hf QQ hQ
 have key:∀(v:AV) (H1:Hp) (n1:Nat) (rr:bD),e F H n=rr->rr≠.fail->XC rr=v->yq rr H.get n=H1.get->v8 rr n=n1->X (pd.f v F) H1 n1 ->
   o.wpIn (FW r) 0 P a w (wpOpsIn (FW r) 0 P ops QQ rest) QQ:=by
  intro v H1 n1 rr her hne hv hH hn hX;have hd:=he F H n φ D a w st.rel st.fr (by rw[her];exact hf.fresh _) (by rw[her];exact hne);rw[her]at hd;obtain⟨nx,cv,φ1,w1,hrun,hnx,bh,hrel,ja⟩:=hd;rw[hH]at bh hrel;rw[hn]at bh;rw[hv]at ja;have hfr:=oR v F φ1 D a cv (st.fr.mono bh.phi (λ _ _ h=>h)) st.sz ja;have hst:St nt φ1 D (pd.f v F) H1 m (a.put o.dst cv) w1:=⟨hrel,hfr.1,hfr.2,by rw[put_defers];exact st.Bv.mono bh.phi bh.eQ⟩;have hgo:=hnext _ _ _ hX φ1 D (a.put o.dst cv) w1 hst (hf.step bh) QQ λ o F' H' n' m' φ' D' a' w' px q hx hst' pp=>hQ o F' H' n' m' φ' D' a' w' px q (bh.trans hx) hst' pp;refine⟨λ _ _=>trivial,?_⟩;rw[eL hq,hrun]
  cases hnx with
  |value=>exact hgo
  |skip=>exact hgo
 cases her:e F H n with
 |fail=>rw[her]at h;exact aw h id
 |val v=>rw[her]at h;exact key v H n _ her ai rfl rfl rfl h
 |new v k=>rw[her]at h;exact key v _ _ _ her ai rfl (tD ..) rfl h
 |upd v b k=>rw[her]at h;exact key v _ _ _ her ai rfl (pN ..) rfl h
 |mv v b k=>rw[her]at h;exact key v _ _ _ her ai rfl (wH ..) rfl h
theorem Jj {q:Nat}{vs:List AV}{H:Hp}{n:Nat}{R:AV->Hp->Nat->Prop}(h:wu P q vs H n R)(o:Oper)(c:Call)(φ:Ph)(D:Da)(a:Act)(w:World)(x:Operand)(ho:o.op=.call c)(hc:c.callee=.value x)(hyl:VR φ D (.iZ q) (a.eval x))(hargs:bT φ D vs (c.args.toList.map a.eval))(hrel:Rel φ D H.get w)(hf:FrA φ n)(K:Act->World->Prop)(Q:QT)
  (hK:∀v H' n' φ' D' w' cv,R v H' n'->Ext φ D H.get w n φ' D' H'.get w' n'->Rel φ' D' H'.get w'->VR φ' D' v cv->K (a.put o.dst cv) w'):o.wpIn (FW r) 0 P a w K Q:=by
 obtain⟨st0,j0,nt,F0,ps,ca,cb',F1,hq0,hF1,h1⟩:=h;refine⟨λ _ _=>trivial,?_⟩;generalize hxv:a.eval x=xv at hyl
 cases hyl with
 |iZ _ cb co cz hp =>
 obtain⟨_,rr,hr1,hr2,hr3,hr4,hr5,hr6,hr7,hr8⟩:=hrel.block hq0 hp;have hr1:w.heap[cb]?=some (.loop rr):=hr1;obtain⟨p1,p2,p3⟩:=yd ps vs _ F0 F1 rr.tmps hF1 hargs hr5 hr4
 have hsz:(c.args.map a.eval).size=rr.params.size:=by
  have e1:rr.params.size=ps.length:=by rw[<-hr6];simp
  rw[e1,p1];simp
 have hrun:(o.semAt (FW r).round a.eval).run P w=.ok (.round cb rr.fn ((rr.params.zip (c.args.map a.eval)).foldl (λ tmps (t,a)=>tmps.setIfInBounds t a) rr.tmps) rr.assign rr.body) w:=by
  rw[eL (by rw[ho];rfl)];have hy:=run_yield (P:=P) (args:=(#[]:Array Value)++Array.map a.eval c.args) hr1 (by simpa using hsz);simp only[execOp,ho,resolve,hc,hxv,Deferred.ofValue,cR,dG,cH,invoke,hy];simp
 have hfold:(rr.params.zip (c.args.map a.eval)).foldl (λ tmps (t,a)=>tmps.setIfInBounds t a) rr.tmps=((ps.zip (c.args.toList.map a.eval)).foldl (λ t (x:Nat×Value)=>t.setIfInBounds x.1 x.2) rr.tmps):=by
  rw[<-Array.foldl_toList,Array.toList_zip,hr6];simp
 rw[hrun,hfold,hr7,hr8];refine⟨λ h=>by simp[FW]at h,roundIn_of_wpIn trivial ?_⟩;refine h1 cb φ D {tmps:=_,defers:=[]} w ⟨hrel,p2,p3,rfl⟩ hf _ λ o1 F2 H2 n2 m2 φ1 D1 a1 w1 px hq1 e1 st1 pp=>?_;obtain⟨rfl,rfl,j2,Bt,G2,ps2,a2,b2,hq2,h2⟩:=hq1;have hp1:=e1.phi _ _ hp;obtain⟨hlt2,r2,J7,alk,alj,ali,alh,alg,alf,ale⟩:=st1.rel.block hq2 hp1;have J7:w1.heap[cb]?=some (.loop r2):=J7;have hlt2:cb<w1.heap.size:=hlt2;refine⟨_,run_beginRound (P:=P) J7 alk,?_⟩;obtain⟨k1,k2⟩:=mR (n:=n2) (rr:={r2 with state:=.busy}) (k:=.loop .busy j2 Bt G2 ps2 a2 b2) st1.rel (by rw[hq2];simp) hp1 ⟨_,Go.World.putObj_heap_same hlt2,rfl,alj,ali,alh,alg,alf,ale⟩;refine h2 cb φ1 D1 a1 _ ⟨k1,st1.fr,st1.sz,st1.Bv⟩ ((hf.step e1).step k2) _ λ j3 F3 H3 n3 m3 φ2 D2 a2' w2 px e2 af7 st2 pp=>?_;obtain⟨st3,Je,G3,vz,a3,b3,jj,hq3,hR⟩:=e2;have hp2:=af7.phi _ _ hp1;obtain⟨hlt3,r3,DW,awB,awA,Yz,Yy,Yx,Yw,Yv⟩:=st2.rel.block hq3 hp2;have DW:w2.heap[cb]?=some (.loop r3):=DW;have hlt3:cb<w2.heap.size:=hlt3
 cases j3 with
 |normal =>
  have hend:=run_endRound (P:=P) (gK (.normal)) DW;obtain⟨k3,k4⟩:=mR (n:=n3) (rr:={r3 with state:=.ready,pending:=gK (.normal)}) (k:=.loop .ready (.normal) Je G3 vz a3 b3) st2.rel (by rw[hq3];simp) hp2 ⟨_,Go.World.putObj_heap_same hlt3,rfl,rfl,Yz,Yy,Yx,Yw,Yv⟩;exact⟨_,_,hend,hK _ _ _ φ2 D2 _ (.bool true) hR (((e1.trans k2).trans af7).trans k4) k3 (.bool _)⟩
 |exit i =>
  have hend:=run_endRound (P:=P) (gK (.exit i)) DW;obtain⟨k3,k4⟩:=mR (n:=n3) (rr:={r3 with state:=.done,pending:=gK (.exit i)}) (k:=.loop .done (.exit i) Je G3 vz a3 b3) st2.rel (by rw[hq3];simp) hp2 ⟨_,Go.World.putObj_heap_same hlt3,rfl,rfl,Yz,Yy,Yx,Yw,Yv⟩;exact⟨_,_,hend,hK _ _ _ φ2 D2 _ (.bool false) hR (((e1.trans k2).trans af7).trans k4) k3 (.bool _)⟩
 |ret =>
  have hend:=run_endRound (P:=P) (gK (.ret)) DW;obtain⟨k3,k4⟩:=mR (n:=n3) (rr:={r3 with state:=.done,pending:=gK (.ret)}) (k:=.loop .done (.ret) Je G3 vz a3 b3) st2.rel (by rw[hq3];simp) hp2 ⟨_,Go.World.putObj_heap_same hlt3,rfl,rfl,Yz,Yy,Yx,Yw,Yv⟩;exact⟨_,_,hend,hK _ _ _ φ2 D2 _ (.bool false) hR (((e1.trans k2).trans af7).trans k4) k3 (.bool _)⟩
 |panic v=>exact aw hR id
theorem OI {rest:List Nat}{o:Oper}{c:Call}{g:G}{as:List G}{pd:Pd}{F:Fr}{H:Hp}{n:Nat}{m:List Dm}{Q:QA}{X:Fr->Hp->Nat->Prop}(ho:o.op=.call c)(hg:um P c g)(has:mg c.args.toList=some as)(oR:Ge nt o.dst pd)
  (hnext:∀F H n,X F H n->Wp nt (λ QQ a w=>wpOpsIn (FW r) 0 P ops QQ rest a w) F H n m Q)
  (h:(∃f first cap vs,g.f F=some (.fn (.func f) first cap)/\evs F as=some vs/\ao P f (first++(vs++cap)) H n λ v H' n'=>X (pd.f v F) H' n')∨(∃q vs,g.f F=some (.iZ q)/\evs F as=some vs/\wu P q vs H n λ v H' n'=>X (pd.f v F) H' n')):
  Wp nt (λ QQ a w=>o.wpIn (FW r) 0 P a w (wpOpsIn (FW r) 0 P ops QQ rest) QQ) F H n m Q:=by
 intro φ D a w st hf QQ hQ
 cases h with
 |inr h =>
  obtain⟨q,vs,hgv,hev,hy⟩:=h;obtain⟨x,hx1,hx2⟩:=hg.iZ a F φ D q st.fr hgv;refine Jj hy o c φ D a w x ho hx1 hx2 (dW has F φ D a st.fr vs hev) st.rel hf _ _ λ v H' n' φ1 D1 w1 cv hX bh hrel ja=>?_;have hfr:=oR v F φ1 D1 a cv (st.fr.mono bh.phi bh.eQ) st.sz ja;exact hnext _ _ _ hX φ1 D1 (a.put o.dst cv) w1 ⟨hrel,hfr.1,hfr.2,by rw[put_defers];exact st.Bv.mono bh.phi bh.eQ⟩ (hf.step bh) QQ λ o F' H' n' m' φ' D' a' w' px q hx hst' pp=>hQ o F' H' n' m' φ' D' a' w' px q (bh.trans hx) hst' pp
 |inl h =>
  obtain⟨f,first,cap,vs,hgv,hev,⟨fn,b,hfn,hb,hname⟩,hcs⟩:=h;refine⟨λ _ _=>trivial,?_⟩;obtain⟨fl,cl,h1,h2,hrun0⟩:=hg.fn o a F φ D f first cap ho st.fr hgv;have h3:=dW has F φ D a st.fr vs hev
  have hrun:(o.semAt (FW r).round a.eval).run P w=.ok (.enter f ⟨fl++(c.args.toList.map a.eval++cl)⟩) w:=by
   rw[eL (by rw[ho];rfl)];exact hrun0 fn b w hfn hname hb
  rw[hrun];refine⟨λ h=>by simp[FW]at h,jv (hcs φ D w _ st.rel (h1.append (h3.append h2)) hf _ λ v H' n' φ1 D1 w1 cv hX bh hrel ja=>?_)⟩;have hfr:=oR v F φ1 D1 a cv (st.fr.mono bh.phi bh.eQ) st.sz ja;exact hnext _ _ _ hX φ1 D1 (a.put o.dst cv) w1 ⟨hrel,hfr.1,hfr.2,by rw[put_defers];exact st.Bv.mono bh.phi bh.eQ⟩ (hf.step bh) QQ λ o F' H' n' m' φ' D' a' w' px q hx hst' pp=>hQ o F' H' n' m' φ' D' a' w' px q (bh.trans hx) hst' pp
theorem wp_skip {rest:List Nat}{o:Oper}{pd:Pd}{F:Fr}{H:Hp}{n:Nat}{m:List Dm}{Q:QA}(oR:Ge nt o.dst pd)(h:Wp nt (λ QQ a w=>wpOpsIn (FW r) 0 P ops QQ rest a w) (pd.f (.br []) F) H n m Q):
  Wp nt (λ QQ a w=>wpOpsIn (FW r) 0 P ops QQ rest (a.put o.dst undef) w) F H n m Q:=by
 intro φ D a w st hf QQ hQ;have hfr:=oR (.br []) F φ D a undef st.fr st.sz (.br _ _ .nil);exact h φ D (a.put o.dst undef) w ⟨st.rel,hfr.1,hfr.2,by rw[put_defers];exact st.Bv⟩ hf QQ hQ
theorem BA {o:Oper}{g:G}{as:List G}(h:Ak P o=.call g as):∃c,o.op=.call c/\um P c g/\mg c.args.toList=some as:=by
 unfold Ak at h
 split at h
 ·rename_i f args tys ho
  split at h
  ·cases h
  split at h
  ·rename_i g' as' h1 h2;injection h with a b;subst a b;exact⟨_,ho,.value rfl h1,h2⟩
  cases h
 split at h<;>cases h
theorem Hy {o:Oper}{e:Eff}(h:Ak P o=.eff e):eh P o=some e:=by
 unfold Ak at h
 split at h
 ·split at h
  ·rename_i h1;injection h with h;subst h;exact h1
  split at h<;>cases h
 split at h
 ·rename_i h1;injection h with h;subst h;exact h1
 cases h
theorem tell {F:Fr}{φ:Ph}{D:Da}{a:Act}{j d:Nat}(hd:(ops[j]?).bind (·.dst)=some d)(hF:FR φ D F.get a.tmps){v:AV}(hv:F.get d=some v):(∀c,v=.bool c->yielded ops a.tmps j=some c)/\((∀c,v≠.bool c)->yielded ops a.tmps j=none):=by
 obtain⟨x,hx,yG⟩:=hF.1 d v hv;unfold yielded;rw[hd];simp only[Option.bind_some,hx];refine⟨λ c hc=>?_,λ hc=>?_⟩
 ·subst hc;cases yG;rfl
 cases x<;>first|rfl|exact aw (CV yG) (hc _)
theorem AE : ∀ (l : List Oper) (i:Nat) (F:Fr) (H:Hp) (n:Nat) (m:List Dm) (Q:QA),ops.toList.drop i=l->fE P (l.map (we P nt ops)) F H n m Q ->
  Wp nt (λ QQ a w=>wpOpsIn (FW r) 0 P ops QQ (range' i l.length) a w) F H n m Q
 |[],i,F,H,n,m,Q,_,h=>λ φ D a w st hf QQ hQ=>hQ .normal F H n m φ D a w undef h (Ext.refl ..) st trivial
 |o :: l, i, F, H,n,m,Q,hl,h=>by
  have hi:ops[i]?=some o:=by
   have:=congrArg (λ(x:List Oper)=>x[0]?) hl;simpa[kV]using this
  have hl':ops.toList.drop (i+1)=l:=by
   have:=congrArg (λ(x:List Oper)=>x.drop 1) hl;simpa[drop_drop]using this
  have ih:=λ F H n=>AE l (i+1) F H n m Q hl';have h0:=h;simp only[map_cons]at h;unfold we at h
  cases hp:fF nt o.dst with
  |none=>rw[hp]at h;exact aw h id
  |some pd =>
   rw[hp]at h;have oR:=BV hp;dsimp only at h
   cases hgd:o.guard with
   |none =>
    rw[hgd]at h;dsimp only at h
    have fin:Wp nt (λ QQ a w=>o.wpIn (FW r) 0 P a w (wpOpsIn (FW r) 0 P ops QQ (range' (i+1) l.length)) QQ) F H n m Q->Wp nt (λ QQ a w=>wpOpsIn (FW r) 0 P ops QQ (range' i (l.length+1)) a w) F H n m Q:=by
     intro hw φ D a w st hf QQ hQ;show wpOpsIn (FW r) 0 P ops QQ (i::range' (i+1) l.length) a w;simp only[wpOpsIn,hi,Region.wanted,hgd,if_true];exact hw φ D a w st hf QQ hQ
    refine fin ?_
    cases hk:Ak P o with
    |bad=>rw[hk]at h;exact aw h id
    |js e=>rw[hk]at h;exact aw h id
    |raw f=>rw[hk]at h;exact aw h id
    |eff e =>
     rw[hk]at h;have hc:=Hy hk;exact VD (X:=λ F H n=>fE P (l.map (we P nt ops)) F H n m Q) (iK hc) (ed hc) oR (λ F H n hx=>ih F H n hx) h
    |call g as =>
     rw[hk]at h;obtain⟨c,h1,h2,h4⟩:=BA hk;exact OI (X:=λ F H n=>fE P (l.map (we P nt ops)) F H n m Q) h1 h2 h4 oR (λ F H n hx=>ih F H n hx) h
   |some x =>
    obtain⟨j,b⟩:=x;rw[hgd]at h;dsimp only at h
    cases hd:(ops[j]?).bind (·.dst)with
    |none=>rw[hd]at h;exact aw h id
    |some d =>
     rw[hd]at h;dsimp only at h
     have fin:∀(Y N:Prop),(Y->Wp nt (λ QQ a w=>o.wpIn (FW r) 0 P a w (wpOpsIn (FW r) 0 P ops QQ (range' (i+1) l.length)) QQ) F H n m Q)->(N->fE P (l.map (we P nt ops)) (pd.f (.br []) F) H n m Q) ->
       fA ((aA d).f F) b Y N->Wp nt (λ QQ a w=>wpOpsIn (FW r) 0 P ops QQ (range' i (l.length+1)) a w) F H n m Q:=by
      intro Y N hY hN hG
      have no:N->∀ φ D a w,St nt φ D F H m a w->FrA φ n->∀QQ:QT,(∀o F' H' n' m' φ' D' a' w' px,Q o F' H' n' m'->Ext φ D H.get w n φ' D' H'.get w' n'->St nt φ' D' F' H' m' a' w'->I2 φ' D' px o->QQ (jV px o) a' w')->wpOpsIn (FW r) 0 P ops QQ (range' (i+1) l.length) (a.put o.dst undef) w:=
       λ hN'=>wp_skip oR (ih _ _ _ (hN hN'))
      rw[gC]at hG;intro φ D a w st hf QQ hQ;show wpOpsIn (FW r) 0 P ops QQ (i::range' (i+1) l.length) a w
      cases hv:F.get d with
      |none=>rw[hv]at hG;exact aw hG id
      |some v =>
       rw[hv]at hG
       by_cases hb:∃c,v=.bool c
       ·obtain⟨c,rfl⟩:=hb;have hy:=(tell hd st.fr hv).1 c rfl;have hG:(bif c == b then Y else N):=hG;simp only[wpOpsIn,hi,Region.wanted,hgd,hy]
        cases hcb:c == b with
        |true =>
         rw[hcb]at hG;rw[ay (by simpa using hcb)];exact hY hG φ D a w st hf QQ hQ
        |false =>
         rw[hcb]at hG;rw[ak (by simpa using hcb)];exact⟨λ _ _=>trivial,no hG φ D a w st hf QQ hQ⟩
       have hnb:∀c,v≠.bool c:=λ c e=>hb ⟨c,e⟩;have hy:=(tell hd st.fr hv).2 hnb
       have hG:N:=by
        cases v<;>first|exact hG|exact aw rfl (hnb _)
       simp only[wpOpsIn,hi,Region.wanted,hgd,hy];rw[ak ai];exact⟨λ _ _=>trivial,no hG φ D a w st hf QQ hQ⟩
     cases hk:Ak P o with
     |bad=>rw[hk]at h;exact fin _ _ (λ h=>aw h id) (λ h=>h) h
     |js e=>rw[hk]at h;exact fin _ _ (λ h=>aw h id) (λ h=>h) h
     |raw f=>rw[hk]at h;exact fin _ _ (λ h=>aw h id) (λ h=>h) h
     |eff e =>
      rw[hk]at h;have hc:=Hy hk;exact fin _ _ (λ hy=>VD (X:=λ F H n=>fE P (l.map (we P nt ops)) F H n m Q) (iK hc) (ed hc) oR (λ F H n hx=>ih F H n hx) hy) (λ h=>h) h
     |call g as =>
      rw[hk]at h;obtain⟨c,h1,h2,h4⟩:=BA hk;exact fin _ _ (λ hy=>OI (X:=λ F H n=>fE P (l.map (we P nt ops)) F H n m Q) h1 h2 h4 oR (λ F H n hx=>ih F H n hx) hy) (λ h=>h) h
theorem Wp.seq {x y:Code}{F:Fr}{H:Hp}{n:Nat}{m:List Dm}{Q R:QA}(h1:Wp nt (λ QQ a w=>x.wpIn (FW r) 0 P QQ a w) F H n m R)
  (h2:∀o F' H' n' m',R o F' H' n' m'->match o with
   |.normal=>Wp nt (λ QQ a w=>y.wpIn (FW r) 0 P QQ a w) F' H' n' m' Q
   |.exit i=>Q (.exit i) F' H' n' m'
   |.ret=>Q .ret F' H' n' m'
   |.panic _=>False):Wp nt (λ QQ a w=>(Code.seq x y).wpIn (FW r) 0 P QQ a w) F H n m Q:=by
 intro φ D a w st hf QQ hQ;refine wpIn_seq (h1 φ D a w st hf _ λ o F' H' n' m' φ' D' a' w' px hr e st' pp=>?_);have:=h2 o F' H' n' m' hr
 cases o with
 |normal=>exact this φ' D' a' w' st' (hf.step e) QQ λ o2 F2 H2 n2 m2 φ2 D2 a2 w2 px q e2 s2 pp=>hQ o2 F2 H2 n2 m2 φ2 D2 a2 w2 px q (e.trans e2) s2 pp
 |exit i=>exact hQ _ _ _ _ _ _ _ _ _ _ this e st' pp
 |ret=>exact hQ _ _ _ _ _ _ _ _ _ _ this e st' pp
 |panic v=>exact aw this id
theorem Wp.rounds {b:Code}{Q:QA}{I J:Nat->Fr->Hp->Nat->List Dm->Prop}(hj:∀k F H n m,J k F H n m->Zs I k F H n m)(hb:∀k F H n m,I k F H n m->Wp nt (λ QQ a w=>b.wpIn (FW r) 0 P QQ a w) F H n m (zE J k Q)):
  ∀(j k:Nat) (F:Fr) (H:Hp) (n:Nat) (m:List Dm),k<j->J k F H n m->Wp nt (λ QQ a w=>Code.roundsIn (FW r) 0 P b QQ j a w) F H n m Q
 |0,k,_,_,_,_,h,_=>ah
 |j + 1,k,F,H,n,m,h,hI=>by
  obtain⟨hh,F0,H0,hs,hI0⟩:=hj k F H n m hI;refine Wp.shut hs ?_;intro φ D a w st hf QQ hQ;show Code.roundsIn (FW r) 0 P b QQ (j+1) a w;rw[roundsIn_succ];refine hb k F0 H0 n m hI0 φ D a w st hf _ λ o F' H' n' m' φ' D' a' w' px hr e st' pp=>?_
  cases o with
  |normal =>
   obtain⟨k',hk,hI'⟩:=hr;exact Wp.rounds hj hb j k' F' H' n' m' ah hI' φ' D' a' w' st' (hf.step e) QQ λ o2 F2 H2 n2 m2 φ2 D2 a2 w2 px q e2 s2 pp=>hQ o2 F2 H2 n2 m2 φ2 D2 a2 w2 px q (e.trans e2) s2 pp
  |exit i=>exact hQ _ _ _ _ _ _ _ _ _ _ hr e st' pp
  |ret=>exact hQ _ _ _ _ _ _ _ _ _ _ hr e st' pp
  |panic v=>exact aw hr id
theorem VB {g:Operand}{x:G}{ps:Array Tmp}{ca cb:Code}{F:Fr}{H:Hp}{n:Nat}{m:List Dm}{Q:QA}(hg:dH g=some x) (h:VC P (.range nt x ps.toList ca cb) F H n m Q):Wp nt (λ QQ a w=>(Code.rangeFunc g ps ca cb).wpIn (FW none) 0 P QQ a w) F H n m Q:=by
 obtain⟨f,first,cap,hx,⟨fn,b,hfn,hb,hname⟩,hcs⟩:=h;intro φ D a w C4 hf QQ hQ;refine wpIn_rangeFunc λ fid _=>?_;have hgr:=aW hg F φ D a C4.fr _ hx
 cases hxv:a.eval g with
 |func ff fx cx =>
  rw[hxv]at hgr
  cases hgr with
  |fn _ _ _ fl cl h1 h2 =>
  obtain⟨r1,e1⟩:=nK (n:=n+1) C4.rel (λ b hb1 hb2=>hf b ah) (.deferred (some [])) 0 .jN (World.nR w _);rw[kZ]at r1 e1;let w1:=World.newObj w (.deferred (some []));let φ1:=Ph.set φ (n+1) (w.heap.size,0,0)
  have hf1:df φ1 n (n+1):=by
   intro b hb1 hb2;have:b≠n+1:=ah;simp only[φ1,Ph.set,this,if_false];exact hf b ah
  obtain⟨r2,e2⟩:=nK (n:=n) r1 hf1 (.loop {state:=.ready,pending:=none,fn:=fid,tmps:=a.tmps,params:=ps,assign:=ca,body:=cb,defers:=w.heap.size}) 0 (.loop .ready .normal nt F ps.toList ca cb)
   ⟨_,World.nR w1 _,rfl,rfl,C4.sz,(C4.fr.mono e1.phi (λ _ _ h=>h)).mono (Ph.gG (hf1 n (aL _) ah)) (λ _ _ h=>h),rfl,rfl,rfl⟩
  rw[kZ]at r2 e2;let w2:=World.newObj w1 (.loop {state:=.ready,pending:=none,fn:=fid,tmps:=a.tmps,params:=ps,assign:=ca,body:=cb,defers:=w.heap.size});let φ2:=Ph.set φ1 n (w1.heap.size,0,0)
  have e12:Ext φ D H.get w n φ2 D ((H.put (n+1) (some .jN)).put n (some (.loop .ready .normal nt F ps.toList ca cb))).get w2 (n+2):=
   (e1.wide (Nat.le_succ n) (aL _)).join (e2.wide (aL _) ah)
  have hsz1:w1.heap.size=w.heap.size+1:=by simp[w1,World.newObj]
  have hφn:φ2 n=some (w.heap.size+1,0,0):=by simp only[φ2,Ph.set,if_true,hsz1]
  have hφm:φ2 (n+1)=some (w.heap.size,0,0):=e2.phi _ _ (by simp[Ph.set]);refine⟨w.heap.size+1,[{target:=.collected w.heap.size,args:=#[]}],w2,{target:=.fn (.func f) ⟨cl⟩,args:=⟨fl⟩++#[.func (.yield (w.heap.size+1)) #[] #[]]},w2,f,⟨fl++(.func (.yield (w.heap.size+1)) #[] #[]::cl)⟩,w2,run_enterLoop_outer ..,?_,λ _ _=>trivial,?_,λ h=>by simp[FW]at h,?_⟩
  ·simp only[resolve,hxv,Deferred.ofValue,dG];simp[Act.eval]
  ·have harr:(⟨fl⟩:Array Value)++#[Value.func (.yield (w.heap.size+1)) #[] #[]]++⟨cl⟩=⟨fl++(.func (.yield (w.heap.size+1)) #[] #[]::cl)⟩:=by apply Array.ext';simp
   simp only[invoke,callFunc,cR,run_program,cH,hfn,hname,hb,harr];simp
  refine jv (hcs φ2 D w2 _ r2 ((h1.mono e12.phi (λ _ _ h=>h)).append (.cons _ _ _ _ (.iZ _ _ _ _ hφn) (h2.mono e12.phi (λ _ _ h=>h)))) (hf.step e12) _ λ v H1 n1 φ3 D3 w3 cv hE e3 hr3 _=>?_);obtain⟨st,j,Je,G3,vz,a3,b3,hq,hst,hnp,hQj⟩:=hE;obtain⟨hlt,rr,q1,q2,q3,q4,q5,q6⟩:=hr3.block hq (e3.phi _ _ hφn);have q1:w3.heap[w.heap.size+1]?=some (.loop rr):=q1;have hend:=run_endLoop (P:=P) q1 (by rw[q2];exact hst);obtain⟨k1,k2⟩:=rel_drop (n:=n1) hr3 (b:=n) (by rw[hq];simp) (e3.phi _ _ hφn) (Go.World.putObj w3 (w.heap.size+1) (.loop {rr with state:=.exhausted})) (λ c hc=>Go.World.putObj_heap_other hc) Go.World.putObj_size rfl rfl;rw[kZ]at k1 k2;have uP:=(e12.trans e3).trans k2
  have hst':St nt φ3 D3 F (H1.put n none) (.cD (Nat.succ n)::m) {a with defers:=[{target:=.collected w.heap.size,args:=#[]}]++a.defers} (Go.World.putObj w3 (w.heap.size+1) (.loop {rr with state:=.exhausted})):=
   ⟨k1,C4.fr.mono uP.phi uP.eQ,C4.sz,⟨_,_,_,_,e3.phi _ _ hφm,rfl,C4.Bv.mono uP.phi uP.eQ⟩⟩
  refine⟨_,_,hend,?_⟩;have:=hQ j F _ n1 _ φ3 D3 _ _ undef hQj uP hst';rw[q3]at this ⊢
  cases j with
  |panic v=>exact aw rfl (hnp v)
  |normal=>exact this trivial
  |exit i=>exact wpIn_exit (this trivial)
  |ret=>exact wpIn_ret (this trivial)
 |_=>rw[hxv]at hgr;cases hgr
theorem fR:∀(c:Code) (F:Fr) (H:Hp) (n:Nat) (m:List Dm) (Q:QA),VC P (eN P nt r.isSome c) F H n m Q->Wp nt (λ QQ a w=>c.wpIn (FW r) 0 P QQ a w) F H n m Q
 |.skip,F,H,n,m,Q,h=>λ φ D a w st hf QQ hQ=>wpIn_skip (hQ .normal _ _ _ _ _ _ _ _ undef h (Ext.refl ..) st trivial)
 |.exit i,F,H,n,m,Q,h=>λ φ D a w st hf QQ hQ=>wpIn_exit (hQ (.exit i) _ _ _ _ _ _ _ _ undef h (Ext.refl ..) st trivial)
 |.ret,F,H,n,m,Q,h=>λ φ D a w st hf QQ hQ=>wpIn_ret (hQ .ret _ _ _ _ _ _ _ _ undef h (Ext.refl ..) st trivial)
 |.region rid ops d,F,H,n,m,Q,h=>by
  cases d with
  |false =>
   simp only[eN,cond_false]at h
   have h:fE P (ops.toList.map (we P nt ops)) F H n m Q:=by
    cases hr:r.isSome&&eF ops.toList with
    |true=>rw[hr]at h;exact aw h id
    |false=>rw[hr]at h;exact h
   have:=AE (P:=P) (nt:=nt) (ops:=ops) (r:=r) ops.toList 0 F H n m Q rfl h;intro φ D a w st hf QQ hQ;refine wpIn_region ?_;rw[range_eq_range'];exact this φ D a w st hf QQ hQ
  |true =>
   simp only[eN,cond_true]at h
   cases DX:P.follows .mixedOrders with
   |false=>rw[DX]at h;exact aw h id
   |true =>
    rw[DX]at h;simp only[cond_true]at h
    have hk:∃ce h F2 H2,iD P ce/\eG h F H F2 H2/\Ev ((comp P nt r.isSome (.region rid ops true)).f ce F2 H2 n m) Q:=by
     cases hp:wF (nf ops.toList 0 .nil) ops (Up (nf ops.toList 0 .nil) ops.toList)with
     |false=>rw[hp]at h;exact aw h id
     |true =>
      rw[hp]at h;obtain⟨ce,hh,F2,H2,h1,hs,h2⟩:=h;refine⟨ce,hh,F2,H2,h1,hs,?_⟩;rw[lT];simp only[eN,cond_true,DX,hp];exact h2
    obtain⟨ce,hh,F2,H2,h1,hs,h2⟩:=hk;exact Wp.shut hs (vq (dM (P:=P) (nt:=nt) (r:=r) h1 (.region rid ops true)) h2)
 |.seq x y,F,H,n,m,Q,h=>by
  refine Wp.seq (fR x F H n m _ h) λ o F' H' n' m' hr=>?_
  cases o with
  |normal=>exact fR y F' H' n' m' Q hr
  |exit i=>exact hr
  |ret=>exact hr
  |panic v=>exact aw hr id
 |.cond c x y,F,H,n,m,Q,h=>by
  simp only[eN]at h
  cases hc:dH c with
  |none=>rw[hc]at h;exact aw h id
  |some g =>
   rw[hc]at h;have h:qk (g.f F) (VC P (eN P nt r.isSome x) F H n m Q) (VC P (eN P nt r.isSome y) F H n m Q):=h;intro φ D a w st hf QQ hQ
   cases hg:g.f F with
   |none=>rw[hg]at h;exact aw h id
   |some v =>
    have hv:=aW hc F φ D a st.fr _ hg;rw[hg]at h
    cases v with
    |bool b =>
     generalize hz:a.eval c=z at hv;cases hv
     cases b with
     |true=>exact wpIn_cond (t:=true) hz (fR x F H n m Q h φ D a w st hf QQ hQ)
     |false=>exact wpIn_cond (t:=false) hz (fR y F H n m Q h φ D a w st hf QQ hQ)
    |_=>exact aw h id
 |.block id b,F,H,n,m,Q,h=>by
  intro φ D a w st hf QQ hQ;refine wpIn_block (fR b F H n m (ig id Q) h φ D a w st hf _ λ o F' H' n' m' φ' D' a' w' px hr e st' pp=>?_)
  cases o with
  |normal=>exact hQ _ _ _ _ _ _ _ _ _ _ hr e st' pp
  |ret=>exact hQ _ _ _ _ _ _ _ _ _ _ hr e st' pp
  |panic v=>exact False.elim hr
  |exit j =>
   have hr:(if id=j then Q .normal F' H' n' m' else Q (.exit j) F' H' n' m'):=hr
   by_cases hij:j=id
   ·subst hij;rw[ay rfl]at hr;simp only[jV,Exit.inBlock,if_true];exact hQ _ _ _ _ _ _ _ _ _ px hr e st' trivial
   rw[ak (λ e=>hij e.symm)]at hr;simp only[jV,Exit.inBlock,hij,if_false];exact hQ _ _ _ _ _ _ _ _ _ _ hr e st' pp
 |.loop b,F,H,n,m,Q,h=>by
  have ib:=fR b
  have plain:VC P (.loop (eN P nt r.isSome b)) F H n m Q->Wp nt (λ QQ a w=>(Code.loop b).wpIn (FW r) 0 P QQ a w) F H n m Q:=by
   intro h;obtain⟨I,J,k,hI,hj,hs⟩:=h;intro φ D a w st hf QQ hQ;exact wpIn_loop_rounds (k+1) (Wp.rounds hj (λ k F H n m hi=>ib F H n m _ (hs k F H n m hi)) (k+1) k F H n m ah hI φ D a w st hf QQ hQ)
  cases b with
  |seq x y =>
   cases hm:Bw x with
   |none =>
    refine plain ?_;simp only[eN,hm]at h;exact h
   |some q =>
    obtain⟨x',d,ops,os⟩:=q;simp only[eN,hm]at h
    cases hr:r.isSome&&eF os with
    |true=>rw[hr]at h;exact aw h id
    |false =>
     rw[hr]at h;obtain⟨ce,h1,h2⟩:=h;refine vq (dM (P:=P) (nt:=nt) (r:=r) h1 (.loop (.seq x y))) ?_;have:comp P nt r.isSome (.loop (.seq x y))=afv P nt x' d ops os (comp P nt r.isSome y):=by simp only[comp,hm,hr];rfl
     rw[this];exact h2
  |_=>exact plain h
 |.rangeFunc g ps ca cb,F,H,n,m,Q,h=>by
  simp only[eN]at h
  cases hc:dH g with
  |none=>rw[hc]at h;exact aw h id
  |some x =>
   rw[hc]at h
   cases r with
   |some cb0=>exact aw h id
   |none=>exact VB hc h
 |.scope b,F,H,n,m,Q,h=>by
  intro φ D a w st hf QQ hQ;refine xk (fR b F H n m Q h φ D a w st hf _ λ o F' H' n' m' φ' D' a' w' px hr e st' pp=>?_);have:=hQ o F' H' n' m' φ' D' a' w' px hr e st' pp
  cases o<;>exact this
 |.label _,F,H,n,m,Q,h=>λ φ D a w st hf QQ hQ=>wpIn_label (hQ .normal _ _ _ _ _ _ _ _ undef h (Ext.refl ..) st trivial)
 |.goto _,_,_,_,_,_,h=>aw h id
 |.refuse _,_,_,_,_,_,h=>aw h id
theorem ao.of {g:FuncId}{c:CF}{args:List AV}{H:Hp}{n:Nat}{R:AV->Hp->Nat->Prop}(hc:KE P g=some c) (hl:args.length<=c.nt)
  (h:∀F:Fr,(∀i,F.get i=args[i]?)->VC P c.code F H n [] (kH c.res R)):ao P g args H n R:=by
 unfold KE at hc
 split at hc
 ·rename_i fn hfn
  split at hc
  ·rename_i b hb
   split at hc
   ·cases hc
   rename_i hname
   split at hc
   ·rename_i gs hgs;injection hc with hc;subst hc;dsimp only at hl h;refine⟨⟨fn,b,hfn,hb,by simpa using hname⟩,λ φ D w xs hrel hvs hf RR hR=>?_⟩;refine callsIn_of_wp_marks hfn hb trivial ?_
    have hsz:((⟨xs⟩:Array Value)++Array.replicate (fn.ntmps - (⟨xs⟩:Array Value).size) undef).size=fn.ntmps:=by
     have:=hvs.length;simp;omega
    have hv:=h (Tr.bO args 0 .nil) λ i=>by
     rw[Tr.bI]
     split
     ·simp
     rw[getElem?_eq_none ah];rfl
    refine fR (r:=none) b _ _ _ _ _ hv φ D {tmps:=(⟨xs⟩:Array Value)++Array.replicate (fn.ntmps - (⟨xs⟩:Array Value).size) undef,defers:=[]} w ⟨hrel,HU hrel.eQ.2 hvs _,hsz,rfl⟩ hf _ λ o F1 H1 n1 m1 φ1 D1 a1 w1 px hq bh st1 pp=>?_
    have key:(o=.normal∨o=.ret)->LeavesInM Fence.wide 0 P fn a1.tmps RR a1.defers .returning w1:=by
     intro ho
     have hq:uw (dK m1 H1) λ H'=>uw (Ap F1 H' gs) λ vs=>R (vX vs) H' n1:=by
      rcases ho with rfl|rfl
      ·simpa using hq
      simpa using hq
     cases hu:dK m1 H1 with
     |none=>rw[hu]at hq;exact aw hq id
     |some H2 =>
      rw[hu]at hq;simp only[tH]at hq
      cases he:Ap F1 H2 gs with
      |none=>rw[he]at hq;exact aw hq id
      |some vs =>
       rw[he]at hq;exact Bz (P:=P) (fn:=fn) (vs:=vs) hgs he m1 H1 a1.defers a1.tmps φ1 D1 w1 _ RR hu st1.rel st1.fr st1.Bv λ φ2 D2 w2 x h1 h2 h3=>hR _ _ _ φ2 D2 w2 x hq (bh.trans h1) h2 h3
    cases o with
    |normal=>exact key (.inl rfl)
    |ret=>exact key (.inr rfl)
    |exit i=>exact aw hq id
    |panic v=>exact aw hq id
   cases hc
  cases hc
 cases hc
theorem aj.ofR {g:FuncId}{args:List AV}{v:AV}(hp:aS args)(hv:Pure v)(h:ao P g args .nil 0 (λ v1 H' _=>fj H'.get v1 v)):aj P g args v:=by
 obtain⟨hb,hs⟩:=h;refine⟨hb,hp,hv,λ D w xs hd hv R hR=>?_⟩;refine hs lF D w xs (tw hd) hv (λ _ _=>rfl) R λ v1 H' n' φ' D' w' x h2 bh hrel hx=>?_;refine hR (shut φ' D' H'.get w') w' x ⟨λ c x hx=>fa c x (bh.eQ c x hx),bh.size,λ c hc=>bh.keep c hc λ b p hb=>by simp at hb,λ c hc=>?_,bh.os,bh.out⟩ (mO hrel.eQ) (h2.vr hrel hx);unfold shut at hc
 split at hc
 ·rename_i y hy
  rcases bh.kD c (by rw[hy];simp)with h|h|⟨b0,p0,hh,_⟩
  ·exact .inl h
  ·exact .inr h
  simp at hh
 split at hc
 ·rename_i hex;obtain⟨b,p,hb,hp,rfl⟩:=hex
  rcases bh.live b p hb hp with h|⟨b0,p0,hh,_⟩
  ·exact .inr h
  simp at hh
 exact aw rfl hc
theorem aj.lz {g:FuncId}{args:List AV}{v:AV}(h:aj P g args v)(H:Hp)(n:Nat):ao P g args H n (λ u K k=>u=v/\K=H/\k=n):=(h.KV H n).lz
mutual
def Flat:AV->Prop
 |.int _ _=>True
 |.bool _=>True
 |.str _=>True
 |.aV _=>True
 |.agg cs _=>fO cs
 |.br cs=>fO cs
 |.oQ _ v=>Flat v
 |_=>False
def fO:List AV->Prop
 |[]=>True
 |v::r=>Flat v/\fO r
end
@[simp] theorem aqY (k:IntKind)(i:Int):Flat (.int k i):=by simp only[Flat]
@[simp] theorem anP (b:Bool):Flat (.bool b):=by simp only[Flat]
@[simp] theorem aqX (l:List Nat):Flat (.str l):=by simp only[Flat]
@[simp] theorem aqZ (v:Value):Flat (.aV v):=by simp only[Flat]
@[simp] theorem flat_agg (cs:List AV)(n:Nat):Flat (.agg cs n)=fO cs:=by simp only[Flat]
@[simp] theorem aqW (cs:List AV):Flat (.br cs)=fO cs:=by simp only[Flat]
@[simp] theorem anQ:fO []:=by simp only[fO]
@[simp] theorem alA (v:AV)(r:List AV):fO (v::r)=(Flat v/\fO r):=by simp only[fO]
mutual
theorem Flat.out {φ φ':Ph}{D D':Da}:∀ {v:AV}{x:Value},Flat v->VR φ D v x->VR φ' D' v x
 |.int _ _,_,_,.int _ _=>.int _ _
 |.bool _,_,_,.bool _=>.bool _
 |.str _,_,_,.str _ _ e=>.str _ _ e
 |.aV _,_,_,.aV _ e=>.aV _ e
 |.agg _ _,_,h,.agg _ _ _ a b=>.agg _ _ _ (fO.vW (by simpa only [Flat]using h) a) b
 |.br _,_,h,.br _ _ a=>.br _ _ (fO.vW (by simpa only [Flat]using h) a)
 |.oQ _ _,_,h,.oQ _ _ _ a=>.oQ _ _ _ (Flat.out (by simpa only [Flat]using h) a)
theorem fO.vW {φ φ':Ph}{D D':Da}:∀ {vs:List AV}{xs:List Value},fO vs->bT φ D vs xs->bT φ' D' vs xs
 |[],_,_,.nil=>.nil
 |_::_,_,h,.cons _ _ _ _ h1 h2=>.cons _ _ _ _ (Flat.out (by simp only[fO]at h;exact h.1) h1) (fO.vW (by simp only[fO]at h;exact h.2) h2)
end
theorem aj.ahH {g:FuncId}{args args':List AV}{v:AV}(h:aj P g args' v) (hf:Flat v){H:Hp}(n:Nat) (hz:bp H.get args args'):∀ φ D w xs,Rel φ D H.get w->bT φ D args xs->∀R:Ending->World->Prop,
  (∀ φ' D' w' x,Ext φ D H.get w n φ' D' H.get w' n->Rel φ' D' H.get w'->VR φ' D' v x->R (.returned x) w')->CallsIn Fence.wide 0 P g ⟨xs⟩ w R:=by
 intro φ D w xs hr hv R hR;refine h.run (shut φ D H.get w) w xs (mO hr.eQ) (hz.vW hr hv) R λ D' w' x hk hd hx=>?_
 let D2:Da:=λ c=>match D c with
  |some y=>some y
  |none=>match shut φ D H.get w c with
   |some _=>none
   |none=>D' c
 have e1:∀c x,D c=some x->D2 c=some x:=λ c x hc=>by simp only[D2,hc]
 have e2:∀c x,D2 c=some x->D' c=some x:=by
  intro c x hc;simp only[D2]at hc
  split at hc
  ·rename_i y hy;injection hc with hc;subst hc;exact hk.eQ c _ (fa c _ hy)
  split at hc
  ·cases hc
  exact hc
 have e3:∀c,D2 c≠none->D c≠none∨w.heap.size<=c:=by
  intro c hc;simp only[D2]at hc
  split at hc
  ·rename_i y hy;exact .inl (by rw[hy];simp)
  split at hc
  ·exact aw rfl hc
  rename_i hs
  rcases hk.kD c hc with h|h
  ·exact aw hs h
  exact .inr h
 refine hR φ D2 w' x ⟨aL _,λ _ _ h=>h,λ _ a b=>aw a b,e1,hk.size,λ c hc _=>hk.keep c hc,λ b p hb hp=>.inr ⟨b,p,hb,hp,rfl⟩,λ c hc=>(e3 c hc).elim .inl λ h=>.inr (.inl h),λ _ h=>.inl h,hk.os,hk.out⟩ ?_ (hf.out hx);refine⟨λ b k hb=>?_,hr.inj,λ b p hb hp=>?_,⟨λ c x hc=>hd.1 c x (e2 c x hc),hr.eQ.2.mono e1⟩⟩
 ·obtain⟨p,hp,hl,hk'⟩:=hr.blk b k hb;exact⟨p,hp,Nat.lt_of_lt_of_le hl hk.size,hk'.mono (λ _ _ h=>h) e1 (hk.keep _ hl)⟩
 cases hD:D2 p.1 with
 |none=>rfl
 |some x =>
  rcases e3 p.1 (by rw[hD];simp)with h1|h1
  ·exact aw (hr.sep b p hb hp) h1
  cases hx:H.get b with
  |none=>exact aw hx hb
  |some k=>have:=(hr.block hx hp).1;omega
theorem aj.arL {g:FuncId}{args args':List AV}{v:AV}(h:aj P g args' v)(hf:Flat v){H:Hp}(n:Nat)(hz:bp H.get args args'):ao P g args H n (λ u K k=>u=v/\K=H/\k=n):=
 ⟨h.body,λ φ D w xs hr hv _ R hR=>h.ahH hf n hz φ D w xs hr hv R λ φ' D' w' x e r k=>hR v H n φ' D' w' x ⟨rfl,rfl,rfl⟩ e r k⟩
theorem aj.Qu {g:FuncId}{args args':List AV}{v:AV}(h:aj P g args' v)(hf:Flat v){H:Hp}(n:Nat)(hz:bp H.get args args'):bC P g args H n v H n:=
 ⟨h.body,aL _,λ φ D w xs hr hv _ R hR=>h.ahH hf n hz φ D w xs hr hv R hR⟩
end
end Go.Abs
namespace Go.Abs
open List
def nj (P:Program)(b:CT)(Q:QA):QA:=λ o F' H' n' m'=>match o with
 |.normal=>VC P b F' H' n' m' Q
 |.exit i=>Q (.exit i) F' H' n' m'
 |.ret=>Q .ret F' H' n' m'
 |.panic _=>False
def zY (v:Option AV)(a b:CT)(P:Program)(F:Fr)(H:Hp)(n:Nat)(m:List Dm)(Q:QA):Prop:=qk v (VC P a F H n m Q) (VC P b F H n m Q)
def Gf (x:bD)(pd:Pd)(r:List (Option GO))(P:Program)(F:Fr)(H:Hp)(n:Nat)(m:List Dm)(Q:QA):Prop:=CQ x H n λ v H' n'=>fE P r (pd.f v F) H' n' m Q
def aB (f:FuncId)(vs:List AV)(pd:Pd)(r:List (Option GO))(P:Program)(F:Fr)(H:Hp)(n:Nat)(m:List Dm)(Q:QA):Prop:=ao P f vs H n λ v H' n'=>fE P r (pd.f v F) H' n' m Q
def Vt (vs:Option (List AV))(f:FuncId)(pd:Pd)(r:List (Option GO))(P:Program)(F:Fr)(H:Hp)(n:Nat)(m:List Dm)(Q:QA):Prop:=uw vs λ vs=>aB f vs pd r P F H n m Q
def IQ (q:Nat)(vs:List AV)(pd:Pd)(r:List (Option GO))(P:Program)(F:Fr)(H:Hp)(n:Nat)(m:List Dm)(Q:QA):Prop:=wu P q vs H n λ v H' n'=>fE P r (pd.f v F) H' n' m Q
def Jb (v:Option AV)(vs:Option (List AV))(pd:Pd)(r:List (Option GO))(P:Program)(F:Fr)(H:Hp)(n:Nat)(m:List Dm)(Q:QA):Prop:=match v with
 |some (.fn (.func f) first cap)=>uw vs λ vs=>aB f (first++(vs++cap)) pd r P F H n m Q
 |some (.iZ q)=>uw vs λ vs=>IQ q vs pd r P F H n m Q
 |_=>False
def Lo (v:Option AV)(nt:Nat)(ps:List Nat)(a b:Code)(P:Program)(F:Fr)(H:Hp)(n:Nat)(m:List Dm)(Q:QA):Prop:=match v with
 |some (.fn (.func f) first cap)=>ao P f (first++(.iZ n::cap)) ((H.put (Nat.succ n) (some .jN)).put n (some (.loop .ready .normal nt F ps a b))) (Nat.succ (Nat.succ n)) λ _ H' n'=>Vk n F m Q H' n'
 |_=>False
def Vo (v:Option AV)(b:Bool)(pd:Pd)(e:Eff)(r:List (Option GO))(P:Program)(F:Fr)(H:Hp)(n:Nat)(m:List Dm)(Q:QA):Prop:=fA v b (Gf (e F H n) pd r P F H n m Q) (fE P r (pd.f (.br []) F) H n m Q)
def Vq (v:Option AV)(b:Bool)(pd:Pd)(f:FuncId)(as:List G)(r:List (Option GO))(P:Program)(F:Fr)(H:Hp)(n:Nat)(m:List Dm)(Q:QA):Prop:=fA v b (Vt (evs F as) f pd r P F H n m Q) (fE P r (pd.f (.br []) F) H n m Q)
def Vn (v:Option AV)(b:Bool)(pd:Pd)(g:G)(as:List G)(r:List (Option GO))(P:Program)(F:Fr)(H:Hp)(n:Nat)(m:List Dm)(Q:QA):Prop:=fA v b (Jb (g.f F) (evs F as) pd r P F H n m Q) (fE P r (pd.f (.br []) F) H n m Q)
def aF (b:CT)(P:Program)(F:Fr)(H:Hp)(n:Nat)(m:List Dm)(Q:QA):Prop:=∃(I J:Nat->Fr->Hp->Nat->List Dm->Prop)(k:Nat),J k F H n m/\(∀k F H n m,J k F H n m->Zs I k F H n m)/\∀k F H n m,I k F H n m->VC P b F H n m (zE J k Q)
def bF (ds:List Nat)(l:List (Option RO))(P:Program)(F:Fr)(H:Hp)(n:Nat)(m:List Dm)(Q:QA):Prop:=∃ce h F2 H2,iD P ce/\eG h F H F2 H2/\Ev ((Ii ds (fY l)).f ce F2 H2 n m) Q
section
variable {P:Program}{F:Fr}{H:Hp}{n:Nat}{m:List Dm}{Q:QA}
@[simp] theorem pI (b:CT):nj P b Q .normal F H n m=VC P b F H n m Q:=propext Iff.rfl
@[simp] theorem anm (b:CT)(i:Nat):nj P b Q (.exit i) F H n m=Q (.exit i) F H n m:=propext Iff.rfl
@[simp] theorem aoU (b:CT):nj P b Q .ret F H n m=Q .ret F H n m:=propext Iff.rfl
@[simp] theorem alY (a b:CT):zY (some (.bool true)) a b P F H n m Q=VC P a F H n m Q:=propext Iff.rfl
@[simp] theorem ahx (a b:CT):zY (some (.bool false)) a b P F H n m Q=VC P b F H n m Q:=propext Iff.rfl
@[simp] theorem avm (l:List (Option GO)):VC P (.nw l) F H n m Q=fE P l F H n m Q:=propext Iff.rfl
@[simp] theorem nG (ds:List Nat)(l:List (Option RO)):VC P (.dI ds l) F H n m Q=bF ds l P F H n m Q:=propext Iff.rfl
@[simp] theorem ux (a b:CT):VC P (.seq a b) F H n m Q=VC P a F H n m (nj P b Q):=propext Iff.rfl
@[simp] theorem as4 (g:G)(a b:CT):VC P (.cond g a b) F H n m Q=zY (g.f F) a b P F H n m Q:=propext Iff.rfl
@[simp] theorem aoG (i:Nat)(b:CT):VC P (.block i b) F H n m Q=VC P b F H n m (ig i Q):=propext Iff.rfl
@[simp] theorem as2 (b:CT):VC P (.loop b) F H n m Q=aF b P F H n m Q:=propext Iff.rfl
@[simp] theorem as3 (i:Nat):VC P (.exit i) F H n m Q=Q (.exit i) F H n m:=propext Iff.rfl
@[simp] theorem avl:VC P .ret F H n m Q=Q .ret F H n m:=propext Iff.rfl
@[simp] theorem as1:VC P .skip F H n m Q=Q .normal F H n m:=propext Iff.rfl
@[simp] theorem aps (pd:Pd)(r:List (Option GO)):Gf .fail pd r P F H n m Q=False:=propext Iff.rfl
@[simp] theorem atr (v:AV)(pd:Pd)(r:List (Option GO)):Gf (.val v) pd r P F H n m Q=fE P r (pd.f v F) H n m Q:=propext Iff.rfl
@[simp] theorem atu (v:AV)(k:bJ)(pd:Pd)(r:List (Option GO)):Gf (.new v k) pd r P F H n m Q=fE P r (pd.f v F) (H.put n (some k)) (n+1) m Q:=propext Iff.rfl
@[simp] theorem att (v:AV)(b:Nat)(k:bJ)(pd:Pd)(r:List (Option GO)):Gf (.upd v b k) pd r P F H n m Q=fE P r (pd.f v F) (H.put b (some k)) n m Q:=propext Iff.rfl
@[simp] theorem av0 (v:AV)(b:Nat)(k:bJ)(pd:Pd)(r:List (Option GO)):Gf (.mv v b k) pd r P F H n m Q=fE P r (pd.f v F) ((H.put b none).put n (some k)) (n+1) m Q:=propext Iff.rfl
@[simp] theorem aoj (vs:List AV)(f:FuncId)(pd:Pd)(r:List (Option GO)):Vt (some vs) f pd r P F H n m Q=aB f vs pd r P F H n m Q:=propext Iff.rfl
@[simp] theorem anO (f:FuncId)(first cap vs:List AV)(pd:Pd)(r:List (Option GO)):Jb (some (.fn (.func f) first cap)) (some vs) pd r P F H n m Q=aB f (first++(vs++cap)) pd r P F H n m Q:=propext Iff.rfl
@[simp] theorem aw6 (pd:Pd)(e:Eff)(r:List (Option GO)):Vo (some (.bool true)) true pd e r P F H n m Q=Gf (e F H n) pd r P F H n m Q:=propext Iff.rfl
@[simp] theorem aw7 (pd:Pd)(e:Eff)(r:List (Option GO)):Vo (some (.bool false)) true pd e r P F H n m Q=fE P r (pd.f (.br []) F) H n m Q:=propext Iff.rfl
@[simp] theorem aug (pd:Pd)(e:Eff)(r:List (Option GO)):Vo (some (.bool true)) false pd e r P F H n m Q=fE P r (pd.f (.br []) F) H n m Q:=propext Iff.rfl
@[simp] theorem auh (pd:Pd)(e:Eff)(r:List (Option GO)):Vo (some (.bool false)) false pd e r P F H n m Q=Gf (e F H n) pd r P F H n m Q:=propext Iff.rfl
@[simp] theorem aqH (l:List AV)(b:Bool)(pd:Pd)(e:Eff)(r:List (Option GO)):Vo (some (.br l)) b pd e r P F H n m Q=fE P r (pd.f (.br []) F) H n m Q:=propext Iff.rfl
@[simp] theorem axa (pd:Pd)(f:FuncId)(as:List G)(r:List (Option GO)):Vq (some (.bool true)) true pd f as r P F H n m Q=Vt (evs F as) f pd r P F H n m Q:=propext Iff.rfl
@[simp] theorem axb (pd:Pd)(f:FuncId)(as:List G)(r:List (Option GO)):Vq (some (.bool false)) true pd f as r P F H n m Q=fE P r (pd.f (.br []) F) H n m Q:=propext Iff.rfl
@[simp] theorem aum (pd:Pd)(f:FuncId)(as:List G)(r:List (Option GO)):Vq (some (.bool true)) false pd f as r P F H n m Q=fE P r (pd.f (.br []) F) H n m Q:=propext Iff.rfl
@[simp] theorem aun (pd:Pd)(f:FuncId)(as:List G)(r:List (Option GO)):Vq (some (.bool false)) false pd f as r P F H n m Q=Vt (evs F as) f pd r P F H n m Q:=propext Iff.rfl
@[simp] theorem aqK (l:List AV)(b:Bool)(pd:Pd)(f:FuncId)(as:List G)(r:List (Option GO)):Vq (some (.br l)) b pd f as r P F H n m Q=fE P r (pd.f (.br []) F) H n m Q:=propext Iff.rfl
@[simp] theorem aw4 (pd:Pd)(g:G)(as:List G)(r:List (Option GO)):Vn (some (.bool true)) true pd g as r P F H n m Q=Jb (g.f F) (evs F as) pd r P F H n m Q:=propext Iff.rfl
@[simp] theorem aw5 (pd:Pd)(g:G)(as:List G)(r:List (Option GO)):Vn (some (.bool false)) true pd g as r P F H n m Q=fE P r (pd.f (.br []) F) H n m Q:=propext Iff.rfl
@[simp] theorem aue (pd:Pd)(g:G)(as:List G)(r:List (Option GO)):Vn (some (.bool true)) false pd g as r P F H n m Q=fE P r (pd.f (.br []) F) H n m Q:=propext Iff.rfl
@[simp] theorem auf (pd:Pd)(g:G)(as:List G)(r:List (Option GO)):Vn (some (.bool false)) false pd g as r P F H n m Q=Jb (g.f F) (evs F as) pd r P F H n m Q:=propext Iff.rfl
@[simp] theorem aqG (l:List AV)(b:Bool)(pd:Pd)(g:G)(as:List G)(r:List (Option GO)):Vn (some (.br l)) b pd g as r P F H n m Q=fE P r (pd.f (.br []) F) H n m Q:=propext Iff.rfl
@[simp] theorem as5:fE P [] F H n m Q=Q .normal F H n m:=propext Iff.rfl
@[simp] theorem avn (pd:Pd)(e:Eff)(r:List (Option GO)):fE P (oP pd e::r) F H n m Q=Gf (e F H n) pd r P F H n m Q:=propext Iff.rfl
@[simp] theorem avo (g:G)(b:Bool)(pd:Pd)(e:Eff)(r:List (Option GO)):fE P (gP g b pd e::r) F H n m Q=Vo (g.f F) b pd e r P F H n m Q:=propext Iff.rfl
theorem KU (g:G)(as:List G)(K:FuncId->List AV->Prop)(K2:Nat->List AV->Prop):((∃f first cap vs,g.f F=some (.fn (.func f) first cap)/\evs F as=some vs/\K f (first++(vs++cap)))∨(∃q vs,g.f F=some (.iZ q)/\evs F as=some vs/\K2 q vs))↔(match g.f F with
  |some (.fn (.func f) first cap)=>uw (evs F as) λ vs=>K f (first++(vs++cap))
  |some (.iZ q)=>uw (evs F as) λ vs=>K2 q vs
  |_=>False):=by
 constructor
 ·rintro(⟨f,first,cap,vs,h1,h2,h3⟩|⟨q,vs,h1,h2,h3⟩)
  ·rw[h1,h2];exact h3
  rw[h1,h2];exact h3
 intro h
 split at h
 ·rename_i f first cap hg
  cases hv:evs F as with
  |none=>rw[hv]at h;exact aw h id
  |some vs=>rw[hv]at h;exact .inl ⟨f,first,cap,vs,hg,rfl,h⟩
 ·rename_i q hg
  cases hv:evs F as with
  |none=>rw[hv]at h;exact aw h id
  |some vs=>rw[hv]at h;exact .inr ⟨q,vs,hg,rfl,h⟩
 exact aw h id
@[simp] theorem VG (pd:Pd)(g:G)(as:List G)(r:List (Option GO)):fE P (vP pd g as::r) F H n m Q=Jb (g.f F) (evs F as) pd r P F H n m Q:=by
 refine Eq.trans (propext (KU (F:=F) g as (λ f l=>aB f l pd r P F H n m Q) λ q l=>IQ q l pd r P F H n m Q)) ?_;unfold Jb;rfl
@[simp] theorem ajE (pd:Pd)(f:FuncId)(as:List G)(r:List (Option GO)):fE P (cP pd f as::r) F H n m Q=Vt (evs F as) f pd r P F H n m Q:=by
 refine Eq.trans (VG pd (aO (.fn (.func f) [] [])) as r) ?_;simp only[zb,Jb,Vt,nil_append,append_nil]
@[simp] theorem as7 (g:G)(b:Bool)(pd:Pd)(f:FuncId)(as:List G)(r:List (Option GO)):fE P (j7 g b pd f as::r) F H n m Q=Vq (g.f F) b pd f as r P F H n m Q:=by
 show fA (g.f F) b (fE P (cP pd f as::r) F H n m Q) _=_;rw[ajE];rfl
def gvP (g:G)(b:Bool)(pd:Pd)(h:G)(as:List G):Option GO:=some ⟨some (g,b),pd,.call h as⟩
@[simp] theorem as6 (g:G)(b:Bool)(pd:Pd)(h:G)(as:List G)(r:List (Option GO)):fE P (gvP g b pd h as::r) F H n m Q=Vn (g.f F) b pd h as r P F H n m Q:=by
 show fA (g.f F) b (fE P (vP pd h as::r) F H n m Q) _=_;rw[VG];rfl
@[simp] theorem aqR (q:Nat)(vs:List AV)(pd:Pd)(r:List (Option GO)):Jb (some (.iZ q)) (some vs) pd r P F H n m Q=IQ q vs pd r P F H n m Q:=propext Iff.rfl
theorem Ua (g:G)(K:FuncId->List AV->List AV->Prop):(∃f first cap,g.f F=some (.fn (.func f) first cap)/\K f first cap)↔(match g.f F with
  |some (.fn (.func f) first cap)=>K f first cap
  |_=>False):=by
 constructor
 ·rintro⟨f,first,cap,h1,h2⟩;rw[h1];exact h2
 intro h
 split at h
 ·rename_i f first cap hg;exact⟨f,first,cap,hg,h⟩
 exact aw h id
@[simp] theorem aoF (nt:Nat)(g:G)(ps:List Nat)(a b:Code):VC P (.range nt g ps a b) F H n m Q=Lo (g.f F) nt ps a b P F H n m Q:=
 Eq.trans (propext (Ua (F:=F) g λ f first cap=>ao P f (first++(.iZ n::cap)) ((H.put (Nat.succ n) (some .jN)).put n (some (.loop .ready .normal nt F ps a b))) (Nat.succ (Nat.succ n)) λ _ H' n'=>Vk n F m Q H' n')) (by unfold Lo;rfl)
theorem Lo.of {f:FuncId}{first cap:List AV}{nt:Nat}{ps:List Nat}{a b:Code}(h:ao P f (first++(.iZ n::cap)) ((H.put (n+1) (some .jN)).put n (some (.loop .ready .normal nt F ps a b))) (n+2) λ _ H' n'=>Vk n F m Q H' n'):Lo (some (.fn (.func f) first cap)) nt ps a b P F H n m Q:=h
theorem GG.of {nt:Nat}{c:Code}{Q:QA}(h:VC P (eN P nt true c) F H n [] Q):GG P nt c F H n Q:=λ cb=>fR (r:=some cb) c F H n [] Q h
theorem IQ.of {q:Nat}{vs:List AV}{pd:Pd}{r:List (Option GO)}{st:LoopState}{j:lG}{nt:Nat}{F0 F1:Fr}{ps:List Nat}{a b:Code}(hq:H.get q=some (.loop st j nt F0 ps a b))(hp:mS nt ps vs F0=some F1)
  (ha:VC P (eN P nt true a) F1 H n [] λ o F2 H2 n2 m2=>o=.normal/\m2=[]/\∃j2 Bt G2 ps2 a2 b2,H2.get q=some (.loop .ready j2 Bt G2 ps2 a2 b2)/\VC P (eN P nt true b) F2 (H2.put q (some (.loop .busy j2 Bt G2 ps2 a2 b2))) n2 [] λ j3 _ H3 n3 _=>u4 q (λ v H' n'=>fE P r (pd.f v F) H' n' m Q) j3 H3 n3):IQ q vs pd r P F H n m Q:=by
 refine⟨st,j,nt,F0,ps,a,b,F1,hq,hp,λ cb=>?_⟩;refine λ φ D ac w C4 hf QQ hQ=>fR (r:=some cb) a F1 H n [] _ ha φ D ac w C4 hf QQ λ o F' H' n' m' φ' D' a' w' px h e s pp=>hQ o F' H' n' m' φ' D' a' w' px ?_ e s pp;obtain⟨h1,h2,j2,Bt,G2,ps2,a2,b2,h3,h4⟩:=h;exact⟨h1,h2,j2,Bt,G2,ps2,a2,b2,h3,GG.of h4⟩
@[simp] theorem kP {q:Nat}{m:List Dm}{H:Hp}(h:H.get q=some .jN):dK (.cD q::m) H=dK m (H.put q none):=by
 simp only[dK,h]
def GY:Code->List (Code×Code)
 |.seq a b=>GY a++GY b
 |.cond _ a b=>GY a++GY b
 |.block _ b=>GY b
 |.loop b=>GY b
 |.scope b=>GY b
 |.rangeFunc _ _ a b=>[(a,b)]
 |_=>[]
def WE (P:Program) (g k:Nat):Code×Code:=match P.funcs[g]? with
 |some fn=>match fn.body with
  |some b=>(GY b).getD k (.skip,.skip)
  |none=>(.skip,.skip)
 |none=>(.skip,.skip)
theorem aB.of {f:FuncId}{vs:List AV}{pd:Pd}{r:List (Option GO)}{R:AV->Hp->Nat->Prop}(h:ao P f vs H n R)(k:∀v H' n',R v H' n'->fE P r (pd.f v F) H' n' m Q):aB f vs pd r P F H n m Q:=h.mono k
theorem aB.pure {f:FuncId}{vs:List AV}{pd:Pd}{r:List (Option GO)}{v:AV}(h:aj P f vs v)(k:fE P r (pd.f v F) H n m Q):aB f vs pd r P F H n m Q:=(h.lz H n).mono λ u K k' ⟨a,b,c⟩=>by subst a b c;exact k
theorem aB.nz {f:FuncId}{vs vs':List AV}{pd:Pd}{r:List (Option GO)}{v:AV}(h:aj P f vs' v)(hf:Flat v)(hz:bp H.get vs vs')(k:fE P r (pd.f v F) H n m Q):aB f vs pd r P F H n m Q:=(h.arL hf n hz).mono λ u K k' ⟨a,b,c⟩=>by subst a b c;exact k
theorem aF.of {b:CT}(I:Nat->Fr->Hp->Nat->List Dm->Prop)(k:Nat)(h0:I k F H n m)(hs:∀k F H n m,I k F H n m->VC P b F H n m (zE I k Q)):aF b P F H n m Q:=⟨I,I,k,h0,λ _ _ _ _ _ h=>Zs.refl h,hs⟩
theorem aF.ofZ {b:CT}(I:Nat->Fr->Hp->Nat->List Dm->Prop)(k:Nat)(h0:Zs I k F H n m)(hs:∀k F H n m,I k F H n m->VC P b F H n m (zE (Zs I) k Q)):aF b P F H n m Q:=⟨I,Zs I,k,h0,λ _ _ _ _ _ h=>h,hs⟩
theorem bF.of {ds:List Nat}{l:List (Option RO)}{ce:Ce}(hce:iD P ce)(h:Ev ((Ii ds (fY l)).f ce F H n m) Q):bF ds l P F H n m Q:=⟨ce,_,F,H,hce,eG.refl F H,h⟩
theorem bF.ofZ {ds:List Nat}{l:List (Option RO)}{ce:Ce}{h:Hf}{F2:Fr}{H2:Hp}(hce:iD P ce)(s:eG h F H F2 H2)(k:Ev ((Ii ds (fY l)).f ce F2 H2 n m) Q):bF ds l P F H n m Q:=⟨ce,h,F2,H2,hce,s,k⟩
theorem zY.ofB {c:Bool}{a b:CT}(h1:c=true->VC P a F H n m Q)(h2:c=false->VC P b F H n m Q):zY (some (.bool c)) a b P F H n m Q:=by
 cases c
 ·exact h2 rfl
 exact h1 rfl
theorem bq:iD P (Au λ _ _ _ _=>.fail):=Ek λ _ _ _ _ _ _ _ h=>by cases h
theorem gf {g:FuncId}{c:CF}{args:List AV}{v:AV}(hc:KE P g=some c)(hp:aS args)(hv:Pure v)(hl:args.length<=c.nt)
  (h:∀F:Fr,(∀i,F.get i=args[i]?)->VC P c.code F .nil 0 [] (kH c.res λ v1 H' _=>fj H'.get v1 v)):aj P g args v:=aj.ofR hp hv (ao.of hc hl h)
def aqO (r:hU):Option AV:=match r with
 |.mk v _ _=>some v
 |_=>none
theorem aj.lit {g:FuncId}{args:List AV}{v:AV}(hp:aS args)(hv:Pure v)(h:aqO (mi P (Au λ _ _ _ _=>.fail) g args .nil 0)=some v):aj P g args v:=by
 refine aj.of bq hp ?_
 cases hr:mi P (Au λ _ _ _ _=>.fail) g args .nil 0 with
 |fail=>rw[hr]at h;cases h
 |v7 v1 H' n'=>rw[hr]at h;cases h
 |mk v1 H' n'=>rw[hr]at h;injection h with h;subst h;exact⟨_,_,_,rfl,.pure _ hv⟩
theorem aj.asd {g:FuncId}{args:List AV}{v:AV}(k:Nat)(hp:aS args)(hv:Pure v)(h:aqO ((Go.Abs.run P (k+1)).call g args .nil 0)=some v):aj P g args v:=by
 refine aj.of (V8 (P:=P) k) hp ?_;have e:mi P (Go.Abs.run P k) g args .nil 0=(Go.Abs.run P (k+1)).call g args .nil 0:=rfl
 cases hr:mi P (Go.Abs.run P k) g args .nil 0 with
 |fail=>rw[<-e,hr]at h;cases h
 |v7 v1 H' n'=>rw[<-e,hr]at h;cases h
 |mk v1 H' n'=>rw[<-e,hr]at h;injection h with h;subst h;exact⟨_,_,_,rfl,.pure _ hv⟩
mutual
theorem VR.back {φ φ':Ph}{D D':Da}(hφ:∀b x,φ b=some x->φ' b=some x):∀ {v x x'},VR φ D v x->VR φ' D' v x'->VR φ D' v x'
 |_,_,_,.int _ _,.int _ _=>.int _ _
 |_,_,_,.bool _,.bool _=>.bool _
 |_,_,_,.str _ _ _,.str _ _ e=>.str _ _ e
 |_,_,_,.ptr _ _ _ _ _ h,.ptr _ _ _ _ _ k=>by rw[hφ _ _ h]at k;injection k with k;injection k with a b;injection b with b c;subst a b c;exact .ptr _ _ _ _ _ h
 |_,_,_,.sl _ _ _ _ _ _ _ _ _ h _ _,.sl _ _ _ _ _ _ _ _ _ k p q=>by rw[hφ _ _ h]at k;injection k with k;injection k with a b;injection b with b c;subst a b c;exact .sl _ _ _ _ _ _ _ _ _ h p q
 |_,_,_,.agg _ _ _ h _,.agg _ _ _ k e=>.agg _ _ _ (bT.back hφ h k) e
 |_,_,_,.br _ _ h,.br _ _ k=>.br _ _ (bT.back hφ h k)
 |_,_,_,.oQ _ _ _ h,.oQ _ _ _ k=>.oQ _ _ _ (VR.back hφ h k)
 |_,_,_,.fn _ _ _ _ _ h1 h2,.fn _ _ _ _ _ k1 k2=>.fn _ _ _ _ _ (bT.back hφ h1 k1) (bT.back hφ h2 k2)
 |_,_,_,.map _ _ _ _ h,.map _ _ _ _ k=>by rw[hφ _ _ h]at k;injection k with k;injection k with a b;injection b with b c;subst a b c;exact .map _ _ _ _ h
 |_,_,_,.ds _ _ _ _ _ _ _ _ _ _ _ h _,.ds _ _ _ _ _ _ _ _ a b c k e=>.ds _ _ _ _ _ _ _ _ a b c (bT.back hφ h k) e
 |_,_,_,.ds _ _ _ _ _ _ _ _ _ _ _ _ _,.pY _ _ _=>.pY _ _ _
 |_,_,_,.ds _ _ _ _ _ _ _ _ _ _ _ _ _,.tQ _=>.tQ _
 |_,_,_,.pY _ _ _,.ds _ _ _ _ _ _ _ _ a b c k e=>.ds _ _ _ _ _ _ _ _ a b c (by cases k;exact .nil) e
 |_,_,_,.pY _ _ _,.pY _ _ _=>.pY _ _ _
 |_,_,_,.pY _ _ _,.tQ _=>.tQ _
 |_,_,_,.tQ _,.ds _ _ _ _ _ _ _ _ a b c k e=>.ds _ _ _ _ _ _ _ _ a b c (by cases k;exact .nil) e
 |_,_,_,.tQ _,.pY _ _ _=>.pY _ _ _
 |_,_,_,.tQ _,.tQ _=>.tQ _
 |_,_,_,.dp _ _ _ _ _ _ _ h,.dp _ _ _ _ _ a b k=>.dp _ _ _ _ _ a b (bT.back hφ h k)
 |_,_,_,.iZ _ _ _ _ h,.iZ _ _ _ _ k=>by rw[hφ _ _ h]at k;injection k with k;injection k with a b;injection b with b c;subst a b c;exact .iZ _ _ _ _ h
 |_,_,_,.aV _ _,.aV _ e=>.aV _ e
theorem bT.back {φ φ':Ph}{D D':Da}(hφ:∀b x,φ b=some x->φ' b=some x):∀ {v x x'},bT φ D v x->bT φ' D' v x'->bT φ D' v x'
 |_,_,_,.nil,.nil=>.nil
 |_,_,_,.cons _ _ _ _ h1 h2,.cons _ _ _ _ k1 k2=>.cons _ _ _ _ (VR.back hφ h1 k1) (bT.back hφ h2 k2)
end
theorem xe.back {φ φ':Ph}{D D':Da}(hφ:∀b x,φ b=some x->φ' b=some x):∀ {v x x'},xe φ D v x->xe φ' D' v x'->xe φ D' v x'
 |_,_,_,.nil,.nil=>.nil
 |_,_,_,.cons _ _ _ _ _ _ _ a b c,.cons _ _ _ _ _ _ _ a' b' c'=>.cons _ _ _ _ _ _ _ (a.back hφ a') (b.back hφ b') (xe.back hφ c c')
theorem FR.back {φ φ':Ph}{D D':Da}(hφ:∀b x,φ b=some x->φ' b=some x){F:Ff}{t t':Array Value}(h:FR φ D F t)(k:FR φ' D' F t'):FR φ D' F t':=by
 refine⟨λ s v hv=>?_,k.2⟩;obtain⟨x,_,h2⟩:=h.1 s v hv;obtain⟨y,k1,k2⟩:=k.1 s v hv;exact⟨y,k1,h2.back hφ k2⟩
theorem iY.back {φ φ':Ph}{D D':Da}{w w':World} {p}(hφ:∀b x,φ b=some x->φ' b=some x){k:bJ}(h:iY φ D w p k)(k':iY φ' D' w' p k):iY φ D' w' p k:=by
 cases k with
 |cells u z bs t =>
  obtain⟨c,e,fr,h1,h2,h3,h4,h5⟩:=h;obtain⟨c',e',fr',k1,k2,k3,k4,k5⟩:=k';exact⟨c',e',fr',k1,k2,k3,λ i v hv=>let ⟨x,_,a⟩:=h4 i v hv;let ⟨y,b,b'⟩:=k4 i v hv;⟨y,b,a.back hφ b'⟩,k5⟩
 |map es clk=>obtain⟨c,h1,h2⟩:=h;obtain⟨c',k1,k2⟩:=k';exact⟨c',k1,h2.back hφ k2⟩
 |loop st j nt F ps a b =>
  obtain⟨r,h1,h2,h3,h4,h5,h6⟩:=h;obtain⟨r',k1,k2,k3,k4,k5,k6⟩:=k';exact⟨r',k1,k2,k3,k4,h5.back hφ k5,k6⟩
 |jN=>exact k'
 |iter m s l c =>
  obtain⟨h0,cm,h1,h2⟩:=h;obtain⟨_,cm',k1,k2⟩:=k';refine⟨h0,cm',k1,?_⟩
  cases m with
  |none=>exact k2
  |some b =>
   obtain⟨cb,co,cz,h3,_⟩:=h2;obtain⟨cb',co',cz',k3,k4⟩:=k2;have:=hφ _ _ h3;rw[this]at k3;injection k3 with k3;injection k3 with e1 e2;exact⟨cb,co,cz,h3,by rw[k4,e1]⟩
theorem ao.forget {g:FuncId}{args:List AV}{v0:AV}(hv:Flat v0)(h:ao P g args H n (λ v H' _=>v=v0/\∀b,H.get b≠none->H'.get b=H.get b)):ao P g args H n (λ u K k=>u=v0/\K=H/\k=n):=by
 refine⟨h.1,λ φ D w xs hr hvs hf RR hR=>h.2 φ D w xs hr hvs hf RR λ v H' n' φ' D' w' x ⟨hz,hk⟩ e r hx=>?_⟩;subst hz;refine hR v H n φ D' w' x ⟨rfl,rfl,rfl⟩ ⟨aL _,λ _ _ h=>h,λ _ a b=>aw a b,e.eQ,e.size,e.keep,λ b p hb hp=>.inr ⟨b,p,hb,hp,rfl⟩,e.kD,λ _ h=>.inl h,e.os,e.out⟩ ?_ (hv.out hx);refine⟨λ b k hb=>?_,hr.inj,λ b p hb hp=>?_,r.eQ⟩
 ·obtain⟨p,hp,hl,hb1⟩:=hr.blk b k hb;have hb':H'.get b=some k:=by rw[hk b (by rw[hb];simp),hb]
  have:=(r.block hb' (e.phi _ _ hp)).2;exact⟨p,hp,Nat.lt_of_lt_of_le hl e.size,hb1.back e.phi this⟩
 exact r.sep b p (by rw[hk b hb];exact hb) (e.phi _ _ hp)
theorem aB.same {f:FuncId}{vs:List AV}{pd:Pd}{r:List (Option GO)}{v:AV}(h:ao P f vs H n (λ u K k=>u=v/\K=H/\k=n))(k:fE P r (pd.f v F) H n m Q):aB f vs pd r P F H n m Q:=h.mono λ u K k' ⟨a,b,c⟩=>by subst a b c;exact k
end
end Go.Abs
namespace Go.Abs
open List
section
variable {P:Program}
theorem CQ.mono {r:bD}{H:Hp}{n:Nat}{k k':AV->Hp->Nat->Prop}(h:CQ r H n k)(hk:∀v H n,k v H n->k' v H n):CQ r H n k':=by
 cases r<;>first|exact h|exact hk _ _ _ h
theorem fA.mono {v:Option AV}{b:Bool}{p q p' q':Prop}(h:fA v b p q)(hp:p->p')(hq:q->q'):fA v b p' q':=by
 unfold fA at h ⊢
 split at h
 ·rename_i c
  cases hc:(c == b)with
  |true=>rw[hc]at h;exact hp h
  |false=>rw[hc]at h;exact hq h
 ·exact hq h
 exact h
theorem qk.mono {v:Option AV}{p q p' q':Prop}(h:qk v p q)(hp:p->p')(hq:q->q'):qk v p' q':=by
 unfold qk at h ⊢
 split at h
 ·exact hp h
 ·exact hq h
 exact h
theorem Ev.mono {r:QK}{Q Q':QA}(h:Ev r Q)(hq:∀o F H n m,Q o F H n m->Q' o F H n m):Ev r Q':=by
 unfold Ev at h ⊢
 split at h
 ·exact h
 ·exact hq _ _ _ _ _ h
 exact h
theorem GG.mono {nt:Nat}{c:Code}{F:Fr}{H:Hp}{n:Nat}{Q Q':QA}(h:GG P nt c F H n Q)(hq:∀o F H n m,Q o F H n m->Q' o F H n m):GG P nt c F H n Q':=
 λ cb φ D a w st hf QQ hQ=>h cb φ D a w st hf QQ λ o F' H' n' m' φ' D' a' w' px q=>hQ o F' H' n' m' φ' D' a' w' px (hq _ _ _ _ _ q)
theorem wu.mono {q:Nat}{vs:List AV}{H:Hp}{n:Nat}{R S:AV->Hp->Nat->Prop}(h:wu P q vs H n R)(hs:∀v H' n',R v H' n'->S v H' n'):wu P q vs H n S:=by
 obtain⟨st,j,nt,F0,ps,a,b,F1,h1,h2,h3⟩:=h;refine⟨st,j,nt,F0,ps,a,b,F1,h1,h2,h3.mono ?_⟩;rintro o F2 H2 n2 m2 ⟨rfl,rfl,j2,Bt,G2,ps2,a2,b2,h4,h5⟩;refine⟨rfl,rfl,j2,Bt,G2,ps2,a2,b2,h4,h5.mono ?_⟩;rintro j3 _ H3 n3 _ ⟨st,nt,G,ps,a,b,j0,h6,h7⟩;refine⟨st,nt,G,ps,a,b,j0,h6,?_⟩
 cases j3<;>first|exact hs _ _ _ h7|exact h7
theorem Ci {x:Option AV}{as:Option (List AV)}{H:Hp}{n:Nat}{R S:AV->Hp->Nat->Prop}(hs:∀v H' n',R v H' n'->S v H' n')
  (h:(∃f first cap vs,x=some (.fn (.func f) first cap)/\as=some vs/\ao P f (first++(vs++cap)) H n R)∨(∃q vs,x=some (.iZ q)/\as=some vs/\wu P q vs H n R)):
  (∃f first cap vs,x=some (.fn (.func f) first cap)/\as=some vs/\ao P f (first++(vs++cap)) H n S)∨(∃q vs,x=some (.iZ q)/\as=some vs/\wu P q vs H n S):=by
 rcases h with⟨f,first,cap,vs,a,b,c⟩|⟨q,vs,a,b,c⟩
 ·exact .inl ⟨f,first,cap,vs,a,b,c.mono hs⟩
 exact .inr ⟨q,vs,a,b,c.mono hs⟩
theorem fE.mono:∀(l:List (Option GO))(F:Fr)(H:Hp)(n:Nat)(m:List Dm)(Q Q':QA),(∀o F H n m,Q o F H n m->Q' o F H n m)->fE P l F H n m Q->fE P l F H n m Q'
 |[],_F,_H,_n,_m,_Q,_Q',hq,h=>hq _ _ _ _ _ h
 |none::_,_,_,_,_,_,_,_,h=>h
 |some ⟨none,_pd,.eff _e⟩::r,_F,_H,_n,_m,_Q,_Q',hq,h=>CQ.mono h λ _v _H' _n'=>fE.mono r _ _ _ _ _ _ hq
 |some ⟨none,_pd,.call _g _as⟩::r,_F,_H,_n,_m,_Q,_Q',hq,h=>Ci (λ _v _H' _n'=>fE.mono r _ _ _ _ _ _ hq) h
 |some ⟨none,_,.bad⟩::_,_,_,_,_,_,_,_,h=>h
 |some ⟨none,_,.js _⟩::_,_,_,_,_,_,_,_,h=>h
 |some ⟨none,_,.raw _⟩::_,_,_,_,_,_,_,_,h=>h
 |some ⟨some (_g,_b),_pd,.eff _e⟩::r,_F,_H,_n,_m,_Q,_Q',hq,h=>fA.mono h (λ h=>CQ.mono h λ _v _H' _n'=>fE.mono r _ _ _ _ _ _ hq) (fE.mono r _ _ _ _ _ _ hq)
 |some ⟨some (_g,_b),_pd,.call _ _as⟩::r,_F,_H,_n,_m,_Q,_Q',hq,h=>fA.mono h (λ h=>Ci (λ _v _H' _n'=>fE.mono r _ _ _ _ _ _ hq) h) (fE.mono r _ _ _ _ _ _ hq)
 |some ⟨some (_g,_b),_pd,.bad⟩::r,_F,_H,_n,_m,_Q,_Q',hq,h=>fA.mono h id (fE.mono r _ _ _ _ _ _ hq)
 |some ⟨some (_g,_b),_pd,.js _⟩::r,_F,_H,_n,_m,_Q,_Q',hq,h=>fA.mono h id (fE.mono r _ _ _ _ _ _ hq)
 |some ⟨some (_g,_b),_pd,.raw _⟩::r,_F,_H,_n,_m,_Q,_Q',hq,h=>fA.mono h id (fE.mono r _ _ _ _ _ _ hq)
theorem VC.mono:∀(c:CT)(F:Fr)(H:Hp)(n:Nat)(m:List Dm)(Q Q':QA),(∀o F H n m,Q o F H n m->Q' o F H n m)->VC P c F H n m Q->VC P c F H n m Q'
 |.nw l,F,H,n,m,Q,Q',hq,h=>fE.mono l F H n m Q Q' hq h
 |.dI ds l,F,H,n,m,Q,Q',hq,⟨ce,h,F2,H2,a,s,b⟩=>⟨ce,h,F2,H2,a,s,b.mono hq⟩
 |.seq a b,F,H,n,m,Q,Q',hq,h=>VC.mono a F H n m _ _ (λ o F' H' n' m' h'=>match o,h' with
  |.normal,h'=>VC.mono b F' H' n' m' _ _ hq h'
  |.exit i,h'=>hq _ _ _ _ _ h'
  |.ret,h'=>hq _ _ _ _ _ h'
  |.panic _,h'=>h') h
 |.cond g a b,F,H,n,m,Q,Q',hq,h=>qk.mono h (VC.mono a _ _ _ _ _ _ hq) (VC.mono b _ _ _ _ _ _ hq)
 |.block i b,F,H,n,m,Q,Q',hq,h=>VC.mono b F H n m _ _ (λ o F' H' n' m' h'=>match o,h' with
  |.normal,h'=>hq _ _ _ _ _ h'
  |.exit j,h'=>by
   unfold ig at h' ⊢;dsimp only at h' ⊢
   split at h'
   ·rename_i e;rw[ay e];exact hq _ _ _ _ _ h'
   rename_i e;rw[ak e];exact hq _ _ _ _ _ h'
  |.ret,h'=>hq _ _ _ _ _ h'
  |.panic _,h'=>h') h
 |.loop b,F,H,n,m,Q,Q',hq,⟨I,J,k,h0,hj,hs⟩=>⟨I,J,k,h0,hj,λ k F H n m hi=>VC.mono b F H n m _ _ (λ o F' H' n' m' h'=>match o,h' with
  |.normal,h'=>h'
  |.exit i,h'=>hq _ _ _ _ _ h'
  |.ret,h'=>hq _ _ _ _ _ h'
  |.panic _,h'=>h') (hs k F H n m hi)⟩
 |.exit i,F,H,n,m,Q,Q',hq,h=>hq _ _ _ _ _ h
 |.ret,F,H,n,m,Q,Q',hq,h=>hq _ _ _ _ _ h
 |.skip,F,H,n,m,Q,Q',hq,h=>hq _ _ _ _ _ h
 |.range nt g ps a b,F,H,n,m,Q,Q',hq,⟨f,first,cap,h1,h2⟩=>⟨f,first,cap,h1,h2.mono λ v H' n' ⟨st,j,nt,G,ps,a,b,e1,e2,e3,e4⟩=>⟨st,j,nt,G,ps,a,b,e1,e2,e3,hq _ _ _ _ _ e4⟩⟩
 |.bad,_,_,_,_,_,_,_,h=>h
 |.raw k,F,H,n,m,Q,Q',hq,⟨ce,a,b⟩=>⟨ce,a,b.mono hq⟩
def eT (P:Program) (b:CT) (Q:QA):Nat->Fr->Hp->Nat->List Dm->Prop
 |0,_,_,_,_=>False
 |k+1,F,H,n,m=>VC P b F H n m λ o F' H' n' m'=>match o with
  |.normal=>eT P b Q k F' H' n' m'
  |.exit i=>Q (.exit i) F' H' n' m'
  |.ret=>Q .ret F' H' n' m'
  |.panic _=>False
def agx (P:Program)(b:CT)(Q:QA)(k:Nat):QA:=λ o F' H' n' m'=>match o with
 |.normal=>eT P b Q k F' H' n' m'
 |.exit i=>Q (.exit i) F' H' n' m'
 |.ret=>Q .ret F' H' n' m'
 |.panic _=>False
variable {F:Fr}{H:Hp}{n:Nat}{m:List Dm}{Q:QA}
@[simp] theorem agW (b:CT)(k:Nat):agx P b Q k .normal F H n m=eT P b Q k F H n m:=propext Iff.rfl
@[simp] theorem anq (b:CT)(k i:Nat):agx P b Q k (.exit i) F H n m=Q (.exit i) F H n m:=propext Iff.rfl
@[simp] theorem ao3 (b:CT)(k:Nat):agx P b Q k .ret F H n m=Q .ret F H n m:=propext Iff.rfl
theorem eT.step {b:CT}{k:Nat}(h:VC P b F H n m (agx P b Q k)):eT P b Q (k+1) F H n m:=h
theorem aF.XO {b:CT}(k:Nat)(h:eT P b Q (k+1) F H n m):aF b P F H n m Q:=
 ⟨λ k F H n m=>eT P b Q k F H n m,λ k F H n m=>eT P b Q k F H n m,k+1,h,λ _ _ _ _ _ h=>Zs.refl h,λ k F H n m hi=>by
  cases k with
  |zero=>exact hi.elim
  |succ k =>
   refine VC.mono b F H n m _ _ (λ o F' H' n' m' h'=>?_) hi
   cases o with
   |normal=>exact⟨k,Nat.lt_succ_self k,h'⟩
   |exit i=>exact h'
   |ret=>exact h'
   |panic v=>exact h'⟩
end
end Go.Abs
namespace Go.Abs
open List
def OwnB (k:bJ)(l:List AV):Prop:=∃u z bs t,k=.cells u z bs t/\u=l.length/\(∀i,gR u z bs t i=l[i]?)/\(t=.nil->z=[]->bs.length=u)
theorem OwnB.list {l:List AV}{u:Nat}(h:u=l.length):OwnB (.cells u [] l .nil) l:=⟨u,[],l,.nil,rfl,h,λ i=>by
 rw[jr]
 split
 ·rfl
 rw[getElem?_eq_none ah],λ _ _=>h.symm⟩
theorem qI {u:Nat}{z bs:List AV}{t:Ov AV}{l:List AV}(hg:∀i,gR u z bs t i=l[i]?)(o:Nat):∀(k:Nat)(acc:List AV),o+k<=l.length->vG u z bs t o k acc=some ((l.drop o).take k++acc)
 |0,acc,_=>by simp;rfl
 |k+1,acc,h=>by
  show lI (gR u z bs t (o+k)) none (λ v=>vG u z bs t o k (v::acc))=_;rw[hg,cY ah];simp only[Ut];rw[qI hg o k _ ah,take_add_one,append_assoc]
  congr 1
  simp[cY (show o+k<l.length by omega)]
theorem OwnB.jT {k:bJ}{l:List AV}(h:OwnB k l){o c:Nat}(hc:o+c<=l.length):∃u z bs t,k=.cells u z bs t/\Go.Abs.jT u z bs t o c=some ((l.drop o).take c):=by
 obtain⟨u,z,bs,t,rfl,hu,hg,hi⟩:=h;refine⟨u,z,bs,t,rfl,?_⟩
 have ex:∃r,Go.Abs.jT u z bs t o c=some r:=by
  have hb:Nat.ble (Nat.add o c) u=true:=vZ (by rw[hu];exact hc)
  have orr:∀r,∃l',orR r u z bs t o c=some l':=by
   intro r;unfold orR
   split
   ·exact⟨_,rfl⟩
   exact⟨_,qI hg o c [] hc⟩
  unfold Go.Abs.jT
  split
  ·split
   ·split
    ·exact⟨_,rfl⟩
    rw[hb];exact orr _
   split
   ·rw[hb];exact⟨_,rfl⟩
   exact⟨_,qI hg o c [] hc⟩
  ·rw[hb];exact orr _
  rw[hb];dsimp only
  split
  ·split
   ·exact orr _
   exact orr _
  exact⟨_,qI hg o c [] hc⟩
 obtain⟨r,hr⟩:=ex;rw[hr];obtain⟨h1,h2⟩:=kL hi hr
 congr 1
 apply ext_getElem?;intro i
 by_cases hlt:i<c
 ·rw[<-h2 i hlt,hg,getElem?_take,ay hlt,kV]
 rw[getElem?_eq_none ah,getElem?_eq_none (by simp;omega)]
def aD (H:Hp)(n:Nat)(v:AV)(l:List AV)(len sz:Nat):Prop:=l.length=len*sz/\((v=.aV (.slice none 0 0)/\len=0)∨∃b k,v=.sl b 0 len sz/\b<n/\H.get b=some k/\OwnB k l)
section
variable {P:Program}{F:Fr}{H:Hp}{n:Nat}{m:List Dm}{Q:QA}
theorem aD.nil (H:Hp)(n sz:Nat):aD H n (.aV (.slice none 0 0)) [] 0 sz:=⟨ai,.inl ⟨rfl,rfl⟩⟩
theorem aD.nz {v:AV}{l l':List AV}{len sz:Nat}(h:aD H n v l len sz)(hl:bp H.get l l')(hz:0<sz:=by omega):fj H.get v (.ds l' len sz):=by
 obtain⟨s',rfl⟩:∃k,sz=k+1:=⟨sz - 1,ah⟩;obtain⟨h0,⟨rfl,rfl⟩|⟨b,k,rfl,hb,hk,ho⟩⟩:=h
 ·have:l=[]:=by simpa using h0
  subst this;cases hl;exact .nil _
 obtain⟨u,z,bs,t,rfl,hg⟩:=ho.jT (o:=0) (c:=len*(s'+1)) ah;refine .sl _ _ _ _ _ _ _ _ _ _ hk hg ?_;rw[drop_zero,fZ ah];exact hl
theorem bp.pure {h:Hf}{l:List AV}(hl:aS l):bp h l l:=by
 induction l with
 |nil=>exact .nil
 |cons v r ih=>simp only[rP]at hl;exact .cons _ _ _ _ (.pure _ hl.1) (ih hl.2)
theorem aD.gZ {v x:AV}{l new:List AV}{len sz gp k:Nat}(h:aD H n v l len sz) (hx:aX H sz x=some new) (hk:sliceLen x=some k) (hn:new.length=k*sz)
  (hs:0<sz)(hk0:0<k)(hbig:len+k<=big)(hby:gp<=4096)(h1:bo new=true):
  ∃H',(∀K:AV->Hp->Nat->Prop,CQ (Go.Abs.gZ sz gp n v x H) H n K=K (.sl n 0 (len+k) sz) H' (n+1))/\aD H' (n+1) (.sl n 0 (len+k) sz) (l++new) (len+k) sz/\∀c,c≠n->v≠.sl c 0 len sz->H'.get c=H.get c:=by
 unfold Go.Abs.gZ;rw[hx,hk];dsimp only;obtain⟨h0,⟨rfl,rfl⟩|⟨b,kb,rfl,hb,hkb,u,z,bs,t,rfl,hu,hg,hi⟩⟩:=h
 ·have hl:l=[]:=by simpa using h0
  subst hl
  have e:oS sz gp n k new H (.aV (.slice none 0 0))=.new (.sl n 0 k sz) (.cells (k*sz) [] new .nil):=by
   unfold oS;simp only[lO,wJ,tJ,show ¬k=0 by omega,hs,show k<=big by omega,hby,h1,decide_true,decide_false,Bool.and_self]
  rw[e];refine⟨_,λ K=>(by rw[tA];rfl),⟨by simp[hn],.inr ⟨n,.cells (k*sz) [] new .nil,ai,ah,ai,?_⟩⟩,λ c hc _=>?_⟩
  ·simpa using OwnB.list (l:=new) hn.symm
  simp[show ¬c=n by omega]
 have e:oS sz gp n k new H (.sl b 0 len sz)=.mv (.sl n 0 (len+k) sz) b (.cells ((len+k)*sz) z bs (Ov.bO new (len*sz) t)):=by
  unfold oS Iy;simp only[lO,wJ,tJ,show ¬k=0 by omega,hs,hbig,hby,h1,decide_true,decide_false,Bool.and_self,hkb,hu,h0,aL,dj]
 rw[e];have hm:(len+k)*sz=len*sz+k*sz:=Nat.add_mul _ _ _;refine⟨_,λ K=>rfl,⟨by simp[hn,h0,hm],.inr ⟨n,.cells ((len+k)*sz) z bs (Ov.bO new (len*sz) t),rfl,ah,ai,_,z,bs,_,rfl,by simp[hn,h0,hm],λ i=>?_,λ ht=>?_⟩⟩,λ c hc hne=>?_⟩
 ·rw[cM,Ov.bI]
  by_cases hlt:i<(len+k)*sz
  ·rw[ay hlt]
   by_cases jf:len*sz<=i/\i<len*sz+new.length
   ·rw[ay jf,getElem?_append_right ah,h0];rw[cY ah]
   rw[ak jf,getElem?_append_left ah];have:=hg i;rw[cM,ay ah]at this;exact this
  rw[ak hlt,getElem?_eq_none (by simp[h0,hn];omega)]
 ·exfalso
  cases new with
  |nil=>simp at hn;have:0<k*sz:=Nat.mul_pos hk0 hs;omega
  |cons v r =>
   have:=Ov.bI (v::r) (len*sz) t (len*sz);rw[ht,ay ai]at this;simp at this
 have:c≠b:=λ e=>hne (by rw[e]);simp[show ¬c=n by omega,this]
theorem aD.app {v x:AV}{l new:List AV}{len sz gp k:Nat}{pd:Pd}{r:List (Option GO)}(h:aD H n v l len sz)(hx:aX H sz x=some new)(hk:sliceLen x=some k)(hn:new.length=k*sz)
  (hs:0<sz)(hk0:0<k)(hbig:len+k<=big)(hby:gp<=4096)(h1:bo new=true)
  (hgo:∀H',aD H' (n+1) (.sl n 0 (len+k) sz) (l++new) (len+k) sz->(∀c,c<n->v≠.sl c 0 len sz->H'.get c=H.get c)->fE P r (pd.f (.sl n 0 (len+k) sz) F) H' (n+1) m Q):Gf (Go.Abs.gZ sz gp n v x H) pd r P F H n m Q:=by
 obtain⟨H',e,h1,h2⟩:=h.gZ hx hk hn hs hk0 hbig hby h1;unfold Gf;rw[e];exact hgo H' h1 λ c hc=>h2 c (Nat.ne_of_lt hc)
theorem aD.ax5 {ce:Ce}{Hs:List Hp}{v x:AV}{l new:List AV}{len sz gp k:Nat}{pd:Pd}{r:List (Option RO)}(h:aD H n v l len sz)(hx:aX H sz x=some new)(hk:sliceLen x=some k)(hn:new.length=k*sz)
  (hs:0<sz)(hk0:0<k)(hbig:len+k<=big)(hby:gp<=4096)(h1:bo new=true)
  (hgo:∀H',aD H' (n+1) (.sl n 0 (len+k) sz) (l++new) (len+k) sz->(∀c,c<n->v≠.sl c 0 len sz->H'.get c=H.get c)->Ev ((fY r).f ce (pd.f (.sl n 0 (len+k) sz) F) H' (H'::Hs) (n+1) m) Q):Vs (Go.Abs.gZ sz gp n v x H) pd r ce F H Hs n m Q:=by
 obtain⟨H',e,h1,h2⟩:=h.gZ hx hk hn hs hk0 hbig hby h1;unfold Vs;rw[e];exact hgo H' h1 λ c hc=>h2 c (Nat.ne_of_lt hc)
def CP (P:Program)(g:FuncId)(args l:List AV)(len sz:Nat):Prop:=∀(H:Hp)(n:Nat),bC P g args H n (.sl n 0 len sz) (H.put n (some (.cells (len*sz) [] l .nil))) (n+1)
theorem CP.of {g:FuncId}{args l:List AV}{len sz:Nat}(hp:aS args) (hl:aS l) (h0:0<len) (h:ao P g args .nil 0 (λ v H' n'=>aD H' n' v l len sz)):CP P g args l len sz:=by
 intro H n;refine⟨h.1,Nat.le_succ n,λ φ D w xs hr hv hf R hR=>?_⟩;refine h.2 lF D w xs (tw hr.eQ) (hp.vW hv) (λ _ _=>rfl) R λ v H' n' φ' D' w' x ho e r hx=>?_;obtain⟨hlen,⟨_,hz⟩|⟨b,k,rfl,hb,hk,ho⟩⟩:=ho
 ·omega
 cases hx with
 |sl _ _ _ _ cb co cz cap ad hp' hle had =>
 have hn:φ n=none:=hf n (aL _) ah;have hm:=Ph.gG (p:=(cb,co,cz)) hn;have hlive:=r.block hk hp'
 have hcb:w.heap.size<=cb:=by
  rcases e.live b _ (by rw[hk];simp) hp' with h|⟨b0,p0,hh,_⟩
  ·exact h
  simp at hh
 have hdn:∀c,D' c≠none->D c≠none∨w.heap.size<=c:=by
  intro c hc
  rcases e.kD c hc with h|h|⟨b0,p0,hh,_⟩
  ·exact .inl h
  ·exact .inr h
  simp at hh
 have hold:∀c p,H.get c≠none->φ c=some p->p.1<w.heap.size:=by
  intro c p hc hp
  cases hx:H.get c with
  |none=>exact aw hx hc
  |some k=>exact(hr.block hx hp).1
 have hhn:H.get n=none:=by
  cases hx:H.get n with
  |none=>rfl
  |some k=>obtain⟨p,hp,_⟩:=hr.blk n k hx;rw[hn]at hp;cases hp
 refine hR (φ.set n (cb,co,cz)) D' w' _ ⟨Nat.le_succ n,hm,?_,e.eQ,e.size,λ c hc _=>e.keep c hc λ b p hb=>by simp at hb,?_,λ c hc=>(hdn c hc).elim .inl λ h=>.inr (.inl h),?_,e.os,e.out⟩ ⟨?_,?_,?_,r.eQ⟩ ?_
 ·intro c h0 h1;unfold Ph.set at h1
  by_cases hc:c=n
  ·omega
  simp[hc,h0]at h1
 ·intro c p hc hp;rw[Tr.get_put]at hc;unfold Ph.set at hp
  by_cases hcn:c=n
  ·subst hcn;simp at hp;subst hp;exact .inl hcb
  simp[hcn]at hc hp;exact .inr ⟨c,p,hc,hp,rfl⟩
 ·intro c hc;rw[Tr.get_put]at hc
  by_cases hcn:c=n
  ·exact .inr ah
  simp[hcn]at hc;exact .inl hc
 ·intro c kk hc;rw[Tr.get_put]at hc
  by_cases hcn:c=n
  ·subst hcn;simp at hc;subst hc;refine⟨(cb,co,cz),by simp[Ph.set],hlive.1,?_⟩;obtain⟨u,z,bs,t,rfl,hu,hg,hi⟩:=ho;obtain⟨cc,ee,fr,q1,q2,q3,q4,q5,q6⟩:=hlive.2;refine⟨cc,ee,fr,q1,q2,q3,λ i v hv=>?_,λ _ _=>hlen,ah⟩;rw[jr]at hv
   split at hv
   ·have:=hg i;rw[hv]at this;obtain⟨y,hy,hvy⟩:=q4 i v this;exact⟨y,hy,(hl.mem v (mem_of_getElem? hv)).out hvy⟩
   cases hv
  rw[ak hcn]at hc;obtain⟨p,hp,hlt,hbk⟩:=hr.blk c kk hc;exact⟨p,hm _ _ hp,Nat.lt_of_lt_of_le hlt e.size,hbk.mono hm e.eQ (e.keep _ hlt λ b p hb=>by simp at hb)⟩
 ·intro c d p q hc hd hp hq hpq;rw[Tr.get_put]at hc hd;unfold Ph.set at hp hq
  by_cases h1:c=n<;>by_cases h2:d=n<;>simp[h1,h2]at hc hd hp hq ⊢
  ·have:=hold d q hd hq;rw[<-hp]at hpq;simp at hpq;omega
  ·have:=hold c p hc hp;rw[<-hq]at hpq;simp at hpq;omega
  exact hr.inj c d p q hc hd hp hq hpq
 ·intro c p hc hp;rw[Tr.get_put]at hc;unfold Ph.set at hp
  by_cases h1:c=n
  ·subst h1;simp at hp;subst hp;exact r.sep b (cb,co,cz) (by rw[hk];simp) hp'
  simp[h1]at hc hp
  cases hD:D' p.1 with
  |none=>rfl
  |some x =>
   rcases hdn p.1 (by rw[hD];simp)with h|h
   ·exact aw (hr.sep c p hc hp) h
   have:=hold c p hc hp;omega
 exact .sl _ _ _ _ cb co cz cap ad (by simp[Ph.set]) hle had
open Classical in
def ceT (l:List (FuncId×List AV×(Hp->Nat->hU))):Ce:=Au λ g args H n=>match l.find? (λ x=>decide (x.1=g/\x.2.1=args))with
 |some x=>x.2.2 H n
 |none=>.fail
theorem dX {l:List (FuncId×List AV×(Hp->Nat->hU))}(h:∀x∈l,∀H n v H' n',x.2.2 H n=.mk v H' n'->bC P x.1 x.2.1 H n v H' n'):iD P (ceT l):=by
 refine Ek λ g args H n v H' n' e=>?_
 split at e
 ·rename_i x hx;have h1:=find?_some hx;simp at h1;obtain⟨rfl,rfl⟩:=h1;exact h x (mem_of_find?_eq_some hx) H n v H' n' e
 cases e
theorem bY (g:FuncId)(args:List AV)(f:Hp->Nat->hU)(l:List (FuncId×List AV×(Hp->Nat->hU)))(H:Hp)(n:Nat):(ceT ((g,args,f)::l)).call g args H n=yw (f H n):=by
 simp[ceT,Au]
theorem sP {g g':FuncId}{args args':List AV}{f:Hp->Nat->hU}{l:List (FuncId×List AV×(Hp->Nat->hU))}(h:g=g'->args=args'->∀H n,(ceT l).call g args H n=yw (f H n))(H:Hp)(n:Nat):(ceT ((g',args',f)::l)).call g args H n=(ceT l).call g args H n:=by
 by_cases e:g'=g/\args'=args
 ·obtain⟨rfl,rfl⟩:=e;rw[h rfl rfl,bY]
 simp only[ceT,Au,find?_cons,e,decide_false]
theorem cy {g:FuncId}{args:List AV}{u:AV}(h:aj P g args u):∀H n v H' n',hU.mk u H n=.mk v H' n'->bC P g args H n v H' n':=by
 intro H n v H' n' e;cases e;exact h.KV H n
theorem Qs {g:FuncId}{args l:List AV}{len sz:Nat}(h:CP P g args l len sz):∀H n v H' n',hU.mk (.sl n 0 len sz) (H.put n (some (.cells (len*sz) [] l .nil))) (n+1)=.mk v H' n'->bC P g args H n v H' n':=by
 intro H n v H' n' e;cases e;exact h H n
end
theorem fj.bool {h:Hf}{a b:Bool}(e:a=b):fj h (.bool a) (.bool b):=by subst e;exact .pure _ ai
theorem fj.eq {h:Hf}{v v':AV}(hp:Pure v')(e:v=v'):fj h v v':=by subst e;exact .pure _ hp
@[simp] theorem ad8 (H:Hp)(cs:List AV)(len sz:Nat):aX H sz (.ds cs len sz)=some cs:=by simp[aX]
@[simp] theorem agR (cs:List AV)(len sz:Nat):sliceLen (.ds cs len sz)=some len:=Eq.trans rfl rfl
@[simp] theorem agQ (b o len sz:Nat):sliceLen (.sl b o len sz)=some len:=Eq.trans rfl rfl
theorem bU {H:Hp}{b o len sz:Nat}{k:bJ}{l:List AV}(hb:H.get b=some k)(ho:OwnB k l)(hl:o+len*sz<=l.length):aX H sz (.sl b o len sz)=some ((l.drop o).take (len*sz)):=by
 obtain⟨u,z,bs,t,rfl,hg⟩:=ho.jT hl;simp only[aX,lO,decide_true,cond_true,hb,hg]
end Go.Abs
namespace Go.Abs
open List
open Go.RowKit Go.ChangeShapes
def fk (w:World):Da:=λ c=>match w.heap[c]? with
 |some (.cells x _ _)=>some x
 |_=>none
theorem Y6 (w:World)(hg:GB (fk w)):Dat (fk w) w:=by
 refine⟨λ c x h=>?_,hg⟩;unfold fk at h
 split at h
 ·rename_i y e fr hy;injection h with h;subst h;exact⟨e,fr,hy⟩
 cases h
inductive uo {α β:Type} (R:α->β->Prop):List α->List β->Prop
 |nil:uo R [] []
 |cons {a b l m}:R a b->uo R l m->uo R (a::l) (b::m)
theorem uo.append {α β:Type}{R:α->β->Prop} {a b c d}(h:uo R a b)(k:uo R c d):uo R (a++c) (b++d):=by
 induction h with
 |nil=>exact k
 |cons h1 _ ih=>exact .cons h1 ih
section
variable {H:Type}{enc:TypeId×Value->H}{P:Program}{w:World}{base:Nat}{spare:Nat->Bool}{held:Bool}
theorem Hv {α:Type}{f:Nat->Option α}:∀ {k:Nat}{l:List α},(range k).mapM f=some l->l.length=k/\∀i,i<k->f i=l[i]?:=by
 intro k l h;exact⟨by simpa using mapM_some_length h,λ i hi=>mapM_some_get h i i (by simp[hi])⟩
theorem Iu {cb co i s:Nat}{x:Array Value}{e:TypeId}{fr:Nat×Nat}{cs:List Value}(hx:w.heap[cb]?=some (.cells x e fr)) (h:w.cells? base ((⟨cb,co,none⟩:Addr).add i) s=some cs):cs=(x.toList.drop (co+i)).take s/\cs.length=s:=by
 unfold World.cells? at h
 split at h
 ·obtain⟨hl,hg⟩:=Hv h;refine⟨?_,hl⟩;apply ext_getElem?;intro j
  by_cases hj:j<s
  ·rw[<-hg j hj,getElem?_take,ay hj,kV]
   have ha:((⟨cb,co,none⟩:Addr).add i).add j=⟨cb,co+i+j,none⟩:=by
    unfold Addr.add
    by_cases h1:i=0<;>by_cases h2:j=0<;>simp[h1,h2]
   rw[ha];simp[World.cell?,hx]
  rw[getElem?_eq_none ah,getElem?_eq_none (by simp;omega)]
 cases h
theorem HW {α:Type}{av:α->List AV}{s:Nat}(hav:∀a,(av a).length=s)(l:List α):(l.flatMap av).length=l.length*s:=by
 induction l with
 |nil=>simp
 |cons a r ih=>rw[flatMap_cons,length_append,ih,hav,length_cons,Nat.add_mul];omega
theorem xW {α:Type}{av:α->List AV}{R:α->DataW H->Prop}{t e:TypeId}{s fuel:Nat}{cs:List Value}{x:DataW H×List MemPlace}(ht:P.underlying t=some (.slice e)) (hs:P.cellsOf e=s) (h0:0<s) (hav:∀a,(av a).length=s)
  (hel:∀n cs y,n<fuel->DataW.trod enc P w base spare held n e cs=some y->∃a,bT lF (fk w) (av a) cs/\R a y.1)
  (h:DataW.trod enc P w base spare held fuel t cs=some x):∃v l,cs=[v]/\VR lF (fk w) (.ds (l.flatMap av) l.length s) v/\((l=[]/\x.1=.nil)∨∃ds rest,x.1=.slice ds rest/\uo R l ds):=by
 rcases DataW.trod_slice ht h with⟨rfl,rfl⟩|⟨a,len,cap,elems,rest,n,rfl,rfl,rfl,_,hle,_,hlen,hg,_,_⟩
 ·obtain⟨s,rfl⟩:∃k,s=k+1:=⟨s - 1,ah⟩;exact⟨_,[],rfl,.tQ s,.inl ⟨rfl,rfl⟩⟩
 refine⟨.slice (some a) len cap,?_⟩
 by_cases hl0:len=0
 ·subst hl0;have:elems=[]:=length_eq_zero_iff.1 hlen;subst this;exact⟨[],rfl,.pY _ _ _,.inr ⟨_,_,rfl,.nil⟩⟩
 rw[hs]at hg;have h00:=hg 0 ah;have hlt0:0<elems.length:=ah;rw[cY hlt0,iC]at h00;obtain⟨cs0,hc0,_⟩:=h00;obtain⟨cb,co,sp⟩:=a
 have hsp:sp=none/\∃x e fr,w.heap[cb]?=some (.cells x e fr):=by
  unfold World.cells? at hc0
  split at hc0
  ·obtain⟨hl,hg'⟩:=Hv hc0;have:=hg' 0 h0;rw[cY ah]at this;simp only[Nat.zero_mul,Addr.add,if_true,World.cell?]at this
   split at this
   ·rename_i x e fr hx
    cases sp with
    |none=>exact⟨rfl,x,e,fr,hx⟩
    |some _=>simp at this
   cases this
  cases hc0
 obtain⟨rfl,xs,ee,fr,hx⟩:=hsp;have hD:fk w cb=some xs:=by simp[fk,hx]
 have key:∀k,k<=len->∃l:List α,l.length=k/\bT lF (fk w) (l.flatMap av) ((xs.toList.drop co).take (k*s))/\uo R l ((elems.map (·.1)).take k):=by
  intro k
  induction k with
  |zero=>intro _;exact⟨[],rfl,by simpa using bT.nil,by simpa using uo.nil⟩
  |succ k ih =>
   intro hk;obtain⟨l,h1,h2,h3⟩:=ih ah;have hk':k<elems.length:=ah;have:=hg k ah;rw[cY hk',iC]at this;obtain⟨ck,hck,htk⟩:=this;obtain⟨b,hb1,hb2⟩:=hel n ck _ (Nat.lt_succ_self n) htk;obtain⟨hcc,hcl⟩:=Iu hx hck;refine⟨l++[b],by simp[h1],?_,?_⟩
   ·rw[flatMap_append,show (k+1)*s=k*s+s by rw[Nat.add_mul];simp,take_add,drop_drop];refine h2.append ?_;rw[<-hcc];simpa using hb1
   rw[take_succ_eq_append_getElem (by simpa using hk')];exact uo.append h3 (.cons (by simpa using hb2) .nil)
 obtain⟨l,h1,h2,h3⟩:=key len (aL _);refine⟨l,rfl,?_,.inr ⟨_,_,rfl,?_⟩⟩
 ·rw[h1];refine .ds _ _ _ _ _ _ _ _ hD rfl ?_ h2 hle;rw[HW hav,h1]
 rw[fZ (by simp;omega)]at h3;exact h3
end
theorem xX {φ:Ph}{D:Da}{cs:List AV}{n:Nat}{v:Value}(hl:cs.length=n)(h2:n≠1)(h:bT φ D cs v.cells.toList):VR φ D (.agg cs n) v:=by
 cases v with
 |agg xs=>obtain⟨l⟩:=xs;exact .agg _ _ _ h hl
 |_=>have:=h.length;simp[Value.cells]at this;omega
theorem afC {w w':World}{may:MemPlace->Prop}(hos:w'.os=w.os)(hout:w'.output=w.output)(hk:∀c,c<w.heap.size->w'.heap[c]?=w.heap[c]?):w.keptBut w' may:=by
 refine⟨hos,hout,λ i hi=>?_⟩;rw[hk i hi]
 cases w.heap[i]? with
 |none=>trivial
 |some o=>cases o<;>simp
theorem aeJ {w w':World}(hk:∀c,c<w.heap.size->w'.heap[c]?=w.heap[c]?){p:MemPlace}(hp:p.block<w.heap.size):w.sameAt w' p:=by
 cases p with
 |cell b o=>exact World.cell?_of_block (w:=w) (hk b hp)
 |map b=>exact hk b hp
theorem trod_stays {H:Type}{enc:TypeId×Value->H}{P:Program}{t:TypeId}(hl:laidOutB P=true)(hr:P.readableRec t=true)(hrow:t<P.types.size){w w':World}{v:Value}{d:DataW H}{ps:List MemPlace}
  (h:DataW.Trod enc P w 0 (λ _=>true) true t v d ps)(hk:∀c,c<w.heap.size->w'.heap[c]?=w.heap[c]?)(hlt:∀x∈ps,x.block<w.heap.size):
  DataW.Trod enc P w' 0 (λ b=>decide (b<w.heap.size)) true t v d ps:=
 WideElems.Trod_stays hl hr hrow h (λ x hx=>aeJ hk (hlt x hx)) (λ x hx=>by simpa using hlt x hx)
theorem rA {H:Type}{enc:TypeId×Value->H}{P:Program}(hl:laidOutB P=true){w w':World}(hk:∀c,c<w.heap.size->w'.heap[c]?=w.heap[c]?):∀ {ts:List TypeId}{vs:List Value}{ds:List (DataW H)}{ps:List MemPlace},
  (∀t∈ts,P.readableRec t=true/\t<P.types.size)->DataW.TrodAll enc P w 0 (λ _=>true) true ts vs ds ps->(∀x∈ps,x.block<w.heap.size)->DataW.TrodAll enc P w' 0 (λ b=>decide (b<w.heap.size)) true ts vs ds ps
 |[],[],[],_,_,h,_=>h
 |t::ts,v::vs,d::ds,_,ht,⟨p,q,h1,h2,e⟩,hlt=>by
  subst e;exact⟨p,q,trod_stays hl (ht t ai).1 (ht t ai).2 h1 hk λ x hx=>hlt x (by simp[hx]),rA hl hk (λ u hu=>ht u (by simp[hu])) h2 λ x hx=>hlt x (by simp[hx]),rfl⟩
 |[],_::_,_,_,_,h,_=>h.elim
 |[],[],_::_,_,_,h,_=>h.elim
 |_::_,[],_,_,_,h,_=>h.elim
 |_::_,_::_,[],_,_,h,_=>h.elim
theorem Ye {H:Type}{enc:TypeId×Value->H}{P:Program}{f:Func}{s:ChangeSpec}{w w':World}{args:Array Value}{ds gs:List (DataW H)}{before:List MemPlace}{tb:TypeId}(hl:laidOutB P=true)
  (ht:∀t∈f.params.toList,P.readableRec t=true/\t<P.types.size)(hvars:s.vars=[])(hres:f.resultTypes=#[tb])(hb:P.underlying tb=some .bool)
  (hfn:s.fn H (ds++gs)={results:=[.lit (.bool true)],args:=ds,vars:=[]})
  (hW:DataW.Whole enc P f.params.toList s.vars false w args.toList ds gs before)(hos:w'.os=w.os)(hout:w'.output=w.output)(hk:∀c,c<w.heap.size->w'.heap[c]?=w.heap[c]?):
  s.post enc P f false true false false w args (.bool true) w':=by
 have hW':=hW;obtain⟨p,q,hA,hV,rfl,hfz,hnd⟩:=hW;rw[hvars]at hV
 obtain⟨rfl,rfl⟩:gs=[]/\q=[]:=by
  cases gs with
  |nil=>exact⟨rfl,hV⟩
  |cons=>exact hV.elim
 refine⟨ds,[],p++[],[],p,[],hW',?_,?_,?_,afC hos hout hk,λ h=>by cases h⟩
 ·rw[hfn,hres];simp only[Value.resultList];exact⟨[],[],⟨1,by unfold DataW.trod;simp[hb,Value.cells]⟩,rfl,rfl⟩
 ·rw[hfn];exact rA hl hk ht hA λ x hx=>by simpa using hW'.lt x (by simp[hx])
 rw[hfn,hvars];exact rfl
end Go.Abs
