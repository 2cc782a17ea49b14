/- A part. -/
import Derived.Test.YtlhafglnokpioaaGreatAbs4
import Derived.ChangeArms
import Derived.Carry
import Derived.OpenShut
import Derived.ProofKit
import Derived.JoinedCond
import Derived.WalkKit
noncomputable section
namespace Go.Abs
open List
mutual
def Pure:AV->Prop
 |.int _ _=>True
 |.bool _=>True
 |.str _=>True
 |.aV _=>True
 |.agg cs _=>aP cs
 |.bo cs=>aP cs
 |.ds cs _ _=>aP cs
 |.dp cs=>aP cs
 |.fn _ a b=>aP a/\aP b
 |.oO _ v=>Pure v
 |.ptr _ _=>False
 |.sl _ _ _ _=>False
 |.map _=>False
 |.jd _=>False
def aP:List AV->Prop
 |[]=>True
 |v::r=>Pure v/\aP r
end
mutual
theorem Pure.out {φ φ':Ph}{D:Da}:∀ {v:AV}{x:Value},Pure v->VR φ D v x->VR φ' D v x
 |.int _ _,_,_,.int _ _=>.int _ _
 |.bool _,_,_,.bool _=>.bool _
 |.str _,_,_,.str _ _ e=>.str _ _ e
 |.aV _,_,_,.aV _ e=>.aV _ e
 |.agg _ _,_,h,.agg _ _ _ a b=>.agg _ _ _ (aP.uy (by simpa only [Pure]using h) a) b
 |.bo _,_,h,.bo _ _ a=>.bo _ _ (aP.uy (by simpa only [Pure]using h) a)
 |.ds _ _ _,_,h,.ds _ _ _ _ _ _ _ _ a b c d e=>.ds _ _ _ _ _ _ _ _ a b c (aP.uy (by simpa only [Pure]using h) d) e
 |.ds _ _ _,_,_,.pW _ _ _=>.pW _ _ _
 |.ds _ _ _,_,_,.tW _=>.tW _
 |.dp _,_,h,.dp _ _ _ _ _ a b c=>.dp _ _ _ _ _ a b (aP.uy (by simpa only [Pure]using h) c)
 |.fn _ _ _,_,h,.fn _ _ _ _ _ a b=>.fn _ _ _ _ _ (aP.uy (by simp only[Pure]at h;exact h.1) a) (aP.uy (by simp only[Pure]at h;exact h.2) b)
 |.oO _ _,_,h,.oO _ _ _ a=>.oO _ _ _ (Pure.out (by simpa only [Pure]using h) a)
theorem aP.uy {φ φ':Ph}{D:Da}:∀ {vs:List AV}{xs:List Value},aP vs->bW φ D vs xs->bW φ' D vs xs
 |[],_,_,.nil=>.nil
 |_::_,_,h,.cons _ _ _ _ h1 h2=>.cons _ _ _ _ (Pure.out (by simp only[aP]at h;exact h.1) h1) (aP.uy (by simp only[aP]at h;exact h.2) h2)
end
@[simp] theorem ao3 (k:IntKind)(i:Int):Pure (.int k i):=by simp only[Pure]
@[simp] theorem anf (b:Bool):Pure (.bool b):=by simp only[Pure]
@[simp] theorem ao2 (l:List Nat):Pure (.str l):=by simp only[Pure]
@[simp] theorem ao4 (v:Value):Pure (.aV v):=by simp only[Pure]
@[simp] theorem as7 (cs:List AV)(len sz:Nat):Pure (.ds cs len sz)=aP cs:=by simp only[Pure]
@[simp] theorem as8 (cs:List AV):Pure (.dp cs)=aP cs:=by simp only[Pure]
@[simp] theorem ao5 (cs:List AV)(n:Nat):Pure (.agg cs n)=aP cs:=by simp only[Pure]
@[simp] theorem ao1 (cs:List AV):Pure (.bo cs)=aP cs:=by simp only[Pure]
@[simp] theorem as6 (f:Fn)(a b:List AV):Pure (.fn f a b)=(aP a/\aP b):=by simp only[Pure]
@[simp] theorem T8:aP []:=by simp only[aP]
@[simp] theorem rR (v:AV)(r:List AV):aP (v::r)=(Pure v/\aP r):=by simp only[aP]
@[simp] theorem aeL (a b:List AV):aP (a++b)=(aP a/\aP b):=by
 induction a with
 |nil=>simp
 |cons v r ih=>simp[ih,and_assoc]
theorem aP.mem {a:List AV}(h:aP a):∀v∈a,Pure v:=by
 induction a with
 |nil=>intro v hv;simp at hv
 |cons u r ih =>
  simp only[rR]at h;intro v hv
  cases hv with
  |head=>exact h.1
  |tail _ hm=>exact ih h.2 v hm
theorem aP.rW {a:List AV}(h:∀v∈a,Pure v):aP a:=by
 induction a with
 |nil=>simp
 |cons v r ih=>simp only[rR];exact⟨h v ah,ih λ u hu=>h u (by simp[hu])⟩
section
variable {P:Program}
def bu (P:Program) (g:FuncId) (args:List AV) (H:Hp) (n:Nat) (v:AV) (H':Hp) (n':Nat):Prop:=
 (∃ fn b, P.funcs[g]? = some fn ∧ fn.body = some b ∧ (fn.name == "runtime.NumGoroutine") = false) ∧ n ≤ n' ∧
  ∀ φ D w xs,Rel φ D H.get w->bW φ D args xs->cU φ n n'->∀R:Ending->World->Prop,
   (∀ φ' D' w' x,Ext φ D H.get w n φ' D' H'.get w' n'->Rel φ' D' H'.get w'->VR φ' D' v x->R (.returned x) w')->CallsIn Fence.wide 0 P g ⟨xs⟩ w R
theorem UD {ce:Ce}(hce:iI P ce){g:FuncId}{args:List AV}{H:Hp}{n:Nat}{v:AV}{H':Hp}{n':Nat}(h:my P ce g args H n=.mk v H' n'):bu P g args H n v H' n':=
 sH hce h (.ret ..)
def mJ:Ph:=λ _=>none
structure Kept (D D':Da)(w w':World):Prop where
 eS:∀c x,D c=some x->D' c=some x
 size:w.heap.size<=w'.heap.size
 keep:∀c,c<w.heap.size->w'.heap[c]?=w.heap[c]?
 kR:∀c,D' c≠none->D c≠none∨w.heap.size<=c
 os:w'.os=w.os
 out:w'.output=w.output
structure aj (P:Program)(g:FuncId)(args:List AV)(v:AV):Prop where
 body : ∃ fn b, P.funcs[g]? = some fn ∧ fn.body = some b ∧ (fn.name == "runtime.NumGoroutine") = false
 ao':aP args
 ao0:Pure v
 run:∀D w xs,Dat D w->bW mJ D args xs->∀R:Ending->World->Prop,(∀D' w' x,Kept D D' w w'->Dat D' w'->VR mJ D' v x->R (.returned x) w')->CallsIn Fence.wide 0 P g ⟨xs⟩ w R
theorem aj.Ky {g:FuncId}{args:List AV}{v:AV}(h:aj P g args v) (H:Hp) (n:Nat):bu P g args H n v H n:=by
 refine⟨h.body,aK _,λ φ D w xs hr hv _ R hR=>?_⟩;refine h.run D w xs hr.eS (h.ao'.uy hv) R λ D' w' x hk hd hx=>?_;refine hR φ D' w' x ⟨aK _,λ _ _ h=>h,λ _ a b=>ar a b,hk.eS,hk.size,λ c hc _=>hk.keep c hc,λ b p hb hp=>.inr ⟨b,p,hb,hp,rfl⟩,λ c hc=>(hk.kR c hc).elim .inl λ h=>.inr (.inl h),λ _ h=>.inl h,hk.os,hk.out⟩ ?_ (h.ao0.out hx);refine⟨λ b k hb=>?_,hr.inj,λ b p hb hp=>?_,hd⟩
 ·obtain⟨p,hp,hl,hk'⟩:=hr.blk b k hb;exact⟨p,hp,Nat.lt_of_lt_of_le hl hk.size,hk'.mono (λ _ _ h=>h) hk.eS (hk.keep _ hl)⟩
 cases hD:D' p.1 with
 |none=>rfl
 |some x =>
  rcases hk.kR p.1 (by rw[hD];simp)with h1|h1
  ·exact ar (hr.sep b p hb hp) h1
  cases hx:H.get b with
  |none=>exact ar hx hb
  |some k=>have:=(hr.block hx hp).1;omega
mutual
inductive e_ (h:Hf):AV->AV->Prop
 |pure (v):Pure v->e_ h v v
 |nil (sz):e_ h (.aV (.slice none 0 0)) (.ds [] 0 (sz+1))
 |sl (b o len sz u z bs t cs cs'):h b=some (.cells u z bs t)->jN u z bs t o (len*sz)=some cs->bc h cs cs'->e_ h (.sl b o len sz) (.ds cs' len sz)
 |ptr (b o sz u z bs t cs cs'):h b=some (.cells u z bs t)->jN u z bs t o sz=some cs->bc h cs cs'->e_ h (.ptr b o) (.dp cs')
 |agg (cs cs' n):bc h cs cs'->e_ h (.agg cs n) (.agg cs' n)
 |bo (cs cs'):bc h cs cs'->e_ h (.bo cs) (.bo cs')
inductive bc (h:Hf):List AV->List AV->Prop
 |nil:bc h [] []
 |cons (v v' vs vs'):e_ h v v'->bc h vs vs'->bc h (v::vs) (v'::vs')
end
theorem bc.length {h:Hf}:∀ {vs vs'},bc h vs vs'->vs'.length=vs.length
 |_,_,.nil=>rfl
 |_,_,.cons _ _ _ _ _ k=>by simp[bc.length k]
mutual
theorem e_.pS {h:Hf}:∀ {v v'},e_ h v v'->Pure v'
 |_,_,.pure _ k=>k
 |_,_,.nil _=>ah
 |_,_,.sl _ _ _ _ _ _ _ _ _ _ _ _ k=>by simpa using bc.pS k
 |_,_,.ptr _ _ _ _ _ _ _ _ _ _ _ k=>by simpa using bc.pS k
 |_,_,.agg _ _ _ k=>by simpa using bc.pS k
 |_,_,.bo _ _ k=>by simpa using bc.pS k
theorem bc.pS {h:Hf}:∀ {v v'},bc h v v'->aP v'
 |_,_,.nil=>T8
 |_,_,.cons _ _ _ _ a b=>by simpa using⟨e_.pS a,bc.pS b⟩
end
open Classical in
def shut (φ:Ph) (D:Da) (h:Hf) (w:World):Da:=λ c=>match D c with
 |some x=>some x
 |none=>if ∃b p,h b≠none/\φ b=some p/\p.1=c then (match w.heap[c]? with
  |some (.cells x _ _)=>some x
  |_=>none)else none
theorem fj {φ:Ph}{D:Da}{h:Hf}{w:World}:∀c x,D c=some x->shut φ D h w c=some x:=by
 intro c x hx;unfold shut;rw[hx]
theorem mQ {φ:Ph}{D:Da}{h:Hf}{w:World}(hd:Dat D w):Dat (shut φ D h w) w:=by
 refine⟨λ c x hx=>?_,hd.2.mono fj⟩;unfold shut at hx
 split at hx
 ·rename_i y hy;injection hx with hx;subst hx;exact hd.1 c _ hy
 split at hx
 ·split at hx
  ·rename_i y e fr hy;injection hx with hx;subst hx;exact⟨e,fr,hy⟩
  cases hx
 cases hx
theorem AK {φ:Ph}{D:Da}{h:Hf}{w:World}(hr:Rel φ D h w){b:Nat} {p}{x:Array Value} {e fr}(hb:h b≠none)(hp:φ b=some p)(hx:w.heap[p.1]?=some (.cells x e fr)):shut φ D h w p.1=some x:=by
 unfold shut;rw[hr.sep b p hb hp];dsimp only;rw[aw ⟨b,p,hb,hp,rfl⟩,hx]
mutual
theorem e_.vr {φ:Ph}{D:Da}{h:Hf}{w:World}(hr:Rel φ D h w):∀ {v v' x},e_ h v v'->VR φ D v x->VR mJ (shut φ D h w) v' x
 |_,_,_,.pure v k,hx=>k.out (hx.mono (λ _ _ h=>h) fj)
 |_,_,_,.nil sz,hx=>by cases hx;exact .tW _
 |_,_,_,.sl b o len sz u z bs t cs cs' hb hg k,hx=>by
  cases hx with
  |sl _ _ _ _ cb co cz cap ad hp hle had =>
  obtain⟨hlt,c,e,fr,q1,q2,q3,q4,q5,q6⟩:=hr.block hb hp;obtain⟨g1,g2⟩:=kW q5 hg
  by_cases hc:0<cap
  ·obtain⟨rfl,hfit⟩:=had hc;refine .ds _ _ _ _ _ _ _ _ (AK hr (by rw[hb];simp) hp q1) rfl (by rw[bc.length k,g1]) ?_ hle;refine bc.uy hr k (bW.pO ?_ λ i v hv=>?_)
   ·dsimp only at q1 q2 q3 q4 q5 q6;have hm:len*sz<=cap*sz:=C6 _ hle;rw[length_take,length_drop,g1,Array.length_toList];omega
   have hi:i<len*sz:=by rw[<-g1];exact(nH.1 hv).1
   have:=g2 i hi;rw[hv]at this;obtain⟨x,hx,yK⟩:=q4 _ _ this;dsimp only at hx;refine⟨x,?_,yK⟩;rw[getElem?_take,aw hi,lj];rw[show co+o+i=co+(o+i)from by omega];simpa using hx
  have hc0:cap=0:=ae;have hl0:len=0:=ae;subst hc0 hl0
  have:cs'=[]:=by
   have:=bc.length k;simp at g1;subst g1;simpa using this
  subst this;exact .pW _ _ _
 |_,_,_,.ptr b o sz u z bs t cs cs' hb hg k,hx=>by
  cases hx with
  |ptr _ _ cb co cz hp =>
  obtain⟨hlt,c,e,fr,q1,q2,q3,q4,q5,q6⟩:=hr.block hb hp;obtain⟨g1,g2⟩:=kW q5 hg;dsimp only at q1 q2 q3 q4 q5 q6
  have hat:∀i v,cs[i]?=some v->∃x,c.toList[co+o+i]?=some x/\VR φ D v x:=λ i v hv=>by
   have hi:i<sz:=by rw[<-g1];exact(nH.1 hv).1
   have:=g2 i hi;rw[hv]at this;obtain⟨x,hx,yK⟩:=q4 _ _ this;refine⟨x,?_,yK⟩;rw[show co+o+i=co+(o+i)from by omega];simpa using hx
  refine .dp _ _ _ _ _ (AK hr (by rw[hb];simp) hp q1) rfl (bc.uy hr k (bW.pO ?_ λ i v hv=>?_))
  ·rw[bc.length k,length_take,length_drop]
   rcases Nat.eq_zero_or_pos cs.length with h0|h0
   ·omega
   obtain⟨x,hx,_⟩:=hat (cs.length - 1) _ (cX ae);have:=(nH.1 hx).1;rw[Array.length_toList]at this ⊢;omega
  obtain⟨x,hx,yK⟩:=hat i v hv;refine⟨x,?_,yK⟩;have hi:i<cs.length:=(nH.1 hv).1;rw[bc.length k,getElem?_take,aw hi,lj];exact hx
 |_,_,_,.agg cs cs' n k,hx=>by
  cases hx with
  |agg _ l _ a b=>exact .agg _ _ _ (bc.uy hr k a) (by rw[bc.length k,b])
 |_,_,_,.bo cs cs' k,hx=>by
  cases hx with
  |bo _ l a=>exact .bo _ _ (bc.uy hr k a)
theorem bc.uy {φ:Ph}{D:Da}{h:Hf}{w:World}(hr:Rel φ D h w):∀ {vs vs' xs},bc h vs vs'->bW φ D vs xs->bW mJ (shut φ D h w) vs' xs
 |_,_,_,.nil,.nil=>.nil
 |_,_,_,.cons _ _ _ _ a b,.cons _ _ _ _ c d=>.cons _ _ _ _ (e_.vr hr a c) (bc.uy hr b d)
end
theorem tC {D:Da}{w:World}(hd:Dat D w):Rel mJ D (Tr.nil:Hp).get w:=
 ⟨λ b k hb=>by simp at hb,λ b c p q hb=>by simp at hb,λ b p hb=>by simp at hb,hd⟩
theorem aj.of {ce:Ce}(hce:iI P ce){g:FuncId}{args:List AV}{v:AV}(hp:aP args)(h:∃v1 H' n',my P ce g args .nil 0=.mk v1 H' n'/\e_ H'.get v1 v):aj P g args v:=by
 obtain⟨v1,H',n',h1,h2⟩:=h;obtain⟨hb,hn,hs⟩:=UD hce h1;refine⟨hb,hp,h2.pS,λ D w xs hd hv R hR=>?_⟩;refine hs mJ D w xs (tC hd) hv (λ _ _ _=>rfl) R λ φ' D' w' x bf hrel hx=>?_;refine hR (shut φ' D' H'.get w') w' x ⟨λ c x hx=>fj c x (bf.eS c x hx),bf.size,λ c hc=>bf.keep c hc λ b p hb=>by simp at hb,λ c hc=>?_,bf.os,bf.out⟩ (mQ hrel.eS) (h2.vr hrel hx);unfold shut at hc
 split at hc
 ·rename_i y hy
  rcases bf.kR c (by rw[hy];simp)with h|h|⟨b0,p0,hh,_⟩
  ·exact .inl h
  ·exact .inr h
  simp at hh
 split at hc
 ·rename_i hex;obtain⟨b,p,hb,hp,rfl⟩:=hex
  rcases bf.live b p hb hp with h|⟨b0,p0,hh,_⟩
  ·exact .inr h
  simp at hh
 exact ar rfl hc
def yC:iC->iC
 |.mk v H n=>.mk v H n
 |_=>.fail
def Aj (f:FuncId->List AV->Hp->Nat->iC):Ce:={call:=λ g args H n=>yC (f g args H n),code:=λ _ _ _ _ _=>.fail,dcall:=λ _ _ _ _ _=>.fail}
theorem D6 {f:FuncId->List AV->Hp->Nat->iC}(h:∀g args H n v H' n',f g args H n=.mk v H' n'->bu P g args H n v H' n'):iI P (Aj f):=by
 refine⟨λ g args H n v H' n' e=>?_,λ g args H n v H' n' e=>?_,λ _ _ _ _ _ _ _ _ _ _ e=>(by cases e),λ _ _ _ _ _ _ _ _ e=>(by cases e)⟩
 ·have e:yC (f g args H n)=.mk v H' n':=e
  cases hc:f g args H n with
  |mk v1 H1 n1=>rw[hc]at e;cases e;exact h g args H n v H' n' hc
  |fail=>rw[hc]at e;cases e
  |wu v1 H1 n1=>rw[hc]at e;cases e
 have e:yC (f g args H n)=.wu v H' n':=e
 cases hc:f g args H n with
 |mk v1 H1 n1=>rw[hc]at e;cases e
 |fail=>rw[hc]at e;cases e
 |wu v1 H1 n1=>rw[hc]at e;cases e
@[simp] theorem apw (v:AV)(H:Hp)(n:Nat):yC (.mk v H n)=.mk v H n:=Eq.trans rfl rfl
open Classical in
end
end Go.Abs
namespace Go.Abs
open List
abbrev QA:=lO->Fr->Hp->Nat->List Dm->Prop
def Ev (r:P9)(Q:QA):Prop:=match r with
 |.mk (.panic _) _ _ _ _=>False
 |.mk o F H n m=>Q o F H n m
 |.fail=>False
def EvC (r:iC)(R:AV->Hp->Nat->Prop):Prop:=match r with
 |.mk v H n=>R v H n
 |_=>False
def CJ (r:bw)(H:Hp)(n:Nat)(k:AV->Hp->Nat->Prop):Prop:=match r with
 |.fail=>False
 |.val v=>k v H n
 |.new v b=>k v (H.put n (some b)) (n+1)
 |.upd v b x=>k v (H.put b (some x)) n
 |.mv v b x=>k v ((H.put b none).put n (some x)) (n+1)
def agp (b:K)(ce:Ce)(Q:QA):QA:=λ o F H n m=>match o with
 |.normal=>Ev (b.f ce F H n m) Q
 |.exit i=>Q (.exit i) F H n m
 |.ret=>Q .ret F H n m
 |.panic _=>False
def jE (i:Nat)(Q:QA):QA:=λ o F H n m=>match o with
 |.normal=>Q .normal F H n m
 |.exit j=>if i=j then Q .normal F H n m else Q (.exit j) F H n m
 |.ret=>Q .ret F H n m
 |.panic _=>False
def kU (res:List (Fr->Hp->Option AV)) (R:AV->Hp->Nat->Prop):QA:=λ o F H n m=>match o with
 |.exit _=>False
 |.panic _=>False
 |_ => match dF m H with
  |some H'=>match Ah F H' res with
   |some vs=>R (wh vs) H' n
   |none=>False
  |none=>False
def qj (v:Option AV)(p q:Prop):Prop:=match v with
 |some (.bool true)=>p
 |some (.bool false)=>q
 |_=>False
def Tt (v:Option AV)(a b:K)(ce:Ce)(F:Fr)(H:Hp)(n:Nat)(m:List Dm)(Q:QA):Prop:=qj v (Ev (a.f ce F H n m) Q) (Ev (b.f ce F H n m) Q)
def fy (v:Option AV)(want:Bool)(p q:Prop):Prop:=match v with
 |some (.bool b)=>bif b == want then p else q
 |some _=>q
 |none=>False
def uA {α:Type}(o:Option α)(k:α->Prop):Prop:=match o with
 |some x=>k x
 |none=>False
section
variable {ce:Ce}{F:Fr}{H:Hp}{n:Nat}{m:List Dm}{Q:QA}
@[simp] theorem aw6:Ev (.mk .normal F H n m) Q=Q .normal F H n m:=propext Iff.rfl
@[simp] theorem aw7 (i:Nat):Ev (.mk (.exit i) F H n m) Q=Q (.exit i) F H n m:=propext Iff.rfl
@[simp] theorem aw4:Ev (.mk .ret F H n m) Q=Q .ret F H n m:=propext Iff.rfl
@[simp] theorem aw5 (v:AV):Ev (.mk (.panic v) F H n m) Q=False:=propext Iff.rfl
@[simp] theorem axg (v:AV)(R:AV->Hp->Nat->Prop):EvC (.mk v H n) R=R v H n:=propext Iff.rfl
@[simp] theorem aq4 (k:AV->Hp->Nat->Prop):CJ .fail H n k=False:=propext Iff.rfl
@[simp] theorem auq (v:AV)(k:AV->Hp->Nat->Prop):CJ (.val v) H n k=k v H n:=propext Iff.rfl
@[simp] theorem aus (v:AV)(b:bG)(k:AV->Hp->Nat->Prop):CJ (.new v b) H n k=k v (H.put n (some b)) (n+1):=propext Iff.rfl
@[simp] theorem aur (v:AV)(b:Nat)(x:bG)(k:AV->Hp->Nat->Prop):CJ (.upd v b x) H n k=k v (H.put b (some x)) n:=propext Iff.rfl
@[simp] theorem axf (v:AV)(b:Nat)(x:bG)(k:AV->Hp->Nat->Prop):CJ (.mv v b x) H n k=k v ((H.put b none).put n (some x)) (n+1):=propext Iff.rfl
@[simp] theorem agP (b:K):agp b ce Q .normal F H n m=Ev (b.f ce F H n m) Q:=propext Iff.rfl
@[simp] theorem am9 (b:K)(i:Nat):agp b ce Q (.exit i) F H n m=Q (.exit i) F H n m:=propext Iff.rfl
@[simp] theorem aoG (b:K):agp b ce Q .ret F H n m=Q .ret F H n m:=propext Iff.rfl
@[simp] theorem ahA (i:Nat):jE i Q .normal F H n m=Q .normal F H n m:=propext Iff.rfl
@[simp] theorem anS (i j:Nat):jE i Q (.exit j) F H n m=if i=j then Q .normal F H n m else Q (.exit j) F H n m:=propext Iff.rfl
@[simp] theorem ar5 (i:Nat):jE i Q .ret F H n m=Q .ret F H n m:=propext Iff.rfl
@[simp] theorem alO (p q:Prop):qj (some (.bool true)) p q=p:=propext Iff.rfl
@[simp] theorem ahp (p q:Prop):qj (some (.bool false)) p q=q:=propext Iff.rfl
@[simp] theorem awG (p q:Prop):fy (some (.bool true)) true p q=p:=propext Iff.rfl
@[simp] theorem awH (p q:Prop):fy (some (.bool false)) true p q=q:=propext Iff.rfl
@[simp] theorem atX (p q:Prop):fy (some (.bool true)) false p q=q:=propext Iff.rfl
@[simp] theorem atY (p q:Prop):fy (some (.bool false)) false p q=p:=propext Iff.rfl
@[simp] theorem aqA (l:List AV)(b:Bool)(p q:Prop):fy (some (.bo l)) b p q=q:=propext Iff.rfl
@[simp] theorem tL {α:Type}(x:α)(k:α->Prop):uA (some x) k=k x:=propext Iff.rfl
@[simp] theorem aph {α:Type}(k:α->Prop):uA none k=False:=propext Iff.rfl
@[simp] theorem aoT (res:List (Fr->Hp->Option AV))(R:AV->Hp->Nat->Prop):kU res R .ret F H n m=uA (dF m H) λ H'=>uA (Ah F H' res) λ vs=>R (wh vs) H' n:=by
 unfold kU uA;dsimp only;split<;>first|(split<;>simp_all)|simp_all
@[simp] theorem agU (res:List (Fr->Hp->Option AV))(R:AV->Hp->Nat->Prop):kU res R .normal F H n m=uA (dF m H) λ H'=>uA (Ah F H' res) λ vs=>R (wh vs) H' n:=by
 unfold kU uA;dsimp only;split<;>first|(split<;>simp_all)|simp_all
theorem als {r:P9}(h:Ev r Q):∃o F H n m,r=.mk o F H n m/\Q o F H n m:=by
 cases r with
 |fail=>exact ar h id
 |mk o F H n m=>cases o<;>first|exact ar h id|exact⟨_,_,_,_,_,rfl,h⟩
@[simp] theorem axb:Ev (HU.f ce F H n m) Q=Q .normal F H n m:=propext Iff.rfl
@[simp] theorem aw2 (a b:K):Ev ((Jk a b).f ce F H n m) Q=Ev (a.f ce F H n m) (agp b ce Q):=by
 simp only[Jk]
 cases h:a.f ce F H n m with
 |fail=>simp[Ev]
 |mk o F' H' n' m'=>cases o<;>rfl
@[simp] theorem alN (a b:K):Tt (some (.bool true)) a b ce F H n m Q=Ev (a.f ce F H n m) Q:=propext Iff.rfl
@[simp] theorem aho (a b:K):Tt (some (.bool false)) a b ce F H n m Q=Ev (b.f ce F H n m) Q:=propext Iff.rfl
@[simp] theorem aui (g:G)(a b:K):Ev ((BN g a b).f ce F H n m) Q=Tt (g.f F) a b ce F H n m Q:=by
 simp only[BN,Tt]
 cases g.f F with
 |none=>rfl
 |some v=>cases v with
  |bool b=>cases b<;>rfl
  |_=>rfl
@[simp] theorem aqZ (i:Nat)(b:K):Ev ((ve i b).f ce F H n m) Q=Ev (b.f ce F H n m) (jE i Q):=by
 simp only[ve]
 cases h:b.f ce F H n m with
 |fail=>simp[Ev]
 |mk o F' H' n' m' =>
  cases o with
  |normal=>rfl
  |ret=>rfl
  |panic v=>rfl
  |exit j =>
   dsimp only
   cases hij:Nat.beq i j with
   |true=>have:=cT hij;subst this;simp
   |false =>
    have:¬i=j:=λ e=>by rw[e]at hij;simp at hij
    simp[this]
@[simp] theorem aug (i:Nat):Ev ((Pz i).f ce F H n m) Q=Q (.exit i) F H n m:=propext Iff.rfl
@[simp] theorem aw3:Ev (aew.f ce F H n m) Q=Q .ret F H n m:=propext Iff.rfl
def Aq (I:Nat->Fr->Hp->Nat->List Dm->Prop)(k:Nat)(Q:QA):QA:=λ o F' H' n' m'=>match o with
 |.normal=>∃k',k'<k/\I k' F' H' n' m'
 |.exit i=>Q (.exit i) F' H' n' m'
 |.ret=>Q .ret F' H' n' m'
 |.panic _=>False
@[simp] theorem agS (I:Nat->Fr->Hp->Nat->List Dm->Prop)(k:Nat):Aq I k Q .normal F H n m=∃k',k'<k/\I k' F H n m:=propext Iff.rfl
@[simp] theorem anb (I:Nat->Fr->Hp->Nat->List Dm->Prop)(k i:Nat):Aq I k Q (.exit i) F H n m=Q (.exit i) F H n m:=propext Iff.rfl
@[simp] theorem aoP (I:Nat->Fr->Hp->Nat->List Dm->Prop)(k:Nat):Aq I k Q .ret F H n m=Q .ret F H n m:=propext Iff.rfl
def bg (d:Nat):Pd:=⟨λ v F=>(Tr.ym (Nat.succ d) d).f (some v) F⟩
def ri:Pd:=⟨λ _ F=>F⟩
def Fp (d:Nat)(v:AV)(F:Fr):Fr:=(Tr.ym (Nat.succ d) d).f (some v) F
@[simp] theorem ayn (d:Nat)(v:AV):(bg d).f v F=Fp d v F:=Eq.trans rfl rfl
@[simp] theorem axT (d t:Nat)(v:AV):(Fp d v F).get t=if t=d then some v else F.get t:=Tr.jO _ _ _ _ _ (Nat.lt_succ_self d)
@[simp] theorem ayo (v:AV):ri.f v F=F:=Eq.trans rfl rfl
@[simp] theorem CW (t:Nat):(aA t).f F=F.get t:=gU t F
@[simp] theorem y9 (v:AV):(aQ v).f F=some v:=Eq.trans rfl rfl
theorem ahj (pd:Pd)(e:Eff)(next:K):Ev ((opK pd e next).f ce F H n m) Q=CJ (e F H n) H n (λ v H' n'=>Ev (next.f ce (pd.f v F) H' n' m) Q):=by
 simp only[opK]
 cases e F H n<;>rfl
def aqD (g:G)(want:Bool)(pd:Pd)(e:Eff)(next:K):K:=su g want (opK pd e next) (XE pd next)
theorem alw (g:G)(want:Bool)(pd:Pd)(e:Eff)(next:K):Ev ((aqD g want pd e next).f ce F H n m) Q=fy (g.f F) want (CJ (e F H n) H n (λ v H' n'=>Ev (next.f ce (pd.f v F) H' n' m) Q)) (Ev (next.f ce (pd.f (.bo []) F) H n m) Q):=by
 simp only[aqD,su];unfold fy
 cases g.f F with
 |none=>rfl
 |some v =>
  cases v with
  |bool b =>
   dsimp only
   cases hb:b == want
   ·rfl
   exact ahj pd e next
  |_=>rfl
def al6 (pd:Pd)(f:FuncId)(as:List G)(next:K):K:=BW pd (aQ (.fn (.func f) [] [])) as next
theorem YG (pd:Pd)(f:FuncId)(as:List G)(next:K):Ev ((al6 pd f as next).f ce F H n m) Q=uA (evs F as) λ vs=>EvC (ce.call f vs H n) (λ v H' n'=>Ev (next.f ce (pd.f v F) H' n' m) Q):=by
 simp only[al6,BW,y9]
 cases evs F as with
 |none=>rfl
 |some vs =>
  simp only[nil_append,append_nil,tL]
  cases ce.call f vs H n<;>rfl
def ahf (g:G)(want:Bool)(pd:Pd)(f:FuncId)(as:List G)(next:K):K:=su g want (al6 pd f as next) (XE pd next)
theorem afY (g:G)(want:Bool)(pd:Pd)(f:FuncId)(as:List G)(next:K):Ev ((ahf g want pd f as next).f ce F H n m) Q=fy (g.f F) want (uA (evs F as) λ vs=>EvC (ce.call f vs H n) (λ v H' n'=>Ev (next.f ce (pd.f v F) H' n' m) Q)) (Ev (next.f ce (pd.f (.bo []) F) H n m) Q):=by
 simp only[ahf,su];unfold fy
 cases g.f F with
 |none=>rfl
 |some v =>
  cases v with
  |bool b =>
   dsimp only
   cases hb:b == want
   ·rfl
   exact YG pd f as next
  |_=>rfl
def HW (ds:List Nat)(k:KR):K:=.mk <| λ ce F H n m=>k.f ce (iW ds F) H [H] n m
@[simp] theorem axc (ds:List Nat)(k:KR):Ev ((HW ds k).f ce F H n m) Q=Ev (k.f ce (iW ds F) H [H] n m) Q:=propext Iff.rfl
variable {Hs:List Hp}
@[simp] theorem auh:Ev (aly.f ce F H Hs n m) Q=Q .normal F H n m:=propext Iff.rfl
def EvR (e:Eff)(F:Fr)(H:Hp)(Hs:List Hp)(n cnt:Nat)(k:AV->Hp->Nat->Prop):Prop:=match e F .nil n with
 |.val v=>k v H n
 |.new v b=>if jx n Hs=true then k v (H.put n (some b)) (n+1)else False
 |.fail=>uA (fD e F n cnt Hs) λ v=>k v H n
 |_=>False
theorem alu (rs:RS)(pd:Pd)(e:Eff)(cnt:Nat)(next:KR):Ev ((opR rs pd e cnt next).f ce F H Hs n m) Q=EvR e (rs.f F) H Hs n cnt (λ v H' n'=>Ev (next.f ce (pd.f v F) H' Hs n' m) Q):=by
 simp only[opR];unfold EvR
 cases e (rs.f F) .nil n with
 |val v=>rfl
 |new v k=>dsimp only;split<;>simp_all [Ev]
 |fail=>dsimp only;unfold uA;split<;>simp_all [Ev]
 |upd=>rfl
 |mv=>rfl
theorem PD (rs:RS)(pd:Pd)(e:Eff)(next:KR):Ev ((Hg rs pd e next).f ce F H Hs n m) Q=CJ (e (rs.f F) H n) H n (λ v H' n'=>Ev (next.f ce (pd.f v F) H' (H'::Hs) n' m) Q):=by
 simp only[Hg]
 cases e (rs.f F) H n<;>rfl
def al5 (rs:RS)(pd:Pd)(f:FuncId)(as:List G)(next:KR):KR:=lK rs pd (aQ (.fn (.func f) [] [])) as next
theorem PE (rs:RS)(pd:Pd)(f:FuncId)(as:List G)(next:KR):Ev ((al5 rs pd f as next).f ce F H Hs n m) Q=uA (evs (rs.f F) as) λ vs=>EvC (ce.call f vs H n) (λ v H' n'=>Ev (next.f ce (pd.f v F) H' (H'::Hs) n' m) Q):=by
 simp only[al5,lK,y9]
 cases evs (rs.f F) as with
 |none=>rfl
 |some vs =>
  simp only[nil_append,append_nil,tL]
  cases ce.call f vs H n<;>rfl
@[simp] theorem ave (l:List Nat)(F:Fr)(t:Nat):((cS l).f F).get t=if t∈l then F.get t else none:=by
 induction l with
 |nil=>rfl
 |cons a r ih =>
  simp only[cS,V4,CW];rw[Tr.jO _ _ _ _ _ (Nat.lt_succ_self a),ih]
  by_cases h:t=a
  ·subst h;simp
  simp[h]
end
end Go.Abs
namespace Go.Abs
open List
@[simp] theorem akP (a b:Nat):((a:Int)=(b:Int))=(a=b):=propext ae
@[simp] theorem akN (a b:Nat):((a:Int)<(b:Int))=(a<b):=propext ae
@[simp] theorem akO (a b:Nat):((a:Int)<=(b:Int))=(a<=b):=propext ae
@[simp] theorem tN (a b:Nat):Nat.ble a b=decide (a<=b):=by
 by_cases h:a<=b
 ·rw[wq h];simp[h]
 cases hh:Nat.ble a b with
 |true=>exact ar (eF hh) h
 |false=>simp[h]
@[simp] theorem wT (a b:Nat):Nat.blt a b=decide (a<b):=tN (a+1) b
@[simp] theorem lU (a b:Nat):Nat.beq a b=decide (a=b):=by
 by_cases h:a=b
 ·subst h;simp
 cases hh:Nat.beq a b with
 |true=>exact ar (cT hh) h
 |false=>simp[h]
def oE (o:Option AV)(k:AV->bw):bw:=match o with
 |some v=>k v
 |none=>.fail
def lE (o:Option (List AV))(k:List AV->bw):bw:=match o with
 |some v=>k v
 |none=>.fail
@[simp] theorem ato (v:AV)(k:AV->bw):oE (some v) k=k v:=Eq.trans rfl rfl
@[simp] theorem atu (v:List AV)(k:List AV->bw):lE (some v) k=k v:=Eq.trans rfl rfl
@[simp] theorem anY (cs:List AV)(n:Nat):(AV.agg cs n).len=n:=Eq.trans rfl rfl
@[simp] theorem ahH (cs:List AV)(n:Nat):(AV.agg cs n).cells=cs:=Eq.trans rfl rfl
@[simp] theorem anV (k:IntKind)(n:Int):(AV.int k n).len=1:=Eq.trans rfl rfl
@[simp] theorem amf (b:Bool):(AV.bool b).len=1:=Eq.trans rfl rfl
@[simp] theorem anT (b:List Nat):(AV.str b).len=1:=Eq.trans rfl rfl
@[simp] theorem anU (a b:Nat):(AV.ptr a b).len=1:=Eq.trans rfl rfl
@[simp] theorem ar9 (a b c d:Nat):(AV.sl a b c d).len=1:=Eq.trans rfl rfl
@[simp] theorem ar' (cs:List AV)(c d:Nat):(AV.ds cs c d).len=1:=Eq.trans rfl rfl
@[simp] theorem anX (v:Value):(AV.aV v).len=1:=Eq.trans rfl rfl
@[simp] theorem ar_ (f:Fn)(a b:List AV):(AV.fn f a b).len=1:=Eq.trans rfl rfl
@[simp] theorem anW (t:TypeId)(v:AV):(AV.oO t v).len=1:=Eq.trans rfl rfl
@[simp] theorem ahE (k:IntKind)(n:Int):(AV.int k n).cells=[.int k n]:=Eq.trans rfl rfl
@[simp] theorem agj (b:Bool):(AV.bool b).cells=[.bool b]:=Eq.trans rfl rfl
@[simp] theorem ahC (b:List Nat):(AV.str b).cells=[.str b]:=Eq.trans rfl rfl
@[simp] theorem ahD (a b:Nat):(AV.ptr a b).cells=[.ptr a b]:=Eq.trans rfl rfl
@[simp] theorem amg (a b c d:Nat):(AV.sl a b c d).cells=[.sl a b c d]:=Eq.trans rfl rfl
@[simp] theorem ami (cs:List AV)(c d:Nat):(AV.ds cs c d).cells=[.ds cs c d]:=Eq.trans rfl rfl
@[simp] theorem ahG (v:Value):(AV.aV v).cells=[.aV v]:=Eq.trans rfl rfl
@[simp] theorem amh (f:Fn)(a b:List AV):(AV.fn f a b).cells=[.fn f a b]:=Eq.trans rfl rfl
@[simp] theorem ahF (t:TypeId)(v:AV):(AV.oO t v).cells=[.oO t v]:=Eq.trans rfl rfl
@[simp] theorem amn:br []=true:=Eq.trans rfl rfl
@[simp] theorem v9 (v:AV)(r:List AV):br (v::r)=(v.one&&br r):=Eq.trans rfl rfl
@[simp] theorem aeZ (k:IntKind)(n:Int):(AV.int k n).one=true:=Eq.trans rfl rfl
@[simp] theorem api (b:Bool):(AV.bool b).one=true:=Eq.trans rfl rfl
@[simp] theorem atg (b:List Nat):(AV.str b).one=true:=Eq.trans rfl rfl
@[simp] theorem ath (a b:Nat):(AV.ptr a b).one=true:=Eq.trans rfl rfl
@[simp] theorem avC (a b c d:Nat):(AV.sl a b c d).one=true:=Eq.trans rfl rfl
@[simp] theorem avE (cs:List AV)(c d:Nat):(AV.ds cs c d).one=true:=Eq.trans rfl rfl
@[simp] theorem atj (v:Value):(AV.aV v).one=true:=Eq.trans rfl rfl
@[simp] theorem avD (f:Fn)(a b:List AV):(AV.fn f a b).one=true:=Eq.trans rfl rfl
@[simp] theorem ati (t:TypeId)(v:AV):(AV.oO t v).one=true:=Eq.trans rfl rfl
@[simp] theorem ad2 (a b:List AV):br (a++b)=(br a&&br b):=by
 induction a with
 |nil=>simp
 |cons v r ih=>simp[ih,Bool.and_assoc]
section
variable {F:Fr}{H:Hp}{n:Nat}
@[simp] theorem axi (x:G):eL x F H n=oE (x.f F) .val:=by unfold eL oE;cases x.f F<;>rfl
def GX (c:Option AV)(a b:bw):bw:=match c with
 |some (.bool true)=>a
 |some (.bool false)=>b
 |_=>.fail
@[simp] theorem as_ (a b:bw):GX (some (.bool true)) a b=a:=Eq.trans rfl rfl
@[simp] theorem ata (a b:bw):GX (some (.bool false)) a b=b:=Eq.trans rfl rfl
@[simp] theorem auv (c a b:G):y5 c a b F H n=GX (c.f F) (oE (a.f F) .val) (oE (b.f F) .val):=by
 unfold y5
 cases c.f F with
 |none=>rfl
 |some v=>cases v with
  |bool x =>
   cases x
   ·simp only[GX,eL];cases b.f F<;>rfl
   simp only[GX,eL];cases a.f F<;>rfl
  |_=>rfl
@[simp] theorem ark (z:List AV)(k:Nat):au z k F H n=.new (.ptr n 0) (.cells k [] z .nil):=Eq.trans rfl rfl
@[simp] theorem axj (x:G):HV x F H n=oE (x.f F) λ v=>.new (.ptr n 0) (.cells v.len [] v.cells .nil):=by unfold HV oE;cases x.f F<;>rfl
@[simp] theorem anA (cs:List AV):kC F [] cs=some cs:=Eq.trans rfl rfl
@[simp] theorem alq (o s:Nat)(x:G)(r:List (Nat×Nat×G))(cs:List AV):kC F ((o,s,x)::r) cs=(x.f F).bind λ v=>bif Nat.beq v.len s&&Nat.blt 0 s then (patch cs o v.cells).bind (λ cs'=>kC F r cs')else none:=by
 rw[kC]
 cases x.f F with
 |none=>rfl
 |some v =>
  dsimp only [Option.bind]
  cases Nat.beq v.len s&&Nat.blt 0 s with
  |false=>rfl
  |true=>dsimp only [cond];cases patch cs o v.cells<;>rfl
@[simp] theorem anh (cs:List AV)(o:Nat):patch cs o []=some cs:=by cases cs<;>cases o<;>rfl
def YW (v:AV)(o:Option (List AV)):Option (List AV):=match o with
 |some l=>some (v::l)
 |none=>none
@[simp] theorem alJ (v:AV)(l:List AV):YW v (some l)=some (v::l):=Eq.trans rfl rfl
@[simp] theorem Jo (c v:AV)(cs vs:List AV):patch (c::cs) 0 (v::vs)=YW v (patch cs 0 vs):=by
 rw[patch];cases patch cs 0 vs<;>rfl
@[simp] theorem aj8 (c v:AV)(cs vs:List AV)(o:Nat):patch (c::cs) (o+1) (v::vs)=YW c (patch cs o (v::vs)):=by
 rw[patch];cases patch cs o (v::vs)<;>rfl
@[simp] theorem Ba {bs vs:List AV}(h:vs.length=bs.length):patch bs 0 vs=some vs:=by
 induction vs generalizing bs with
 |nil=>cases bs<;>simp_all
 |cons v r ih =>
  cases bs with
  |nil=>simp at h
  |cons b bs=>rw[Jo,ih (by simpa using h)];rfl
@[simp] theorem arj (z:List AV)(k:Nat)(ps:List (Nat×Nat×G)):aI z k ps F H n=lE (kC F ps z) λ cs=>.val (.agg cs k):=by unfold aI lE;cases kC F ps z<;>rfl
@[simp] theorem anG (z:List AV)(k sz:Nat)(ps:List (Nat×Nat×G)):aO z k sz ps F H n=lE (kC F ps (rep z k)) λ cs=>.new (.sl n 0 k sz) (.cells (k*sz) [] cs .nil):=by unfold aO lE;cases kC F ps (rep z k)<;>rfl
@[simp] theorem aoU (z:List AV):rep z 0=[]:=Eq.trans rfl rfl
theorem rep_succ (z:List AV)(n:Nat):rep z (n+1)=z++rep z n:=rfl
@[simp] theorem asY (z:List AV):rep z 1=z:=by simp[rep_succ]
@[simp] theorem arh (x:G):u0 x F H n=oE (x.f F) λ v=>cE v H:=by unfold u0 oE;cases x.f F<;>rfl
@[simp] theorem arf (k:Nat)(x:G):iS k x F H n=oE (x.f F) λ v=>eD k v H:=by unfold iS oE;cases x.f F<;>rfl
@[simp] theorem ara (k:Nat)(x v:G):dz k x v F H n=oE (x.f F) λ a=>oE (v.f F) λ v=>mF k a v H:=by
 unfold dz oE
 cases x.f F with
 |none=>rfl
 |some a=>dsimp only;cases v.f F<;>rfl
@[simp] theorem auw (x:G):aY x F H n=oE (x.f F) Cb:=by unfold aY oE;cases x.f F<;>rfl
@[simp] theorem e1_f (c:AV->bw)(x:G):e1 c x F H n=oE (x.f F) c:=by unfold e1 oE;cases x.f F<;>rfl
@[simp] theorem e2_f (c:AV->AV->bw)(x y:G):e2 c x y F H n=oE (x.f F) λ a=>oE (y.f F) λ b=>c a b:=by
 unfold e2 oE
 cases x.f F with
 |none=>rfl
 |some a=>dsimp only;cases y.f F<;>rfl
@[simp] theorem auf:evs F []=some []:=Eq.trans rfl rfl
@[simp] theorem aqW (x:G)(r:List G):evs F (x::r)=(x.f F).bind λ a=>(evs F r).bind λ l=>some (a::l):=by
 rw[evs]
 cases x.f F with
 |none=>rfl
 |some a=>cases evs F r<;>rfl
@[simp] theorem auA (f:Fn)(a b:List G):jr f a b F H n=lE (evs F a) λ a=>lE (evs F b) λ b=>.val (.fn f a b):=by
 unfold jr lE
 cases evs F a with
 |none=>rfl
 |some a=>dsimp only;cases evs F b<;>rfl
@[simp] theorem axk (sz gq:Nat)(s x:G):dG sz gq s x F H n=oE (s.f F) λ s=>oE (x.f F) λ x=>jh sz gq n s x H:=by
 unfold dG oE
 cases s.f F with
 |none=>rfl
 |some a=>dsimp only;cases x.f F<;>rfl
def sE (o:Option (Option AV))(k:Option AV->bw):bw:=match o with
 |some v=>k v
 |none=>.fail
@[simp] theorem asX (v:Option AV)(k:Option AV->bw):sE (some v) k=k v:=Eq.trans rfl rfl
@[simp] theorem apr:vM F none=some none:=Eq.trans rfl rfl
@[simp] theorem apq (x:G):vM F (some x)=(x.f F).map some:=Eq.trans rfl rfl
@[simp] theorem azq (c:Option AV->Option AV->Option AV->AV->bw)(x:G)(lo hi mx:Option G):wH c x lo hi mx F H n=sE (vM F lo) λ lo=>sE (vM F hi) λ hi=>sE (vM F mx) λ mx=>oE (x.f F) λ v=>c lo hi mx v:=by
 unfold wH sE oE
 cases vM F lo with
 |none=>rfl
 |some a=>cases vM F hi with
  |none=>rfl
  |some b=>cases vM F mx with
   |none=>rfl
   |some d=>dsimp only;cases x.f F<;>rfl
end
section
variable {H:Hp}{n:Nat}
@[simp] theorem aqE {α:Type}(t:Tr α)(a b:Nat)(v:Option α):(t.put a v).get b=if b=a then v else t.get b:=Tr.get_put t a b v
def ld1 (k:Option bG)(o:Nat):bw:=match k with
 |some (.cells u z bs t)=>oE (gZ u z bs t o) .val
 |_=>.fail
def pQ (k:Option bG)(o c:Nat):bw:=match k with
 |some (.cells u z bs t)=>lE (jN u z bs t o c) λ l=>.val (.agg l c)
 |_=>.fail
@[simp] theorem apJ (u z bs t o):ld1 (some (.cells u z bs t)) o=oE (gZ u z bs t o) .val:=Eq.trans rfl rfl
@[simp] theorem apG (u z bs t o c):pQ (some (.cells u z bs t)) o c=lE (jN u z bs t o c) λ l=>.val (.agg l c):=Eq.trans rfl rfl
@[simp] theorem apK (o:Nat):ld1 none o=.fail:=Eq.trans rfl rfl
@[simp] theorem apH (o c:Nat):pQ none o c=.fail:=Eq.trans rfl rfl
@[simp] theorem ahz (b o:Nat):cE (.ptr b o) H=ld1 (H.get b) o:=by
 unfold cE ld1 oE;dsimp only
 cases H.get b with
 |none=>rfl
 |some k=>cases k with
  |cells u z bs t=>dsimp only;cases gZ u z bs t o<;>rfl
  |_=>rfl
@[simp] theorem anJ (v:AV)(r:List AV):cE (.dp (v::r)) H=.val v:=Eq.trans rfl rfl
@[simp] theorem ahy (k b o:Nat):eD k (.ptr b o) H=pQ (H.get b) o k:=by
 unfold eD pQ lE;dsimp only
 cases H.get b with
 |none=>rfl
 |some x=>cases x with
  |cells u z bs t=>dsimp only;cases jN u z bs t o k<;>rfl
  |_=>rfl
theorem qS {k:Nat}{l:List AV}(r:List AV)(h:l.length=k):eD k (.dp (l++r)) H=.val (.agg l k):=by
 unfold eD;dsimp only;have:Nat.ble k (l++r).length=true:=wq (by simp;omega);rw[this];dsimp only;rw[<-h,take_left]
theorem jz (u:Nat)(bs:List AV)(i:Nat):gZ u [] bs .nil i=if i<u then bs[i]? else none:=by
 rw[cD]
 split
 ·simp only[Ov.get_nil];cases bs[i]?<;>rfl
 rfl
@[simp] theorem nU (u:Nat)(bs:List AV)(i:Nat):gZ u [] bs .nil i=if i<u then bs[i]? else none:=jz u bs i
@[simp] theorem anv {u:Nat}{bs:List AV}{o k:Nat}(hl:bs.length=u)(h:o+k<=u):jN u [] bs .nil o k=some ((bs.drop o).take k):=by
 unfold jN;dsimp only
 split
 ·rename_i hb;simp at hb;obtain⟨rfl,rfl⟩:=hb;simp[<-hl]
 have e:yq k o bs=some ((bs.drop o).take k):=by
  unfold yq;dsimp only;rw[xJ,pX,jy];have:((bs.drop o).take k).length=k:=by simp;omega
  have hb:Nat.beq ((bs.drop o).take k).length k=true:=by rw[this];exact Nat.beq_refl k
  rw[hb]
 rw[show Nat.ble (Nat.add o k) u=true from wq h,e];rfl
@[simp high] theorem Ys (u:Nat) (bs:List AV):jN u [] bs .nil 0 u=some bs:=by
 unfold jN;simp
def stE (k:Nat)(v:AV)(x:Option bG)(b o:Nat):bw:=match x with
 |some (.cells u z bs t)=>bif Nat.beq v.len k&&Nat.ble (o+k) u&&br v.cells then .upd (.bo []) b (mN u z bs t v.cells o)else .fail
 |_=>.fail
@[simp] theorem aox (k:Nat)(v:AV) (u z bs t b o):stE k v (some (.cells u z bs t)) b o=bif Nat.beq v.len k&&Nat.ble (o+k) u&&br v.cells then .upd (.bo []) b (mN u z bs t v.cells o)else .fail:=Eq.trans rfl rfl
@[simp] theorem al7 (k b o:Nat)(v:AV):mF k (.ptr b o) v H=stE k v (H.get b) b o:=by
 unfold mF stE;dsimp only
 cases H.get b with
 |none=>rfl
 |some x=>cases x with
  |cells u z bs t=>dsimp only;cases Nat.beq v.len k&&Nat.ble (o+k) u&&br v.cells<;>rfl
  |_=>rfl
def stL (u:Nat)(bs vs:List AV)(o:Nat)(r:Option (List AV)):bG:=match r with
 |some bs'=>.cells u [] bs' .nil
 |none=>.cells u [] bs (Ov.bO vs o .nil)
@[simp] theorem aow (u:Nat)(bs vs:List AV)(o:Nat)(r:List AV):stL u bs vs o (some r)=.cells u [] r .nil:=Eq.trans rfl rfl
@[simp] theorem agK {u:Nat}{bs vs:List AV}{o:Nat}(h:u<=64):mN u [] bs .nil vs o=stL u bs vs o (patch bs o vs):=by
 unfold mN stL;simp only[wq h]
 cases patch bs o vs<;>rfl
@[simp] theorem anI (b o:Nat):Cb (.ptr b o)=.val (.ptr b o):=Eq.trans rfl rfl
@[simp] theorem arE (cs:List AV):Cb (.dp cs)=.val (.dp cs):=Eq.trans rfl rfl
@[simp] theorem anQ (k b o:Nat):zj k (.ptr b o)=.val (.ptr b (o+k)):=by unfold zj;dsimp only;rw[db]
@[simp] theorem ar1 (k:Nat)(cs:List AV):zj k (.dp cs)=.val (.dp (cs.drop k)):=Eq.trans rfl rfl
def nE (o:Option AV):bw:=match o with
 |some v=>.val v
 |none=>.fail
@[simp] theorem atp (v:AV):nE (some v)=.val v:=Eq.trans rfl rfl
@[simp] theorem anN (o:Nat)(cs:List AV)(k:Nat):PY o (.agg cs k)=nE (cs[o]?):=by
 unfold PY nE;dsimp only;rw[nK];cases cs[o]?<;>rfl
@[simp] theorem anM (o k m:Nat)(cs:List AV):PX o k (.agg cs m)=bif Nat.ble (o+k) m then .val (.agg ((cs.drop o).take k) k)else .fail:=by
 unfold PX;dsimp only
 cases Nat.ble (o+k) m<;>rfl
@[simp] theorem arI (i:Nat)(vs:List AV):kS i (.bo vs)=nE (vs[i]?):=by
 unfold kS nE;dsimp only;rw[nK];cases vs[i]?<;>rfl
theorem ua {cs:List AV}{len sz i:Nat}{k:IntKind}(h:i<len):cK sz (.ds cs len sz) (.int k (i:Int))=.val (.dp (cs.drop (i*sz))):=by
 show (match Nat.blt i len&&Nat.beq sz sz with
  |true=>bw.val (.dp (cs.drop (i*sz)))
  |false=>.fail)=_
 rw[show Nat.blt i len=true from wq h,Nat.beq_refl];rfl
theorem PW {b o len sz i:Nat}{k:IntKind}(h:i<len):cK sz (.sl b o len sz) (.int k (i:Int))=.val (.ptr b (o+i*sz)):=by
 show (match Nat.blt i len&&Nat.beq sz sz with
  |true=>gC (o+i*sz) λ o'=>bw.val (.ptr b o')
  |false=>.fail)=_
 rw[show Nat.blt i len=true from wq h,Nat.beq_refl];exact db _ _
@[simp] theorem arH (cs:List AV)(len sz:Nat):bm (.ds cs len sz)=.val (.int .i64 (len:Int)):=Eq.trans rfl rfl
@[simp] theorem arG (b o len sz:Nat):bm (.sl b o len sz)=.val (.int .i64 (len:Int)):=Eq.trans rfl rfl
@[simp] theorem anL:bm (.aV (.slice none 0 0))=.val (.int .i64 0):=Eq.trans rfl rfl
@[simp] theorem anK (l:List Nat):js (.str l)=.val (.int .i64 (l.length:Int)):=by unfold js;dsimp only;rw[bM];rfl
@[simp] theorem kG (k:IntKind)(i:Int):kY k i=.val (.int k i):=by unfold kY;rw[mX]
@[simp] theorem ar0:bR .add=Ak:=Eq.trans rfl rfl
@[simp] theorem arW:bR .lss=rp .lss:=Eq.trans rfl rfl
@[simp] theorem arX:bR .leq=rp .leq:=Eq.trans rfl rfl
@[simp] theorem arY:bR .gtr=rp .gtr:=Eq.trans rfl rfl
@[simp] theorem arZ:bR .geq=rp .geq:=Eq.trans rfl rfl
@[simp] theorem arQ:bR .sub=uQ (bS .sub):=Eq.trans rfl rfl
@[simp] theorem arV:bR .mul=uQ (bS .mul):=Eq.trans rfl rfl
@[simp] theorem arU:bR .quo=uQ (bS .quo):=Eq.trans rfl rfl
@[simp] theorem arT:bR .rem=uQ (bS .rem):=Eq.trans rfl rfl
@[simp] theorem arS:bR .shl=eR .shl:=Eq.trans rfl rfl
@[simp] theorem arR:bR .shr=eR .shr:=Eq.trans rfl rfl
@[simp] theorem apZ (c:IntKind->Int->Int->bw)(k:IntKind)(a b:Int):uQ c (.int k a) (.int k b)=c k a b:=by simp[uQ]
@[simp] theorem al8 (k:IntKind)(a b:Int):bS .sub k a b=.val (.int k (k.wrap (a - b))):=by simp[bS]
@[simp] theorem al9 (k:IntKind)(a b:Int):bS .mul k a b=.val (.int k (k.wrap (a*b))):=by simp[bS]
@[simp] theorem ar2 (k:IntKind)(a b:Int):Ak (.int k a) (.int k b)=.val (.int k (k.wrap (a+b))):=by simp[Ak]
@[simp] theorem arL (k:IntKind)(a b:Int):rp .lss (.int k a) (.int k b)=.val (.bool (decide (a<b))):=by simp[rp]
@[simp] theorem arM (k:IntKind)(a b:Int):rp .leq (.int k a) (.int k b)=.val (.bool (decide (a<=b))):=by simp[rp]
@[simp] theorem arN (k:IntKind)(a b:Int):rp .gtr (.int k a) (.int k b)=.val (.bool (decide (b<a))):=by simp[rp]
@[simp] theorem arO (k:IntKind)(a b:Int):rp .geq (.int k a) (.int k b)=.val (.bool (decide (b<=a))):=by simp[rp]
@[simp] theorem auJ (k:IntKind)(a b:Int):kT false .num (.int k a) (.int k b)=.val (.bool (decide (a=b))):=by simp only[kT,jq,if_true];by_cases h:a=b<;>simp[h]
@[simp] theorem auH (k:IntKind)(a b:Int):kT true .num (.int k a) (.int k b)=.val (.bool (decide (a≠b))):=by
 simp only[kT,jq,if_true];by_cases h:a=b<;>simp[h]
@[simp] theorem auI (a b:List Nat):kT false .num (.str a) (.str b)=.val (.bool (decide (a=b))):=by simp only[kT,jq,fB];by_cases h:a=b<;>simp[h]
@[simp] theorem auG (a b:List Nat):kT true .num (.str a) (.str b)=.val (.bool (decide (a≠b))):=by simp only[kT,jq,fB];by_cases h:a=b<;>simp[h]
@[simp] theorem arJ (a b:Bool):kT false .bool (.bool a) (.bool b)=.val (.bool (a == b)):=by simp[kT,jq]
@[simp] theorem arF (a b:Bool):kT true .bool (.bool a) (.bool b)=.val (.bool (a != b)):=by cases a<;>cases b<;>rfl
def Ap (b:Bool)(r:Option Bool):Option Bool:=if b then r else some false
@[simp] theorem an3 (b c:Bool):Ap b (some c)=some (b&&c):=by cases b<;>rfl
@[simp] theorem ahk:bP [] [] []=some true:=Eq.trans rfl rfl
@[simp] theorem anD (qs:List LK)(k:IntKind)(a b:Int)(x y:List AV):bP (.i::qs) (.int k a::x) (.int k b::y)=Ap (decide (a=b)) (bP qs x y):=by
 by_cases h:a=b
 ·simp[bP,dY,h,Ap]
 have:(a == b)=false:=by simpa using h
 simp only[bP,dY,if_true,this,h,Ap,decide_false];rfl
@[simp] theorem anC (qs:List LK)(a b:List Nat)(x y:List AV):bP (.s::qs) (.str a::x) (.str b::y)=Ap (decide (a=b)) (bP qs x y):=by
 by_cases h:a=b
 ·simp[bP,dY,fB,h,Ap]
 have:(a == b)=false:=by simpa using h
 simp only[bP,dY,fB,this,h,Ap,decide_false];rfl
@[simp] theorem anE (qs:List LK)(a b:Bool)(x y:List AV):bP (.b::qs) (.bool a::x) (.bool b::y)=Ap (decide (a=b)) (bP qs x y):=by
 by_cases h:a=b
 ·simp[bP,dY,h,Ap]
 have:(a == b)=false:=by simpa using h
 simp only[bP,dY,this,h,Ap,decide_false];rfl
def bE (neg:Bool)(r:Option Bool):bw:=match r with
 |some b=>.val (.bool (neg != b))
 |none=>.fail
@[simp] theorem auO (neg b:Bool):bE neg (some b)=.val (.bool (neg != b)):=Eq.trans rfl rfl
@[simp] theorem arK (neg:Bool)(ks:List LK)(a b:List AV)(n m:Nat):og neg ks (.agg a n) (.agg b m)=if n=ks.length/\m=ks.length then bE neg (bP ks a b)else .fail:=by
 unfold og bE;dsimp only;rw[lU,lU]
 by_cases h:n=ks.length/\m=ks.length
 ·rw[aw h];simp only[h.1,h.2,decide_true,Bool.and_self];cases bP ks a b<;>rfl
 rw[ai h]
 have:(decide (n=ks.length)&&decide (m=ks.length))=false:=by
  by_cases h1:n=ks.length<;>by_cases h2:m=ks.length<;>simp_all
 rw[this]
@[simp] theorem auF (b:Bool):cUn .not (.bool b)=.val (.bool (!b)):=Eq.trans rfl rfl
theorem tz {ce:Ce}:∀ {m:List Dm}{H H':Hp}{n:Nat},dF m H=some H'->k_ ce m .ret H n=.mk .ret H' n
 |[],H,H',n,h=>by simp only[dF]at h;injection h with h;subst h;simp only[k_]
 |.cG k::m,H,H',n,h=>by
  simp only[dF]at h
  split at h
  ·rename_i hk;simp only[k_,hk];exact tz h
  cases h
 |.fn _ _::m,H,H',n,h=>by simp[dF]at h
@[simp] theorem ajA:dF [] H=some H:=Eq.trans rfl rfl
def aG (t:Nat):Fr->Hp->Option AV:=λ F _=>(aA t).f F
def vE (r:bw):Option AV:=match r with
 |.val v=>some v
 |_=>none
@[simp] theorem au8 (v:AV):vE (.val v)=some v:=Eq.trans rfl rfl
def b6 (a k:Nat):Fr->Hp->Option AV:=λ F H=>match (aA a).f F with
 |some v=>match eD k v H with
  |.val v=>some v
  |_=>none
 |none=>none
def OD (a:Nat):Fr->Hp->Option AV:=λ F H=>match (aA a).f F with
 |some v=>match cE v H with
  |.val v=>some v
  |_=>none
 |none=>none
variable {F:Fr}
@[simp] theorem auj:Ah F H []=some []:=Eq.trans rfl rfl
@[simp] theorem aq1 (x:Fr->Hp->Option AV)(r:List (Fr->Hp->Option AV)):Ah F H (x::r)=(x F H).bind λ v=>(Ah F H r).bind λ l=>some (v::l):=by
 rw[Ah]
 cases x F H with
 |none=>rfl
 |some a=>cases Ah F H r<;>rfl
@[simp] theorem avh (t:Nat):aG t F H=F.get t:=by simp[aG]
@[simp] theorem as2 (a k:Nat):b6 a k F H=(F.get a).bind λ v=>vE (eD k v H):=by
 simp only[b6,CW]
 cases F.get a with
 |none=>rfl
 |some v=>dsimp only [Option.bind];cases eD k v H<;>rfl
@[simp] theorem as3 (a:Nat):OD a F H=(F.get a).bind λ v=>vE (cE v H):=by
 simp only[OD,CW]
 cases F.get a with
 |none=>rfl
 |some v=>dsimp only [Option.bind];cases cE v H<;>rfl
@[simp] theorem aoR (v:AV):wh [v]=v:=Eq.trans rfl rfl
@[simp] theorem aoS:wh []=.bo []:=Eq.trans rfl rfl
@[simp] theorem aoQ (v u:AV)(l:List AV):wh (v::u::l)=.bo (v::u::l):=Eq.trans rfl rfl
end
section
variable {P:Program}{ce:Ce}
@[simp] theorem yn {α:Type}(i:Nat)(t:Tr α):Tr.bO [] i t=t:=Eq.trans rfl rfl
theorem enter {g:FuncId}{af:AF}{args:List AV}{H:Hp}{n:Nat}{R:AV->Hp->Nat->Prop}(h:PK P g=some af) (hl:args.length<=af.nt)
  (hb:∀F:Fr,(∀i,F.get i=args[i]?)->Ev (af.code.f ce F H n []) (kU af.res R)):EvC (my P ce g args H n) R:=by
 unfold my;rw[h];dsimp only;rw[bM,wq hl];dsimp only
 have:=hb (Tr.bO args 0 .nil) λ i=>by
  rw[Tr.bF]
  split
  ·simp
  rw[getElem?_eq_none ae];rfl
 cases hr:af.code.f ce (Tr.bO args 0 .nil) H n []with
 |fail=>rw[hr]at this;exact this
 |mk o F1 H1 n1 m1 =>
  rw[hr]at this
  have key:(o=.normal∨o=.ret)->EvC (mr af.res F1 (k_ ce m1 .ret H1 n1)) R:=by
   intro ho
   have:uA (dF m1 H1) λ H'=>uA (Ah F1 H' af.res) λ vs=>R (wh vs) H' n1:=by
    rcases ho with rfl|rfl
    ·simpa using this
    simpa using this
   cases hu:dF m1 H1 with
   |none=>rw[hu]at this;exact ar this id
   |some H2 =>
    rw[hu]at this;rw[tz hu];unfold mr;dsimp only;simp only[tL]at this
    cases he:Ah F1 H2 af.res with
    |none=>rw[he]at this;exact this
    |some vs=>rw[he]at this;exact this
  cases o with
  |normal=>exact key (.inl rfl)
  |ret=>exact key (.inr rfl)
  |exit i=>exact this
  |panic v=>exact ar this id
end
end Go.Abs
namespace Go.Abs
open List
inductive KO where
 |eff (e:Eff)
 |call (g:G) (as:List G)
 |bad
 |jA (e:Eff)
 |raw (f:Pd->K->K)
structure GO where
 g:Option (G×Bool)
 pd:Pd
 op:KO
def inO (pd:Pd)(o:KO)(next:K):K:=match o with
 |.eff e=>opK pd e next
 |.call g as=>BW pd g as next
 |.bad=>jQ
 |.jA _=>jQ
 |.raw f=>f pd next
def goK (o:Option GO)(next:K):K:=match o with
 |some ⟨none,pd,k⟩=>inO pd k next
 |some ⟨some (g,b),pd,k⟩=>su g b (inO pd k next) (XE pd next)
 |none=>jQ
def tO:List (Option GO)->K
 |[]=>HU
 |o::r=>goK o (tO r)
def Ae (P:Program) (o:Oper):KO:=match o.op with
 |.call {callee:=.value f,args,argTypes:=_}=>match eb P o with
  |some e=>.eff e
  |none=>match dD f,mn args.toList with
   |some g,some as=>.call g as
   |_,_=>.bad
 |_=>match eb P o with
  |some e=>.eff e
  |none=>.bad
def koM (P:Program) (o:Oper):KO:=match o.op with
 |.call {callee:=.value f,args,argTypes:=_}=>match eb P o with
  |some e=>.eff e
  |none=>match dD f,mn args.toList with
   |some g,some as=>.call g as
   |_,_=>.bad
 |_=>match eb P o with
  |some e=>.eff e
  |none=>.bad
def wC (P:Program) (nt:Nat) (ops:Array Oper) (o:Oper):Option GO:=match fC nt o.dst with
 |none=>none
 |some pd=>match o.guard with
  |none=>some ⟨none,pd,Ae P o⟩
  |some (j,b)=>match (ops[j]?).bind (·.dst)with
   |some d=>some ⟨some (aA d,b),pd,Ae P o⟩
   |none=>none
theorem BQ (P:Program)(pd:Pd)(o:Oper)(next:K):u5 P pd o next=inO pd (Ae P o) next:=by
 unfold u5 Ae
 split
 ·rename_i ho;rw[ho]
  cases eb P o with
  |some e=>rfl
  |none=>dsimp only;split<;>simp_all [inO]
 split<;>simp_all [inO]
theorem Kp (P:Program)(nt:Nat)(ops:Array Oper)(o:Oper)(next:K):tY P nt ops o next=goK (wC P nt ops o) next:=by
 unfold tY wC
 cases fC nt o.dst with
 |none=>rfl
 |some pd =>
  dsimp only
  cases o.guard with
  |none=>exact BQ ..
  |some x =>
   obtain⟨j,b⟩:=x;dsimp only
   cases (ops[j]?).bind (·.dst)with
   |none=>rfl
   |some d=>simp only[goK,BQ]
theorem zd (P:Program)(nt:Nat)(ops:Array Oper):∀l,tX P nt ops l=tO (l.map (wC P nt ops))
 |[]=>rfl
 |o::l=>by simp only[tX,map_cons,tO,Kp,zd P nt ops l]
structure RO where
 rs:RS
 g:Option (G×Bool)
 pd:Pd
 op:KO
 cnt:Option Nat
def Hv (o:RO)(next:KR):KR:=match o.op,o.cnt with
 |.eff e,some c=>opR o.rs o.pd e c next
 |.eff e,none=>Hg o.rs o.pd e next
 |.call g as,none=>lK o.rs o.pd g as next
 |.jA e,none=>Yz o.rs o.pd e next
 |_,_=>jP
def afc (o:RO)(next:KR):KR:=match o.cnt with
 |some _=>Ug o.pd next
 |none=>Uh o.pd next
def roR (o:Option RO) (next:KR):KR:=match o with
 |some o=>match o.g with
  |none=>Hv o next
  |some (g,b)=>yO o.rs g b (Hv o next) (afc o next)
 |none=>jP
def fY:List (Option RO)->KR
 |[]=>aly
 |o::r=>roR o (fY r)
def TM (_P:Program) (nt:Nat) (ops:Array Oper) (i:Nat) (k:Oper->KO) (cnt:Option Nat):Option RO:=match ops[i]? with
 |some o=>match fC nt o.dst with
  |some pd=>match o.guard with
   |none=>some ⟨cS (slotsOf ops o),none,pd,k o,cnt⟩
   |some (j,b)=>match (ops[j]?).bind (·.dst)with
    |some d=>some ⟨cS (slotsOf ops o),some (aA d,b),pd,k o,cnt⟩
    |none=>none
  |none=>none
 |none=>none
def koR (P:Program)(o:Oper):KO:=match eb P o with
 |some e=>.eff e
 |none=>.bad
def koF (P:Program) (o:Oper):KO:=match o.op with
 |.store _ _ _=>match eb P o with
  |some e=>.jA e
  |none=>.bad
 |_=>.bad
def roF (P:Program) (nt:Nat) (ops:Array Oper) (i:Nat):Option RO:=match ops[i]? with
 |some o=>match fC nt o.dst with
  |some pd=>match o.guard with
   |none=>some ⟨cS (slotsOf ops o),none,pd,koF P o,none⟩
   |some _=>none
  |none=>none
 |none=>none
def mh (P:Program)(nt:Nat)(ops:Array Oper):List fe->Nat->List (Option RO)
 |[],_=>[]
 |.op i e::l,j=>TM P nt ops i (koR P) (some (Nat.succ (Nat.sub j e)))::mh P nt ops l j
 |.mod i::l,j=>TM P nt ops i (koM P) none::mh P nt ops l (Nat.succ j)
 |.Vi i::l,j=>TM P nt ops i (koR P) (some 0)::mh P nt ops l j
 |.jA i::l,j=>roF P nt ops i::mh P nt ops l j
theorem akV (P:Program)(rs:RS)(pd:Pd)(o:Oper)(next:KR)(g:Option (G×Bool)):inF P rs pd o next=Hv ⟨rs,g,pd,koF P o,none⟩ next:=by
 unfold inF Hv koF;dsimp only
 split
 ·split<;>simp_all
 split<;>simp_all
theorem Dx (P:Program)(rs:RS)(pd:Pd)(o:Oper)(c:Nat)(next:KR)(g:Option (G×Bool)):Dy P rs pd o c next=Hv ⟨rs,g,pd,koR P o,some c⟩ next:=by
 unfold Dy Hv koR
 cases eb P o<;>rfl
theorem Ye (P:Program)(rs:RS)(pd:Pd)(o:Oper)(next:KR)(g:Option (G×Bool)):inM P rs pd o next=Hv ⟨rs,g,pd,koM P o,none⟩ next:=by
 unfold inM Hv koM;dsimp only
 split
 ·rename_i ho;rw[ho]
  cases eb P o with
  |some e=>rfl
  |none=>dsimp only;split<;>simp_all
 split<;>simp_all
theorem jT (P:Program) (nt:Nat) (ops:Array Oper):∀l j,gp P nt ops l j=fY (mh P nt ops l j)
 |[],_=>rfl
 |.op i e::l,j=>by
  simp only[gp,mh,fY,TM]
  cases ops[i]? with
  |none=>rfl
  |some o =>
   dsimp only
   cases fC nt o.dst with
   |none=>rfl
   |some pd =>
    dsimp only [guarded]
    cases o.guard with
    |none=>dsimp only [roR];rw[jT P nt ops l j,Dx (g:=none)]
    |some x =>
     obtain⟨q,b⟩:=x;dsimp only
     cases (ops[q]?).bind (·.dst)with
     |none=>rfl
     |some d=>dsimp only [roR,afc];rw[jT P nt ops l j,Dx (g:=some (aA d,b))]
 |.mod i::l,j=>by
  simp only[gp,mh,fY,TM]
  cases ops[i]? with
  |none=>rfl
  |some o =>
   dsimp only
   cases fC nt o.dst with
   |none=>rfl
   |some pd =>
    dsimp only [guarded]
    cases o.guard with
    |none=>dsimp only [roR];rw[jT P nt ops l (Nat.succ j),Ye (g:=none)]
    |some x =>
     obtain⟨q,b⟩:=x;dsimp only
     cases (ops[q]?).bind (·.dst)with
     |none=>rfl
     |some d=>dsimp only [roR,afc];rw[jT P nt ops l (Nat.succ j),Ye (g:=some (aA d,b))]
 |.Vi i :: l,j=>by
  simp only[gp,mh,fY,TM]
  cases ops[i]? with
  |none=>rfl
  |some o =>
   dsimp only
   cases fC nt o.dst with
   |none=>rfl
   |some pd =>
    dsimp only [guarded]
    cases o.guard with
    |none=>dsimp only [roR];rw[jT P nt ops l j,Dx (g:=none)]
    |some x =>
     obtain⟨q,b⟩:=x;dsimp only
     cases (ops[q]?).bind (·.dst)with
     |none=>rfl
     |some d=>dsimp only [roR,afc];rw[jT P nt ops l j,Dx (g:=some (aA d,b))]
 |.jA i::l,j=>by
  simp only[gp,mh,fY,roF]
  cases ops[i]? with
  |none=>rfl
  |some o =>
   dsimp only
   cases fC nt o.dst with
   |none=>rfl
   |some pd =>
    dsimp only
    cases o.guard with
    |none=>dsimp only [roR];rw[jT P nt ops l j,akV (g:=none)]
    |some x=>rfl
inductive CT where
 |ng (l:List (Option GO))
 |dO (ds:List Nat) (l:List (Option RO))
 |seq (a b:CT)
 |cond (g:G) (a b:CT)
 |block (i:Nat) (b:CT)
 |loop (b:CT)
 |exit (i:Nat)
 |ret
 |skip
 |range (nt:Nat) (g:G) (ps:List Nat) (a b:Code)
 |bad
 |raw (k:K)
def te:CT->K
 |.ng l=>tO l
 |.dO ds l=>HW ds (fY l)
 |.seq a b=>Jk (te a) (te b)
 |.cond g a b=>BN g (te a) (te b)
 |.block i b=>ve i (te b)
 |.loop b=>Hk (te b)
 |.exit i=>Pz i
 |.ret=>aew
 |.skip=>HU
 |.range nt g ps a b=>C4 nt g ps a b
 |.bad=>jQ
 |.raw k=>k
def ajQ (P:Program)(nt:Nat)(ops:Array Oper)(pl:List fe)(ok:Bool):CT:=match ok with
 |true=>.dO (iU ops.toList) (mh P nt ops pl 0)
 |false=>.bad
theorem aey (P:Program)(nt:Nat)(ops:Array Oper)(pl:List fe)(ok:Bool):aez P nt ops pl ok=te (ajQ P nt ops pl ok):=by
 cases ok with
 |false=>rfl
 |true=>simp only[aez,ajQ,te,HW,jT]
def eQ (P:Program) (nt:Nat) (rd:Bool):Code->CT
 |.skip=>.skip
 |.region _ ops d=>bif d then (bif P.follows .mixedOrders then ajQ P nt ops (T9 (mZ ops.toList 0 .nil) ops.toList) (wR (mZ ops.toList 0 .nil) ops (T9 (mZ ops.toList 0 .nil) ops.toList))else .bad)else (bif rd&&eE ops.toList then .bad else .ng (ops.toList.map (wC P nt ops)))
 |.seq a b=>.seq (eQ P nt rd a) (eQ P nt rd b)
 |.cond c a b=>match dD c with
  |some x=>.cond x (eQ P nt rd a) (eQ P nt rd b)
  |none=>.bad
 |.block id b=>.block id (eQ P nt rd b)
 |.loop (.seq a rest)=>match Bn a with
  |some (x,d,ops,os)=>bif rd&&eE os then .bad else .raw (afl P nt x d ops os (comp P nt rd rest))
  |none=>.loop (.seq (eQ P nt rd a) (eQ P nt rd rest))
 |.loop b=>.loop (eQ P nt rd b)
 |.exit id=>.exit id
 |.ret=>.ret
 |.scope b=>eQ P nt rd b
 |.label _=>.skip
 |.rangeFunc f ps a b=>match dD f with
  |some x=>bif rd then .bad else .range nt x ps.toList a b
  |none=>.bad
 |_=>.bad
theorem l7 (P:Program)(nt:Nat)(rd:Bool):∀c,comp P nt rd c=te (eQ P nt rd c)
 |.skip=>rfl
 |.region _ ops d=>by
  simp only[comp,eQ,PI,aey,zd]
  cases d with
  |false=>simp only[cond_false];cases (rd&&eE ops.toList)<;>rfl
  |true=>simp only[cond_true];cases P.follows .mixedOrders<;>rfl
 |.seq a b=>by simp only[comp,eQ,te,l7 P nt rd a,l7 P nt rd b]
 |.cond c a b=>by simp only[comp,eQ,l7 P nt rd a,l7 P nt rd b];cases dD c<;>rfl
 |.block id b=>by simp only[comp,eQ,te,l7 P nt rd b]
 |.loop b=>by
  have ib:=l7 P nt rd b
  cases b with
  |seq a rest =>
   simp only[comp,eQ];simp only[comp,eQ,te]at ib
   cases Bn a with
   |none=>simp only[te,ib]
   |some y=>obtain⟨x,d,ops,os⟩:=y;dsimp only;cases (rd&&eE os)<;>rfl
  |_=>simp only[comp,eQ,te,ib]<;>(try simp only[comp,eQ,te]at ib;simp only[ib])
 |.exit id=>rfl
 |.ret=>rfl
 |.rangeFunc f ps a b=>by
  simp only[comp,eQ]
  cases dD f with
  |none=>rfl
  |some x=>dsimp only;cases rd<;>rfl
 |.scope b=>by simp only[comp,eQ,l7 P nt rd b]
 |.label _=>rfl
 |.goto _=>rfl
 |.refuse _=>rfl
structure CF where
 res:List (Fr->Hp->Option AV)
 code:CT
 nt:Nat
def J5 (P:Program) (g:FuncId):Option CF:=match P.funcs[g]? with
 |some fn=>match fn.body with
  | some b => match fn.name == "runtime.NumGoroutine" with
   |true=>none
   |false=>match lF P fn.results.toList with
    |some r=>some {res:=r,code:=eQ P fn.ntmps false b,nt:=fn.ntmps}
    |none=>none
  |none=>none
 |none=>none
section
variable {ce:Ce}{F:Fr}{H:Hp}{n:Nat}{m:List Dm}{Q:QA}{Hs:List Hp}
@[simp] theorem atz (l:List (Option GO)):te (.ng l)=tO l:=Eq.trans rfl rfl
@[simp] theorem atA (ds:List Nat)(l:List (Option RO)):te (.dO ds l)=HW ds (fY l):=Eq.trans rfl rfl
@[simp] theorem atx (a b:CT):te (.seq a b)=Jk (te a) (te b):=Eq.trans rfl rfl
@[simp] theorem apS (g:G)(a b:CT):te (.cond g a b)=BN g (te a) (te b):=Eq.trans rfl rfl
@[simp] theorem anm (i:Nat)(b:CT):te (.block i b)=ve i (te b):=Eq.trans rfl rfl
@[simp] theorem apQ (b:CT):te (.loop b)=Hk (te b):=Eq.trans rfl rfl
@[simp] theorem apR (i:Nat):te (.exit i)=Pz i:=Eq.trans rfl rfl
@[simp] theorem aty:te .ret=aew:=Eq.trans rfl rfl
@[simp] theorem apP:te .skip=HU:=Eq.trans rfl rfl
def oP (pd:Pd)(e:Eff):Option GO:=some ⟨none,pd,.eff e⟩
def gP (g:G)(b:Bool)(pd:Pd)(e:Eff):Option GO:=some ⟨some (g,b),pd,.eff e⟩
def cP (pd:Pd)(f:FuncId)(as:List G):Option GO:=some ⟨none,pd,.call (aQ (.fn (.func f) [] [])) as⟩
def kz (g:G)(b:Bool)(pd:Pd)(f:FuncId)(as:List G):Option GO:=some ⟨some (g,b),pd,.call (aQ (.fn (.func f) [] [])) as⟩
def vP (pd:Pd)(g:G)(as:List G):Option GO:=some ⟨none,pd,.call g as⟩
@[simp] theorem aqY:Ev ((tO []).f ce F H n m) Q=Q .normal F H n m:=propext Iff.rfl
def EvO (x:bw)(pd:Pd)(r:List (Option GO))(ce:Ce)(F:Fr)(H:Hp)(n:Nat)(m:List Dm)(Q:QA):Prop:=CJ x H n λ v H' n'=>Ev ((tO r).f ce (pd.f v F) H' n' m) Q
def amY (x:iC)(pd:Pd)(r:List (Option GO))(ce:Ce)(F:Fr)(m:List Dm)(Q:QA):Prop:=EvC x λ v H' n'=>Ev ((tO r).f ce (pd.f v F) H' n' m) Q
def adR (vs:Option (List AV))(f:FuncId)(pd:Pd)(r:List (Option GO))(ce:Ce)(F:Fr)(H:Hp)(n:Nat)(m:List Dm)(Q:QA):Prop:=uA vs λ vs=>amY (ce.call f vs H n) pd r ce F m Q
def Vb (v:Option AV)(b:Bool)(pd:Pd)(e:Eff)(r:List (Option GO))(ce:Ce)(F:Fr)(H:Hp)(n:Nat)(m:List Dm)(Q:QA):Prop:=fy v b (EvO (e F H n) pd r ce F H n m Q) (Ev ((tO r).f ce (pd.f (.bo []) F) H n m) Q)
def Ve (v:Option AV)(b:Bool)(pd:Pd)(f:FuncId)(as:List G)(r:List (Option GO))(ce:Ce)(F:Fr)(H:Hp)(n:Nat)(m:List Dm)(Q:QA):Prop:=fy v b (adR (evs F as) f pd r ce F H n m Q) (Ev ((tO r).f ce (pd.f (.bo []) F) H n m) Q)
@[simp] theorem aq2 (pd:Pd)(r:List (Option GO)):EvO .fail pd r ce F H n m Q=False:=propext Iff.rfl
@[simp] theorem auk (v:AV)(pd:Pd)(r:List (Option GO)):EvO (.val v) pd r ce F H n m Q=Ev ((tO r).f ce (pd.f v F) H n m) Q:=propext Iff.rfl
@[simp] theorem aum (v:AV)(k:bG)(pd:Pd)(r:List (Option GO)):EvO (.new v k) pd r ce F H n m Q=Ev ((tO r).f ce (pd.f v F) (H.put n (some k)) (n+1) m) Q:=propext Iff.rfl
@[simp] theorem aul (v:AV)(b:Nat)(k:bG)(pd:Pd)(r:List (Option GO)):EvO (.upd v b k) pd r ce F H n m Q=Ev ((tO r).f ce (pd.f v F) (H.put b (some k)) n m) Q:=propext Iff.rfl
@[simp] theorem axd (v:AV)(b:Nat)(k:bG)(pd:Pd)(r:List (Option GO)):EvO (.mv v b k) pd r ce F H n m Q=Ev ((tO r).f ce (pd.f v F) ((H.put b none).put n (some k)) (n+1) m) Q:=propext Iff.rfl
@[simp] theorem auD (v:AV)(H':Hp)(n':Nat)(pd:Pd)(r:List (Option GO)):amY (.mk v H' n') pd r ce F m Q=Ev ((tO r).f ce (pd.f v F) H' n' m) Q:=propext Iff.rfl
@[simp] theorem an0 (vs:List AV)(f:FuncId)(pd:Pd)(r:List (Option GO)):adR (some vs) f pd r ce F H n m Q=amY (ce.call f vs H n) pd r ce F m Q:=propext Iff.rfl
@[simp] theorem awE (pd:Pd)(e:Eff)(r:List (Option GO)):Vb (some (.bool true)) true pd e r ce F H n m Q=EvO (e F H n) pd r ce F H n m Q:=propext Iff.rfl
@[simp] theorem awF (pd:Pd)(e:Eff)(r:List (Option GO)):Vb (some (.bool false)) true pd e r ce F H n m Q=Ev ((tO r).f ce (pd.f (.bo []) F) H n m) Q:=propext Iff.rfl
@[simp] theorem atV (pd:Pd)(e:Eff)(r:List (Option GO)):Vb (some (.bool true)) false pd e r ce F H n m Q=Ev ((tO r).f ce (pd.f (.bo []) F) H n m) Q:=propext Iff.rfl
@[simp] theorem atW (pd:Pd)(e:Eff)(r:List (Option GO)):Vb (some (.bool false)) false pd e r ce F H n m Q=EvO (e F H n) pd r ce F H n m Q:=propext Iff.rfl
@[simp] theorem aqz (l:List AV)(b:Bool)(pd:Pd)(e:Eff)(r:List (Option GO)):Vb (some (.bo l)) b pd e r ce F H n m Q=Ev ((tO r).f ce (pd.f (.bo []) F) H n m) Q:=propext Iff.rfl
@[simp] theorem awK (pd:Pd)(f:FuncId)(as:List G)(r:List (Option GO)):Ve (some (.bool true)) true pd f as r ce F H n m Q=adR (evs F as) f pd r ce F H n m Q:=propext Iff.rfl
@[simp] theorem awL (pd:Pd)(f:FuncId)(as:List G)(r:List (Option GO)):Ve (some (.bool false)) true pd f as r ce F H n m Q=Ev ((tO r).f ce (pd.f (.bo []) F) H n m) Q:=propext Iff.rfl
@[simp] theorem at6 (pd:Pd)(f:FuncId)(as:List G)(r:List (Option GO)):Ve (some (.bool true)) false pd f as r ce F H n m Q=Ev ((tO r).f ce (pd.f (.bo []) F) H n m) Q:=propext Iff.rfl
@[simp] theorem at7 (pd:Pd)(f:FuncId)(as:List G)(r:List (Option GO)):Ve (some (.bool false)) false pd f as r ce F H n m Q=adR (evs F as) f pd r ce F H n m Q:=propext Iff.rfl
@[simp] theorem aqC (l:List AV)(b:Bool)(pd:Pd)(f:FuncId)(as:List G)(r:List (Option GO)):Ve (some (.bo l)) b pd f as r ce F H n m Q=Ev ((tO r).f ce (pd.f (.bo []) F) H n m) Q:=propext Iff.rfl
@[simp] theorem azj (pd:Pd)(e:Eff)(r:List (Option GO)):Ev ((tO (oP pd e::r)).f ce F H n m) Q=EvO (e F H n) pd r ce F H n m Q:=ahj pd e (tO r)
@[simp] theorem azl (g:G)(b:Bool)(pd:Pd)(e:Eff)(r:List (Option GO)):Ev ((tO (gP g b pd e::r)).f ce F H n m) Q=Vb (g.f F) b pd e r ce F H n m Q:=alw g b pd e (tO r)
@[simp] theorem azn (pd:Pd)(f:FuncId)(as:List G)(r:List (Option GO)):Ev ((tO (cP pd f as::r)).f ce F H n m) Q=adR (evs F as) f pd r ce F H n m Q:=YG pd f as (tO r)
@[simp] theorem aw' (g:G)(b:Bool)(pd:Pd)(f:FuncId)(as:List G)(r:List (Option GO)):Ev ((tO (kz g b pd f as::r)).f ce F H n m) Q=Ve (g.f F) b pd f as r ce F H n m Q:=afY g b pd f as (tO r)
theorem oh (e:Eff)(F:Fr)(n:Nat)(A:Hp)(As:List Hp):fD e F n 1 (A::As)=vE (e F A n):=by
 simp only[fD];unfold vE
 cases e F A n<;>rfl
def eqA (v:AV)(u:Option AV):Option AV:=u.bind λ u=>if KF v u=true then some u else none
theorem jC (e:Eff)(F:Fr)(n k:Nat)(A:Hp)(As:List Hp):fD e F n (k+2) (A::As)=(vE (e F A n)).bind λ v=>eqA v (fD e F n (k+1) As):=by
 rw[fD];unfold vE eqA
 cases e F A n with
 |val v =>
  dsimp only [Option.bind]
  cases fD e F n (k+1) As with
  |none=>rfl
  |some u=>dsimp only;cases KF v u<;>rfl
 |_=>rfl
@[simp] theorem asi (e:Eff)(F:Fr)(n:Nat)(A:Hp)(As:List Hp):fD e F n 1 (A::As)=vE (e F A n):=oh e F n A As
@[simp] theorem ash (e:Eff)(F:Fr)(n:Nat)(A B:Hp)(As:List Hp):fD e F n 2 (A::B::As)=(vE (e F A n)).bind λ v=>eqA v (vE (e F B n)):=by rw[jC e F n 0,oh]
@[simp] theorem asg (e:Eff)(F:Fr)(n:Nat)(A B C:Hp)(As:List Hp):fD e F n 3 (A::B::C::As)=(vE (e F A n)).bind λ v=>eqA v ((vE (e F B n)).bind λ v=>eqA v (vE (e F C n))):=by rw[jC e F n 1,jC e F n 0,oh]
@[simp] theorem aq7 (v:AV):eqA v (some v)=some v:=by simp[eqA,U1]
def oI (rs:List Nat)(pd:Pd)(e:Eff)(c:Nat):Option RO:=some ⟨cS rs,none,pd,.eff e,some c⟩
def mI (rs:List Nat)(pd:Pd)(e:Eff):Option RO:=some ⟨cS rs,none,pd,.eff e,none⟩
def cI (rs:List Nat)(pd:Pd)(f:FuncId)(as:List G):Option RO:=some ⟨cS rs,none,pd,.call (aQ (.fn (.func f) [] [])) as,none⟩
def goI (rs:List Nat)(g:G)(b:Bool)(pd:Pd)(e:Eff)(c:Nat):Option RO:=some ⟨cS rs,some (g,b),pd,.eff e,some c⟩
def gmI (rs:List Nat)(g:G)(b:Bool)(pd:Pd)(e:Eff):Option RO:=some ⟨cS rs,some (g,b),pd,.eff e,none⟩
def gcI (rs:List Nat)(g:G)(b:Bool)(pd:Pd)(f:FuncId)(as:List G):Option RO:=some ⟨cS rs,some (g,b),pd,.call (aQ (.fn (.func f) [] [])) as,none⟩
def fI (rs:List Nat)(pd:Pd)(e:Eff):Option RO:=some ⟨cS rs,none,pd,.jA e,none⟩
def vI (rs:List Nat)(pd:Pd)(g:G)(as:List G):Option RO:=some ⟨cS rs,none,pd,.call g as,none⟩
@[simp] theorem anB:Ev ((fY []).f ce F H Hs n m) Q=Q .normal F H n m:=propext Iff.rfl
def Vf (x:bw)(pd:Pd)(r:List (Option RO))(ce:Ce)(F:Fr)(H:Hp)(Hs:List Hp)(n:Nat)(m:List Dm)(Q:QA):Prop:=CJ x H n λ v H' n'=>Ev ((fY r).f ce (pd.f v F) H' (H'::Hs) n' m) Q
def ErI (x:bw)(e:Eff)(c:Nat)(F0:Fr)(pd:Pd)(r:List (Option RO))(ce:Ce)(F:Fr)(H:Hp)(Hs:List Hp)(n:Nat)(m:List Dm)(Q:QA):Prop:=match x with
 |.val v=>Ev ((fY r).f ce (pd.f v F) H Hs n m) Q
 |.new v b=>if jx n Hs=true then Ev ((fY r).f ce (pd.f v F) (H.put n (some b)) Hs (n+1) m) Q else False
 |.fail=>uA (fD e F0 n c Hs) λ v=>Ev ((fY r).f ce (pd.f v F) H Hs n m) Q
 |_=>False
def AvI (x:Option AV)(pd:Pd)(r:List (Option RO))(ce:Ce)(F:Fr)(H:Hp)(Hs:List Hp)(n:Nat)(m:List Dm)(Q:QA):Prop:=uA x λ v=>Ev ((fY r).f ce (pd.f v F) H Hs n m) Q
def IW (x:iC)(pd:Pd)(r:List (Option RO))(ce:Ce)(F:Fr)(Hs:List Hp)(m:List Dm)(Q:QA):Prop:=EvC x λ v H' n'=>Ev ((fY r).f ce (pd.f v F) H' (H'::Hs) n' m) Q
def adS (vs:Option (List AV))(f:FuncId)(pd:Pd)(r:List (Option RO))(ce:Ce)(F:Fr)(H:Hp)(Hs:List Hp)(n:Nat)(m:List Dm)(Q:QA):Prop:=uA vs λ vs=>IW (ce.call f vs H n) pd r ce F Hs m Q
@[simp] theorem aq3 (pd:Pd)(r:List (Option RO)):Vf .fail pd r ce F H Hs n m Q=False:=propext Iff.rfl
@[simp] theorem aun (v:AV)(pd:Pd)(r:List (Option RO)):Vf (.val v) pd r ce F H Hs n m Q=Ev ((fY r).f ce (pd.f v F) H (H::Hs) n m) Q:=propext Iff.rfl
@[simp] theorem aup (v:AV)(k:bG)(pd:Pd)(r:List (Option RO)):Vf (.new v k) pd r ce F H Hs n m Q=Ev ((fY r).f ce (pd.f v F) (H.put n (some k)) (H.put n (some k)::Hs) (n+1) m) Q:=propext Iff.rfl
@[simp] theorem auo (v:AV)(b:Nat)(k:bG)(pd:Pd)(r:List (Option RO)):Vf (.upd v b k) pd r ce F H Hs n m Q=Ev ((fY r).f ce (pd.f v F) (H.put b (some k)) (H.put b (some k)::Hs) n m) Q:=propext Iff.rfl
@[simp] theorem axe (v:AV)(b:Nat)(k:bG)(pd:Pd)(r:List (Option RO)):Vf (.mv v b k) pd r ce F H Hs n m Q=Ev ((fY r).f ce (pd.f v F) ((H.put b none).put n (some k)) ((H.put b none).put n (some k)::Hs) (n+1) m) Q:=propext Iff.rfl
@[simp] theorem aut (v:AV)(e:Eff)(c:Nat)(F0:Fr)(pd:Pd)(r:List (Option RO)):ErI (.val v) e c F0 pd r ce F H Hs n m Q=Ev ((fY r).f ce (pd.f v F) H Hs n m) Q:=propext Iff.rfl
@[simp] theorem auu (v:AV)(k:bG)(e:Eff)(c:Nat)(F0:Fr)(pd:Pd)(r:List (Option RO)):ErI (.new v k) e c F0 pd r ce F H Hs n m Q=if jx n Hs=true then Ev ((fY r).f ce (pd.f v F) (H.put n (some k)) Hs (n+1) m) Q else False:=propext Iff.rfl
@[simp] theorem aq6 (e:Eff)(c:Nat)(F0:Fr)(pd:Pd)(r:List (Option RO)):ErI .fail e c F0 pd r ce F H Hs n m Q=AvI (fD e F0 n c Hs) pd r ce F H Hs n m Q:=propext Iff.rfl
@[simp] theorem asb (v:AV)(pd:Pd)(r:List (Option RO)):AvI (some v) pd r ce F H Hs n m Q=Ev ((fY r).f ce (pd.f v F) H Hs n m) Q:=propext Iff.rfl
@[simp] theorem auE (v:AV)(H':Hp)(n':Nat)(pd:Pd)(r:List (Option RO)):IW (.mk v H' n') pd r ce F Hs m Q=Ev ((fY r).f ce (pd.f v F) H' (H'::Hs) n' m) Q:=propext Iff.rfl
@[simp] theorem an2 (vs:List AV)(f:FuncId)(pd:Pd)(r:List (Option RO)):adS (some vs) f pd r ce F H Hs n m Q=IW (ce.call f vs H n) pd r ce F Hs m Q:=propext Iff.rfl
@[simp] theorem aqX (rs:List Nat)(pd:Pd)(e:Eff)(c:Nat)(r:List (Option RO)):Ev ((fY (oI rs pd e c::r)).f ce F H Hs n m) Q=ErI (e ((cS rs).f F) .nil n) e c ((cS rs).f F) pd r ce F H Hs n m Q:=by
 have:=alu (ce:=ce) (F:=F) (H:=H) (Hs:=Hs) (n:=n) (m:=m) (Q:=Q) (cS rs) pd e c (fY r);refine Eq.trans this ?_;unfold EvR ErI
 cases e ((cS rs).f F) .nil n<;>rfl
def FlI (x:bw) (pd:Pd) (r:List (Option RO)) (ce:Ce) (F:Fr) (H B:Hp) (Hs:List Hp) (n:Nat) (m:List Dm) (Q:QA):Prop:=match x with
 |.upd v b k=>match B.get b with
  |some _=>Ev ((fY r).f ce (pd.f v F) (H.put b (some k)) (B.put b none::Hs) n m) Q
  |none=>False
 |_=>False
@[simp] theorem aqS (v:AV)(b:Nat)(k:bG)(pd:Pd)(r:List (Option RO))(B:Hp):FlI (.upd v b k) pd r ce F H B Hs n m Q=uA (B.get b) λ _=>Ev ((fY r).f ce (pd.f v F) (H.put b (some k)) (B.put b none::Hs) n m) Q:=by
 unfold FlI uA;dsimp only;cases B.get b<;>rfl
@[simp] theorem aqT (pd:Pd)(r:List (Option RO))(B:Hp):FlI .fail pd r ce F H B Hs n m Q=False:=propext Iff.rfl
@[simp] theorem azm (rs:List Nat)(pd:Pd)(e:Eff)(r:List (Option RO))(B:Hp):Ev ((fY (fI rs pd e::r)).f ce F H (B::Hs) n m) Q=FlI (e ((cS rs).f F) B n) pd r ce F H B Hs n m Q:=by
 show Ev ((Yz (cS rs) pd e (fY r)).f ce F H (B::Hs) n m) Q=_;simp only[Yz];unfold FlI
 cases e ((cS rs).f F) B n with
 |upd v b k=>dsimp only;cases B.get b<;>rfl
 |_=>rfl
@[simp] theorem azk (rs:List Nat)(pd:Pd)(e:Eff)(r:List (Option RO)):Ev ((fY (mI rs pd e::r)).f ce F H Hs n m) Q=Vf (e ((cS rs).f F) H n) pd r ce F H Hs n m Q:=PD _ pd e (fY r)
@[simp] theorem azo (rs:List Nat)(pd:Pd)(f:FuncId)(as:List G)(r:List (Option RO)):Ev ((fY (cI rs pd f as::r)).f ce F H Hs n m) Q=adS (evs ((cS rs).f F) as) f pd r ce F H Hs n m Q:=PE _ pd f as (fY r)
def GoI (v:Option AV)(b:Bool)(F0:Fr)(pd:Pd)(e:Eff)(c:Nat)(r:List (Option RO))(ce:Ce)(F:Fr)(H:Hp)(Hs:List Hp)(n:Nat)(m:List Dm)(Q:QA):Prop:=fy v b (ErI (e F0 .nil n) e c F0 pd r ce F H Hs n m Q) (Ev ((fY r).f ce (pd.f (.bo []) F) H Hs n m) Q)
def GmI (v:Option AV)(b:Bool)(F0:Fr)(pd:Pd)(e:Eff)(r:List (Option RO))(ce:Ce)(F:Fr)(H:Hp)(Hs:List Hp)(n:Nat)(m:List Dm)(Q:QA):Prop:=fy v b (Vf (e F0 H n) pd r ce F H Hs n m Q) (Ev ((fY r).f ce (pd.f (.bo []) F) H (H::Hs) n m) Q)
def GcI (v:Option AV)(b:Bool)(F0:Fr)(pd:Pd)(f:FuncId)(as:List G)(r:List (Option RO))(ce:Ce)(F:Fr)(H:Hp)(Hs:List Hp)(n:Nat)(m:List Dm)(Q:QA):Prop:=fy v b (adS (evs F0 as) f pd r ce F H Hs n m Q) (Ev ((fY r).f ce (pd.f (.bo []) F) H (H::Hs) n m) Q)
theorem qN {rs:RS}{g:G}{b:Bool}{yes no:KR}:Ev ((yO rs g b yes no).f ce F H Hs n m) Q=fy (g.f (rs.f F)) b (Ev (yes.f ce F H Hs n m) Q) (Ev (no.f ce F H Hs n m) Q):=by
 simp only[yO];unfold fy
 cases g.f (rs.f F)with
 |none=>rfl
 |some v=>cases v with
  |bool x=>dsimp only;cases x == b<;>rfl
  |_=>rfl
theorem afX (rs:List Nat)(g:G)(b:Bool)(pd:Pd)(e:Eff)(c:Nat)(r:List (Option RO)):Ev ((fY (goI rs g b pd e c::r)).f ce F H Hs n m) Q=fy (g.f ((cS rs).f F)) b (Ev ((fY (oI rs pd e c::r)).f ce F H Hs n m) Q) (Ev ((fY r).f ce (pd.f (.bo []) F) H Hs n m) Q):=
 qN (ce:=ce) (F:=F) (H:=H) (Hs:=Hs) (n:=n) (m:=m) (Q:=Q) (rs:=cS rs) (g:=g) (b:=b) (yes:=opR (cS rs) pd e c (fY r)) (no:=Ug pd (fY r))
@[simp] theorem aw9 (rs:List Nat)(g:G)(b:Bool)(pd:Pd)(e:Eff)(c:Nat)(r:List (Option RO)):Ev ((fY (goI rs g b pd e c::r)).f ce F H Hs n m) Q=GoI (g.f ((cS rs).f F)) b ((cS rs).f F) pd e c r ce F H Hs n m Q:=by
 rw[afX,aqX];rfl
@[simp] theorem aw_ (rs:List Nat)(g:G)(b:Bool)(pd:Pd)(e:Eff)(r:List (Option RO)):Ev ((fY (gmI rs g b pd e::r)).f ce F H Hs n m) Q=GmI (g.f ((cS rs).f F)) b ((cS rs).f F) pd e r ce F H Hs n m Q:=by
 have h1:=qN (ce:=ce) (F:=F) (H:=H) (Hs:=Hs) (n:=n) (m:=m) (Q:=Q) (rs:=cS rs) (g:=g) (b:=b) (yes:=Hg (cS rs) pd e (fY r)) (no:=Uh pd (fY r));rw[PD]at h1;exact h1
@[simp] theorem axa (rs:List Nat)(g:G)(b:Bool)(pd:Pd)(f:FuncId)(as:List G)(r:List (Option RO)):Ev ((fY (gcI rs g b pd f as::r)).f ce F H Hs n m) Q=GcI (g.f ((cS rs).f F)) b ((cS rs).f F) pd f as r ce F H Hs n m Q:=by
 have h1:=qN (ce:=ce) (F:=F) (H:=H) (Hs:=Hs) (n:=n) (m:=m) (Q:=Q) (rs:=cS rs) (g:=g) (b:=b) (yes:=al5 (cS rs) pd f as (fY r)) (no:=Uh pd (fY r));rw[PE]at h1;exact h1
@[simp] theorem ay_ (F0:Fr)(pd:Pd)(e:Eff)(c:Nat)(r:List (Option RO)):GoI (some (.bool true)) true F0 pd e c r ce F H Hs n m Q=ErI (e F0 .nil n) e c F0 pd r ce F H Hs n m Q:=propext Iff.rfl
@[simp] theorem ay' (F0:Fr)(pd:Pd)(e:Eff)(c:Nat)(r:List (Option RO)):GoI (some (.bool false)) true F0 pd e c r ce F H Hs n m Q=Ev ((fY r).f ce (pd.f (.bo []) F) H Hs n m) Q:=propext Iff.rfl
@[simp] theorem awN (F0:Fr)(pd:Pd)(e:Eff)(c:Nat)(r:List (Option RO)):GoI (some (.bool true)) false F0 pd e c r ce F H Hs n m Q=Ev ((fY r).f ce (pd.f (.bo []) F) H Hs n m) Q:=propext Iff.rfl
@[simp] theorem awO (F0:Fr)(pd:Pd)(e:Eff)(c:Nat)(r:List (Option RO)):GoI (some (.bool false)) false F0 pd e c r ce F H Hs n m Q=ErI (e F0 .nil n) e c F0 pd r ce F H Hs n m Q:=propext Iff.rfl
@[simp] theorem aua (l:List AV)(b:Bool)(F0:Fr)(pd:Pd)(e:Eff)(c:Nat)(r:List (Option RO)):GoI (some (.bo l)) b F0 pd e c r ce F H Hs n m Q=Ev ((fY r).f ce (pd.f (.bo []) F) H Hs n m) Q:=propext Iff.rfl
@[simp] theorem awP (F0:Fr)(pd:Pd)(e:Eff)(r:List (Option RO)):GmI (some (.bool true)) false F0 pd e r ce F H Hs n m Q=Ev ((fY r).f ce (pd.f (.bo []) F) H (H::Hs) n m) Q:=propext Iff.rfl
@[simp] theorem awQ (F0:Fr)(pd:Pd)(e:Eff)(r:List (Option RO)):GmI (some (.bool false)) false F0 pd e r ce F H Hs n m Q=Vf (e F0 H n) pd r ce F H Hs n m Q:=propext Iff.rfl
@[simp] theorem awR (F0:Fr)(pd:Pd)(f:FuncId)(as:List G)(r:List (Option RO)):GcI (some (.bool true)) false F0 pd f as r ce F H Hs n m Q=Ev ((fY r).f ce (pd.f (.bo []) F) H (H::Hs) n m) Q:=propext Iff.rfl
@[simp] theorem awS (F0:Fr)(pd:Pd)(f:FuncId)(as:List G)(r:List (Option RO)):GcI (some (.bool false)) false F0 pd f as r ce F H Hs n m Q=adS (evs F0 as) f pd r ce F H Hs n m Q:=propext Iff.rfl
@[simp] theorem aza (F0:Fr)(pd:Pd)(e:Eff)(r:List (Option RO)):GmI (some (.bool true)) true F0 pd e r ce F H Hs n m Q=Vf (e F0 H n) pd r ce F H Hs n m Q:=propext Iff.rfl
@[simp] theorem azb (F0:Fr)(pd:Pd)(e:Eff)(r:List (Option RO)):GmI (some (.bool false)) true F0 pd e r ce F H Hs n m Q=Ev ((fY r).f ce (pd.f (.bo []) F) H (H::Hs) n m) Q:=propext Iff.rfl
@[simp] theorem azc (F0:Fr)(pd:Pd)(f:FuncId)(as:List G)(r:List (Option RO)):GcI (some (.bool true)) true F0 pd f as r ce F H Hs n m Q=adS (evs F0 as) f pd r ce F H Hs n m Q:=propext Iff.rfl
@[simp] theorem azd (F0:Fr)(pd:Pd)(f:FuncId)(as:List G)(r:List (Option RO)):GcI (some (.bool false)) true F0 pd f as r ce F H Hs n m Q=Ev ((fY r).f ce (pd.f (.bo []) F) H (H::Hs) n m) Q:=propext Iff.rfl
end
end Go.Abs
namespace Go.Abs
open List
section
variable {φ:Ph}{D:Da}{w:World}{n:Nat}
def FI (h:Hf)(v v':AV):Prop:=v=v'∨e_ h v v'
def BZ (h:Hf)(y0 y:bG):Prop:=y0=y∨∃u z bs t l,y0=.cells u z bs t/\y=.cells u [] l .nil/\l.length=u/\∀(i:Nat) v',l[i]?=some v'->∃v,gZ u z bs t i=some v/\FI h v v'
structure dQ (h:Hf)(F:Fr)(H:Hp)(F2:Fr)(H2:Hp):Prop where
 sub:∀b k,h b=some k->H.get b=some k
 gone:∀b,h b≠none->H2.get b=none
 fr:∀(t:Nat) v,F2.get t=some v->∃u,F.get t=some u/\FI h u v
 hp:∀b y,H2.get b=some y->∃y0,H.get b=some y0/\BZ h y0 y
theorem dQ.refl (F:Fr)(H:Hp):dQ (λ _=>none) F H F H:=
 ⟨λ b k h=>by simp at h,λ b h=>ar rfl h,λ t v h=>⟨v,h,.inl rfl⟩,λ b y h=>⟨y,h,.inl rfl⟩⟩
theorem Rel.sub {h h':Hf}(hr:Rel φ D h w)(hs:∀b k,h' b=some k->h b=some k):Rel φ D h' w:=by
 have ne:∀b,h' b≠none->h b≠none:=λ b hb=>by
  cases hx:h' b with
  |none=>exact ar hx hb
  |some k=>rw[hs b k hx];simp
 exact⟨λ b k hb=>hr.blk b k (hs b k hb),λ b c p q hb hc=>hr.inj b c p q (ne b hb) (ne c hc),λ b p hb=>hr.sep b p (ne b hb),hr.eS⟩
theorem FI.vr {h:Hf}(hr:Rel φ D h w){v v':AV}{x:Value}(hf:FI h v v')(hx:VR φ D v x):VR φ (shut φ D h w) v' x:=by
 rcases hf with rfl|hf
 ·exact hx.mono (λ _ _ h=>h) fj
 exact(hf.vr hr hx).mono (λ b p hb=>by simp[mJ]at hb) (λ _ _ h=>h)
theorem BZ.agd {h:Hf}(hr:Rel φ D h w){y0 y:bG}(hz:BZ h y0 y) {p}(hb:jc φ D w p y0):jc φ (shut φ D h w) w p y:=by
 rcases hz with rfl|⟨u,z,bs,t,l,rfl,rfl,hl,hz⟩
 ·exact hb.mono (λ _ _ h=>h) fj rfl
 obtain⟨c,e,fr,h1,h2,h3,h4,h5,h6⟩:=hb;refine⟨c,e,fr,h1,h2,h3,λ i v hv=>?_,λ _ _=>hl,h6⟩;rw[jz]at hv
 split at hv
 ·skip
  obtain⟨v0,h7,h8⟩:=hz i v hv;obtain⟨x,h9,h10⟩:=h4 i v0 h7;exact⟨x,h9,h8.vr hr h10⟩
 cases hv
theorem qw {h:Hf}{p:Nat×Nat×Nat}(hb:D p.1=none)(hn:∀b' p',h b'≠none->φ b'=some p'->p'.1≠p.1):shut φ D h w p.1=none:=by
 unfold shut;rw[hb];dsimp only;rw[ai];rintro⟨b',p',h1,h2,h3⟩;exact hn b' p' h1 h2 h3
theorem xQ {h:Hf}{c:Nat}(hc:shut φ D h w c≠none):D c≠none∨∃b p,h b≠none/\φ b=some p/\p.1=c:=by
 unfold shut at hc
 split at hc
 ·rename_i x hx;exact .inl (by rw[hx];simp)
 split at hc
 ·rename_i hh;exact .inr hh
 exact ar rfl hc
theorem dQ.rel {h:Hf}{F F2:Fr}{H H2:Hp}(s:dQ h F H F2 H2)(hr:Rel φ D H.get w):Rel φ (shut φ D h w) H2.get w:=by
 have hs:=hr.sub s.sub
 have ne:∀b,H2.get b≠none->H.get b≠none:=λ b hb=>by
  cases hx:H2.get b with
  |none=>exact ar hx hb
  |some k=>obtain⟨y0,h0,_⟩:=s.hp b k hx;rw[h0];simp
 have neh:∀b,h b≠none->H.get b≠none:=λ b hb=>by
  cases hx:h b with
  |none=>exact ar hx hb
  |some k=>rw[s.sub b k hx];simp
 refine⟨λ b k hb=>?_,λ b c p q hb hc=>hr.inj b c p q (ne b hb) (ne c hc),λ b p hb hp=>?_,mQ hr.eS⟩
 ·obtain⟨y0,h0,hz⟩:=s.hp b k hb;obtain⟨p,hp,hl,hk⟩:=hr.blk b y0 h0;exact⟨p,hp,hl,hz.agd hs hk⟩
 refine qw (hr.sep b p (ne b hb) hp) λ b' p' h1 h2 h3=>?_;have:=hr.inj b' b p' p (neh b' h1) (ne b hb) h2 hp h3;subst this;exact hb (s.gone b' h1)
theorem dQ.ext {h:Hf}{F F2:Fr}{H H2:Hp}(s:dQ h F H F2 H2):Ext φ D H.get w n φ (shut φ D h w) H2.get w n:=by
 have ne:∀b,H2.get b≠none->H.get b≠none:=λ b hb=>by
  cases hx:H2.get b with
  |none=>exact ar hx hb
  |some k=>obtain⟨y0,h0,_⟩:=s.hp b k hx;rw[h0];simp
 have neh:∀b,h b≠none->H.get b≠none:=λ b hb=>by
  cases hx:h b with
  |none=>exact ar hx hb
  |some k=>rw[s.sub b k hx];simp
 refine⟨aK _,λ _ _ h=>h,λ b a c=>ar a c,fj,aK _,λ _ _ _=>rfl,λ b p hb hp=>.inr ⟨b,p,ne b hb,hp,rfl⟩,λ c hc=>?_,λ b hb=>.inl (ne b hb),rfl,rfl⟩
 rcases xQ hc with h1|⟨b,p,h1,h2,h3⟩
 ·exact .inl h1
 exact .inr (.inr ⟨b,p,neh b h1,h2,h3⟩)
theorem dQ.st {h:Hf}{nt:Nat}{m:List Dm}{a:Act}{F F2:Fr}{H H2:Hp}(s:dQ h F H F2 H2)(st:St nt φ D F H m a w):St nt φ (shut φ D h w) F2 H2 m a w:=
 ⟨s.rel st.rel,⟨λ t v hv=>by
  obtain⟨u,h1,h2⟩:=s.fr t v hv;obtain⟨x,h3,h4⟩:=st.fr.1 t u h1;exact⟨x,h3,h2.vr (st.rel.sub s.sub) h4⟩,st.fr.2.mono fj⟩,st.sz,st.Bm.mono (λ _ _ h=>h) fj⟩
def Zs (I:Nat->Fr->Hp->Nat->List Dm->Prop)(k:Nat)(F:Fr)(H:Hp)(n:Nat)(m:List Dm):Prop:=∃h F2 H2,dQ h F H F2 H2/\I k F2 H2 n m
theorem Zs.refl {I:Nat->Fr->Hp->Nat->List Dm->Prop}{k:Nat}{F:Fr}{H:Hp}{m:List Dm}(h:I k F H n m):Zs I k F H n m:=⟨_,F,H,dQ.refl F H,h⟩
end
end Go.Abs
namespace Go.Abs
open List
def FrA (φ:Ph)(n:Nat):Prop:=∀b,n<=b->φ b=none
theorem FrA.fresh {φ:Ph}{n:Nat}(h:FrA φ n)(k:Nat):cU φ n k:=λ b hb _=>h b hb
theorem FrA.step {φ D h w n φ' D' h' w' n'}(hf:FrA φ n)(e:Ext φ D h w n φ' D' h' w' n'):FrA φ' n':=by
 intro b hb
 cases hx:φ' b with
 |none=>rfl
 |some p=>have:=e.new b (hf b (wo e.le hb)) (by rw[hx];simp);omega
section
variable {P:Program}
def ak (P:Program) (g:FuncId) (args:List AV) (H:Hp) (n:Nat) (R:AV->Hp->Nat->Prop):Prop:=
 (∃ fn b, P.funcs[g]? = some fn ∧ fn.body = some b ∧ (fn.name == "runtime.NumGoroutine") = false) ∧
  ∀ φ D w xs,Rel φ D H.get w->bW φ D args xs->FrA φ n->∀RR:Ending->World->Prop,
   (∀v H' n' φ' D' w' x,R v H' n'->Ext φ D H.get w n φ' D' H'.get w' n'->Rel φ' D' H'.get w'->VR φ' D' v x->RR (.returned x) w')->CallsIn Fence.wide 0 P g ⟨xs⟩ w RR
theorem ak.mono {g:FuncId}{args:List AV}{H:Hp}{n:Nat}{R S:AV->Hp->Nat->Prop}(h:ak P g args H n R)(hs:∀v H' n',R v H' n'->S v H' n'):ak P g args H n S:=
 ⟨h.1,λ φ D w xs a b c RR hR=>h.2 φ D w xs a b c RR λ v H' n' φ' D' w' x r=>hR v H' n' φ' D' w' x (hs _ _ _ r)⟩
theorem bu.lK {g:FuncId}{args:List AV}{H:Hp}{n:Nat}{v:AV}{H':Hp}{n':Nat}(h:bu P g args H n v H' n'):ak P g args H n (λ u K k=>u=v/\K=H'/\k=n'):=
 ⟨h.1,λ φ D w xs a b c RR hR=>h.2.2 φ D w xs a b (c.fresh _) RR λ φ' D' w' x e r k=>hR v H' n' φ' D' w' x ⟨rfl,rfl,rfl⟩ e r k⟩
def Wp (nt:Nat)(run:QT->Act->World->Prop)(F:Fr)(H:Hp)(n:Nat)(m:List Dm)(Q:QA):Prop:=
 ∀ φ D a w,St nt φ D F H m a w->FrA φ n->∀QQ:QT,(∀o F' H' n' m' φ' D' a' w' px,Q o F' H' n' m'->Ext φ D H.get w n φ' D' H'.get w' n'->St nt φ' D' F' H' m' a' w'->IJ φ' D' px o->QQ (j7 px o) a' w')->run QQ a w
theorem Wp.shut {nt:Nat}{run:QT->Act->World->Prop}{h:Hf}{F F2:Fr}{H H2:Hp}{n:Nat}{m:List Dm}{Q:QA}(s:dQ h F H F2 H2)(hw:Wp nt run F2 H2 n m Q):Wp nt run F H n m Q:=
 λ φ _D a w st hf QQ hQ=>hw φ _ a w (s.st st) hf QQ λ o F' H' n' m' φ' D' a' w' px q e=>hQ o F' H' n' m' φ' D' a' w' px q (s.ext.trans e)
def Gm (P:Program)(nt:Nat)(c:Code)(F:Fr)(H:Hp)(n:Nat)(Q:QA):Prop:=∀cb:Nat,Wp nt (λ QQ a w=>c.wpIn (FW (some cb)) 0 P QQ a w) F H n [] Q
def vj (q:Nat)(R:AV->Hp->Nat->Prop)(j:lO)(H3:Hp)(n3:Nat):Prop:=∃st nt G ps a b j0,H3.get q=some (.loop st j0 nt G ps a b)/\match j with
 |.normal=>R (.bool true) (H3.put q (some (.loop .ready .normal nt G ps a b))) n3
 |.exit i=>R (.bool false) (H3.put q (some (.loop .done (.exit i) nt G ps a b))) n3
 |.ret=>R (.bool false) (H3.put q (some (.loop .done .ret nt G ps a b))) n3
 |.panic _=>False
def wK (P:Program) (q:Nat) (vs:List AV) (H:Hp) (n:Nat) (R:AV->Hp->Nat->Prop):Prop:=∃st j nt F0 ps a b F1,H.get q=some (.loop st j nt F0 ps a b)/\mU nt ps vs F0=some F1 /\
 Gm P nt a F1 H n λ o F2 H2 n2 m2=>o=.normal/\m2=[]/\∃j2 Bl G2 ps2 a2 b2,H2.get q=some (.loop .ready j2 Bl G2 ps2 a2 b2) /\
  Gm P nt b F2 (H2.put q (some (.loop .busy j2 Bl G2 ps2 a2 b2))) n2 λ j3 _ H3 n3 _=>vj q R j3 H3 n3
def U8 (n:Nat)(F:Fr)(m:List Dm)(Q:QA)(H':Hp)(n':Nat):Prop:=∃st j nt G ps a b,H'.get n=some (.loop st j nt G ps a b)/\st≠.busy/\(∀v,j≠.panic v)/\Q j F (H'.put n none) n' (.cG (Nat.succ n)::m)
def fE (P:Program):List (Option GO)->Fr->Hp->Nat->List Dm->QA->Prop
 |[],F,H,n,m,Q=>Q .normal F H n m
 |none::_,_,_,_,_,_=>False
 |some ⟨none,pd,.eff e⟩::r,F,H,n,m,Q=>CJ (e F H n) H n λ v H' n'=>fE P r (pd.f v F) H' n' m Q
 |some ⟨none,pd,.call g as⟩::r,F,H,n,m,Q=>(∃f first cap vs,g.f F=some (.fn (.func f) first cap)/\evs F as=some vs/\ak P f (first++(vs++cap)) H n λ v H' n'=>fE P r (pd.f v F) H' n' m Q) ∨
  (∃q vs,g.f F=some (.jd q)/\evs F as=some vs/\wK P q vs H n λ v H' n'=>fE P r (pd.f v F) H' n' m Q)
 |some ⟨none,_,.bad⟩::_,_,_,_,_,_=>False
 |some ⟨none,_,.jA _⟩::_,_,_,_,_,_=>False
 |some ⟨none,_,.raw _⟩::_,_,_,_,_,_=>False
 |some ⟨some (g,b),pd,.eff e⟩::r,F,H,n,m,Q=>fy (g.f F) b (CJ (e F H n) H n λ v H' n'=>fE P r (pd.f v F) H' n' m Q) (fE P r (pd.f (.bo []) F) H n m Q)
 |some ⟨some (g,b),pd,.call h as⟩::r,F,H,n,m,Q=>fy (g.f F) b ((∃f first cap vs,h.f F=some (.fn (.func f) first cap)/\evs F as=some vs/\ak P f (first++(vs++cap)) H n λ v H' n'=>fE P r (pd.f v F) H' n' m Q) ∨
  (∃q vs,h.f F=some (.jd q)/\evs F as=some vs/\wK P q vs H n λ v H' n'=>fE P r (pd.f v F) H' n' m Q)) (fE P r (pd.f (.bo []) F) H n m Q)
 |some ⟨some (g,b),pd,.bad⟩::r,F,H,n,m,Q=>fy (g.f F) b False (fE P r (pd.f (.bo []) F) H n m Q)
 |some ⟨some (g,b),pd,.jA _⟩::r,F,H,n,m,Q=>fy (g.f F) b False (fE P r (pd.f (.bo []) F) H n m Q)
 |some ⟨some (g,b),pd,.raw _⟩::r,F,H,n,m,Q=>fy (g.f F) b False (fE P r (pd.f (.bo []) F) H n m Q)
def VC (P:Program):CT->Fr->Hp->Nat->List Dm->QA->Prop
 |.ng l,F,H,n,m,Q=>fE P l F H n m Q
 |.dO ds l,F,H,n,m,Q=>∃ce h F2 H2,iI P ce/\dQ h F H F2 H2/\Ev ((HW ds (fY l)).f ce F2 H2 n m) Q
 |.seq a b,F,H,n,m,Q=>VC P a F H n m λ o F' H' n' m'=>match o with
  |.normal=>VC P b F' H' n' m' Q
  |.exit i=>Q (.exit i) F' H' n' m'
  |.ret=>Q .ret F' H' n' m'
  |.panic _=>False
 |.cond g a b,F,H,n,m,Q=>qj (g.f F) (VC P a F H n m Q) (VC P b F H n m Q)
 |.block i b,F,H,n,m,Q=>VC P b F H n m (jE i Q)
 |.loop b,F,H,n,m,Q=>∃(I J:Nat->Fr->Hp->Nat->List Dm->Prop) (k:Nat),J k F H n m/\(∀k F H n m,J k F H n m->Zs I k F H n m)/\∀k F H n m,I k F H n m->VC P b F H n m (Aq J k Q)
 |.exit i,F,H,n,m,Q=>Q (.exit i) F H n m
 |.ret,F,H,n,m,Q=>Q .ret F H n m
 |.skip,F,H,n,m,Q=>Q .normal F H n m
 |.range nt g ps a b,F,H,n,m,Q=>∃f first cap,g.f F=some (.fn (.func f) first cap) /\
  ak P f (first++(.jd n::cap)) ((H.put (Nat.succ n) (some .jS)).put n (some (.loop .ready .normal nt F ps a b))) (Nat.succ (Nat.succ n)) λ _ H' n'=>U8 n F m Q H' n'
 |.bad,_,_,_,_,_=>False
 |.raw k,F,H,n,m,Q=>∃ce,iI P ce/\Ev (k.f ce F H n m) Q
variable {nt:Nat}{ops:Array Oper}{r:Option Nat}
theorem vD {run:QT->Act->World->Prop}{f:Fr->Hp->Nat->List Dm->P9}(hs:Sound nt run f){F:Fr}{H:Hp}{n:Nat}{m:List Dm}{Q:QA}(h:Ev (f F H n m) Q):Wp nt run F H n m Q:=by
 obtain⟨o,F',H',n',m',h1,h2⟩:=als h;obtain⟨hn,hk⟩:=hs _ _ _ _ _ _ _ _ _ h1;exact λ φ D a w st hf QQ hQ=>hk φ D a w st (hf.fresh _) QQ λ φ' D' a' w' px e s pp=>hQ o F' H' n' m' φ' D' a' w' px h2 e s pp
theorem Vq {rest:List Nat}{o:Oper}{e:Eff}{pd:Pd}{F:Fr}{H:Hp}{n:Nat}{m:List Dm}{Q:QA}{X:Fr->Hp->Nat->Prop}(he:cj P o e)(hq:qz o.op=true)(oQ:FM nt o.dst pd)
  (hnext:∀F H n,X F H n->Wp nt (λ QQ a w=>wpOpsIn (FW r) 0 P ops QQ rest a w) F H n m Q)(h:CJ (e F H n) H n λ v H' n'=>X (pd.f v F) H' n'):
  Wp nt (λ QQ a w=>o.wpIn (FW r) 0 P a w (wpOpsIn (FW r) 0 P ops QQ rest) QQ) F H n m Q:=by
 intro φ D a w st hf QQ hQ
 have key:∀(v:AV) (H1:Hp) (n1:Nat) (rr:bw),e F H n=rr->rr≠.fail->Xr rr=v->yx rr H.get n=H1.get->wv rr n=n1->X (pd.f v F) H1 n1 ->
   o.wpIn (FW r) 0 P a w (wpOpsIn (FW r) 0 P ops QQ rest) QQ:=by
  intro v H1 n1 rr her hne hv hH hn hX;have hd:=he F H n φ D a w st.rel st.fr (by rw[her];exact hf.fresh _) (by rw[her];exact hne);rw[her]at hd;obtain⟨nx,cv,φ1,w1,hrun,hnx,bf,hrel,je⟩:=hd;rw[hH]at bf hrel;rw[hn]at bf;rw[hv]at je;have hfr:=oQ v F φ1 D a cv (st.fr.mono bf.phi (λ _ _ h=>h)) st.sz je;have hst:St nt φ1 D (pd.f v F) H1 m (a.put o.dst cv) w1:=⟨hrel,hfr.1,hfr.2,by rw[put_defers];exact st.Bm.mono bf.phi bf.eS⟩;have hgo:=hnext _ _ _ hX φ1 D (a.put o.dst cv) w1 hst (hf.step bf) QQ λ o F' H' n' m' φ' D' a' w' px q hx hst' pp=>hQ o F' H' n' m' φ' D' a' w' px q (bf.trans hx) hst' pp;refine⟨λ _ _=>trivial,?_⟩;rw[eN hq,hrun]
  cases hnx with
  |value=>exact hgo
  |skip=>exact hgo
 cases her:e F H n with
 |fail=>rw[her]at h;exact ar h id
 |val v=>rw[her]at h;exact key v H n _ her ah rfl rfl rfl h
 |new v k=>rw[her]at h;exact key v _ _ _ her ah rfl (tJ ..) rfl h
 |upd v b k=>rw[her]at h;exact key v _ _ _ her ah rfl (pM ..) rfl h
 |mv v b k=>rw[her]at h;exact key v _ _ _ her ah rfl (wS ..) rfl h
theorem I4 {q:Nat}{vs:List AV}{H:Hp}{n:Nat}{R:AV->Hp->Nat->Prop}(h:wK P q vs H n R)(o:Oper)(c:Call)(φ:Ph)(D:Da)(a:Act)(w:World)(x:Operand)(ho:o.op=.call c)(hc:c.callee=.value x)(hyl:VR φ D (.jd q) (a.eval x))(hargs:bW φ D vs (c.args.toList.map a.eval))(hrel:Rel φ D H.get w)(hf:FrA φ n)(K:Act->World->Prop)(Q:QT)
  (hK:∀v H' n' φ' D' w' cv,R v H' n'->Ext φ D H.get w n φ' D' H'.get w' n'->Rel φ' D' H'.get w'->VR φ' D' v cv->K (a.put o.dst cv) w'):o.wpIn (FW r) 0 P a w K Q:=by
 obtain⟨st0,j0,nt,F0,ps,ca,cb',F1,hq0,hF1,h1⟩:=h;refine⟨λ _ _=>trivial,?_⟩;generalize hxv:a.eval x=xv at hyl
 cases hyl with
 |jd _ cb co cz hp =>
 obtain⟨_,rr,hr1,hr2,hr3,hr4,hr5,hr6,hr7,hr8⟩:=hrel.block hq0 hp;have hr1:w.heap[cb]?=some (.loop rr):=hr1;obtain⟨p1,p2,p3⟩:=yh ps vs _ F0 F1 rr.tmps hF1 hargs hr5 hr4
 have hsz:(c.args.map a.eval).size=rr.params.size:=by
  have e1:rr.params.size=ps.length:=by rw[<-hr6];simp
  rw[e1,p1];simp
 have hrun:(o.semAt (FW r).round a.eval).run P w=.ok (.round cb rr.fn ((rr.params.zip (c.args.map a.eval)).foldl (λ tmps (t,a)=>tmps.setIfInBounds t a) rr.tmps) rr.assign rr.body) w:=by
  rw[eN (by rw[ho];rfl)];have hy:=run_yield (P:=P) (args:=(#[]:Array Value)++Array.map a.eval c.args) hr1 (by simpa using hsz);simp only[execOp,ho,resolve,hc,hxv,Deferred.ofValue,cL,dB,cy,invoke,hy];simp
 have hfold:(rr.params.zip (c.args.map a.eval)).foldl (λ tmps (t,a)=>tmps.setIfInBounds t a) rr.tmps=((ps.zip (c.args.toList.map a.eval)).foldl (λ t (x:Nat×Value)=>t.setIfInBounds x.1 x.2) rr.tmps):=by
  rw[<-Array.foldl_toList,Array.toList_zip,hr6];simp
 rw[hrun,hfold,hr7,hr8];refine⟨λ h=>by simp[FW]at h,roundIn_of_wpIn trivial ?_⟩;refine h1 cb φ D {tmps:=_,defers:=[]} w ⟨hrel,p2,p3,rfl⟩ hf _ λ o1 F2 H2 n2 m2 φ1 D1 a1 w1 px hq1 e1 st1 pp=>?_;obtain⟨rfl,rfl,j2,Bl,G2,ps2,a2,b2,hq2,h2⟩:=hq1;have hp1:=e1.phi _ _ hp;obtain⟨hlt2,r2,JI,ak9,ak8,ak7,ak6,ak5,ak4,ak3⟩:=st1.rel.block hq2 hp1;have JI:w1.heap[cb]?=some (.loop r2):=JI;have hlt2:cb<w1.heap.size:=hlt2;refine⟨_,run_beginRound (P:=P) JI ak9,?_⟩;obtain⟨k1,k2⟩:=mT (n:=n2) (rr:={r2 with state:=.busy}) (k:=.loop .busy j2 Bl G2 ps2 a2 b2) st1.rel (by rw[hq2];simp) hp1 ⟨_,Go.World.putObj_heap_same hlt2,rfl,ak8,ak7,ak6,ak5,ak4,ak3⟩;refine h2 cb φ1 D1 a1 _ ⟨k1,st1.fr,st1.sz,st1.Bm⟩ ((hf.step e1).step k2) _ λ j3 F3 H3 n3 m3 φ2 D2 a2' w2 px e2 afW st2 pp=>?_;obtain⟨st3,IY,G3,vJ,a3,b3,jj,hq3,hR⟩:=e2;have hp2:=afW.phi _ _ hp1;obtain⟨hlt3,r3,DC,awa,av',Yk,Yj,Yi,Yh,Yg⟩:=st2.rel.block hq3 hp2;have DC:w2.heap[cb]?=some (.loop r3):=DC;have hlt3:cb<w2.heap.size:=hlt3
 cases j3 with
 |normal =>
  have hend:=run_endRound (P:=P) (gY (.normal)) DC;obtain⟨k3,k4⟩:=mT (n:=n3) (rr:={r3 with state:=.ready,pending:=gY (.normal)}) (k:=.loop .ready (.normal) IY G3 vJ a3 b3) st2.rel (by rw[hq3];simp) hp2 ⟨_,Go.World.putObj_heap_same hlt3,rfl,rfl,Yk,Yj,Yi,Yh,Yg⟩;exact⟨_,_,hend,hK _ _ _ φ2 D2 _ (.bool true) hR (((e1.trans k2).trans afW).trans k4) k3 (.bool _)⟩
 |exit i =>
  have hend:=run_endRound (P:=P) (gY (.exit i)) DC;obtain⟨k3,k4⟩:=mT (n:=n3) (rr:={r3 with state:=.done,pending:=gY (.exit i)}) (k:=.loop .done (.exit i) IY G3 vJ a3 b3) st2.rel (by rw[hq3];simp) hp2 ⟨_,Go.World.putObj_heap_same hlt3,rfl,rfl,Yk,Yj,Yi,Yh,Yg⟩;exact⟨_,_,hend,hK _ _ _ φ2 D2 _ (.bool false) hR (((e1.trans k2).trans afW).trans k4) k3 (.bool _)⟩
 |ret =>
  have hend:=run_endRound (P:=P) (gY (.ret)) DC;obtain⟨k3,k4⟩:=mT (n:=n3) (rr:={r3 with state:=.done,pending:=gY (.ret)}) (k:=.loop .done (.ret) IY G3 vJ a3 b3) st2.rel (by rw[hq3];simp) hp2 ⟨_,Go.World.putObj_heap_same hlt3,rfl,rfl,Yk,Yj,Yi,Yh,Yg⟩;exact⟨_,_,hend,hK _ _ _ φ2 D2 _ (.bool false) hR (((e1.trans k2).trans afW).trans k4) k3 (.bool _)⟩
 |panic v=>exact ar hR id
theorem NZ {rest:List Nat}{o:Oper}{c:Call}{g:G}{as:List G}{pd:Pd}{F:Fr}{H:Hp}{n:Nat}{m:List Dm}{Q:QA}{X:Fr->Hp->Nat->Prop}(ho:o.op=.call c)(hg:uw P c g)(has:mn c.args.toList=some as)(oQ:FM nt o.dst pd)
  (hnext:∀F H n,X F H n->Wp nt (λ QQ a w=>wpOpsIn (FW r) 0 P ops QQ rest a w) F H n m Q)
  (h:(∃f first cap vs,g.f F=some (.fn (.func f) first cap)/\evs F as=some vs/\ak P f (first++(vs++cap)) H n λ v H' n'=>X (pd.f v F) H' n')∨(∃q vs,g.f F=some (.jd q)/\evs F as=some vs/\wK P q vs H n λ v H' n'=>X (pd.f v F) H' n')):
  Wp nt (λ QQ a w=>o.wpIn (FW r) 0 P a w (wpOpsIn (FW r) 0 P ops QQ rest) QQ) F H n m Q:=by
 intro φ D a w st hf QQ hQ
 cases h with
 |inr h =>
  obtain⟨q,vs,hgv,hev,hy⟩:=h;obtain⟨x,hx1,hx2⟩:=hg.jd a F φ D q st.fr hgv;refine I4 hy o c φ D a w x ho hx1 hx2 (dT has F φ D a st.fr vs hev) st.rel hf _ _ λ v H' n' φ1 D1 w1 cv hX bf hrel je=>?_;have hfr:=oQ v F φ1 D1 a cv (st.fr.mono bf.phi bf.eS) st.sz je;exact hnext _ _ _ hX φ1 D1 (a.put o.dst cv) w1 ⟨hrel,hfr.1,hfr.2,by rw[put_defers];exact st.Bm.mono bf.phi bf.eS⟩ (hf.step bf) QQ λ o F' H' n' m' φ' D' a' w' px q hx hst' pp=>hQ o F' H' n' m' φ' D' a' w' px q (bf.trans hx) hst' pp
 |inl h =>
  obtain⟨f,first,cap,vs,hgv,hev,⟨fn,b,hfn,hb,hname⟩,hcs⟩:=h;refine⟨λ _ _=>trivial,?_⟩;obtain⟨fl,cl,h1,h2,hrun0⟩:=hg.fn o a F φ D f first cap ho st.fr hgv;have h3:=dT has F φ D a st.fr vs hev
  have hrun:(o.semAt (FW r).round a.eval).run P w=.ok (.enter f ⟨fl++(c.args.toList.map a.eval++cl)⟩) w:=by
   rw[eN (by rw[ho];rfl)];exact hrun0 fn b w hfn hname hb
  rw[hrun];refine⟨λ h=>by simp[FW]at h,jB (hcs φ D w _ st.rel (h1.append (h3.append h2)) hf _ λ v H' n' φ1 D1 w1 cv hX bf hrel je=>?_)⟩;have hfr:=oQ v F φ1 D1 a cv (st.fr.mono bf.phi bf.eS) st.sz je;exact hnext _ _ _ hX φ1 D1 (a.put o.dst cv) w1 ⟨hrel,hfr.1,hfr.2,by rw[put_defers];exact st.Bm.mono bf.phi bf.eS⟩ (hf.step bf) QQ λ o F' H' n' m' φ' D' a' w' px q hx hst' pp=>hQ o F' H' n' m' φ' D' a' w' px q (bf.trans hx) hst' pp
theorem wp_skip {rest:List Nat}{o:Oper}{pd:Pd}{F:Fr}{H:Hp}{n:Nat}{m:List Dm}{Q:QA}(oQ:FM nt o.dst pd)(h:Wp nt (λ QQ a w=>wpOpsIn (FW r) 0 P ops QQ rest a w) (pd.f (.bo []) F) H n m Q):
  Wp nt (λ QQ a w=>wpOpsIn (FW r) 0 P ops QQ rest (a.put o.dst undef) w) F H n m Q:=by
 intro φ D a w st hf QQ hQ;have hfr:=oQ (.bo []) F φ D a undef st.fr st.sz (.bo _ _ .nil);exact h φ D (a.put o.dst undef) w ⟨st.rel,hfr.1,hfr.2,by rw[put_defers];exact st.Bm⟩ hf QQ hQ
theorem Bv {o:Oper}{g:G}{as:List G}(h:Ae P o=.call g as):∃c,o.op=.call c/\uw P c g/\mn c.args.toList=some as:=by
 unfold Ae at h
 split at h
 ·rename_i f args tys ho
  split at h
  ·cases h
  split at h
  ·rename_i g' as' h1 h2;injection h with a b;subst a b;exact⟨_,ho,.value rfl h1,h2⟩
  cases h
 split at h<;>cases h
theorem Hl {o:Oper}{e:Eff}(h:Ae P o=.eff e):eb P o=some e:=by
 unfold Ae at h
 split at h
 ·split at h
  ·rename_i h1;injection h with h;subst h;exact h1
  split at h<;>cases h
 split at h
 ·rename_i h1;injection h with h;subst h;exact h1
 cases h
theorem tell {F:Fr}{φ:Ph}{D:Da}{a:Act}{j d:Nat}(hd:(ops[j]?).bind (·.dst)=some d)(hF:FR φ D F.get a.tmps){v:AV}(hv:F.get d=some v):(∀c,v=.bool c->yielded ops a.tmps j=some c)/\((∀c,v≠.bool c)->yielded ops a.tmps j=none):=by
 obtain⟨x,hx,yK⟩:=hF.1 d v hv;unfold yielded;rw[hd];simp only[Option.bind_some,hx];refine⟨λ c hc=>?_,λ hc=>?_⟩
 ·subst hc;cases yK;rfl
 cases x<;>first|rfl|exact ar (CN yK) (hc _)
theorem Aw : ∀ (l : List Oper) (i:Nat) (F:Fr) (H:Hp) (n:Nat) (m:List Dm) (Q:QA),ops.toList.drop i=l->fE P (l.map (wC P nt ops)) F H n m Q ->
  Wp nt (λ QQ a w=>wpOpsIn (FW r) 0 P ops QQ (range' i l.length) a w) F H n m Q
 |[],i,F,H,n,m,Q,_,h=>λ φ D a w st hf QQ hQ=>hQ .normal F H n m φ D a w undef h (Ext.refl ..) st trivial
 |o :: l, i, F, H,n,m,Q,hl,h=>by
  have hi:ops[i]?=some o:=by
   have:=congrArg (λ(x:List Oper)=>x[0]?) hl;simpa[lj]using this
  have hl':ops.toList.drop (i+1)=l:=by
   have:=congrArg (λ(x:List Oper)=>x.drop 1) hl;simpa[drop_drop]using this
  have ih:=λ F H n=>Aw l (i+1) F H n m Q hl';have h0:=h;simp only[map_cons]at h;unfold wC at h
  cases hp:fC nt o.dst with
  |none=>rw[hp]at h;exact ar h id
  |some pd =>
   rw[hp]at h;have oQ:=BP hp;dsimp only at h
   cases hgd:o.guard with
   |none =>
    rw[hgd]at h;dsimp only at h
    have fin:Wp nt (λ QQ a w=>o.wpIn (FW r) 0 P a w (wpOpsIn (FW r) 0 P ops QQ (range' (i+1) l.length)) QQ) F H n m Q->Wp nt (λ QQ a w=>wpOpsIn (FW r) 0 P ops QQ (range' i (l.length+1)) a w) F H n m Q:=by
     intro hw φ D a w st hf QQ hQ;show wpOpsIn (FW r) 0 P ops QQ (i::range' (i+1) l.length) a w;simp only[wpOpsIn,hi,Region.wanted,hgd,if_true];exact hw φ D a w st hf QQ hQ
    refine fin ?_
    cases hk:Ae P o with
    |bad=>rw[hk]at h;exact ar h id
    |jA e=>rw[hk]at h;exact ar h id
    |raw f=>rw[hk]at h;exact ar h id
    |eff e =>
     rw[hk]at h;have hc:=Hl hk;exact Vq (X:=λ F H n=>fE P (l.map (wC P nt ops)) F H n m Q) (iO hc) (dZ hc) oQ (λ F H n hx=>ih F H n hx) h
    |call g as =>
     rw[hk]at h;obtain⟨c,h1,h2,h4⟩:=Bv hk;exact NZ (X:=λ F H n=>fE P (l.map (wC P nt ops)) F H n m Q) h1 h2 h4 oQ (λ F H n hx=>ih F H n hx) h
   |some x =>
    obtain⟨j,b⟩:=x;rw[hgd]at h;dsimp only at h
    cases hd:(ops[j]?).bind (·.dst)with
    |none=>rw[hd]at h;exact ar h id
    |some d =>
     rw[hd]at h;dsimp only at h
     have fin:∀(Y N:Prop),(Y->Wp nt (λ QQ a w=>o.wpIn (FW r) 0 P a w (wpOpsIn (FW r) 0 P ops QQ (range' (i+1) l.length)) QQ) F H n m Q)->(N->fE P (l.map (wC P nt ops)) (pd.f (.bo []) F) H n m Q) ->
       fy ((aA d).f F) b Y N->Wp nt (λ QQ a w=>wpOpsIn (FW r) 0 P ops QQ (range' i (l.length+1)) a w) F H n m Q:=by
      intro Y N hY hN hG
      have no:N->∀ φ D a w,St nt φ D F H m a w->FrA φ n->∀QQ:QT,(∀o F' H' n' m' φ' D' a' w' px,Q o F' H' n' m'->Ext φ D H.get w n φ' D' H'.get w' n'->St nt φ' D' F' H' m' a' w'->IJ φ' D' px o->QQ (j7 px o) a' w')->wpOpsIn (FW r) 0 P ops QQ (range' (i+1) l.length) (a.put o.dst undef) w:=
       λ hN'=>wp_skip oQ (ih _ _ _ (hN hN'))
      rw[gU]at hG;intro φ D a w st hf QQ hQ;show wpOpsIn (FW r) 0 P ops QQ (i::range' (i+1) l.length) a w
      cases hv:F.get d with
      |none=>rw[hv]at hG;exact ar hG id
      |some v =>
       rw[hv]at hG
       by_cases hb:∃c,v=.bool c
       ·obtain⟨c,rfl⟩:=hb;have hy:=(tell hd st.fr hv).1 c rfl;have hG:(bif c == b then Y else N):=hG;simp only[wpOpsIn,hi,Region.wanted,hgd,hy]
        cases hcb:c == b with
        |true =>
         rw[hcb]at hG;rw[aw (by simpa using hcb)];exact hY hG φ D a w st hf QQ hQ
        |false =>
         rw[hcb]at hG;rw[ai (by simpa using hcb)];exact⟨λ _ _=>trivial,no hG φ D a w st hf QQ hQ⟩
       have hnb:∀c,v≠.bool c:=λ c e=>hb ⟨c,e⟩;have hy:=(tell hd st.fr hv).2 hnb
       have hG:N:=by
        cases v<;>first|exact hG|exact ar rfl (hnb _)
       simp only[wpOpsIn,hi,Region.wanted,hgd,hy];rw[ai ah];exact⟨λ _ _=>trivial,no hG φ D a w st hf QQ hQ⟩
     cases hk:Ae P o with
     |bad=>rw[hk]at h;exact fin _ _ (λ h=>ar h id) (λ h=>h) h
     |jA e=>rw[hk]at h;exact fin _ _ (λ h=>ar h id) (λ h=>h) h
     |raw f=>rw[hk]at h;exact fin _ _ (λ h=>ar h id) (λ h=>h) h
     |eff e =>
      rw[hk]at h;have hc:=Hl hk;exact fin _ _ (λ hy=>Vq (X:=λ F H n=>fE P (l.map (wC P nt ops)) F H n m Q) (iO hc) (dZ hc) oQ (λ F H n hx=>ih F H n hx) hy) (λ h=>h) h
     |call g as =>
      rw[hk]at h;obtain⟨c,h1,h2,h4⟩:=Bv hk;exact fin _ _ (λ hy=>NZ (X:=λ F H n=>fE P (l.map (wC P nt ops)) F H n m Q) h1 h2 h4 oQ (λ F H n hx=>ih F H n hx) hy) (λ h=>h) h
theorem Wp.seq {x y:Code}{F:Fr}{H:Hp}{n:Nat}{m:List Dm}{Q R:QA}(h1:Wp nt (λ QQ a w=>x.wpIn (FW r) 0 P QQ a w) F H n m R)
  (h2:∀o F' H' n' m',R o F' H' n' m'->match o with
   |.normal=>Wp nt (λ QQ a w=>y.wpIn (FW r) 0 P QQ a w) F' H' n' m' Q
   |.exit i=>Q (.exit i) F' H' n' m'
   |.ret=>Q .ret F' H' n' m'
   |.panic _=>False):Wp nt (λ QQ a w=>(Code.seq x y).wpIn (FW r) 0 P QQ a w) F H n m Q:=by
 intro φ D a w st hf QQ hQ;refine wpIn_seq (h1 φ D a w st hf _ λ o F' H' n' m' φ' D' a' w' px hr e st' pp=>?_);have:=h2 o F' H' n' m' hr
 cases o with
 |normal=>exact this φ' D' a' w' st' (hf.step e) QQ λ o2 F2 H2 n2 m2 φ2 D2 a2 w2 px q e2 s2 pp=>hQ o2 F2 H2 n2 m2 φ2 D2 a2 w2 px q (e.trans e2) s2 pp
 |exit i=>exact hQ _ _ _ _ _ _ _ _ _ _ this e st' pp
 |ret=>exact hQ _ _ _ _ _ _ _ _ _ _ this e st' pp
 |panic v=>exact ar this id
theorem Wp.rounds {b:Code}{Q:QA}{I J:Nat->Fr->Hp->Nat->List Dm->Prop}(hj:∀k F H n m,J k F H n m->Zs I k F H n m)(hb:∀k F H n m,I k F H n m->Wp nt (λ QQ a w=>b.wpIn (FW r) 0 P QQ a w) F H n m (Aq J k Q)):
  ∀(j k:Nat) (F:Fr) (H:Hp) (n:Nat) (m:List Dm),k<j->J k F H n m->Wp nt (λ QQ a w=>Code.roundsIn (FW r) 0 P b QQ j a w) F H n m Q
 |0,k,_,_,_,_,h,_=>ae
 |j + 1,k,F,H,n,m,h,hI=>by
  obtain⟨hh,F0,H0,hs,hI0⟩:=hj k F H n m hI;refine Wp.shut hs ?_;intro φ D a w st hf QQ hQ;show Code.roundsIn (FW r) 0 P b QQ (j+1) a w;rw[roundsIn_succ];refine hb k F0 H0 n m hI0 φ D a w st hf _ λ o F' H' n' m' φ' D' a' w' px hr e st' pp=>?_
  cases o with
  |normal =>
   obtain⟨k',hk,hI'⟩:=hr;exact Wp.rounds hj hb j k' F' H' n' m' ae hI' φ' D' a' w' st' (hf.step e) QQ λ o2 F2 H2 n2 m2 φ2 D2 a2 w2 px q e2 s2 pp=>hQ o2 F2 H2 n2 m2 φ2 D2 a2 w2 px q (e.trans e2) s2 pp
  |exit i=>exact hQ _ _ _ _ _ _ _ _ _ _ hr e st' pp
  |ret=>exact hQ _ _ _ _ _ _ _ _ _ _ hr e st' pp
  |panic v=>exact ar hr id
theorem Vp {g:Operand}{x:G}{ps:Array Tmp}{ca cb:Code}{F:Fr}{H:Hp}{n:Nat}{m:List Dm}{Q:QA}(hg:dD g=some x) (h:VC P (.range nt x ps.toList ca cb) F H n m Q):Wp nt (λ QQ a w=>(Code.rangeFunc g ps ca cb).wpIn (FW none) 0 P QQ a w) F H n m Q:=by
 obtain⟨f,first,cap,hx,⟨fn,b,hfn,hb,hname⟩,hcs⟩:=h;intro φ D a w CU hf QQ hQ;refine wpIn_rangeFunc λ fid _=>?_;have hgr:=aW hg F φ D a CU.fr _ hx
 cases hxv:a.eval g with
 |func ff fx cx =>
  rw[hxv]at hgr
  cases hgr with
  |fn _ _ _ fl cl h1 h2 =>
  obtain⟨r1,e1⟩:=nF (n:=n+1) CU.rel (λ b hb1 hb2=>hf b ae) (.deferred (some [])) 0 .jS (World.nL w _);rw[lD]at r1 e1;let w1:=World.newObj w (.deferred (some []));let φ1:=Ph.set φ (n+1) (w.heap.size,0,0)
  have hf1:cU φ1 n (n+1):=by
   intro b hb1 hb2;have:b≠n+1:=ae;simp only[φ1,Ph.set,this,if_false];exact hf b ae
  obtain⟨r2,e2⟩:=nF (n:=n) r1 hf1 (.loop {state:=.ready,pending:=none,fn:=fid,tmps:=a.tmps,params:=ps,assign:=ca,body:=cb,defers:=w.heap.size}) 0 (.loop .ready .normal nt F ps.toList ca cb)
   ⟨_,World.nL w1 _,rfl,rfl,CU.sz,(CU.fr.mono e1.phi (λ _ _ h=>h)).mono (Ph.gV (hf1 n (aK _) ae)) (λ _ _ h=>h),rfl,rfl,rfl⟩
  rw[lD]at r2 e2;let w2:=World.newObj w1 (.loop {state:=.ready,pending:=none,fn:=fid,tmps:=a.tmps,params:=ps,assign:=ca,body:=cb,defers:=w.heap.size});let φ2:=Ph.set φ1 n (w1.heap.size,0,0)
  have e12:Ext φ D H.get w n φ2 D ((H.put (n+1) (some .jS)).put n (some (.loop .ready .normal nt F ps.toList ca cb))).get w2 (n+2):=
   (e1.wide (Nat.le_succ n) (aK _)).join (e2.wide (aK _) ae)
  have hsz1:w1.heap.size=w.heap.size+1:=by simp[w1,World.newObj]
  have hφn:φ2 n=some (w.heap.size+1,0,0):=by simp only[φ2,Ph.set,if_true,hsz1]
  have hφm:φ2 (n+1)=some (w.heap.size,0,0):=e2.phi _ _ (by simp[Ph.set]);refine⟨w.heap.size+1,[{target:=.collected w.heap.size,args:=#[]}],w2,{target:=.fn (.func f) ⟨cl⟩,args:=⟨fl⟩++#[.func (.yield (w.heap.size+1)) #[] #[]]},w2,f,⟨fl++(.func (.yield (w.heap.size+1)) #[] #[]::cl)⟩,w2,run_enterLoop_outer ..,?_,λ _ _=>trivial,?_,λ h=>by simp[FW]at h,?_⟩
  ·simp only[resolve,hxv,Deferred.ofValue,dB];simp[Act.eval]
  ·have harr:(⟨fl⟩:Array Value)++#[Value.func (.yield (w.heap.size+1)) #[] #[]]++⟨cl⟩=⟨fl++(.func (.yield (w.heap.size+1)) #[] #[]::cl)⟩:=by apply Array.ext';simp
   simp only[invoke,callFunc,cL,run_program,cy,hfn,hname,hb,harr];simp
  refine jB (hcs φ2 D w2 _ r2 ((h1.mono e12.phi (λ _ _ h=>h)).append (.cons _ _ _ _ (.jd _ _ _ _ hφn) (h2.mono e12.phi (λ _ _ h=>h)))) (hf.step e12) _ λ v H1 n1 φ3 D3 w3 cv hE e3 hr3 _=>?_);obtain⟨st,j,IY,G3,vJ,a3,b3,hq,hst,hnp,hQj⟩:=hE;obtain⟨hlt,rr,q1,q2,q3,q4,q5,q6⟩:=hr3.block hq (e3.phi _ _ hφn);have q1:w3.heap[w.heap.size+1]?=some (.loop rr):=q1;have hend:=run_endLoop (P:=P) q1 (by rw[q2];exact hst);obtain⟨k1,k2⟩:=rel_drop (n:=n1) hr3 (b:=n) (by rw[hq];simp) (e3.phi _ _ hφn) (Go.World.putObj w3 (w.heap.size+1) (.loop {rr with state:=.exhausted})) (λ c hc=>Go.World.putObj_heap_other hc) Go.World.putObj_size rfl rfl;rw[lD]at k1 k2;have uX:=(e12.trans e3).trans k2
  have hst':St nt φ3 D3 F (H1.put n none) (.cG (Nat.succ n)::m) {a with defers:=[{target:=.collected w.heap.size,args:=#[]}]++a.defers} (Go.World.putObj w3 (w.heap.size+1) (.loop {rr with state:=.exhausted})):=
   ⟨k1,CU.fr.mono uX.phi uX.eS,CU.sz,⟨_,_,_,_,e3.phi _ _ hφm,rfl,CU.Bm.mono uX.phi uX.eS⟩⟩
  refine⟨_,_,hend,?_⟩;have:=hQ j F _ n1 _ φ3 D3 _ _ undef hQj uX hst';rw[q3]at this ⊢
  cases j with
  |panic v=>exact ar rfl (hnp v)
  |normal=>exact this trivial
  |exit i=>exact wpIn_exit (this trivial)
  |ret=>exact wpIn_ret (this trivial)
 |_=>rw[hxv]at hgr;cases hgr
theorem fP:∀(c:Code) (F:Fr) (H:Hp) (n:Nat) (m:List Dm) (Q:QA),VC P (eQ P nt r.isSome c) F H n m Q->Wp nt (λ QQ a w=>c.wpIn (FW r) 0 P QQ a w) F H n m Q
 |.skip,F,H,n,m,Q,h=>λ φ D a w st hf QQ hQ=>wpIn_skip (hQ .normal _ _ _ _ _ _ _ _ undef h (Ext.refl ..) st trivial)
 |.exit i,F,H,n,m,Q,h=>λ φ D a w st hf QQ hQ=>wpIn_exit (hQ (.exit i) _ _ _ _ _ _ _ _ undef h (Ext.refl ..) st trivial)
 |.ret,F,H,n,m,Q,h=>λ φ D a w st hf QQ hQ=>wpIn_ret (hQ .ret _ _ _ _ _ _ _ _ undef h (Ext.refl ..) st trivial)
 |.region rid ops d,F,H,n,m,Q,h=>by
  cases d with
  |false =>
   simp only[eQ,cond_false]at h
   have h:fE P (ops.toList.map (wC P nt ops)) F H n m Q:=by
    cases hr:r.isSome&&eE ops.toList with
    |true=>rw[hr]at h;exact ar h id
    |false=>rw[hr]at h;exact h
   have:=Aw (P:=P) (nt:=nt) (ops:=ops) (r:=r) ops.toList 0 F H n m Q rfl h;intro φ D a w st hf QQ hQ;refine wpIn_region ?_;rw[range_eq_range'];exact this φ D a w st hf QQ hQ
  |true =>
   simp only[eQ,cond_true]at h
   cases DD:P.follows .mixedOrders with
   |false=>rw[DD]at h;exact ar h id
   |true =>
    rw[DD]at h;simp only[cond_true]at h
    have hk:∃ce h F2 H2,iI P ce/\dQ h F H F2 H2/\Ev ((comp P nt r.isSome (.region rid ops true)).f ce F2 H2 n m) Q:=by
     cases hp:wR (mZ ops.toList 0 .nil) ops (T9 (mZ ops.toList 0 .nil) ops.toList)with
     |false=>rw[hp]at h;exact ar h id
     |true =>
      rw[hp]at h;obtain⟨ce,hh,F2,H2,h1,hs,h2⟩:=h;refine⟨ce,hh,F2,H2,h1,hs,?_⟩;rw[l7];simp only[eQ,cond_true,DD,hp];exact h2
    obtain⟨ce,hh,F2,H2,h1,hs,h2⟩:=hk;exact Wp.shut hs (vD (dH (P:=P) (nt:=nt) (r:=r) h1 (.region rid ops true)) h2)
 |.seq x y,F,H,n,m,Q,h=>by
  refine Wp.seq (fP x F H n m _ h) λ o F' H' n' m' hr=>?_
  cases o with
  |normal=>exact fP y F' H' n' m' Q hr
  |exit i=>exact hr
  |ret=>exact hr
  |panic v=>exact ar hr id
 |.cond c x y,F,H,n,m,Q,h=>by
  simp only[eQ]at h
  cases hc:dD c with
  |none=>rw[hc]at h;exact ar h id
  |some g =>
   rw[hc]at h;have h:qj (g.f F) (VC P (eQ P nt r.isSome x) F H n m Q) (VC P (eQ P nt r.isSome y) F H n m Q):=h;intro φ D a w st hf QQ hQ
   cases hg:g.f F with
   |none=>rw[hg]at h;exact ar h id
   |some v =>
    have hv:=aW hc F φ D a st.fr _ hg;rw[hg]at h
    cases v with
    |bool b =>
     generalize hz:a.eval c=z at hv;cases hv
     cases b with
     |true=>exact wpIn_cond (t:=true) hz (fP x F H n m Q h φ D a w st hf QQ hQ)
     |false=>exact wpIn_cond (t:=false) hz (fP y F H n m Q h φ D a w st hf QQ hQ)
    |_=>exact ar h id
 |.block id b,F,H,n,m,Q,h=>by
  intro φ D a w st hf QQ hQ;refine wpIn_block (fP b F H n m (jE id Q) h φ D a w st hf _ λ o F' H' n' m' φ' D' a' w' px hr e st' pp=>?_)
  cases o with
  |normal=>exact hQ _ _ _ _ _ _ _ _ _ _ hr e st' pp
  |ret=>exact hQ _ _ _ _ _ _ _ _ _ _ hr e st' pp
  |panic v=>exact False.elim hr
  |exit j =>
   have hr:(if id=j then Q .normal F' H' n' m' else Q (.exit j) F' H' n' m'):=hr
   by_cases hij:j=id
   ·subst hij;rw[aw rfl]at hr;simp only[j7,Exit.inBlock,if_true];exact hQ _ _ _ _ _ _ _ _ _ px hr e st' trivial
   rw[ai (λ e=>hij e.symm)]at hr;simp only[j7,Exit.inBlock,hij,if_false];exact hQ _ _ _ _ _ _ _ _ _ _ hr e st' pp
 |.loop b,F,H,n,m,Q,h=>by
  have ib:=fP b
  have plain:VC P (.loop (eQ P nt r.isSome b)) F H n m Q->Wp nt (λ QQ a w=>(Code.loop b).wpIn (FW r) 0 P QQ a w) F H n m Q:=by
   intro h;obtain⟨I,J,k,hI,hj,hs⟩:=h;intro φ D a w st hf QQ hQ;exact wpIn_loop_rounds (k+1) (Wp.rounds hj (λ k F H n m hi=>ib F H n m _ (hs k F H n m hi)) (k+1) k F H n m ae hI φ D a w st hf QQ hQ)
  cases b with
  |seq x y =>
   cases hm:Bn x with
   |none =>
    refine plain ?_;simp only[eQ,hm]at h;exact h
   |some q =>
    obtain⟨x',d,ops,os⟩:=q;simp only[eQ,hm]at h
    cases hr:r.isSome&&eE os with
    |true=>rw[hr]at h;exact ar h id
    |false =>
     rw[hr]at h;obtain⟨ce,h1,h2⟩:=h;refine vD (dH (P:=P) (nt:=nt) (r:=r) h1 (.loop (.seq x y))) ?_;have:comp P nt r.isSome (.loop (.seq x y))=afl P nt x' d ops os (comp P nt r.isSome y):=by simp only[comp,hm,hr];rfl
     rw[this];exact h2
  |_=>exact plain h
 |.rangeFunc g ps ca cb,F,H,n,m,Q,h=>by
  simp only[eQ]at h
  cases hc:dD g with
  |none=>rw[hc]at h;exact ar h id
  |some x =>
   rw[hc]at h
   cases r with
   |some cb0=>exact ar h id
   |none=>exact Vp hc h
 |.scope b,F,H,n,m,Q,h=>by
  intro φ D a w st hf QQ hQ;refine xC (fP b F H n m Q h φ D a w st hf _ λ o F' H' n' m' φ' D' a' w' px hr e st' pp=>?_);have:=hQ o F' H' n' m' φ' D' a' w' px hr e st' pp
  cases o<;>exact this
 |.label _,F,H,n,m,Q,h=>λ φ D a w st hf QQ hQ=>wpIn_label (hQ .normal _ _ _ _ _ _ _ _ undef h (Ext.refl ..) st trivial)
 |.goto _,_,_,_,_,_,h=>ar h id
 |.refuse _,_,_,_,_,_,h=>ar h id
theorem ak.of {g:FuncId}{c:CF}{args:List AV}{H:Hp}{n:Nat}{R:AV->Hp->Nat->Prop}(hc:J5 P g=some c) (hl:args.length<=c.nt)
  (h:∀F:Fr,(∀i,F.get i=args[i]?)->VC P c.code F H n [] (kU c.res R)):ak P g args H n R:=by
 unfold J5 at hc
 split at hc
 ·rename_i fn hfn
  split at hc
  ·rename_i b hb
   split at hc
   ·cases hc
   rename_i hname
   split at hc
   ·rename_i gs hgs;injection hc with hc;subst hc;dsimp only at hl h;refine⟨⟨fn,b,hfn,hb,by simpa using hname⟩,λ φ D w xs hrel hvs hf RR hR=>?_⟩;refine callsIn_of_wp_marks hfn hb trivial ?_
    have hsz:((⟨xs⟩:Array Value)++Array.replicate (fn.ntmps - (⟨xs⟩:Array Value).size) undef).size=fn.ntmps:=by
     have:=hvs.length;simp;omega
    have hv:=h (Tr.bO args 0 .nil) λ i=>by
     rw[Tr.bF]
     split
     ·simp
     rw[getElem?_eq_none ae];rfl
    refine fP (r:=none) b _ _ _ _ _ hv φ D {tmps:=(⟨xs⟩:Array Value)++Array.replicate (fn.ntmps - (⟨xs⟩:Array Value).size) undef,defers:=[]} w ⟨hrel,HI hrel.eS.2 hvs _,hsz,rfl⟩ hf _ λ o F1 H1 n1 m1 φ1 D1 a1 w1 px hq bf st1 pp=>?_
    have key:(o=.normal∨o=.ret)->LeavesInM Fence.wide 0 P fn a1.tmps RR a1.defers .returning w1:=by
     intro ho
     have hq:uA (dF m1 H1) λ H'=>uA (Ah F1 H' gs) λ vs=>R (wh vs) H' n1:=by
      rcases ho with rfl|rfl
      ·simpa using hq
      simpa using hq
     cases hu:dF m1 H1 with
     |none=>rw[hu]at hq;exact ar hq id
     |some H2 =>
      rw[hu]at hq;simp only[tL]at hq
      cases he:Ah F1 H2 gs with
      |none=>rw[he]at hq;exact ar hq id
      |some vs =>
       rw[he]at hq;exact Br (P:=P) (fn:=fn) (vs:=vs) hgs he m1 H1 a1.defers a1.tmps φ1 D1 w1 _ RR hu st1.rel st1.fr st1.Bm λ φ2 D2 w2 x h1 h2 h3=>hR _ _ _ φ2 D2 w2 x hq (bf.trans h1) h2 h3
    cases o with
    |normal=>exact key (.inl rfl)
    |ret=>exact key (.inr rfl)
    |exit i=>exact ar hq id
    |panic v=>exact ar hq id
   cases hc
  cases hc
 cases hc
theorem aj.ofR {g:FuncId}{args:List AV}{v:AV}(hp:aP args)(hv:Pure v)(h:ak P g args .nil 0 (λ v1 H' _=>e_ H'.get v1 v)):aj P g args v:=by
 obtain⟨hb,hs⟩:=h;refine⟨hb,hp,hv,λ D w xs hd hv R hR=>?_⟩;refine hs mJ D w xs (tC hd) hv (λ _ _=>rfl) R λ v1 H' n' φ' D' w' x h2 bf hrel hx=>?_;refine hR (shut φ' D' H'.get w') w' x ⟨λ c x hx=>fj c x (bf.eS c x hx),bf.size,λ c hc=>bf.keep c hc λ b p hb=>by simp at hb,λ c hc=>?_,bf.os,bf.out⟩ (mQ hrel.eS) (h2.vr hrel hx);unfold shut at hc
 split at hc
 ·rename_i y hy
  rcases bf.kR c (by rw[hy];simp)with h|h|⟨b0,p0,hh,_⟩
  ·exact .inl h
  ·exact .inr h
  simp at hh
 split at hc
 ·rename_i hex;obtain⟨b,p,hb,hp,rfl⟩:=hex
  rcases bf.live b p hb hp with h|⟨b0,p0,hh,_⟩
  ·exact .inr h
  simp at hh
 exact ar rfl hc
theorem aj.lK {g:FuncId}{args:List AV}{v:AV}(h:aj P g args v)(H:Hp)(n:Nat):ak P g args H n (λ u K k=>u=v/\K=H/\k=n):=(h.Ky H n).lK
mutual
def Flat:AV->Prop
 |.int _ _=>True
 |.bool _=>True
 |.str _=>True
 |.aV _=>True
 |.agg cs _=>fM cs
 |.bo cs=>fM cs
 |.oO _ v=>Flat v
 |_=>False
def fM:List AV->Prop
 |[]=>True
 |v::r=>Flat v/\fM r
end
@[simp] theorem aqQ (k:IntKind)(i:Int):Flat (.int k i):=by simp only[Flat]
@[simp] theorem anx (b:Bool):Flat (.bool b):=by simp only[Flat]
@[simp] theorem aqP (l:List Nat):Flat (.str l):=by simp only[Flat]
@[simp] theorem aqR (v:Value):Flat (.aV v):=by simp only[Flat]
@[simp] theorem flat_agg (cs:List AV)(n:Nat):Flat (.agg cs n)=fM cs:=by simp only[Flat]
@[simp] theorem aqO (cs:List AV):Flat (.bo cs)=fM cs:=by simp only[Flat]
@[simp] theorem anz:fM []:=by simp only[fM]
@[simp] theorem alm (v:AV)(r:List AV):fM (v::r)=(Flat v/\fM r):=by simp only[fM]
mutual
theorem Flat.out {φ φ':Ph}{D D':Da}:∀ {v:AV}{x:Value},Flat v->VR φ D v x->VR φ' D' v x
 |.int _ _,_,_,.int _ _=>.int _ _
 |.bool _,_,_,.bool _=>.bool _
 |.str _,_,_,.str _ _ e=>.str _ _ e
 |.aV _,_,_,.aV _ e=>.aV _ e
 |.agg _ _,_,h,.agg _ _ _ a b=>.agg _ _ _ (fM.uy (by simpa only [Flat]using h) a) b
 |.bo _,_,h,.bo _ _ a=>.bo _ _ (fM.uy (by simpa only [Flat]using h) a)
 |.oO _ _,_,h,.oO _ _ _ a=>.oO _ _ _ (Flat.out (by simpa only [Flat]using h) a)
theorem fM.uy {φ φ':Ph}{D D':Da}:∀ {vs:List AV}{xs:List Value},fM vs->bW φ D vs xs->bW φ' D' vs xs
 |[],_,_,.nil=>.nil
 |_::_,_,h,.cons _ _ _ _ h1 h2=>.cons _ _ _ _ (Flat.out (by simp only[fM]at h;exact h.1) h1) (fM.uy (by simp only[fM]at h;exact h.2) h2)
end
theorem aj.ahx {g:FuncId}{args args':List AV}{v:AV}(h:aj P g args' v) (hf:Flat v){H:Hp}(n:Nat) (hz:bc H.get args args'):∀ φ D w xs,Rel φ D H.get w->bW φ D args xs->∀R:Ending->World->Prop,
  (∀ φ' D' w' x,Ext φ D H.get w n φ' D' H.get w' n->Rel φ' D' H.get w'->VR φ' D' v x->R (.returned x) w')->CallsIn Fence.wide 0 P g ⟨xs⟩ w R:=by
 intro φ D w xs hr hv R hR;refine h.run (shut φ D H.get w) w xs (mQ hr.eS) (hz.uy hr hv) R λ D' w' x hk hd hx=>?_
 let D2:Da:=λ c=>match D c with
  |some y=>some y
  |none=>match shut φ D H.get w c with
   |some _=>none
   |none=>D' c
 have e1:∀c x,D c=some x->D2 c=some x:=λ c x hc=>by simp only[D2,hc]
 have e2:∀c x,D2 c=some x->D' c=some x:=by
  intro c x hc;simp only[D2]at hc
  split at hc
  ·rename_i y hy;injection hc with hc;subst hc;exact hk.eS c _ (fj c _ hy)
  split at hc
  ·cases hc
  exact hc
 have e3:∀c,D2 c≠none->D c≠none∨w.heap.size<=c:=by
  intro c hc;simp only[D2]at hc
  split at hc
  ·rename_i y hy;exact .inl (by rw[hy];simp)
  split at hc
  ·exact ar rfl hc
  rename_i hs
  rcases hk.kR c hc with h|h
  ·exact ar hs h
  exact .inr h
 refine hR φ D2 w' x ⟨aK _,λ _ _ h=>h,λ _ a b=>ar a b,e1,hk.size,λ c hc _=>hk.keep c hc,λ b p hb hp=>.inr ⟨b,p,hb,hp,rfl⟩,λ c hc=>(e3 c hc).elim .inl λ h=>.inr (.inl h),λ _ h=>.inl h,hk.os,hk.out⟩ ?_ (hf.out hx);refine⟨λ b k hb=>?_,hr.inj,λ b p hb hp=>?_,⟨λ c x hc=>hd.1 c x (e2 c x hc),hr.eS.2.mono e1⟩⟩
 ·obtain⟨p,hp,hl,hk'⟩:=hr.blk b k hb;exact⟨p,hp,Nat.lt_of_lt_of_le hl hk.size,hk'.mono (λ _ _ h=>h) e1 (hk.keep _ hl)⟩
 cases hD:D2 p.1 with
 |none=>rfl
 |some x =>
  rcases e3 p.1 (by rw[hD];simp)with h1|h1
  ·exact ar (hr.sep b p hb hp) h1
  cases hx:H.get b with
  |none=>exact ar hx hb
  |some k=>have:=(hr.block hx hp).1;omega
theorem aj.arB {g:FuncId}{args args':List AV}{v:AV}(h:aj P g args' v)(hf:Flat v){H:Hp}(n:Nat)(hz:bc H.get args args'):ak P g args H n (λ u K k=>u=v/\K=H/\k=n):=
 ⟨h.body,λ φ D w xs hr hv _ R hR=>h.ahx hf n hz φ D w xs hr hv R λ φ' D' w' x e r k=>hR v H n φ' D' w' x ⟨rfl,rfl,rfl⟩ e r k⟩
theorem aj.PT {g:FuncId}{args args':List AV}{v:AV}(h:aj P g args' v)(hf:Flat v){H:Hp}(n:Nat)(hz:bc H.get args args'):bu P g args H n v H n:=
 ⟨h.body,aK _,λ φ D w xs hr hv _ R hR=>h.ahx hf n hz φ D w xs hr hv R hR⟩
end
end Go.Abs
namespace Go.Abs
open List
def qf (P:Program)(b:CT)(Q:QA):QA:=λ o F' H' n' m'=>match o with
 |.normal=>VC P b F' H' n' m' Q
 |.exit i=>Q (.exit i) F' H' n' m'
 |.ret=>Q .ret F' H' n' m'
 |.panic _=>False
def zT (v:Option AV)(a b:CT)(P:Program)(F:Fr)(H:Hp)(n:Nat)(m:List Dm)(Q:QA):Prop:=qj v (VC P a F H n m Q) (VC P b F H n m Q)
def IK (x:bw)(pd:Pd)(r:List (Option GO))(P:Program)(F:Fr)(H:Hp)(n:Nat)(m:List Dm)(Q:QA):Prop:=CJ x H n λ v H' n'=>fE P r (pd.f v F) H' n' m Q
def aB (f:FuncId)(vs:List AV)(pd:Pd)(r:List (Option GO))(P:Program)(F:Fr)(H:Hp)(n:Nat)(m:List Dm)(Q:QA):Prop:=ak P f vs H n λ v H' n'=>fE P r (pd.f v F) H' n' m Q
def Vg (vs:Option (List AV))(f:FuncId)(pd:Pd)(r:List (Option GO))(P:Program)(F:Fr)(H:Hp)(n:Nat)(m:List Dm)(Q:QA):Prop:=uA vs λ vs=>aB f vs pd r P F H n m Q
def IA (q:Nat)(vs:List AV)(pd:Pd)(r:List (Option GO))(P:Program)(F:Fr)(H:Hp)(n:Nat)(m:List Dm)(Q:QA):Prop:=wK P q vs H n λ v H' n'=>fE P r (pd.f v F) H' n' m Q
def IV (v:Option AV)(vs:Option (List AV))(pd:Pd)(r:List (Option GO))(P:Program)(F:Fr)(H:Hp)(n:Nat)(m:List Dm)(Q:QA):Prop:=match v with
 |some (.fn (.func f) first cap)=>uA vs λ vs=>aB f (first++(vs++cap)) pd r P F H n m Q
 |some (.jd q)=>uA vs λ vs=>IA q vs pd r P F H n m Q
 |_=>False
def KJ (v:Option AV)(nt:Nat)(ps:List Nat)(a b:Code)(P:Program)(F:Fr)(H:Hp)(n:Nat)(m:List Dm)(Q:QA):Prop:=match v with
 |some (.fn (.func f) first cap)=>ak P f (first++(.jd n::cap)) ((H.put (Nat.succ n) (some .jS)).put n (some (.loop .ready .normal nt F ps a b))) (Nat.succ (Nat.succ n)) λ _ H' n'=>U8 n F m Q H' n'
 |_=>False
def Va (v:Option AV)(b:Bool)(pd:Pd)(e:Eff)(r:List (Option GO))(P:Program)(F:Fr)(H:Hp)(n:Nat)(m:List Dm)(Q:QA):Prop:=fy v b (IK (e F H n) pd r P F H n m Q) (fE P r (pd.f (.bo []) F) H n m Q)
def Vd (v:Option AV)(b:Bool)(pd:Pd)(f:FuncId)(as:List G)(r:List (Option GO))(P:Program)(F:Fr)(H:Hp)(n:Nat)(m:List Dm)(Q:QA):Prop:=fy v b (Vg (evs F as) f pd r P F H n m Q) (fE P r (pd.f (.bo []) F) H n m Q)
def U' (v:Option AV)(b:Bool)(pd:Pd)(g:G)(as:List G)(r:List (Option GO))(P:Program)(F:Fr)(H:Hp)(n:Nat)(m:List Dm)(Q:QA):Prop:=fy v b (IV (g.f F) (evs F as) pd r P F H n m Q) (fE P r (pd.f (.bo []) F) H n m Q)
def aE (b:CT)(P:Program)(F:Fr)(H:Hp)(n:Nat)(m:List Dm)(Q:QA):Prop:=∃(I J:Nat->Fr->Hp->Nat->List Dm->Prop)(k:Nat),J k F H n m/\(∀k F H n m,J k F H n m->Zs I k F H n m)/\∀k F H n m,I k F H n m->VC P b F H n m (Aq J k Q)
def bC (ds:List Nat)(l:List (Option RO))(P:Program)(F:Fr)(H:Hp)(n:Nat)(m:List Dm)(Q:QA):Prop:=∃ce h F2 H2,iI P ce/\dQ h F H F2 H2/\Ev ((HW ds (fY l)).f ce F2 H2 n m) Q
section
variable {P:Program}{F:Fr}{H:Hp}{n:Nat}{m:List Dm}{Q:QA}
@[simp] theorem pF (b:CT):qf P b Q .normal F H n m=VC P b F H n m Q:=propext Iff.rfl
@[simp] theorem am8 (b:CT)(i:Nat):qf P b Q (.exit i) F H n m=Q (.exit i) F H n m:=propext Iff.rfl
@[simp] theorem aoF (b:CT):qf P b Q .ret F H n m=Q .ret F H n m:=propext Iff.rfl
@[simp] theorem alM (a b:CT):zT (some (.bool true)) a b P F H n m Q=VC P a F H n m Q:=propext Iff.rfl
@[simp] theorem ahn (a b:CT):zT (some (.bool false)) a b P F H n m Q=VC P b F H n m Q:=propext Iff.rfl
@[simp] theorem au5 (l:List (Option GO)):VC P (.ng l) F H n m Q=fE P l F H n m Q:=propext Iff.rfl
@[simp] theorem pz (ds:List Nat)(l:List (Option RO)):VC P (.dO ds l) F H n m Q=bC ds l P F H n m Q:=propext Iff.rfl
@[simp] theorem uD (a b:CT):VC P (.seq a b) F H n m Q=VC P a F H n m (qf P b Q):=propext Iff.rfl
@[simp] theorem asQ (g:G)(a b:CT):VC P (.cond g a b) F H n m Q=zT (g.f F) a b P F H n m Q:=propext Iff.rfl
@[simp] theorem aom (i:Nat)(b:CT):VC P (.block i b) F H n m Q=VC P b F H n m (jE i Q):=propext Iff.rfl
@[simp] theorem asO (b:CT):VC P (.loop b) F H n m Q=aE b P F H n m Q:=propext Iff.rfl
@[simp] theorem asP (i:Nat):VC P (.exit i) F H n m Q=Q (.exit i) F H n m:=propext Iff.rfl
@[simp] theorem au4:VC P .ret F H n m Q=Q .ret F H n m:=propext Iff.rfl
@[simp] theorem asN:VC P .skip F H n m Q=Q .normal F H n m:=propext Iff.rfl
@[simp] theorem apg (pd:Pd)(r:List (Option GO)):IK .fail pd r P F H n m Q=False:=propext Iff.rfl
@[simp] theorem atd (v:AV)(pd:Pd)(r:List (Option GO)):IK (.val v) pd r P F H n m Q=fE P r (pd.f v F) H n m Q:=propext Iff.rfl
@[simp] theorem atf (v:AV)(k:bG)(pd:Pd)(r:List (Option GO)):IK (.new v k) pd r P F H n m Q=fE P r (pd.f v F) (H.put n (some k)) (n+1) m Q:=propext Iff.rfl
@[simp] theorem ate (v:AV)(b:Nat)(k:bG)(pd:Pd)(r:List (Option GO)):IK (.upd v b k) pd r P F H n m Q=fE P r (pd.f v F) (H.put b (some k)) n m Q:=propext Iff.rfl
@[simp] theorem avB (v:AV)(b:Nat)(k:bG)(pd:Pd)(r:List (Option GO)):IK (.mv v b k) pd r P F H n m Q=fE P r (pd.f v F) ((H.put b none).put n (some k)) (n+1) m Q:=propext Iff.rfl
@[simp] theorem anZ (vs:List AV)(f:FuncId)(pd:Pd)(r:List (Option GO)):Vg (some vs) f pd r P F H n m Q=aB f vs pd r P F H n m Q:=propext Iff.rfl
@[simp] theorem anw (f:FuncId)(first cap vs:List AV)(pd:Pd)(r:List (Option GO)):IV (some (.fn (.func f) first cap)) (some vs) pd r P F H n m Q=aB f (first++(vs++cap)) pd r P F H n m Q:=propext Iff.rfl
@[simp] theorem awC (pd:Pd)(e:Eff)(r:List (Option GO)):Va (some (.bool true)) true pd e r P F H n m Q=IK (e F H n) pd r P F H n m Q:=propext Iff.rfl
@[simp] theorem awD (pd:Pd)(e:Eff)(r:List (Option GO)):Va (some (.bool false)) true pd e r P F H n m Q=fE P r (pd.f (.bo []) F) H n m Q:=propext Iff.rfl
@[simp] theorem atT (pd:Pd)(e:Eff)(r:List (Option GO)):Va (some (.bool true)) false pd e r P F H n m Q=fE P r (pd.f (.bo []) F) H n m Q:=propext Iff.rfl
@[simp] theorem atU (pd:Pd)(e:Eff)(r:List (Option GO)):Va (some (.bool false)) false pd e r P F H n m Q=IK (e F H n) pd r P F H n m Q:=propext Iff.rfl
@[simp] theorem aqy (l:List AV)(b:Bool)(pd:Pd)(e:Eff)(r:List (Option GO)):Va (some (.bo l)) b pd e r P F H n m Q=fE P r (pd.f (.bo []) F) H n m Q:=propext Iff.rfl
@[simp] theorem awI (pd:Pd)(f:FuncId)(as:List G)(r:List (Option GO)):Vd (some (.bool true)) true pd f as r P F H n m Q=Vg (evs F as) f pd r P F H n m Q:=propext Iff.rfl
@[simp] theorem awJ (pd:Pd)(f:FuncId)(as:List G)(r:List (Option GO)):Vd (some (.bool false)) true pd f as r P F H n m Q=fE P r (pd.f (.bo []) F) H n m Q:=propext Iff.rfl
@[simp] theorem atZ (pd:Pd)(f:FuncId)(as:List G)(r:List (Option GO)):Vd (some (.bool true)) false pd f as r P F H n m Q=fE P r (pd.f (.bo []) F) H n m Q:=propext Iff.rfl
@[simp] theorem at1 (pd:Pd)(f:FuncId)(as:List G)(r:List (Option GO)):Vd (some (.bool false)) false pd f as r P F H n m Q=Vg (evs F as) f pd r P F H n m Q:=propext Iff.rfl
@[simp] theorem aqB (l:List AV)(b:Bool)(pd:Pd)(f:FuncId)(as:List G)(r:List (Option GO)):Vd (some (.bo l)) b pd f as r P F H n m Q=fE P r (pd.f (.bo []) F) H n m Q:=propext Iff.rfl
@[simp] theorem awA (pd:Pd)(g:G)(as:List G)(r:List (Option GO)):U' (some (.bool true)) true pd g as r P F H n m Q=IV (g.f F) (evs F as) pd r P F H n m Q:=propext Iff.rfl
@[simp] theorem awB (pd:Pd)(g:G)(as:List G)(r:List (Option GO)):U' (some (.bool false)) true pd g as r P F H n m Q=fE P r (pd.f (.bo []) F) H n m Q:=propext Iff.rfl
@[simp] theorem atQ (pd:Pd)(g:G)(as:List G)(r:List (Option GO)):U' (some (.bool true)) false pd g as r P F H n m Q=fE P r (pd.f (.bo []) F) H n m Q:=propext Iff.rfl
@[simp] theorem atS (pd:Pd)(g:G)(as:List G)(r:List (Option GO)):U' (some (.bool false)) false pd g as r P F H n m Q=IV (g.f F) (evs F as) pd r P F H n m Q:=propext Iff.rfl
@[simp] theorem aqx (l:List AV)(b:Bool)(pd:Pd)(g:G)(as:List G)(r:List (Option GO)):U' (some (.bo l)) b pd g as r P F H n m Q=fE P r (pd.f (.bo []) F) H n m Q:=propext Iff.rfl
@[simp] theorem asR:fE P [] F H n m Q=Q .normal F H n m:=propext Iff.rfl
@[simp] theorem au6 (pd:Pd)(e:Eff)(r:List (Option GO)):fE P (oP pd e::r) F H n m Q=IK (e F H n) pd r P F H n m Q:=propext Iff.rfl
@[simp] theorem au7 (g:G)(b:Bool)(pd:Pd)(e:Eff)(r:List (Option GO)):fE P (gP g b pd e::r) F H n m Q=Va (g.f F) b pd e r P F H n m Q:=propext Iff.rfl
theorem Kx (g:G)(as:List G)(K:FuncId->List AV->Prop)(K2:Nat->List AV->Prop):((∃f first cap vs,g.f F=some (.fn (.func f) first cap)/\evs F as=some vs/\K f (first++(vs++cap)))∨(∃q vs,g.f F=some (.jd q)/\evs F as=some vs/\K2 q vs))↔(match g.f F with
  |some (.fn (.func f) first cap)=>uA (evs F as) λ vs=>K f (first++(vs++cap))
  |some (.jd q)=>uA (evs F as) λ vs=>K2 q vs
  |_=>False):=by
 constructor
 ·rintro(⟨f,first,cap,vs,h1,h2,h3⟩|⟨q,vs,h1,h2,h3⟩)
  ·rw[h1,h2];exact h3
  rw[h1,h2];exact h3
 intro h
 split at h
 ·rename_i f first cap hg
  cases hv:evs F as with
  |none=>rw[hv]at h;exact ar h id
  |some vs=>rw[hv]at h;exact .inl ⟨f,first,cap,vs,hg,rfl,h⟩
 ·rename_i q hg
  cases hv:evs F as with
  |none=>rw[hv]at h;exact ar h id
  |some vs=>rw[hv]at h;exact .inr ⟨q,vs,hg,rfl,h⟩
 exact ar h id
@[simp] theorem Vu (pd:Pd)(g:G)(as:List G)(r:List (Option GO)):fE P (vP pd g as::r) F H n m Q=IV (g.f F) (evs F as) pd r P F H n m Q:=by
 refine Eq.trans (propext (Kx (F:=F) g as (λ f l=>aB f l pd r P F H n m Q) λ q l=>IA q l pd r P F H n m Q)) ?_;unfold IV;rfl
@[simp] theorem ajx (pd:Pd)(f:FuncId)(as:List G)(r:List (Option GO)):fE P (cP pd f as::r) F H n m Q=Vg (evs F as) f pd r P F H n m Q:=by
 refine Eq.trans (Vu pd (aQ (.fn (.func f) [] [])) as r) ?_;simp only[y9,IV,Vg,nil_append,append_nil]
@[simp] theorem asT (g:G)(b:Bool)(pd:Pd)(f:FuncId)(as:List G)(r:List (Option GO)):fE P (kz g b pd f as::r) F H n m Q=Vd (g.f F) b pd f as r P F H n m Q:=by
 show fy (g.f F) b (fE P (cP pd f as::r) F H n m Q) _=_;rw[ajx];rfl
def gvP (g:G)(b:Bool)(pd:Pd)(h:G)(as:List G):Option GO:=some ⟨some (g,b),pd,.call h as⟩
@[simp] theorem asS (g:G)(b:Bool)(pd:Pd)(h:G)(as:List G)(r:List (Option GO)):fE P (gvP g b pd h as::r) F H n m Q=U' (g.f F) b pd h as r P F H n m Q:=by
 show fy (g.f F) b (fE P (vP pd h as::r) F H n m Q) _=_;rw[Vu];rfl
@[simp] theorem aqJ (q:Nat)(vs:List AV)(pd:Pd)(r:List (Option GO)):IV (some (.jd q)) (some vs) pd r P F H n m Q=IA q vs pd r P F H n m Q:=propext Iff.rfl
theorem TN (g:G)(K:FuncId->List AV->List AV->Prop):(∃f first cap,g.f F=some (.fn (.func f) first cap)/\K f first cap)↔(match g.f F with
  |some (.fn (.func f) first cap)=>K f first cap
  |_=>False):=by
 constructor
 ·rintro⟨f,first,cap,h1,h2⟩;rw[h1];exact h2
 intro h
 split at h
 ·rename_i f first cap hg;exact⟨f,first,cap,hg,h⟩
 exact ar h id
@[simp] theorem aol (nt:Nat)(g:G)(ps:List Nat)(a b:Code):VC P (.range nt g ps a b) F H n m Q=KJ (g.f F) nt ps a b P F H n m Q:=
 Eq.trans (propext (TN (F:=F) g λ f first cap=>ak P f (first++(.jd n::cap)) ((H.put (Nat.succ n) (some .jS)).put n (some (.loop .ready .normal nt F ps a b))) (Nat.succ (Nat.succ n)) λ _ H' n'=>U8 n F m Q H' n')) (by unfold KJ;rfl)
theorem KJ.of {f:FuncId}{first cap:List AV}{nt:Nat}{ps:List Nat}{a b:Code}(h:ak P f (first++(.jd n::cap)) ((H.put (n+1) (some .jS)).put n (some (.loop .ready .normal nt F ps a b))) (n+2) λ _ H' n'=>U8 n F m Q H' n'):KJ (some (.fn (.func f) first cap)) nt ps a b P F H n m Q:=h
theorem Gm.of {nt:Nat}{c:Code}{Q:QA}(h:VC P (eQ P nt true c) F H n [] Q):Gm P nt c F H n Q:=λ cb=>fP (r:=some cb) c F H n [] Q h
theorem IA.of {q:Nat}{vs:List AV}{pd:Pd}{r:List (Option GO)}{st:LoopState}{j:lO}{nt:Nat}{F0 F1:Fr}{ps:List Nat}{a b:Code}(hq:H.get q=some (.loop st j nt F0 ps a b))(hp:mU nt ps vs F0=some F1)
  (ha:VC P (eQ P nt true a) F1 H n [] λ o F2 H2 n2 m2=>o=.normal/\m2=[]/\∃j2 Bl G2 ps2 a2 b2,H2.get q=some (.loop .ready j2 Bl G2 ps2 a2 b2)/\VC P (eQ P nt true b) F2 (H2.put q (some (.loop .busy j2 Bl G2 ps2 a2 b2))) n2 [] λ j3 _ H3 n3 _=>vj q (λ v H' n'=>fE P r (pd.f v F) H' n' m Q) j3 H3 n3):IA q vs pd r P F H n m Q:=by
 refine⟨st,j,nt,F0,ps,a,b,F1,hq,hp,λ cb=>?_⟩;refine λ φ D ac w CU hf QQ hQ=>fP (r:=some cb) a F1 H n [] _ ha φ D ac w CU hf QQ λ o F' H' n' m' φ' D' a' w' px h e s pp=>hQ o F' H' n' m' φ' D' a' w' px ?_ e s pp;obtain⟨h1,h2,j2,Bl,G2,ps2,a2,b2,h3,h4⟩:=h;exact⟨h1,h2,j2,Bl,G2,ps2,a2,b2,h3,Gm.of h4⟩
@[simp] theorem kZ {q:Nat}{m:List Dm}{H:Hp}(h:H.get q=some .jS):dF (.cG q::m) H=dF m (H.put q none):=by
 simp only[dF,h]
def GH:Code->List (Code×Code)
 |.seq a b=>GH a++GH b
 |.cond _ a b=>GH a++GH b
 |.block _ b=>GH b
 |.loop b=>GH b
 |.scope b=>GH b
 |.rangeFunc _ _ a b=>[(a,b)]
 |_=>[]
def V8 (P:Program) (g k:Nat):Code×Code:=match P.funcs[g]? with
 |some fn=>match fn.body with
  |some b=>(GH b).getD k (.skip,.skip)
  |none=>(.skip,.skip)
 |none=>(.skip,.skip)
theorem aB.of {f:FuncId}{vs:List AV}{pd:Pd}{r:List (Option GO)}{R:AV->Hp->Nat->Prop}(h:ak P f vs H n R)(k:∀v H' n',R v H' n'->fE P r (pd.f v F) H' n' m Q):aB f vs pd r P F H n m Q:=h.mono k
theorem aB.pure {f:FuncId}{vs:List AV}{pd:Pd}{r:List (Option GO)}{v:AV}(h:aj P f vs v)(k:fE P r (pd.f v F) H n m Q):aB f vs pd r P F H n m Q:=(h.lK H n).mono λ u K k' ⟨a,b,c⟩=>by subst a b c;exact k
theorem aB.nV {f:FuncId}{vs vs':List AV}{pd:Pd}{r:List (Option GO)}{v:AV}(h:aj P f vs' v)(hf:Flat v)(hz:bc H.get vs vs')(k:fE P r (pd.f v F) H n m Q):aB f vs pd r P F H n m Q:=(h.arB hf n hz).mono λ u K k' ⟨a,b,c⟩=>by subst a b c;exact k
theorem aE.of {b:CT}(I:Nat->Fr->Hp->Nat->List Dm->Prop)(k:Nat)(h0:I k F H n m)(hs:∀k F H n m,I k F H n m->VC P b F H n m (Aq I k Q)):aE b P F H n m Q:=⟨I,I,k,h0,λ _ _ _ _ _ h=>Zs.refl h,hs⟩
theorem aE.ofZ {b:CT}(I:Nat->Fr->Hp->Nat->List Dm->Prop)(k:Nat)(h0:Zs I k F H n m)(hs:∀k F H n m,I k F H n m->VC P b F H n m (Aq (Zs I) k Q)):aE b P F H n m Q:=⟨I,Zs I,k,h0,λ _ _ _ _ _ h=>h,hs⟩
theorem bC.of {ds:List Nat}{l:List (Option RO)}{ce:Ce}(hce:iI P ce)(h:Ev ((HW ds (fY l)).f ce F H n m) Q):bC ds l P F H n m Q:=⟨ce,_,F,H,hce,dQ.refl F H,h⟩
theorem bC.ofZ {ds:List Nat}{l:List (Option RO)}{ce:Ce}{h:Hf}{F2:Fr}{H2:Hp}(hce:iI P ce)(s:dQ h F H F2 H2)(k:Ev ((HW ds (fY l)).f ce F2 H2 n m) Q):bC ds l P F H n m Q:=⟨ce,h,F2,H2,hce,s,k⟩
theorem zT.ofB {c:Bool}{a b:CT}(h1:c=true->VC P a F H n m Q)(h2:c=false->VC P b F H n m Q):zT (some (.bool c)) a b P F H n m Q:=by
 cases c
 ·exact h2 rfl
 exact h1 rfl
theorem bh:iI P (Aj λ _ _ _ _=>.fail):=D6 λ _ _ _ _ _ _ _ h=>by cases h
theorem gW {g:FuncId}{c:CF}{args:List AV}{v:AV}(hc:J5 P g=some c)(hp:aP args)(hv:Pure v)(hl:args.length<=c.nt)
  (h:∀F:Fr,(∀i,F.get i=args[i]?)->VC P c.code F .nil 0 [] (kU c.res λ v1 H' _=>e_ H'.get v1 v)):aj P g args v:=aj.ofR hp hv (ak.of hc hl h)
def aqF (r:iC):Option AV:=match r with
 |.mk v _ _=>some v
 |_=>none
theorem aj.lit {g:FuncId}{args:List AV}{v:AV}(hp:aP args)(hv:Pure v)(h:aqF (my P (Aj λ _ _ _ _=>.fail) g args .nil 0)=some v):aj P g args v:=by
 refine aj.of bh hp ?_
 cases hr:my P (Aj λ _ _ _ _=>.fail) g args .nil 0 with
 |fail=>rw[hr]at h;cases h
 |wu v1 H' n'=>rw[hr]at h;cases h
 |mk v1 H' n'=>rw[hr]at h;injection h with h;subst h;exact⟨_,_,_,rfl,.pure _ hv⟩
theorem aj.ar4 {g:FuncId}{args:List AV}{v:AV}(k:Nat)(hp:aP args)(hv:Pure v)(h:aqF ((Go.Abs.run P (k+1)).call g args .nil 0)=some v):aj P g args v:=by
 refine aj.of (V3 (P:=P) k) hp ?_;have e:my P (Go.Abs.run P k) g args .nil 0=(Go.Abs.run P (k+1)).call g args .nil 0:=rfl
 cases hr:my P (Go.Abs.run P k) g args .nil 0 with
 |fail=>rw[<-e,hr]at h;cases h
 |wu v1 H' n'=>rw[<-e,hr]at h;cases h
 |mk v1 H' n'=>rw[<-e,hr]at h;injection h with h;subst h;exact⟨_,_,_,rfl,.pure _ hv⟩
mutual
theorem VR.back {φ φ':Ph}{D D':Da}(hφ:∀b x,φ b=some x->φ' b=some x):∀ {v x x'},VR φ D v x->VR φ' D' v x'->VR φ D' v x'
 |_,_,_,.int _ _,.int _ _=>.int _ _
 |_,_,_,.bool _,.bool _=>.bool _
 |_,_,_,.str _ _ _,.str _ _ e=>.str _ _ e
 |_,_,_,.ptr _ _ _ _ _ h,.ptr _ _ _ _ _ k=>by rw[hφ _ _ h]at k;injection k with k;injection k with a b;injection b with b c;subst a b c;exact .ptr _ _ _ _ _ h
 |_,_,_,.sl _ _ _ _ _ _ _ _ _ h _ _,.sl _ _ _ _ _ _ _ _ _ k p q=>by rw[hφ _ _ h]at k;injection k with k;injection k with a b;injection b with b c;subst a b c;exact .sl _ _ _ _ _ _ _ _ _ h p q
 |_,_,_,.agg _ _ _ h _,.agg _ _ _ k e=>.agg _ _ _ (bW.back hφ h k) e
 |_,_,_,.bo _ _ h,.bo _ _ k=>.bo _ _ (bW.back hφ h k)
 |_,_,_,.oO _ _ _ h,.oO _ _ _ k=>.oO _ _ _ (VR.back hφ h k)
 |_,_,_,.fn _ _ _ _ _ h1 h2,.fn _ _ _ _ _ k1 k2=>.fn _ _ _ _ _ (bW.back hφ h1 k1) (bW.back hφ h2 k2)
 |_,_,_,.map _ _ _ _ h,.map _ _ _ _ k=>by rw[hφ _ _ h]at k;injection k with k;injection k with a b;injection b with b c;subst a b c;exact .map _ _ _ _ h
 |_,_,_,.ds _ _ _ _ _ _ _ _ _ _ _ h _,.ds _ _ _ _ _ _ _ _ a b c k e=>.ds _ _ _ _ _ _ _ _ a b c (bW.back hφ h k) e
 |_,_,_,.ds _ _ _ _ _ _ _ _ _ _ _ _ _,.pW _ _ _=>.pW _ _ _
 |_,_,_,.ds _ _ _ _ _ _ _ _ _ _ _ _ _,.tW _=>.tW _
 |_,_,_,.pW _ _ _,.ds _ _ _ _ _ _ _ _ a b c k e=>.ds _ _ _ _ _ _ _ _ a b c (by cases k;exact .nil) e
 |_,_,_,.pW _ _ _,.pW _ _ _=>.pW _ _ _
 |_,_,_,.pW _ _ _,.tW _=>.tW _
 |_,_,_,.tW _,.ds _ _ _ _ _ _ _ _ a b c k e=>.ds _ _ _ _ _ _ _ _ a b c (by cases k;exact .nil) e
 |_,_,_,.tW _,.pW _ _ _=>.pW _ _ _
 |_,_,_,.tW _,.tW _=>.tW _
 |_,_,_,.dp _ _ _ _ _ _ _ h,.dp _ _ _ _ _ a b k=>.dp _ _ _ _ _ a b (bW.back hφ h k)
 |_,_,_,.jd _ _ _ _ h,.jd _ _ _ _ k=>by rw[hφ _ _ h]at k;injection k with k;injection k with a b;injection b with b c;subst a b c;exact .jd _ _ _ _ h
 |_,_,_,.aV _ _,.aV _ e=>.aV _ e
theorem bW.back {φ φ':Ph}{D D':Da}(hφ:∀b x,φ b=some x->φ' b=some x):∀ {v x x'},bW φ D v x->bW φ' D' v x'->bW φ D' v x'
 |_,_,_,.nil,.nil=>.nil
 |_,_,_,.cons _ _ _ _ h1 h2,.cons _ _ _ _ k1 k2=>.cons _ _ _ _ (VR.back hφ h1 k1) (bW.back hφ h2 k2)
end
theorem xw.back {φ φ':Ph}{D D':Da}(hφ:∀b x,φ b=some x->φ' b=some x):∀ {v x x'},xw φ D v x->xw φ' D' v x'->xw φ D' v x'
 |_,_,_,.nil,.nil=>.nil
 |_,_,_,.cons _ _ _ _ _ _ _ a b c,.cons _ _ _ _ _ _ _ a' b' c'=>.cons _ _ _ _ _ _ _ (a.back hφ a') (b.back hφ b') (xw.back hφ c c')
theorem FR.back {φ φ':Ph}{D D':Da}(hφ:∀b x,φ b=some x->φ' b=some x){F:Ff}{t t':Array Value}(h:FR φ D F t)(k:FR φ' D' F t'):FR φ D' F t':=by
 refine⟨λ s v hv=>?_,k.2⟩;obtain⟨x,_,h2⟩:=h.1 s v hv;obtain⟨y,k1,k2⟩:=k.1 s v hv;exact⟨y,k1,h2.back hφ k2⟩
theorem jc.back {φ φ':Ph}{D D':Da}{w w':World} {p}(hφ:∀b x,φ b=some x->φ' b=some x){k:bG}(h:jc φ D w p k)(k':jc φ' D' w' p k):jc φ D' w' p k:=by
 cases k with
 |cells u z bs t =>
  obtain⟨c,e,fr,h1,h2,h3,h4,h5⟩:=h;obtain⟨c',e',fr',k1,k2,k3,k4,k5⟩:=k';exact⟨c',e',fr',k1,k2,k3,λ i v hv=>let ⟨x,_,a⟩:=h4 i v hv;let ⟨y,b,b'⟩:=k4 i v hv;⟨y,b,a.back hφ b'⟩,k5⟩
 |map es clk=>obtain⟨c,h1,h2⟩:=h;obtain⟨c',k1,k2⟩:=k';exact⟨c',k1,h2.back hφ k2⟩
 |loop st j nt F ps a b =>
  obtain⟨r,h1,h2,h3,h4,h5,h6⟩:=h;obtain⟨r',k1,k2,k3,k4,k5,k6⟩:=k';exact⟨r',k1,k2,k3,k4,h5.back hφ k5,k6⟩
 |jS=>exact k'
 |iter m s l c =>
  obtain⟨h0,cm,h1,h2⟩:=h;obtain⟨_,cm',k1,k2⟩:=k';refine⟨h0,cm',k1,?_⟩
  cases m with
  |none=>exact k2
  |some b =>
   obtain⟨cb,co,cz,h3,_⟩:=h2;obtain⟨cb',co',cz',k3,k4⟩:=k2;have:=hφ _ _ h3;rw[this]at k3;injection k3 with k3;injection k3 with e1 e2;exact⟨cb,co,cz,h3,by rw[k4,e1]⟩
theorem ak.forget {g:FuncId}{args:List AV}{v0:AV}(hv:Flat v0)(h:ak P g args H n (λ v H' _=>v=v0/\∀b,H.get b≠none->H'.get b=H.get b)):ak P g args H n (λ u K k=>u=v0/\K=H/\k=n):=by
 refine⟨h.1,λ φ D w xs hr hvs hf RR hR=>h.2 φ D w xs hr hvs hf RR λ v H' n' φ' D' w' x ⟨hz,hk⟩ e r hx=>?_⟩;subst hz;refine hR v H n φ D' w' x ⟨rfl,rfl,rfl⟩ ⟨aK _,λ _ _ h=>h,λ _ a b=>ar a b,e.eS,e.size,e.keep,λ b p hb hp=>.inr ⟨b,p,hb,hp,rfl⟩,e.kR,λ _ h=>.inl h,e.os,e.out⟩ ?_ (hv.out hx);refine⟨λ b k hb=>?_,hr.inj,λ b p hb hp=>?_,r.eS⟩
 ·obtain⟨p,hp,hl,hb1⟩:=hr.blk b k hb;have hb':H'.get b=some k:=by rw[hk b (by rw[hb];simp),hb]
  have:=(r.block hb' (e.phi _ _ hp)).2;exact⟨p,hp,Nat.lt_of_lt_of_le hl e.size,hb1.back e.phi this⟩
 exact r.sep b p (by rw[hk b hb];exact hb) (e.phi _ _ hp)
theorem aB.same {f:FuncId}{vs:List AV}{pd:Pd}{r:List (Option GO)}{v:AV}(h:ak P f vs H n (λ u K k=>u=v/\K=H/\k=n))(k:fE P r (pd.f v F) H n m Q):aB f vs pd r P F H n m Q:=h.mono λ u K k' ⟨a,b,c⟩=>by subst a b c;exact k
end
end Go.Abs
namespace Go.Abs
open List
section
variable {P:Program}
theorem CJ.mono {r:bw}{H:Hp}{n:Nat}{k k':AV->Hp->Nat->Prop}(h:CJ r H n k)(hk:∀v H n,k v H n->k' v H n):CJ r H n k':=by
 cases r<;>first|exact h|exact hk _ _ _ h
theorem fy.mono {v:Option AV}{b:Bool}{p q p' q':Prop}(h:fy v b p q)(hp:p->p')(hq:q->q'):fy v b p' q':=by
 unfold fy at h ⊢
 split at h
 ·rename_i c
  cases hc:(c == b)with
  |true=>rw[hc]at h;exact hp h
  |false=>rw[hc]at h;exact hq h
 ·exact hq h
 exact h
theorem qj.mono {v:Option AV}{p q p' q':Prop}(h:qj v p q)(hp:p->p')(hq:q->q'):qj v p' q':=by
 unfold qj at h ⊢
 split at h
 ·exact hp h
 ·exact hq h
 exact h
theorem Ev.mono {r:P9}{Q Q':QA}(h:Ev r Q)(hq:∀o F H n m,Q o F H n m->Q' o F H n m):Ev r Q':=by
 unfold Ev at h ⊢
 split at h
 ·exact h
 ·exact hq _ _ _ _ _ h
 exact h
theorem Gm.mono {nt:Nat}{c:Code}{F:Fr}{H:Hp}{n:Nat}{Q Q':QA}(h:Gm P nt c F H n Q)(hq:∀o F H n m,Q o F H n m->Q' o F H n m):Gm P nt c F H n Q':=
 λ cb φ D a w st hf QQ hQ=>h cb φ D a w st hf QQ λ o F' H' n' m' φ' D' a' w' px q=>hQ o F' H' n' m' φ' D' a' w' px (hq _ _ _ _ _ q)
theorem wK.mono {q:Nat}{vs:List AV}{H:Hp}{n:Nat}{R S:AV->Hp->Nat->Prop}(h:wK P q vs H n R)(hs:∀v H' n',R v H' n'->S v H' n'):wK P q vs H n S:=by
 obtain⟨st,j,nt,F0,ps,a,b,F1,h1,h2,h3⟩:=h;refine⟨st,j,nt,F0,ps,a,b,F1,h1,h2,h3.mono ?_⟩;rintro o F2 H2 n2 m2 ⟨rfl,rfl,j2,Bl,G2,ps2,a2,b2,h4,h5⟩;refine⟨rfl,rfl,j2,Bl,G2,ps2,a2,b2,h4,h5.mono ?_⟩;rintro j3 _ H3 n3 _ ⟨st,nt,G,ps,a,b,j0,h6,h7⟩;refine⟨st,nt,G,ps,a,b,j0,h6,?_⟩
 cases j3<;>first|exact hs _ _ _ h7|exact h7
theorem BX {x:Option AV}{as:Option (List AV)}{H:Hp}{n:Nat}{R S:AV->Hp->Nat->Prop}(hs:∀v H' n',R v H' n'->S v H' n')
  (h:(∃f first cap vs,x=some (.fn (.func f) first cap)/\as=some vs/\ak P f (first++(vs++cap)) H n R)∨(∃q vs,x=some (.jd q)/\as=some vs/\wK P q vs H n R)):
  (∃f first cap vs,x=some (.fn (.func f) first cap)/\as=some vs/\ak P f (first++(vs++cap)) H n S)∨(∃q vs,x=some (.jd q)/\as=some vs/\wK P q vs H n S):=by
 rcases h with⟨f,first,cap,vs,a,b,c⟩|⟨q,vs,a,b,c⟩
 ·exact .inl ⟨f,first,cap,vs,a,b,c.mono hs⟩
 exact .inr ⟨q,vs,a,b,c.mono hs⟩
theorem fE.mono:∀(l:List (Option GO))(F:Fr)(H:Hp)(n:Nat)(m:List Dm)(Q Q':QA),(∀o F H n m,Q o F H n m->Q' o F H n m)->fE P l F H n m Q->fE P l F H n m Q'
 |[],_F,_H,_n,_m,_Q,_Q',hq,h=>hq _ _ _ _ _ h
 |none::_,_,_,_,_,_,_,_,h=>h
 |some ⟨none,_pd,.eff _e⟩::r,_F,_H,_n,_m,_Q,_Q',hq,h=>CJ.mono h λ _v _H' _n'=>fE.mono r _ _ _ _ _ _ hq
 |some ⟨none,_pd,.call _g _as⟩::r,_F,_H,_n,_m,_Q,_Q',hq,h=>BX (λ _v _H' _n'=>fE.mono r _ _ _ _ _ _ hq) h
 |some ⟨none,_,.bad⟩::_,_,_,_,_,_,_,_,h=>h
 |some ⟨none,_,.jA _⟩::_,_,_,_,_,_,_,_,h=>h
 |some ⟨none,_,.raw _⟩::_,_,_,_,_,_,_,_,h=>h
 |some ⟨some (_g,_b),_pd,.eff _e⟩::r,_F,_H,_n,_m,_Q,_Q',hq,h=>fy.mono h (λ h=>CJ.mono h λ _v _H' _n'=>fE.mono r _ _ _ _ _ _ hq) (fE.mono r _ _ _ _ _ _ hq)
 |some ⟨some (_g,_b),_pd,.call _ _as⟩::r,_F,_H,_n,_m,_Q,_Q',hq,h=>fy.mono h (λ h=>BX (λ _v _H' _n'=>fE.mono r _ _ _ _ _ _ hq) h) (fE.mono r _ _ _ _ _ _ hq)
 |some ⟨some (_g,_b),_pd,.bad⟩::r,_F,_H,_n,_m,_Q,_Q',hq,h=>fy.mono h id (fE.mono r _ _ _ _ _ _ hq)
 |some ⟨some (_g,_b),_pd,.jA _⟩::r,_F,_H,_n,_m,_Q,_Q',hq,h=>fy.mono h id (fE.mono r _ _ _ _ _ _ hq)
 |some ⟨some (_g,_b),_pd,.raw _⟩::r,_F,_H,_n,_m,_Q,_Q',hq,h=>fy.mono h id (fE.mono r _ _ _ _ _ _ hq)
theorem VC.mono:∀(c:CT)(F:Fr)(H:Hp)(n:Nat)(m:List Dm)(Q Q':QA),(∀o F H n m,Q o F H n m->Q' o F H n m)->VC P c F H n m Q->VC P c F H n m Q'
 |.ng l,F,H,n,m,Q,Q',hq,h=>fE.mono l F H n m Q Q' hq h
 |.dO ds l,F,H,n,m,Q,Q',hq,⟨ce,h,F2,H2,a,s,b⟩=>⟨ce,h,F2,H2,a,s,b.mono hq⟩
 |.seq a b,F,H,n,m,Q,Q',hq,h=>VC.mono a F H n m _ _ (λ o F' H' n' m' h'=>match o,h' with
  |.normal,h'=>VC.mono b F' H' n' m' _ _ hq h'
  |.exit i,h'=>hq _ _ _ _ _ h'
  |.ret,h'=>hq _ _ _ _ _ h'
  |.panic _,h'=>h') h
 |.cond g a b,F,H,n,m,Q,Q',hq,h=>qj.mono h (VC.mono a _ _ _ _ _ _ hq) (VC.mono b _ _ _ _ _ _ hq)
 |.block i b,F,H,n,m,Q,Q',hq,h=>VC.mono b F H n m _ _ (λ o F' H' n' m' h'=>match o,h' with
  |.normal,h'=>hq _ _ _ _ _ h'
  |.exit j,h'=>by
   unfold jE at h' ⊢;dsimp only at h' ⊢
   split at h'
   ·rename_i e;rw[aw e];exact hq _ _ _ _ _ h'
   rename_i e;rw[ai e];exact hq _ _ _ _ _ h'
  |.ret,h'=>hq _ _ _ _ _ h'
  |.panic _,h'=>h') h
 |.loop b,F,H,n,m,Q,Q',hq,⟨I,J,k,h0,hj,hs⟩=>⟨I,J,k,h0,hj,λ k F H n m hi=>VC.mono b F H n m _ _ (λ o F' H' n' m' h'=>match o,h' with
  |.normal,h'=>h'
  |.exit i,h'=>hq _ _ _ _ _ h'
  |.ret,h'=>hq _ _ _ _ _ h'
  |.panic _,h'=>h') (hs k F H n m hi)⟩
 |.exit i,F,H,n,m,Q,Q',hq,h=>hq _ _ _ _ _ h
 |.ret,F,H,n,m,Q,Q',hq,h=>hq _ _ _ _ _ h
 |.skip,F,H,n,m,Q,Q',hq,h=>hq _ _ _ _ _ h
 |.range nt g ps a b,F,H,n,m,Q,Q',hq,⟨f,first,cap,h1,h2⟩=>⟨f,first,cap,h1,h2.mono λ v H' n' ⟨st,j,nt,G,ps,a,b,e1,e2,e3,e4⟩=>⟨st,j,nt,G,ps,a,b,e1,e2,e3,hq _ _ _ _ _ e4⟩⟩
 |.bad,_,_,_,_,_,_,_,h=>h
 |.raw k,F,H,n,m,Q,Q',hq,⟨ce,a,b⟩=>⟨ce,a,b.mono hq⟩
def fL (P:Program) (b:CT) (Q:QA):Nat->Fr->Hp->Nat->List Dm->Prop
 |0,_,_,_,_=>False
 |k+1,F,H,n,m=>VC P b F H n m λ o F' H' n' m'=>match o with
  |.normal=>fL P b Q k F' H' n' m'
  |.exit i=>Q (.exit i) F' H' n' m'
  |.ret=>Q .ret F' H' n' m'
  |.panic _=>False
def agr (P:Program)(b:CT)(Q:QA)(k:Nat):QA:=λ o F' H' n' m'=>match o with
 |.normal=>fL P b Q k F' H' n' m'
 |.exit i=>Q (.exit i) F' H' n' m'
 |.ret=>Q .ret F' H' n' m'
 |.panic _=>False
variable {F:Fr}{H:Hp}{n:Nat}{m:List Dm}{Q:QA}
@[simp] theorem agR (b:CT)(k:Nat):agr P b Q k .normal F H n m=fL P b Q k F H n m:=propext Iff.rfl
@[simp] theorem ana (b:CT)(k i:Nat):agr P b Q k (.exit i) F H n m=Q (.exit i) F H n m:=propext Iff.rfl
@[simp] theorem aoO (b:CT)(k:Nat):agr P b Q k .ret F H n m=Q .ret F H n m:=propext Iff.rfl
theorem fL.step {b:CT}{k:Nat}(h:VC P b F H n m (agr P b Q k)):fL P b Q (k+1) F H n m:=h
theorem aE.XC {b:CT}(k:Nat)(h:fL P b Q (k+1) F H n m):aE b P F H n m Q:=
 ⟨λ k F H n m=>fL P b Q k F H n m,λ k F H n m=>fL P b Q k F H n m,k+1,h,λ _ _ _ _ _ h=>Zs.refl h,λ k F H n m hi=>by
  cases k with
  |zero=>exact hi.elim
  |succ k =>
   refine VC.mono b F H n m _ _ (λ o F' H' n' m' h'=>?_) hi
   cases o with
   |normal=>exact⟨k,Nat.lt_succ_self k,h'⟩
   |exit i=>exact h'
   |ret=>exact h'
   |panic v=>exact h'⟩
end
end Go.Abs
namespace Go.Abs
open List
def OwnB (k:bG)(l:List AV):Prop:=∃u z bs t,k=.cells u z bs t/\u=l.length/\(∀i,gZ u z bs t i=l[i]?)/\(t=.nil->z=[]->bs.length=u)
theorem OwnB.list {l:List AV}{u:Nat}(h:u=l.length):OwnB (.cells u [] l .nil) l:=⟨u,[],l,.nil,rfl,h,λ i=>by
 rw[jz]
 split
 ·rfl
 rw[getElem?_eq_none ae],λ _ _=>h.symm⟩
theorem qI {u:Nat}{z bs:List AV}{t:Ov AV}{l:List AV}(hg:∀i,gZ u z bs t i=l[i]?)(o:Nat):∀(k:Nat)(acc:List AV),o+k<=l.length->vR u z bs t o k acc=some ((l.drop o).take k++acc)
 |0,acc,_=>by simp;rfl
 |k+1,acc,h=>by
  show lR (gZ u z bs t (o+k)) none (λ v=>vR u z bs t o k (v::acc))=_;rw[hg,cX ae];simp only[Ub];rw[qI hg o k _ ae,take_add_one,append_assoc]
  congr 1
  simp[lj,cX (show o+k<l.length by omega)]
theorem OwnB.jN {k:bG}{l:List AV}(h:OwnB k l){o c:Nat}(hc:o+c<=l.length):∃u z bs t,k=.cells u z bs t/\Go.Abs.jN u z bs t o c=some ((l.drop o).take c):=by
 obtain⟨u,z,bs,t,rfl,hu,hg,hi⟩:=h;refine⟨u,z,bs,t,rfl,?_⟩
 have ex:∃r,Go.Abs.jN u z bs t o c=some r:=by
  have hb:Nat.ble (Nat.add o c) u=true:=wq (by rw[hu];exact hc)
  have orr:∀r,∃l',orR r u z bs t o c=some l':=by
   intro r;unfold orR
   split
   ·exact⟨_,rfl⟩
   exact⟨_,qI hg o c [] hc⟩
  unfold Go.Abs.jN
  split
  ·split
   ·split
    ·exact⟨_,rfl⟩
    rw[hb];exact orr _
   split
   ·rw[hb];exact⟨_,rfl⟩
   exact⟨_,qI hg o c [] hc⟩
  ·rw[hb];exact orr _
  rw[hb];dsimp only
  split
  ·split
   ·exact orr _
   exact orr _
  exact⟨_,qI hg o c [] hc⟩
 obtain⟨r,hr⟩:=ex;rw[hr];obtain⟨h1,h2⟩:=kW hi hr
 congr 1
 apply ext_getElem?;intro i
 by_cases hlt:i<c
 ·rw[<-h2 i hlt,hg,getElem?_take,aw hlt,lj]
 rw[getElem?_eq_none ae,getElem?_eq_none (by simp;omega)]
def aC (H:Hp)(n:Nat)(v:AV)(l:List AV)(len sz:Nat):Prop:=l.length=len*sz/\((v=.aV (.slice none 0 0)/\len=0)∨∃b k,v=.sl b 0 len sz/\b<n/\H.get b=some k/\OwnB k l)
section
variable {P:Program}{F:Fr}{H:Hp}{n:Nat}{m:List Dm}{Q:QA}
theorem aC.nil (H:Hp)(n sz:Nat):aC H n (.aV (.slice none 0 0)) [] 0 sz:=⟨ah,.inl ⟨rfl,rfl⟩⟩
theorem aC.nV {v:AV}{l l':List AV}{len sz:Nat}(h:aC H n v l len sz)(hl:bc H.get l l')(hz:0<sz:=by omega):e_ H.get v (.ds l' len sz):=by
 obtain⟨s',rfl⟩:∃k,sz=k+1:=⟨sz - 1,ae⟩;obtain⟨h0,⟨rfl,rfl⟩|⟨b,k,rfl,hb,hk,ho⟩⟩:=h
 ·have:l=[]:=by simpa using h0
  subst this;cases hl;exact .nil _
 obtain⟨u,z,bs,t,rfl,hg⟩:=ho.jN (o:=0) (c:=len*(s'+1)) ae;refine .sl _ _ _ _ _ _ _ _ _ _ hk hg ?_;rw[drop_zero,fN ae];exact hl
theorem bc.pure {h:Hf}{l:List AV}(hl:aP l):bc h l l:=by
 induction l with
 |nil=>exact .nil
 |cons v r ih=>simp only[rR]at hl;exact .cons _ _ _ _ (.pure _ hl.1) (ih hl.2)
theorem aC.jh {v x:AV}{l new:List AV}{len sz gq k:Nat}(h:aC H n v l len sz) (hx:aX H sz x=some new) (hk:sliceLen x=some k) (hn:new.length=k*sz)
  (hs:0<sz)(hk0:0<k)(hbig:len+k<=big)(hby:gq<=4096)(h1:br new=true):
  ∃H',(∀K:AV->Hp->Nat->Prop,CJ (Go.Abs.jh sz gq n v x H) H n K=K (.sl n 0 (len+k) sz) H' (n+1))/\aC H' (n+1) (.sl n 0 (len+k) sz) (l++new) (len+k) sz/\∀c,c≠n->v≠.sl c 0 len sz->H'.get c=H.get c:=by
 unfold Go.Abs.jh;rw[hx,hk];dsimp only;obtain⟨h0,⟨rfl,rfl⟩|⟨b,kb,rfl,hb,hkb,u,z,bs,t,rfl,hu,hg,hi⟩⟩:=h
 ·have hl:l=[]:=by simpa using h0
  subst hl
  have e:oR sz gq n k new H (.aV (.slice none 0 0))=.new (.sl n 0 k sz) (.cells (k*sz) [] new .nil):=by
   unfold oR;simp only[lU,wT,tN,show ¬k=0 by omega,hs,show k<=big by omega,hby,h1,decide_true,decide_false,Bool.and_self]
  rw[e];refine⟨_,λ K=>(by rw[q7];rfl),⟨by simp[hn],.inr ⟨n,.cells (k*sz) [] new .nil,ah,ae,ah,?_⟩⟩,λ c hc _=>?_⟩
  ·simpa using OwnB.list (l:=new) hn.symm
  simp[show ¬c=n by omega]
 have e:oR sz gq n k new H (.sl b 0 len sz)=.mv (.sl n 0 (len+k) sz) b (.cells ((len+k)*sz) z bs (Ov.bO new (len*sz) t)):=by
  unfold oR Ih;simp only[lU,wT,tN,show ¬k=0 by omega,hs,hbig,hby,h1,decide_true,decide_false,Bool.and_self,hkb,hu,h0,aK,db]
 rw[e];have hm:(len+k)*sz=len*sz+k*sz:=Nat.add_mul _ _ _;refine⟨_,λ K=>rfl,⟨by simp[hn,h0,hm],.inr ⟨n,.cells ((len+k)*sz) z bs (Ov.bO new (len*sz) t),rfl,ae,ah,_,z,bs,_,rfl,by simp[hn,h0,hm],λ i=>?_,λ ht=>?_⟩⟩,λ c hc hne=>?_⟩
 ·rw[cD,Ov.bF]
  by_cases hlt:i<(len+k)*sz
  ·rw[aw hlt]
   by_cases jm:len*sz<=i/\i<len*sz+new.length
   ·rw[aw jm,getElem?_append_right ae,h0];rw[cX ae]
   rw[ai jm,getElem?_append_left ae];have:=hg i;rw[cD,aw ae]at this;exact this
  rw[ai hlt,getElem?_eq_none (by simp[h0,hn];omega)]
 ·exfalso
  cases new with
  |nil=>simp at hn;have:0<k*sz:=Nat.mul_pos hk0 hs;omega
  |cons v r =>
   have:=Ov.bF (v::r) (len*sz) t (len*sz);rw[ht,aw ah]at this;simp at this
 have:c≠b:=λ e=>hne (by rw[e]);simp[show ¬c=n by omega,this]
theorem aC.app {v x:AV}{l new:List AV}{len sz gq k:Nat}{pd:Pd}{r:List (Option GO)}(h:aC H n v l len sz)(hx:aX H sz x=some new)(hk:sliceLen x=some k)(hn:new.length=k*sz)
  (hs:0<sz)(hk0:0<k)(hbig:len+k<=big)(hby:gq<=4096)(h1:br new=true)
  (hgo:∀H',aC H' (n+1) (.sl n 0 (len+k) sz) (l++new) (len+k) sz->(∀c,c<n->v≠.sl c 0 len sz->H'.get c=H.get c)->fE P r (pd.f (.sl n 0 (len+k) sz) F) H' (n+1) m Q):IK (Go.Abs.jh sz gq n v x H) pd r P F H n m Q:=by
 obtain⟨H',e,h1,h2⟩:=h.jh hx hk hn hs hk0 hbig hby h1;unfold IK;rw[e];exact hgo H' h1 λ c hc=>h2 c (Nat.ne_of_lt hc)
theorem aC.axx {ce:Ce}{Hs:List Hp}{v x:AV}{l new:List AV}{len sz gq k:Nat}{pd:Pd}{r:List (Option RO)}(h:aC H n v l len sz)(hx:aX H sz x=some new)(hk:sliceLen x=some k)(hn:new.length=k*sz)
  (hs:0<sz)(hk0:0<k)(hbig:len+k<=big)(hby:gq<=4096)(h1:br new=true)
  (hgo:∀H',aC H' (n+1) (.sl n 0 (len+k) sz) (l++new) (len+k) sz->(∀c,c<n->v≠.sl c 0 len sz->H'.get c=H.get c)->Ev ((fY r).f ce (pd.f (.sl n 0 (len+k) sz) F) H' (H'::Hs) (n+1) m) Q):Vf (Go.Abs.jh sz gq n v x H) pd r ce F H Hs n m Q:=by
 obtain⟨H',e,h1,h2⟩:=h.jh hx hk hn hs hk0 hbig hby h1;unfold Vf;rw[e];exact hgo H' h1 λ c hc=>h2 c (Nat.ne_of_lt hc)
def CH (P:Program)(g:FuncId)(args l:List AV)(len sz:Nat):Prop:=∀(H:Hp)(n:Nat),bu P g args H n (.sl n 0 len sz) (H.put n (some (.cells (len*sz) [] l .nil))) (n+1)
theorem CH.of {g:FuncId}{args l:List AV}{len sz:Nat}(hp:aP args) (hl:aP l) (h0:0<len) (h:ak P g args .nil 0 (λ v H' n'=>aC H' n' v l len sz)):CH P g args l len sz:=by
 intro H n;refine⟨h.1,Nat.le_succ n,λ φ D w xs hr hv hf R hR=>?_⟩;refine h.2 mJ D w xs (tC hr.eS) (hp.uy hv) (λ _ _=>rfl) R λ v H' n' φ' D' w' x ho e r hx=>?_;obtain⟨hlen,⟨_,hz⟩|⟨b,k,rfl,hb,hk,ho⟩⟩:=ho
 ·omega
 cases hx with
 |sl _ _ _ _ cb co cz cap ad hp' hle had =>
 have hn:φ n=none:=hf n (aK _) ae;have hm:=Ph.gV (p:=(cb,co,cz)) hn;have hlive:=r.block hk hp'
 have hcb:w.heap.size<=cb:=by
  rcases e.live b _ (by rw[hk];simp) hp' with h|⟨b0,p0,hh,_⟩
  ·exact h
  simp at hh
 have hdn:∀c,D' c≠none->D c≠none∨w.heap.size<=c:=by
  intro c hc
  rcases e.kR c hc with h|h|⟨b0,p0,hh,_⟩
  ·exact .inl h
  ·exact .inr h
  simp at hh
 have hold:∀c p,H.get c≠none->φ c=some p->p.1<w.heap.size:=by
  intro c p hc hp
  cases hx:H.get c with
  |none=>exact ar hx hc
  |some k=>exact(hr.block hx hp).1
 have hhn:H.get n=none:=by
  cases hx:H.get n with
  |none=>rfl
  |some k=>obtain⟨p,hp,_⟩:=hr.blk n k hx;rw[hn]at hp;cases hp
 refine hR (φ.set n (cb,co,cz)) D' w' _ ⟨Nat.le_succ n,hm,?_,e.eS,e.size,λ c hc _=>e.keep c hc λ b p hb=>by simp at hb,?_,λ c hc=>(hdn c hc).elim .inl λ h=>.inr (.inl h),?_,e.os,e.out⟩ ⟨?_,?_,?_,r.eS⟩ ?_
 ·intro c h0 h1;unfold Ph.set at h1
  by_cases hc:c=n
  ·omega
  simp[hc,h0]at h1
 ·intro c p hc hp;rw[Tr.get_put]at hc;unfold Ph.set at hp
  by_cases hcn:c=n
  ·subst hcn;simp at hp;subst hp;exact .inl hcb
  simp[hcn]at hc hp;exact .inr ⟨c,p,hc,hp,rfl⟩
 ·intro c hc;rw[Tr.get_put]at hc
  by_cases hcn:c=n
  ·exact .inr ae
  simp[hcn]at hc;exact .inl hc
 ·intro c kk hc;rw[Tr.get_put]at hc
  by_cases hcn:c=n
  ·subst hcn;simp at hc;subst hc;refine⟨(cb,co,cz),by simp[Ph.set],hlive.1,?_⟩;obtain⟨u,z,bs,t,rfl,hu,hg,hi⟩:=ho;obtain⟨cc,ee,fr,q1,q2,q3,q4,q5,q6⟩:=hlive.2;refine⟨cc,ee,fr,q1,q2,q3,λ i v hv=>?_,λ _ _=>hlen,ae⟩;rw[jz]at hv
   split at hv
   ·have:=hg i;rw[hv]at this;obtain⟨y,hy,hvy⟩:=q4 i v this;exact⟨y,hy,(hl.mem v (mem_of_getElem? hv)).out hvy⟩
   cases hv
  rw[ai hcn]at hc;obtain⟨p,hp,hlt,hbk⟩:=hr.blk c kk hc;exact⟨p,hm _ _ hp,Nat.lt_of_lt_of_le hlt e.size,hbk.mono hm e.eS (e.keep _ hlt λ b p hb=>by simp at hb)⟩
 ·intro c d p q hc hd hp hq hpq;rw[Tr.get_put]at hc hd;unfold Ph.set at hp hq
  by_cases h1:c=n<;>by_cases h2:d=n<;>simp[h1,h2]at hc hd hp hq ⊢
  ·have:=hold d q hd hq;rw[<-hp]at hpq;simp at hpq;omega
  ·have:=hold c p hc hp;rw[<-hq]at hpq;simp at hpq;omega
  exact hr.inj c d p q hc hd hp hq hpq
 ·intro c p hc hp;rw[Tr.get_put]at hc;unfold Ph.set at hp
  by_cases h1:c=n
  ·subst h1;simp at hp;subst hp;exact r.sep b (cb,co,cz) (by rw[hk];simp) hp'
  simp[h1]at hc hp
  cases hD:D' p.1 with
  |none=>rfl
  |some x =>
   rcases hdn p.1 (by rw[hD];simp)with h|h
   ·exact ar (hr.sep c p hc hp) h
   have:=hold c p hc hp;omega
 exact .sl _ _ _ _ cb co cz cap ad (by simp[Ph.set]) hle had
open Classical in
def ceT (l:List (FuncId×List AV×(Hp->Nat->iC))):Ce:=Aj λ g args H n=>match l.find? (λ x=>decide (x.1=g/\x.2.1=args))with
 |some x=>x.2.2 H n
 |none=>.fail
theorem eh {l:List (FuncId×List AV×(Hp->Nat->iC))}(h:∀x∈l,∀H n v H' n',x.2.2 H n=.mk v H' n'->bu P x.1 x.2.1 H n v H' n'):iI P (ceT l):=by
 refine D6 λ g args H n v H' n' e=>?_
 split at e
 ·rename_i x hx;have h1:=find?_some hx;simp at h1;obtain⟨rfl,rfl⟩:=h1;exact h x (mem_of_find?_eq_some hx) H n v H' n' e
 cases e
theorem bX (g:FuncId)(args:List AV)(f:Hp->Nat->iC)(l:List (FuncId×List AV×(Hp->Nat->iC)))(H:Hp)(n:Nat):(ceT ((g,args,f)::l)).call g args H n=yC (f H n):=by
 simp[ceT,Aj]
theorem u9 {g g':FuncId}{args args':List AV}{f:Hp->Nat->iC}{l:List (FuncId×List AV×(Hp->Nat->iC))}(h:g=g'->args=args'->∀H n,(ceT l).call g args H n=yC (f H n))(H:Hp)(n:Nat):(ceT ((g',args',f)::l)).call g args H n=(ceT l).call g args H n:=by
 by_cases e:g'=g/\args'=args
 ·obtain⟨rfl,rfl⟩:=e;rw[h rfl rfl,bX]
 simp only[ceT,Aj,find?_cons,e,decide_false]
theorem cR {g:FuncId}{args:List AV}{u:AV}(h:aj P g args u):∀H n v H' n',iC.mk u H n=.mk v H' n'->bu P g args H n v H' n':=by
 intro H n v H' n' e;cases e;exact h.Ky H n
theorem PR {g:FuncId}{args l:List AV}{len sz:Nat}(h:CH P g args l len sz):∀H n v H' n',iC.mk (.sl n 0 len sz) (H.put n (some (.cells (len*sz) [] l .nil))) (n+1)=.mk v H' n'->bu P g args H n v H' n':=by
 intro H n v H' n' e;cases e;exact h H n
end
theorem e_.bool {h:Hf}{a b:Bool}(e:a=b):e_ h (.bool a) (.bool b):=by subst e;exact .pure _ ah
theorem e_.eq {h:Hf}{v v':AV}(hp:Pure v')(e:v=v'):e_ h v v':=by subst e;exact .pure _ hp
@[simp] theorem adU (H:Hp)(cs:List AV)(len sz:Nat):aX H sz (.ds cs len sz)=some cs:=by simp[aX]
@[simp] theorem agM (cs:List AV)(len sz:Nat):sliceLen (.ds cs len sz)=some len:=Eq.trans rfl rfl
@[simp] theorem agL (b o len sz:Nat):sliceLen (.sl b o len sz)=some len:=Eq.trans rfl rfl
theorem bT {H:Hp}{b o len sz:Nat}{k:bG}{l:List AV}(hb:H.get b=some k)(ho:OwnB k l)(hl:o+len*sz<=l.length):aX H sz (.sl b o len sz)=some ((l.drop o).take (len*sz)):=by
 obtain⟨u,z,bs,t,rfl,hg⟩:=ho.jN hl;simp only[aX,lU,decide_true,cond_true,hb,hg]
end Go.Abs
namespace Go.Abs
open List
open Go.RowKit Go.ChangeShapes
def gj (w:World):Da:=λ c=>match w.heap[c]? with
 |some (.cells x _ _)=>some x
 |_=>none
theorem YR (w:World)(hg:GB (gj w)):Dat (gj w) w:=by
 refine⟨λ c x h=>?_,hg⟩;unfold gj at h
 split at h
 ·rename_i y e fr hy;injection h with h;subst h;exact⟨e,fr,hy⟩
 cases h
inductive ux {α β:Type} (R:α->β->Prop):List α->List β->Prop
 |nil:ux R [] []
 |cons {a b l m}:R a b->ux R l m->ux R (a::l) (b::m)
theorem ux.append {α β:Type}{R:α->β->Prop} {a b c d}(h:ux R a b)(k:ux R c d):ux R (a++c) (b++d):=by
 induction h with
 |nil=>exact k
 |cons h1 _ ih=>exact .cons h1 ih
section
variable {H:Type}{enc:TypeId×Value->H}{P:Program}{w:World}{base:Nat}{spare:Nat->Bool}{held:Bool}
theorem Hj {α:Type}{f:Nat->Option α}:∀ {k:Nat}{l:List α},(range k).mapM f=some l->l.length=k/\∀i,i<k->f i=l[i]?:=by
 intro k l h;exact⟨by simpa using mapM_some_length h,λ i hi=>mapM_some_get h i i (by simp[hi])⟩
theorem Ic {cb co i s:Nat}{x:Array Value}{e:TypeId}{fr:Nat×Nat}{cs:List Value}(hx:w.heap[cb]?=some (.cells x e fr)) (h:w.cells? base ((⟨cb,co,none⟩:Addr).add i) s=some cs):cs=(x.toList.drop (co+i)).take s/\cs.length=s:=by
 unfold World.cells? at h
 split at h
 ·obtain⟨hl,hg⟩:=Hj h;refine⟨?_,hl⟩;apply ext_getElem?;intro j
  by_cases hj:j<s
  ·rw[<-hg j hj,getElem?_take,aw hj,lj]
   have ha:((⟨cb,co,none⟩:Addr).add i).add j=⟨cb,co+i+j,none⟩:=by
    unfold Addr.add
    by_cases h1:i=0<;>by_cases h2:j=0<;>simp[h1,h2]
   rw[ha];simp[World.cell?,hx]
  rw[getElem?_eq_none ae,getElem?_eq_none (by simp;omega)]
 cases h
theorem HK {α:Type}{av:α->List AV}{s:Nat}(hav:∀a,(av a).length=s)(l:List α):(l.flatMap av).length=l.length*s:=by
 induction l with
 |nil=>simp
 |cons a r ih=>rw[flatMap_cons,length_append,ih,hav,length_cons,Nat.add_mul];omega
theorem yf {α:Type}{av:α->List AV}{R:α->DataW H->Prop}{t e:TypeId}{s fuel:Nat}{cs:List Value}{x:DataW H×List MemPlace}(ht:P.underlying t=some (.slice e)) (hs:P.cellsOf e=s) (h0:0<s) (hav:∀a,(av a).length=s)
  (hel:∀n cs y,n<fuel->DataW.trod enc P w base spare held n e cs=some y->∃a,bW mJ (gj w) (av a) cs/\R a y.1)
  (h:DataW.trod enc P w base spare held fuel t cs=some x):∃v l,cs=[v]/\VR mJ (gj w) (.ds (l.flatMap av) l.length s) v/\((l=[]/\x.1=.nil)∨∃ds rest,x.1=.slice ds rest/\ux R l ds):=by
 rcases DataW.trod_slice ht h with⟨rfl,rfl⟩|⟨a,len,cap,elems,rest,n,rfl,rfl,rfl,_,hle,_,hlen,hg,_,_⟩
 ·obtain⟨s,rfl⟩:∃k,s=k+1:=⟨s - 1,ae⟩;exact⟨_,[],rfl,.tW s,.inl ⟨rfl,rfl⟩⟩
 refine⟨.slice (some a) len cap,?_⟩
 by_cases hl0:len=0
 ·subst hl0;have:elems=[]:=length_eq_zero_iff.1 hlen;subst this;exact⟨[],rfl,.pW _ _ _,.inr ⟨_,_,rfl,.nil⟩⟩
 rw[hs]at hg;have h00:=hg 0 ae;have hlt0:0<elems.length:=ae;rw[cX hlt0,iG]at h00;obtain⟨cs0,hc0,_⟩:=h00;obtain⟨cb,co,sp⟩:=a
 have hsp:sp=none/\∃x e fr,w.heap[cb]?=some (.cells x e fr):=by
  unfold World.cells? at hc0
  split at hc0
  ·obtain⟨hl,hg'⟩:=Hj hc0;have:=hg' 0 h0;rw[cX ae]at this;simp only[Nat.zero_mul,Addr.add,if_true,World.cell?]at this
   split at this
   ·rename_i x e fr hx
    cases sp with
    |none=>exact⟨rfl,x,e,fr,hx⟩
    |some _=>simp at this
   cases this
  cases hc0
 obtain⟨rfl,xs,ee,fr,hx⟩:=hsp;have hD:gj w cb=some xs:=by simp[gj,hx]
 have key:∀k,k<=len->∃l:List α,l.length=k/\bW mJ (gj w) (l.flatMap av) ((xs.toList.drop co).take (k*s))/\ux R l ((elems.map (·.1)).take k):=by
  intro k
  induction k with
  |zero=>intro _;exact⟨[],rfl,by simpa using bW.nil,by simpa using ux.nil⟩
  |succ k ih =>
   intro hk;obtain⟨l,h1,h2,h3⟩:=ih ae;have hk':k<elems.length:=ae;have:=hg k ae;rw[cX hk',iG]at this;obtain⟨ck,hck,htk⟩:=this;obtain⟨b,hb1,hb2⟩:=hel n ck _ (Nat.lt_succ_self n) htk;obtain⟨hcc,hcl⟩:=Ic hx hck;refine⟨l++[b],by simp[h1],?_,?_⟩
   ·rw[flatMap_append,show (k+1)*s=k*s+s by rw[Nat.add_mul];simp,take_add,drop_drop];refine h2.append ?_;rw[<-hcc];simpa using hb1
   rw[take_succ_eq_append_getElem (by simpa using hk')];exact ux.append h3 (.cons (by simpa using hb2) .nil)
 obtain⟨l,h1,h2,h3⟩:=key len (aK _);refine⟨l,rfl,?_,.inr ⟨_,_,rfl,?_⟩⟩
 ·rw[h1];refine .ds _ _ _ _ _ _ _ _ hD rfl ?_ h2 hle;rw[HK hav,h1]
 rw[fN (by simp;omega)]at h3;exact h3
end
theorem GP {φ:Ph}{D:Da}{cs:List AV}{n:Nat}{v:Value}(hl:cs.length=n)(h2:n≠1)(h:bW φ D cs v.cells.toList):VR φ D (.agg cs n) v:=by
 cases v with
 |agg xs=>obtain⟨l⟩:=xs;exact .agg _ _ _ h hl
 |_=>have:=h.length;simp[Value.cells]at this;omega
theorem aft {w w':World}{may:MemPlace->Prop}(hos:w'.os=w.os)(hout:w'.output=w.output)(hk:∀c,c<w.heap.size->w'.heap[c]?=w.heap[c]?):w.keptBut w' may:=by
 refine⟨hos,hout,λ i hi=>?_⟩;rw[hk i hi]
 cases w.heap[i]? with
 |none=>trivial
 |some o=>cases o<;>simp
theorem aeu {w w':World}(hk:∀c,c<w.heap.size->w'.heap[c]?=w.heap[c]?){p:MemPlace}(hp:p.block<w.heap.size):w.sameAt w' p:=by
 cases p with
 |cell b o=>exact World.cell?_of_block (w:=w) (hk b hp)
 |map b=>exact hk b hp
theorem trod_stays {H:Type}{enc:TypeId×Value->H}{P:Program}{t:TypeId}(hl:laidOutB P=true)(hr:P.readableRec t=true)(hrow:t<P.types.size){w w':World}{v:Value}{d:DataW H}{ps:List MemPlace}
  (h:DataW.Trod enc P w 0 (λ _=>true) true t v d ps)(hk:∀c,c<w.heap.size->w'.heap[c]?=w.heap[c]?)(hlt:∀x∈ps,x.block<w.heap.size):
  DataW.Trod enc P w' 0 (λ b=>decide (b<w.heap.size)) true t v d ps:=
 WideElems.Trod_stays hl hr hrow h (λ x hx=>aeu hk (hlt x hx)) (λ x hx=>by simpa using hlt x hx)
theorem ry {H:Type}{enc:TypeId×Value->H}{P:Program}(hl:laidOutB P=true){w w':World}(hk:∀c,c<w.heap.size->w'.heap[c]?=w.heap[c]?):∀ {ts:List TypeId}{vs:List Value}{ds:List (DataW H)}{ps:List MemPlace},
  (∀t∈ts,P.readableRec t=true/\t<P.types.size)->DataW.TrodAll enc P w 0 (λ _=>true) true ts vs ds ps->(∀x∈ps,x.block<w.heap.size)->DataW.TrodAll enc P w' 0 (λ b=>decide (b<w.heap.size)) true ts vs ds ps
 |[],[],[],_,_,h,_=>h
 |t::ts,v::vs,d::ds,_,ht,⟨p,q,h1,h2,e⟩,hlt=>by
  subst e;exact⟨p,q,trod_stays hl (ht t ah).1 (ht t ah).2 h1 hk λ x hx=>hlt x (by simp[hx]),ry hl hk (λ u hu=>ht u (by simp[hu])) h2 λ x hx=>hlt x (by simp[hx]),rfl⟩
 |[],_::_,_,_,_,h,_=>h.elim
 |[],[],_::_,_,_,h,_=>h.elim
 |_::_,[],_,_,_,h,_=>h.elim
 |_::_,_::_,[],_,_,h,_=>h.elim
theorem XZ {H:Type}{enc:TypeId×Value->H}{P:Program}{f:Func}{s:ChangeSpec}{w w':World}{args:Array Value}{ds gs:List (DataW H)}{before:List MemPlace}{tb:TypeId}(hl:laidOutB P=true)
  (ht:∀t∈f.params.toList,P.readableRec t=true/\t<P.types.size)(hvars:s.vars=[])(hres:f.resultTypes=#[tb])(hb:P.underlying tb=some .bool)
  (hfn:s.fn H (ds++gs)={results:=[.lit (.bool true)],args:=ds,vars:=[]})
  (hW:DataW.Whole enc P f.params.toList s.vars false w args.toList ds gs before)(hos:w'.os=w.os)(hout:w'.output=w.output)(hk:∀c,c<w.heap.size->w'.heap[c]?=w.heap[c]?):
  s.post enc P f false true false false w args (.bool true) w':=by
 have hW':=hW;obtain⟨p,q,hA,hV,rfl,hfz,hnd⟩:=hW;rw[hvars]at hV
 obtain⟨rfl,rfl⟩:gs=[]/\q=[]:=by
  cases gs with
  |nil=>exact⟨rfl,hV⟩
  |cons=>exact hV.elim
 refine⟨ds,[],p++[],[],p,[],hW',?_,?_,?_,aft hos hout hk,λ h=>by cases h⟩
 ·rw[hfn,hres];simp only[Value.resultList];exact⟨[],[],⟨1,by unfold DataW.trod;simp[hb,Value.cells]⟩,rfl,rfl⟩
 ·rw[hfn];exact ry hl hk ht hA λ x hx=>by simpa using hW'.lt x (by simp[hx])
 rw[hfn,hvars];exact rfl
end Go.Abs
