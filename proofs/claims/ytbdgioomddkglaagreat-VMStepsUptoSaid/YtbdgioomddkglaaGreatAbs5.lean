/- A part. -/
import Derived.Test.YtbdgioomddkglaaGreatAbs4
import Derived.ChangeArms
import Derived.Carry
import Derived.OpenShut
import Derived.ProofKit
import Derived.JoinedCond
import Derived.WalkKit
noncomputable section
namespace Go.Abs
open List
mutual
def Pure:AV->Prop
 | .int _ _=>True
 | .bool _=>True
 | .str _=>True
 | .cst _=>True
 | .agg cs _=>PureL cs
 | .tup cs=>PureL cs
 | .ds cs _ _=>PureL cs
 | .dp cs=>PureL cs
 | .fn _ a b=>PureL a/\PureL b
 | .ifc _ v=>Pure v
 | .ptr _ _=>False
 | .sl _ _ _ _=>False
 | .map _=>False
 | .yld _=>False
def PureL:List AV->Prop
 | []=>True
 | v::r=>Pure v/\PureL r
end
mutual
theorem Pure.out {φ φ':Ph}{D:Da}:∀ {v:AV}{x:Value},Pure v->VR φ D v x->VR φ' D v x
 | .int _ _,_,_,.int _ _=>.int _ _
 | .bool _,_,_,.bool _=>.bool _
 | .str _,_,_,.str _ _ e=>.str _ _ e
 | .cst _,_,_,.cst _ e=>.cst _ e
 | .agg _ _,_,h,.agg _ _ _ a b=>.agg _ _ _ (PureL.vrs (by simpa only [Pure]using h) a) b
 | .tup _,_,h,.tup _ _ a=>.tup _ _ (PureL.vrs (by simpa only [Pure]using h) a)
 | .ds _ _ _,_,h,.ds _ _ _ _ _ _ _ _ a b c d e=>.ds _ _ _ _ _ _ _ _ a b c (PureL.vrs (by simpa only [Pure]using h) d) e
 | .ds _ _ _,_,_,.ds0 _ _ _=>.ds0 _ _ _
 | .ds _ _ _,_,_,.dsn _=>.dsn _
 | .dp _,_,h,.dp _ _ _ _ _ a b c=>.dp _ _ _ _ _ a b (PureL.vrs (by simpa only [Pure]using h) c)
 | .fn _ _ _,_,h,.fn _ _ _ _ _ a b=>.fn _ _ _ _ _ (PureL.vrs (by simp only[Pure]at h;exact h.1) a) (PureL.vrs (by simp only[Pure]at h;exact h.2) b)
 | .ifc _ _,_,h,.ifc _ _ _ a=>.ifc _ _ _ (Pure.out (by simpa only [Pure]using h) a)
theorem PureL.vrs {φ φ':Ph}{D:Da}:∀ {vs:List AV}{xs:List Value},PureL vs->VRs φ D vs xs->VRs φ' D vs xs
 | [],_,_,.nil=>.nil
 | _::_,_,h,.cons _ _ _ _ h1 h2=>.cons _ _ _ _ (Pure.out (by simp only[PureL]at h;exact h.1) h1) (PureL.vrs (by simp only[PureL]at h;exact h.2) h2)
end
@[simp] theorem pure_int (k:IntKind)(i:Int):Pure (.int k i):=by simp only[Pure]
@[simp] theorem pure_bool (b:Bool):Pure (.bool b):=by simp only[Pure]
@[simp] theorem pure_str (l:List Nat):Pure (.str l):=by simp only[Pure]
@[simp] theorem pure_cst (v:Value):Pure (.cst v):=by simp only[Pure]
@[simp] theorem pure_ds (cs:List AV)(len sz:Nat):Pure (.ds cs len sz)=PureL cs:=by simp only[Pure]
@[simp] theorem pure_dp (cs:List AV):Pure (.dp cs)=PureL cs:=by simp only[Pure]
@[simp] theorem pure_agg (cs:List AV)(n:Nat):Pure (.agg cs n)=PureL cs:=by simp only[Pure]
@[simp] theorem pure_tup (cs:List AV):Pure (.tup cs)=PureL cs:=by simp only[Pure]
@[simp] theorem pure_fn (f:Fn)(a b:List AV):Pure (.fn f a b)=(PureL a/\PureL b):=by simp only[Pure]
@[simp] theorem pureL_nil:PureL []:=by simp only[PureL]
@[simp] theorem pureL_cons (v:AV)(r:List AV):PureL (v::r)=(Pure v/\PureL r):=by simp only[PureL]
@[simp] theorem pureL_append (a b:List AV):PureL (a++b)=(PureL a/\PureL b):=by
 induction a with
 | nil=>simp
 | cons v r ih=>simp[ih,and_assoc]
theorem PureL.mem {a:List AV}(h:PureL a):∀v∈a,Pure v:=by
 induction a with
 | nil=>intro v hv;simp at hv
 | cons u r ih =>
  simp only[pureL_cons]at h;intro v hv
  cases hv with
  | head=>exact h.1
  | tail _ hm=>exact ih h.2 v hm
theorem PureL.of_mem {a:List AV}(h:∀v∈a,Pure v):PureL a:=by
 induction a with
 | nil=>simp
 | cons v r ih=>simp only[pureL_cons];exact⟨h v (by simp),ih λ u hu=>h u (by simp[hu])⟩
section
variable {P:Program}
def CallOk (P:Program) (g:FuncId) (args:List AV) (H:Hp) (n:Nat) (v:AV) (H':Hp) (n':Nat):Prop:=
 (∃ fn b, P.funcs[g]? = some fn ∧ fn.body = some b ∧ (fn.name == "runtime.NumGoroutine") = false) ∧ n ≤ n' ∧
  ∀ φ D w xs,Rel φ D H.get w->VRs φ D args xs->Fresh φ n n'->∀R:Ending->World->Prop,
   (∀ φ' D' w' x,Ext φ D H.get w n φ' D' H'.get w' n'->Rel φ' D' H'.get w'->VR φ' D' v x->R (.returned x) w')->CallsIn Fence.wide 0 P g ⟨xs⟩ w R
theorem fnCall_ok {ce:Ce}(hce:CeOk P ce){g:FuncId}{args:List AV}{H:Hp}{n:Nat}{v:AV}{H':Hp}{n':Nat}(h:fnCall P ce g args H n=.mk v H' n'):CallOk P g args H n v H' n':=
 fnCall_end hce h (.ret ..)
def PhN:Ph:=λ _=>none
structure Kept (D D':Da)(w w':World):Prop where
 dat:∀c x,D c=some x->D' c=some x
 size:w.heap.size<=w'.heap.size
 keep:∀c,c<w.heap.size->w'.heap[c]?=w.heap[c]?
 dnew:∀c,D' c≠none->D c≠none∨w.heap.size<=c
 os:w'.os=w.os
 out:w'.output=w.output
structure FnPure (P:Program)(g:FuncId)(args:List AV)(v:AV):Prop where
 body : ∃ fn b, P.funcs[g]? = some fn ∧ fn.body = some b ∧ (fn.name == "runtime.NumGoroutine") = false
 pargs:PureL args
 pval:Pure v
 run:∀D w xs,Dat D w->VRs PhN D args xs->∀R:Ending->World->Prop,(∀D' w' x,Kept D D' w w'->Dat D' w'->VR PhN D' v x->R (.returned x) w')->CallsIn Fence.wide 0 P g ⟨xs⟩ w R
theorem FnPure.callOk {g:FuncId}{args:List AV}{v:AV}(h:FnPure P g args v) (H:Hp) (n:Nat):CallOk P g args H n v H n:=by
 refine⟨h.body,Nat.le_refl _,λ φ D w xs hr hv _ R hR=>?_⟩;refine h.run D w xs hr.dat (h.pargs.vrs hv) R λ D' w' x hk hd hx=>?_;refine hR φ D' w' x ⟨Nat.le_refl _,λ _ _ h=>h,λ _ a b=>absurd a b,hk.dat,hk.size,λ c hc _=>hk.keep c hc,λ b p hb hp=>.inr ⟨b,p,hb,hp,rfl⟩,λ c hc=>(hk.dnew c hc).elim .inl λ h=>.inr (.inl h),λ _ h=>.inl h,hk.os,hk.out⟩ ?_ (h.pval.out hx);refine⟨λ b k hb=>?_,hr.inj,λ b p hb hp=>?_,hd⟩
 ·obtain⟨p,hp,hl,hk'⟩:=hr.blk b k hb;exact⟨p,hp,Nat.lt_of_lt_of_le hl hk.size,hk'.mono (λ _ _ h=>h) hk.dat (hk.keep _ hl)⟩
 cases hD:D' p.1 with
 | none=>rfl
 | some x =>
  rcases hk.dnew p.1 (by rw[hD];simp)with h1 | h1
  ·exact absurd (hr.sep b p hb hp) h1
  cases hx:H.get b with
  | none=>exact absurd hx hb
  | some k=>have:=(hr.block hx hp).1;omega
mutual
inductive Frz (h:Hf):AV->AV->Prop
 | pure (v):Pure v->Frz h v v
 | nil (sz):Frz h (.cst (.slice none 0 0)) (.ds [] 0 (sz+1))
 | sl (b o len sz u z bs t cs cs'):h b=some (.cells u z bs t)->grab u z bs t o (len*sz)=some cs->FrzL h cs cs'->Frz h (.sl b o len sz) (.ds cs' len sz)
 | ptr (b o sz u z bs t cs cs'):h b=some (.cells u z bs t)->grab u z bs t o sz=some cs->FrzL h cs cs'->Frz h (.ptr b o) (.dp cs')
 | agg (cs cs' n):FrzL h cs cs'->Frz h (.agg cs n) (.agg cs' n)
 | tup (cs cs'):FrzL h cs cs'->Frz h (.tup cs) (.tup cs')
inductive FrzL (h:Hf):List AV->List AV->Prop
 | nil:FrzL h [] []
 | cons (v v' vs vs'):Frz h v v'->FrzL h vs vs'->FrzL h (v::vs) (v'::vs')
end
theorem FrzL.length {h:Hf}:∀ {vs vs'},FrzL h vs vs'->vs'.length=vs.length
 | _,_,.nil=>rfl
 | _,_,.cons _ _ _ _ _ k=>by simp[FrzL.length k]
mutual
theorem Frz.isPure {h:Hf}:∀ {v v'},Frz h v v'->Pure v'
 | _,_,.pure _ k=>k
 | _,_,.nil _=>by simp
 | _,_,.sl _ _ _ _ _ _ _ _ _ _ _ _ k=>by simpa using FrzL.isPure k
 | _,_,.ptr _ _ _ _ _ _ _ _ _ _ _ k=>by simpa using FrzL.isPure k
 | _,_,.agg _ _ _ k=>by simpa using FrzL.isPure k
 | _,_,.tup _ _ k=>by simpa using FrzL.isPure k
theorem FrzL.isPure {h:Hf}:∀ {v v'},FrzL h v v'->PureL v'
 | _,_,.nil=>pureL_nil
 | _,_,.cons _ _ _ _ a b=>by simpa using⟨Frz.isPure a,FrzL.isPure b⟩
end
open Classical in
def shut (φ:Ph) (D:Da) (h:Hf) (w:World):Da:=λ c=>match D c with
 | some x=>some x
 | none=>if ∃b p,h b≠none/\φ b=some p/\p.1=c then (match w.heap[c]? with
  | some (.cells x _ _)=>some x
  | _=>none)else none
theorem shut_le {φ:Ph}{D:Da}{h:Hf}{w:World}:∀c x,D c=some x->shut φ D h w c=some x:=by
 intro c x hx;unfold shut;rw[hx]
theorem shut_dat {φ:Ph}{D:Da}{h:Hf}{w:World}(hd:Dat D w):Dat (shut φ D h w) w:=by
 refine⟨λ c x hx=>?_,hd.2.mono shut_le⟩;unfold shut at hx
 split at hx
 ·rename_i y hy;injection hx with hx;subst hx;exact hd.1 c _ hy
 split at hx
 ·split at hx
  ·rename_i y e fr hy;injection hx with hx;subst hx;exact⟨e,fr,hy⟩
  cases hx
 cases hx
theorem shut_live {φ:Ph}{D:Da}{h:Hf}{w:World}(hr:Rel φ D h w){b:Nat} {p}{x:Array Value} {e fr}(hb:h b≠none)(hp:φ b=some p)(hx:w.heap[p.1]?=some (.cells x e fr)):shut φ D h w p.1=some x:=by
 unfold shut;rw[hr.sep b p hb hp];dsimp only;rw[if_pos ⟨b,p,hb,hp,rfl⟩,hx]
mutual
theorem Frz.vr {φ:Ph}{D:Da}{h:Hf}{w:World}(hr:Rel φ D h w):∀ {v v' x},Frz h v v'->VR φ D v x->VR PhN (shut φ D h w) v' x
 | _,_,_,.pure v k,hx=>k.out (hx.mono (λ _ _ h=>h) shut_le)
 | _,_,_,.nil sz,hx=>by cases hx;exact .dsn _
 | _,_,_,.sl b o len sz u z bs t cs cs' hb hg k,hx=>by
  cases hx with
  | sl _ _ _ _ cb co cz cap ad hp hle had =>
  obtain⟨hlt,c,e,fr,q1,q2,q3,q4,q5,q6⟩:=hr.block hb hp;obtain⟨g1,g2⟩:=grab_spec q5 hg
  by_cases hc:0<cap
  ·obtain⟨rfl,hfit⟩:=had hc;refine .ds _ _ _ _ _ _ _ _ (shut_live hr (by rw[hb];simp) hp q1) rfl (by rw[FrzL.length k,g1]) ?_ hle;refine FrzL.vrs hr k (VRs.of_get ?_ λ i v hv=>?_)
   ·dsimp only at q1 q2 q3 q4 q5 q6;have hm:len*sz<=cap*sz:=Nat.mul_le_mul_right _ hle;rw[length_take,length_drop,g1,Array.length_toList];omega
   have hi:i<len*sz:=by rw[<-g1];exact(List.getElem?_eq_some_iff.1 hv).1
   have:=g2 i hi;rw[hv]at this;obtain⟨x,hx,hvx⟩:=q4 _ _ this;dsimp only at hx;refine⟨x,?_,hvx⟩;rw[getElem?_take,if_pos hi,getElem?_drop];rw[show co+o+i=co+(o+i)from by omega];simpa using hx
  have hc0:cap=0:=by omega
  have hl0:len=0:=by omega
  subst hc0 hl0
  have:cs'=[]:=by
   have:=FrzL.length k;simp at g1;subst g1;simpa using this
  subst this;exact .ds0 _ _ _
 | _,_,_,.ptr b o sz u z bs t cs cs' hb hg k,hx=>by
  cases hx with
  | ptr _ _ cb co cz hp =>
  obtain⟨hlt,c,e,fr,q1,q2,q3,q4,q5,q6⟩:=hr.block hb hp;obtain⟨g1,g2⟩:=grab_spec q5 hg;dsimp only at q1 q2 q3 q4 q5 q6
  have hat:∀i v,cs[i]?=some v->∃x,c.toList[co+o+i]?=some x/\VR φ D v x:=λ i v hv=>by
   have hi:i<sz:=by rw[<-g1];exact(List.getElem?_eq_some_iff.1 hv).1
   have:=g2 i hi;rw[hv]at this;obtain⟨x,hx,hvx⟩:=q4 _ _ this;refine⟨x,?_,hvx⟩;rw[show co+o+i=co+(o+i)from by omega];simpa using hx
  refine .dp _ _ _ _ _ (shut_live hr (by rw[hb];simp) hp q1) rfl (FrzL.vrs hr k (VRs.of_get ?_ λ i v hv=>?_))
  ·rw[FrzL.length k,length_take,length_drop]
   rcases Nat.eq_zero_or_pos cs.length with h0 | h0
   ·omega
   obtain⟨x,hx,_⟩:=hat (cs.length - 1) _ (getElem?_eq_getElem (by omega));have:=(List.getElem?_eq_some_iff.1 hx).1;rw[Array.length_toList]at this ⊢;omega
  obtain⟨x,hx,hvx⟩:=hat i v hv;refine⟨x,?_,hvx⟩;have hi:i<cs.length:=(List.getElem?_eq_some_iff.1 hv).1;rw[FrzL.length k,getElem?_take,if_pos hi,getElem?_drop];exact hx
 | _,_,_,.agg cs cs' n k,hx=>by
  cases hx with
  | agg _ l _ a b=>exact .agg _ _ _ (FrzL.vrs hr k a) (by rw[FrzL.length k,b])
 | _,_,_,.tup cs cs' k,hx=>by
  cases hx with
  | tup _ l a=>exact .tup _ _ (FrzL.vrs hr k a)
theorem FrzL.vrs {φ:Ph}{D:Da}{h:Hf}{w:World}(hr:Rel φ D h w):∀ {vs vs' xs},FrzL h vs vs'->VRs φ D vs xs->VRs PhN (shut φ D h w) vs' xs
 | _,_,_,.nil,.nil=>.nil
 | _,_,_,.cons _ _ _ _ a b,.cons _ _ _ _ c d=>.cons _ _ _ _ (Frz.vr hr a c) (FrzL.vrs hr b d)
end
theorem rel_none {D:Da}{w:World}(hd:Dat D w):Rel PhN D (Tr.nil:Hp).get w:=
 ⟨λ b k hb=>by simp at hb,λ b c p q hb=>by simp at hb,λ b p hb=>by simp at hb,hd⟩
theorem FnPure.of {ce:Ce}(hce:CeOk P ce){g:FuncId}{args:List AV}{v:AV}(hp:PureL args)(h:∃v1 H' n',fnCall P ce g args .nil 0=.mk v1 H' n'/\Frz H'.get v1 v):FnPure P g args v:=by
 obtain⟨v1,H',n',h1,h2⟩:=h;obtain⟨hb,hn,hs⟩:=fnCall_ok hce h1;refine⟨hb,hp,h2.isPure,λ D w xs hd hv R hR=>?_⟩;refine hs PhN D w xs (rel_none hd) hv (λ _ _ _=>rfl) R λ φ' D' w' x hext hrel hx=>?_;refine hR (shut φ' D' H'.get w') w' x ⟨λ c x hx=>shut_le c x (hext.dat c x hx),hext.size,λ c hc=>hext.keep c hc λ b p hb=>by simp at hb,λ c hc=>?_,hext.os,hext.out⟩ (shut_dat hrel.dat) (h2.vr hrel hx);unfold shut at hc
 split at hc
 ·rename_i y hy
  rcases hext.dnew c (by rw[hy];simp)with h | h | ⟨b0,p0,hh,_⟩
  ·exact .inl h
  ·exact .inr h
  simp at hh
 split at hc
 ·rename_i hex;obtain⟨b,p,hb,hp,rfl⟩:=hex
  rcases hext.live b p hb hp with h | ⟨b0,p0,hh,_⟩
  ·exact .inr h
  simp at hh
 exact absurd rfl hc
def noPan:CRes->CRes
 | .mk v H n=>.mk v H n
 | _=>.fail
def ceOf (f:FuncId->List AV->Hp->Nat->CRes):Ce:={call:=λ g args H n=>noPan (f g args H n),code:=λ _ _ _ _ _=>.fail,dcall:=λ _ _ _ _ _=>.fail}
theorem ceOf_ok {f:FuncId->List AV->Hp->Nat->CRes}(h:∀g args H n v H' n',f g args H n=.mk v H' n'->CallOk P g args H n v H' n'):CeOk P (ceOf f):=by
 refine⟨λ g args H n v H' n' e=>?_,λ g args H n v H' n' e=>?_,λ _ _ _ _ _ _ _ _ _ _ e=>(by cases e),λ _ _ _ _ _ _ _ _ e=>(by cases e)⟩
 ·have e:noPan (f g args H n)=.mk v H' n':=e
  cases hc:f g args H n with
  | mk v1 H1 n1=>rw[hc]at e;cases e;exact h g args H n v H' n' hc
  | fail=>rw[hc]at e;cases e
  | pan v1 H1 n1=>rw[hc]at e;cases e
 have e:noPan (f g args H n)=.pan v H' n':=e
 cases hc:f g args H n with
 | mk v1 H1 n1=>rw[hc]at e;cases e
 | fail=>rw[hc]at e;cases e
 | pan v1 H1 n1=>rw[hc]at e;cases e
@[simp] theorem noPan_mk (v:AV)(H:Hp)(n:Nat):noPan (.mk v H n)=.mk v H n:=Eq.trans rfl rfl
structure Fam where
 {α:Type}
 dom:α->Prop
 enc:α->List AV
 val:α->AV
open Classical in
def Fam.spec (f:Fam)(args:List AV)(H:Hp)(n:Nat):CRes:=if h:∃a,f.dom a/\f.enc a=args then .mk (f.val (Classical.choose h)) H n else .fail
theorem Fam.ok {f:Fam}{g:FuncId}(hf:∀a,f.dom a->FnPure P g (f.enc a) (f.val a)) {args H n v H' n'}(h:f.spec args H n=.mk v H' n'):CallOk P g args H n v H' n':=by
 unfold Fam.spec at h
 split at h
 ·rename_i hx;injection h with h1 h2 h3;subst h1 h2 h3;have:=Classical.choose_spec hx;have hh:=(hf _ this.1).callOk H n;rw[this.2]at hh;exact hh
 cases h
end
end Go.Abs
namespace Go.Abs
open List
abbrev QA:=AOut->Fr->Hp->Nat->List Dm->Prop
def Ev (r:Res)(Q:QA):Prop:=match r with
 | .mk (.panic _) _ _ _ _=>False
 | .mk o F H n m=>Q o F H n m
 | .fail=>False
def EvC (r:CRes)(R:AV->Hp->Nat->Prop):Prop:=match r with
 | .mk v H n=>R v H n
 | _=>False
def EvE (r:ERes)(H:Hp)(n:Nat)(k:AV->Hp->Nat->Prop):Prop:=match r with
 | .fail=>False
 | .val v=>k v H n
 | .new v b=>k v (H.put n (some b)) (n+1)
 | .upd v b x=>k v (H.put b (some x)) n
 | .mv v b x=>k v ((H.put b none).put n (some x)) (n+1)
def SeqQ (b:K)(ce:Ce)(Q:QA):QA:=λ o F H n m=>match o with
 | .normal=>Ev (b.f ce F H n m) Q
 | .exit i=>Q (.exit i) F H n m
 | .ret=>Q .ret F H n m
 | .panic _=>False
def BlkQ (i:Nat)(Q:QA):QA:=λ o F H n m=>match o with
 | .normal=>Q .normal F H n m
 | .exit j=>if i=j then Q .normal F H n m else Q (.exit j) F H n m
 | .ret=>Q .ret F H n m
 | .panic _=>False
def RetQ (res:List (Fr->Hp->Option AV)) (R:AV->Hp->Nat->Prop):QA:=λ o F H n m=>match o with
 | .exit _=>False
 | .panic _=>False
 | _ => match unmark m H with
  | some H'=>match evR F H' res with
   | some vs=>R (retV vs) H' n
   | none=>False
  | none=>False
def CondE (v:Option AV)(p q:Prop):Prop:=match v with
 | some (.bool true)=>p
 | some (.bool false)=>q
 | _=>False
def CondO (v:Option AV)(a b:K)(ce:Ce)(F:Fr)(H:Hp)(n:Nat)(m:List Dm)(Q:QA):Prop:=CondE v (Ev (a.f ce F H n m) Q) (Ev (b.f ce F H n m) Q)
def GrdE (v:Option AV)(want:Bool)(p q:Prop):Prop:=match v with
 | some (.bool b)=>bif b == want then p else q
 | some _=>q
 | none=>False
def OpB {α:Type}(o:Option α)(k:α->Prop):Prop:=match o with
 | some x=>k x
 | none=>False
section
variable {ce:Ce}{F:Fr}{H:Hp}{n:Nat}{m:List Dm}{Q:QA}
@[simp] theorem ev_mkN:Ev (.mk .normal F H n m) Q=Q .normal F H n m:=propext Iff.rfl
@[simp] theorem ev_mkE (i:Nat):Ev (.mk (.exit i) F H n m) Q=Q (.exit i) F H n m:=propext Iff.rfl
@[simp] theorem ev_mkR:Ev (.mk .ret F H n m) Q=Q .ret F H n m:=propext Iff.rfl
@[simp] theorem ev_mkP (v:AV):Ev (.mk (.panic v) F H n m) Q=False:=propext Iff.rfl
@[simp] theorem evC_mk (v:AV)(R:AV->Hp->Nat->Prop):EvC (.mk v H n) R=R v H n:=propext Iff.rfl
@[simp] theorem evE_fail (k:AV->Hp->Nat->Prop):EvE .fail H n k=False:=propext Iff.rfl
@[simp] theorem evE_val (v:AV)(k:AV->Hp->Nat->Prop):EvE (.val v) H n k=k v H n:=propext Iff.rfl
@[simp] theorem evE_new (v:AV)(b:ABlk)(k:AV->Hp->Nat->Prop):EvE (.new v b) H n k=k v (H.put n (some b)) (n+1):=propext Iff.rfl
@[simp] theorem evE_upd (v:AV)(b:Nat)(x:ABlk)(k:AV->Hp->Nat->Prop):EvE (.upd v b x) H n k=k v (H.put b (some x)) n:=propext Iff.rfl
@[simp] theorem evE_mv (v:AV)(b:Nat)(x:ABlk)(k:AV->Hp->Nat->Prop):EvE (.mv v b x) H n k=k v ((H.put b none).put n (some x)) (n+1):=propext Iff.rfl
@[simp] theorem seqQ_normal (b:K):SeqQ b ce Q .normal F H n m=Ev (b.f ce F H n m) Q:=propext Iff.rfl
@[simp] theorem seqQ_exit (b:K)(i:Nat):SeqQ b ce Q (.exit i) F H n m=Q (.exit i) F H n m:=propext Iff.rfl
@[simp] theorem seqQ_ret (b:K):SeqQ b ce Q .ret F H n m=Q .ret F H n m:=propext Iff.rfl
@[simp] theorem blkQ_normal (i:Nat):BlkQ i Q .normal F H n m=Q .normal F H n m:=propext Iff.rfl
@[simp] theorem blkQ_exit (i j:Nat):BlkQ i Q (.exit j) F H n m=if i=j then Q .normal F H n m else Q (.exit j) F H n m:=propext Iff.rfl
@[simp] theorem blkQ_ret (i:Nat):BlkQ i Q .ret F H n m=Q .ret F H n m:=propext Iff.rfl
@[simp] theorem condE_true (p q:Prop):CondE (some (.bool true)) p q=p:=propext Iff.rfl
@[simp] theorem condE_false (p q:Prop):CondE (some (.bool false)) p q=q:=propext Iff.rfl
@[simp] theorem grdE_t (p q:Prop):GrdE (some (.bool true)) true p q=p:=propext Iff.rfl
@[simp] theorem grdE_f (p q:Prop):GrdE (some (.bool false)) true p q=q:=propext Iff.rfl
@[simp] theorem grdE_t' (p q:Prop):GrdE (some (.bool true)) false p q=q:=propext Iff.rfl
@[simp] theorem grdE_f' (p q:Prop):GrdE (some (.bool false)) false p q=p:=propext Iff.rfl
@[simp] theorem grdE_tup (l:List AV)(b:Bool)(p q:Prop):GrdE (some (.tup l)) b p q=q:=propext Iff.rfl
@[simp] theorem opB_some {α:Type}(x:α)(k:α->Prop):OpB (some x) k=k x:=propext Iff.rfl
@[simp] theorem opB_none {α:Type}(k:α->Prop):OpB none k=False:=propext Iff.rfl
@[simp] theorem retQ_ret (res:List (Fr->Hp->Option AV))(R:AV->Hp->Nat->Prop):RetQ res R .ret F H n m=OpB (unmark m H) λ H'=>OpB (evR F H' res) λ vs=>R (retV vs) H' n:=by
 unfold RetQ OpB;dsimp only;split<;>first | (split<;>simp_all) | simp_all
@[simp] theorem retQ_normal (res:List (Fr->Hp->Option AV))(R:AV->Hp->Nat->Prop):RetQ res R .normal F H n m=OpB (unmark m H) λ H'=>OpB (evR F H' res) λ vs=>R (retV vs) H' n:=by
 unfold RetQ OpB;dsimp only;split<;>first | (split<;>simp_all) | simp_all
theorem ev_out {r:Res}(h:Ev r Q):∃o F H n m,r=.mk o F H n m/\Q o F H n m:=by
 cases r with
 | fail=>exact absurd h id
 | mk o F H n m=>cases o<;>first | exact absurd h id | exact⟨_,_,_,_,_,rfl,h⟩
@[simp] theorem ev_end:Ev (endK.f ce F H n m) Q=Q .normal F H n m:=propext Iff.rfl
@[simp] theorem ev_seq (a b:K):Ev ((seqK a b).f ce F H n m) Q=Ev (a.f ce F H n m) (SeqQ b ce Q):=by
 simp only[seqK]
 cases h:a.f ce F H n m with
 | fail=>simp[Ev]
 | mk o F' H' n' m'=>cases o<;>rfl
@[simp] theorem condO_true (a b:K):CondO (some (.bool true)) a b ce F H n m Q=Ev (a.f ce F H n m) Q:=propext Iff.rfl
@[simp] theorem condO_false (a b:K):CondO (some (.bool false)) a b ce F H n m Q=Ev (b.f ce F H n m) Q:=propext Iff.rfl
@[simp] theorem ev_cond (g:G)(a b:K):Ev ((condK g a b).f ce F H n m) Q=CondO (g.f F) a b ce F H n m Q:=by
 simp only[condK,CondO]
 cases g.f F with
 | none=>rfl
 | some v=>cases v with
  | bool b=>cases b<;>rfl
  | _=>rfl
@[simp] theorem ev_block (i:Nat)(b:K):Ev ((blockK i b).f ce F H n m) Q=Ev (b.f ce F H n m) (BlkQ i Q):=by
 simp only[blockK]
 cases h:b.f ce F H n m with
 | fail=>simp[Ev]
 | mk o F' H' n' m' =>
  cases o with
  | normal=>rfl
  | ret=>rfl
  | panic v=>rfl
  | exit j =>
   dsimp only
   cases hij:Nat.beq i j with
   | true=>have:=Nat.eq_of_beq_eq_true hij;subst this;simp
   | false =>
    have:¬i=j:=λ e=>by rw[e]at hij;simp at hij
    simp[this]
@[simp] theorem ev_exit (i:Nat):Ev ((exitK i).f ce F H n m) Q=Q (.exit i) F H n m:=propext Iff.rfl
@[simp] theorem ev_ret:Ev (retK.f ce F H n m) Q=Q .ret F H n m:=propext Iff.rfl
theorem ev_loopN {b:K}(I:Nat->Fr->Hp->Nat->List Dm->Prop)
  (hstep:∀k F H n m,I k F H n m->Ev (b.f ce F H n m) (λ o F' H' n' m'=>match o with
   | .normal=>∃k',k'<k/\I k' F' H' n' m'
   | .exit i=>Q (.exit i) F' H' n' m'
   | .ret=>Q .ret F' H' n' m'
   | .panic _=>False)):∀(j k:Nat) (F:Fr) (H:Hp) (n:Nat) (m:List Dm),k<j->I k F H n m->Ev (loopN b ce j F H n m) Q
 | 0,k,_,_,_,_,h,_=>by omega
 | j + 1,k,F,H,n,m,h,hI=>by
  have:=hstep k F H n m hI
  show Ev (match b.f ce F H n m with
   | .mk .normal F' H' n' m'=>loopN b ce j F' H' n' m'
   | r=>r) Q
  cases hb:b.f ce F H n m with
  | fail=>rw[hb]at this;exact this
  | mk o F' H' n' m' =>
   rw[hb]at this
   cases o with
   | normal=>obtain⟨k',hk,hI'⟩:=this;exact ev_loopN I hstep j k' F' H' n' m' (by omega) hI'
   | exit i=>exact this
   | ret=>exact this
   | panic v=>exact this
def RndQ (I:Nat->Fr->Hp->Nat->List Dm->Prop)(k:Nat)(Q:QA):QA:=λ o F' H' n' m'=>match o with
 | .normal=>∃k',k'<k/\I k' F' H' n' m'
 | .exit i=>Q (.exit i) F' H' n' m'
 | .ret=>Q .ret F' H' n' m'
 | .panic _=>False
@[simp] theorem rndQ_normal (I:Nat->Fr->Hp->Nat->List Dm->Prop)(k:Nat):RndQ I k Q .normal F H n m=∃k',k'<k/\I k' F H n m:=propext Iff.rfl
@[simp] theorem rndQ_exit (I:Nat->Fr->Hp->Nat->List Dm->Prop)(k i:Nat):RndQ I k Q (.exit i) F H n m=Q (.exit i) F H n m:=propext Iff.rfl
@[simp] theorem rndQ_ret (I:Nat->Fr->Hp->Nat->List Dm->Prop)(k:Nat):RndQ I k Q .ret F H n m=Q .ret F H n m:=propext Iff.rfl
theorem ev_loop {b:K}(I:Nat->Fr->Hp->Nat->List Dm->Prop)(k:Nat)(hk:k<big)(h0:I k F H n m)(hstep:∀k F H n m,I k F H n m->Ev (b.f ce F H n m) (RndQ I k Q)):Ev ((loopK b).f ce F H n m) Q:=
 ev_loopN I hstep big k F H n m hk h0
def pdT (d:Nat):Pd:=⟨λ v F=>(Tr.putK (Nat.succ d) d).f (some v) F⟩
def pdN:Pd:=⟨λ _ F=>F⟩
def Fp (d:Nat)(v:AV)(F:Fr):Fr:=(Tr.putK (Nat.succ d) d).f (some v) F
@[simp] theorem pdT_f (d:Nat)(v:AV):(pdT d).f v F=Fp d v F:=Eq.trans rfl rfl
@[simp] theorem Fp_get (d t:Nat)(v:AV):(Fp d v F).get t=if t=d then some v else F.get t:=Tr.get_putK _ _ _ _ _ (Nat.lt_succ_self d)
@[simp] theorem pdN_f (v:AV):pdN.f v F=F:=Eq.trans rfl rfl
@[simp] theorem slotG_f (t:Nat):(slotG t).f F=F.get t:=slotG_eq t F
@[simp] theorem constG_f (v:AV):(constG v).f F=some v:=Eq.trans rfl rfl
theorem get_put_lit {α:Type}(t:Tr α)(a b:Nat)(v:Option α):(t.put a v).get b=if b=a then v else t.get b:=Tr.get_put t a b v
theorem ev_op (pd:Pd)(e:Eff)(next:K):Ev ((opK pd e next).f ce F H n m) Q=EvE (e F H n) H n (λ v H' n'=>Ev (next.f ce (pd.f v F) H' n' m) Q):=by
 simp only[opK]
 cases e F H n<;>rfl
def gopK (g:G)(want:Bool)(pd:Pd)(e:Eff)(next:K):K:=guardK g want (opK pd e next) (nopK pd next)
theorem ev_gop (g:G)(want:Bool)(pd:Pd)(e:Eff)(next:K):Ev ((gopK g want pd e next).f ce F H n m) Q=GrdE (g.f F) want (EvE (e F H n) H n (λ v H' n'=>Ev (next.f ce (pd.f v F) H' n' m) Q)) (Ev (next.f ce (pd.f (.tup []) F) H n m) Q):=by
 simp only[gopK,guardK];unfold GrdE
 cases g.f F with
 | none=>rfl
 | some v =>
  cases v with
  | bool b =>
   dsimp only
   cases hb:b == want
   ·rfl
   exact ev_op pd e next
  | _=>rfl
def calK (pd:Pd)(f:FuncId)(as:List G)(next:K):K:=callK pd (constG (.fn (.func f) [] [])) as next
theorem ev_cal (pd:Pd)(f:FuncId)(as:List G)(next:K):Ev ((calK pd f as next).f ce F H n m) Q=OpB (evs F as) λ vs=>EvC (ce.call f vs H n) (λ v H' n'=>Ev (next.f ce (pd.f v F) H' n' m) Q):=by
 simp only[calK,callK,constG_f]
 cases evs F as with
 | none=>rfl
 | some vs =>
  simp only[nil_append,append_nil,opB_some]
  cases ce.call f vs H n<;>rfl
def gcalK (g:G)(want:Bool)(pd:Pd)(f:FuncId)(as:List G)(next:K):K:=guardK g want (calK pd f as next) (nopK pd next)
theorem ev_gcal (g:G)(want:Bool)(pd:Pd)(f:FuncId)(as:List G)(next:K):Ev ((gcalK g want pd f as next).f ce F H n m) Q=GrdE (g.f F) want (OpB (evs F as) λ vs=>EvC (ce.call f vs H n) (λ v H' n'=>Ev (next.f ce (pd.f v F) H' n' m) Q)) (Ev (next.f ce (pd.f (.tup []) F) H n m) Q):=by
 simp only[gcalK,guardK];unfold GrdE
 cases g.f F with
 | none=>rfl
 | some v =>
  cases v with
  | bool b =>
   dsimp only
   cases hb:b == want
   ·rfl
   exact ev_cal pd f as next
  | _=>rfl
theorem ev_calV {pd:Pd}{g:G}{as:List G}{next:K}{f:FuncId}{first cap vs:List AV}(hg:g.f F=some (.fn (.func f) first cap))(ha:evs F as=some vs):
  Ev ((callK pd g as next).f ce F H n m) Q=EvC (ce.call f (first++(vs++cap)) H n) (λ v H' n'=>Ev (next.f ce (pd.f v F) H' n' m) Q):=by
 simp only[callK,hg,ha]
 cases ce.call f (first++(vs++cap)) H n<;>rfl
def drwK (ds:List Nat)(k:KR):K:=.mk <| λ ce F H n m=>k.f ce (clearF ds F) H [H] n m
@[simp] theorem ev_drw (ds:List Nat)(k:KR):Ev ((drwK ds k).f ce F H n m) Q=Ev (k.f ce (clearF ds F) H [H] n m) Q:=propext Iff.rfl
variable {Hs:List Hp}
@[simp] theorem ev_endR:Ev (endR.f ce F H Hs n m) Q=Q .normal F H n m:=propext Iff.rfl
def EvM (r:ERes)(H:Hp)(n:Nat)(k:AV->Hp->Nat->Prop):Prop:=EvE r H n k
def EvR (e:Eff)(F:Fr)(H:Hp)(Hs:List Hp)(n cnt:Nat)(k:AV->Hp->Nat->Prop):Prop:=match e F .nil n with
 | .val v=>k v H n
 | .new v b=>if noneAt n Hs=true then k v (H.put n (some b)) (n+1)else False
 | .fail=>OpB (allVal e F n cnt Hs) λ v=>k v H n
 | _=>False
theorem ev_opR (rs:RS)(pd:Pd)(e:Eff)(cnt:Nat)(next:KR):Ev ((opR rs pd e cnt next).f ce F H Hs n m) Q=EvR e (rs.f F) H Hs n cnt (λ v H' n'=>Ev (next.f ce (pd.f v F) H' Hs n' m) Q):=by
 simp only[opR];unfold EvR
 cases e (rs.f F) .nil n with
 | val v=>rfl
 | new v k=>dsimp only;split<;>simp_all [Ev]
 | fail=>dsimp only;unfold OpB;split<;>simp_all [Ev]
 | upd=>rfl
 | mv=>rfl
theorem ev_modR (rs:RS)(pd:Pd)(e:Eff)(next:KR):Ev ((modR rs pd e next).f ce F H Hs n m) Q=EvE (e (rs.f F) H n) H n (λ v H' n'=>Ev (next.f ce (pd.f v F) H' (H'::Hs) n' m) Q):=by
 simp only[modR]
 cases e (rs.f F) H n<;>rfl
def calR (rs:RS)(pd:Pd)(f:FuncId)(as:List G)(next:KR):KR:=callR rs pd (constG (.fn (.func f) [] [])) as next
theorem ev_calR (rs:RS)(pd:Pd)(f:FuncId)(as:List G)(next:KR):Ev ((calR rs pd f as next).f ce F H Hs n m) Q=OpB (evs (rs.f F) as) λ vs=>EvC (ce.call f vs H n) (λ v H' n'=>Ev (next.f ce (pd.f v F) H' (H'::Hs) n' m) Q):=by
 simp only[calR,callR,constG_f]
 cases evs (rs.f F) as with
 | none=>rfl
 | some vs =>
  simp only[nil_append,append_nil,opB_some]
  cases ce.call f vs H n<;>rfl
@[simp] theorem rs_get (l:List Nat)(F:Fr)(t:Nat):((rsOf l).f F).get t=if t∈l then F.get t else none:=by
 induction l with
 | nil=>rfl
 | cons a r ih =>
  simp only[rsOf,rsCons,slotG_f];rw[Tr.get_putK _ _ _ _ _ (Nat.lt_succ_self a),ih]
  by_cases h:t=a
  ·subst h;simp
  simp[h]
end
end Go.Abs
namespace Go.Abs
open List
@[simp] theorem int_eq_nat (a b:Nat):((a:Int)=(b:Int))=(a=b):=propext (by omega)
@[simp] theorem int_lt_nat (a b:Nat):((a:Int)<(b:Int))=(a<b):=propext (by omega)
@[simp] theorem int_le_nat (a b:Nat):((a:Int)<=(b:Int))=(a<=b):=propext (by omega)
@[simp] theorem nat_ble (a b:Nat):Nat.ble a b=decide (a<=b):=by
 by_cases h:a<=b
 ·rw[Nat.ble_eq_true_of_le h];simp[h]
 cases hh:Nat.ble a b with
 | true=>exact absurd (Nat.le_of_ble_eq_true hh) h
 | false=>simp[h]
@[simp] theorem nat_blt (a b:Nat):Nat.blt a b=decide (a<b):=nat_ble (a+1) b
@[simp] theorem nat_beq (a b:Nat):Nat.beq a b=decide (a=b):=by
 by_cases h:a=b
 ·subst h;simp
 cases hh:Nat.beq a b with
 | true=>exact absurd (Nat.eq_of_beq_eq_true hh) h
 | false=>simp[h]
def oE (o:Option AV)(k:AV->ERes):ERes:=match o with
 | some v=>k v
 | none=>.fail
def lE (o:Option (List AV))(k:List AV->ERes):ERes:=match o with
 | some v=>k v
 | none=>.fail
@[simp] theorem oE_some (v:AV)(k:AV->ERes):oE (some v) k=k v:=Eq.trans rfl rfl
@[simp] theorem lE_some (v:List AV)(k:List AV->ERes):lE (some v) k=k v:=Eq.trans rfl rfl
@[simp] theorem avlen_agg (cs:List AV)(n:Nat):(AV.agg cs n).len=n:=Eq.trans rfl rfl
@[simp] theorem avcells_agg (cs:List AV)(n:Nat):(AV.agg cs n).cells=cs:=Eq.trans rfl rfl
@[simp] theorem avlen_int (k:IntKind)(n:Int):(AV.int k n).len=1:=Eq.trans rfl rfl
@[simp] theorem avlen_bool (b:Bool):(AV.bool b).len=1:=Eq.trans rfl rfl
@[simp] theorem avlen_str (b:List Nat):(AV.str b).len=1:=Eq.trans rfl rfl
@[simp] theorem avlen_ptr (a b:Nat):(AV.ptr a b).len=1:=Eq.trans rfl rfl
@[simp] theorem avlen_sl (a b c d:Nat):(AV.sl a b c d).len=1:=Eq.trans rfl rfl
@[simp] theorem avlen_ds (cs:List AV)(c d:Nat):(AV.ds cs c d).len=1:=Eq.trans rfl rfl
@[simp] theorem avlen_cst (v:Value):(AV.cst v).len=1:=Eq.trans rfl rfl
@[simp] theorem avlen_fn (f:Fn)(a b:List AV):(AV.fn f a b).len=1:=Eq.trans rfl rfl
@[simp] theorem avlen_ifc (t:TypeId)(v:AV):(AV.ifc t v).len=1:=Eq.trans rfl rfl
@[simp] theorem avcells_int (k:IntKind)(n:Int):(AV.int k n).cells=[.int k n]:=Eq.trans rfl rfl
@[simp] theorem avcells_bool (b:Bool):(AV.bool b).cells=[.bool b]:=Eq.trans rfl rfl
@[simp] theorem avcells_str (b:List Nat):(AV.str b).cells=[.str b]:=Eq.trans rfl rfl
@[simp] theorem avcells_ptr (a b:Nat):(AV.ptr a b).cells=[.ptr a b]:=Eq.trans rfl rfl
@[simp] theorem avcells_sl (a b c d:Nat):(AV.sl a b c d).cells=[.sl a b c d]:=Eq.trans rfl rfl
@[simp] theorem avcells_ds (cs:List AV)(c d:Nat):(AV.ds cs c d).cells=[.ds cs c d]:=Eq.trans rfl rfl
@[simp] theorem avcells_cst (v:Value):(AV.cst v).cells=[.cst v]:=Eq.trans rfl rfl
@[simp] theorem avcells_fn (f:Fn)(a b:List AV):(AV.fn f a b).cells=[.fn f a b]:=Eq.trans rfl rfl
@[simp] theorem avcells_ifc (t:TypeId)(v:AV):(AV.ifc t v).cells=[.ifc t v]:=Eq.trans rfl rfl
@[simp] theorem allOne_nil:allOne []=true:=Eq.trans rfl rfl
@[simp] theorem allOne_cons (v:AV)(r:List AV):allOne (v::r)=(v.one&&allOne r):=Eq.trans rfl rfl
@[simp] theorem one_int (k:IntKind)(n:Int):(AV.int k n).one=true:=Eq.trans rfl rfl
@[simp] theorem one_bool (b:Bool):(AV.bool b).one=true:=Eq.trans rfl rfl
@[simp] theorem one_str (b:List Nat):(AV.str b).one=true:=Eq.trans rfl rfl
@[simp] theorem one_ptr (a b:Nat):(AV.ptr a b).one=true:=Eq.trans rfl rfl
@[simp] theorem one_sl (a b c d:Nat):(AV.sl a b c d).one=true:=Eq.trans rfl rfl
@[simp] theorem one_ds (cs:List AV)(c d:Nat):(AV.ds cs c d).one=true:=Eq.trans rfl rfl
@[simp] theorem one_cst (v:Value):(AV.cst v).one=true:=Eq.trans rfl rfl
@[simp] theorem one_fn (f:Fn)(a b:List AV):(AV.fn f a b).one=true:=Eq.trans rfl rfl
@[simp] theorem one_ifc (t:TypeId)(v:AV):(AV.ifc t v).one=true:=Eq.trans rfl rfl
@[simp] theorem allOne_append (a b:List AV):allOne (a++b)=(allOne a&&allOne b):=by
 induction a with
 | nil=>simp
 | cons v r ih=>simp[ih,Bool.and_assoc]
section
variable {F:Fr}{H:Hp}{n:Nat}
@[simp] theorem eMov_f (x:G):eMov x F H n=oE (x.f F) .val:=by unfold eMov oE;cases x.f F<;>rfl
def pickE (c:Option AV)(a b:ERes):ERes:=match c with
 | some (.bool true)=>a
 | some (.bool false)=>b
 | _=>.fail
@[simp] theorem pickE_t (a b:ERes):pickE (some (.bool true)) a b=a:=Eq.trans rfl rfl
@[simp] theorem pickE_f (a b:ERes):pickE (some (.bool false)) a b=b:=Eq.trans rfl rfl
@[simp] theorem ePick_f (c a b:G):ePick c a b F H n=pickE (c.f F) (oE (a.f F) .val) (oE (b.f F) .val):=by
 unfold ePick
 cases c.f F with
 | none=>rfl
 | some v=>cases v with
  | bool x =>
   cases x
   ·simp only[pickE,eMov];cases b.f F<;>rfl
   simp only[pickE,eMov];cases a.f F<;>rfl
  | _=>rfl
@[simp] theorem eAlloc_f (z:List AV)(k:Nat):eAlloc z k F H n=.new (.ptr n 0) (.cells k [] z .nil):=Eq.trans rfl rfl
@[simp] theorem eBox_f (x:G):eBox x F H n=oE (x.f F) λ v=>.new (.ptr n 0) (.cells v.len [] v.cells .nil):=by unfold eBox oE;cases x.f F<;>rfl
@[simp] theorem fillP_nil (cs:List AV):fillP F [] cs=some cs:=Eq.trans rfl rfl
@[simp] theorem fillP_cons (o s:Nat)(x:G)(r:List (Nat×Nat×G))(cs:List AV):fillP F ((o,s,x)::r) cs=(x.f F).bind λ v=>bif Nat.beq v.len s&&Nat.blt 0 s then (patch cs o v.cells).bind (λ cs'=>fillP F r cs')else none:=by
 rw[fillP]
 cases x.f F with
 | none=>rfl
 | some v =>
  dsimp only [Option.bind]
  cases Nat.beq v.len s&&Nat.blt 0 s with
  | false=>rfl
  | true=>dsimp only [cond];cases patch cs o v.cells<;>rfl
@[simp] theorem patch_nil (cs:List AV)(o:Nat):patch cs o []=some cs:=by cases cs<;>cases o<;>rfl
def consM (v:AV)(o:Option (List AV)):Option (List AV):=match o with
 | some l=>some (v::l)
 | none=>none
@[simp] theorem consM_some (v:AV)(l:List AV):consM v (some l)=some (v::l):=Eq.trans rfl rfl
@[simp] theorem patch_zero (c v:AV)(cs vs:List AV):patch (c::cs) 0 (v::vs)=consM v (patch cs 0 vs):=by
 rw[patch];cases patch cs 0 vs<;>rfl
@[simp] theorem patch_succ (c v:AV)(cs vs:List AV)(o:Nat):patch (c::cs) (o+1) (v::vs)=consM c (patch cs o (v::vs)):=by
 rw[patch];cases patch cs o (v::vs)<;>rfl
@[simp] theorem patch_all {bs vs:List AV}(h:vs.length=bs.length):patch bs 0 vs=some vs:=by
 induction vs generalizing bs with
 | nil=>cases bs<;>simp_all
 | cons v r ih =>
  cases bs with
  | nil=>simp at h
  | cons b bs=>rw[patch_zero,ih (by simpa using h)];rfl
@[simp] theorem eBuild_f (z:List AV)(k:Nat)(ps:List (Nat×Nat×G)):eBuild z k ps F H n=lE (fillP F ps z) λ cs=>.val (.agg cs k):=by unfold eBuild lE;cases fillP F ps z<;>rfl
@[simp] theorem eBslice_f (z:List AV)(k sz:Nat)(ps:List (Nat×Nat×G)):eBslice z k sz ps F H n=lE (fillP F ps (rep z k)) λ cs=>.new (.sl n 0 k sz) (.cells (k*sz) [] cs .nil):=by unfold eBslice lE;cases fillP F ps (rep z k)<;>rfl
@[simp] theorem rep_zero (z:List AV):rep z 0=[]:=Eq.trans rfl rfl
theorem rep_succ (z:List AV)(n:Nat):rep z (n+1)=z++rep z n:=rfl
@[simp] theorem rep_one (z:List AV):rep z 1=z:=by simp[rep_succ]
@[simp] theorem eLoad1_f (x:G):eLoad1 x F H n=oE (x.f F) λ v=>cLoad1 v H:=by unfold eLoad1 oE;cases x.f F<;>rfl
@[simp] theorem eLoadN_f (k:Nat)(x:G):eLoadN k x F H n=oE (x.f F) λ v=>cLoadN k v H:=by unfold eLoadN oE;cases x.f F<;>rfl
@[simp] theorem eStore_f (k:Nat)(x v:G):eStore k x v F H n=oE (x.f F) λ a=>oE (v.f F) λ v=>cStore k a v H:=by
 unfold eStore oE
 cases x.f F with
 | none=>rfl
 | some a=>dsimp only;cases v.f F<;>rfl
@[simp] theorem eNilc_f (x:G):eNilc x F H n=oE (x.f F) cNilc:=by unfold eNilc oE;cases x.f F<;>rfl
@[simp] theorem e1_f (c:AV->ERes)(x:G):e1 c x F H n=oE (x.f F) c:=by unfold e1 oE;cases x.f F<;>rfl
@[simp] theorem e2_f (c:AV->AV->ERes)(x y:G):e2 c x y F H n=oE (x.f F) λ a=>oE (y.f F) λ b=>c a b:=by
 unfold e2 oE
 cases x.f F with
 | none=>rfl
 | some a=>dsimp only;cases y.f F<;>rfl
@[simp] theorem evs_nil:evs F []=some []:=Eq.trans rfl rfl
@[simp] theorem evs_cons (x:G)(r:List G):evs F (x::r)=(x.f F).bind λ a=>(evs F r).bind λ l=>some (a::l):=by
 rw[evs]
 cases x.f F with
 | none=>rfl
 | some a=>cases evs F r<;>rfl
@[simp] theorem eMkfn_f (f:Fn)(a b:List G):eMkfn f a b F H n=lE (evs F a) λ a=>lE (evs F b) λ b=>.val (.fn f a b):=by
 unfold eMkfn lE
 cases evs F a with
 | none=>rfl
 | some a=>dsimp only;cases evs F b<;>rfl
@[simp] theorem eApp_f (sz by_:Nat)(s x:G):eApp sz by_ s x F H n=oE (s.f F) λ s=>oE (x.f F) λ x=>cApp sz by_ n s x H:=by
 unfold eApp oE
 cases s.f F with
 | none=>rfl
 | some a=>dsimp only;cases x.f F<;>rfl
def sE (o:Option (Option AV))(k:Option AV->ERes):ERes:=match o with
 | some v=>k v
 | none=>.fail
@[simp] theorem sE_some (v:Option AV)(k:Option AV->ERes):sE (some v) k=k v:=Eq.trans rfl rfl
@[simp] theorem oev_none:oev F none=some none:=Eq.trans rfl rfl
@[simp] theorem oev_some (x:G):oev F (some x)=(x.f F).map some:=Eq.trans rfl rfl
@[simp] theorem eSl_f (c:Option AV->Option AV->Option AV->AV->ERes)(x:G)(lo hi mx:Option G):eSl c x lo hi mx F H n=sE (oev F lo) λ lo=>sE (oev F hi) λ hi=>sE (oev F mx) λ mx=>oE (x.f F) λ v=>c lo hi mx v:=by
 unfold eSl sE oE
 cases oev F lo with
 | none=>rfl
 | some a=>cases oev F hi with
  | none=>rfl
  | some b=>cases oev F mx with
   | none=>rfl
   | some d=>dsimp only;cases x.f F<;>rfl
end
section
variable {H:Hp}{n:Nat}
@[simp] theorem get_put' {α:Type}(t:Tr α)(a b:Nat)(v:Option α):(t.put a v).get b=if b=a then v else t.get b:=Tr.get_put t a b v
def ld1 (k:Option ABlk)(o:Nat):ERes:=match k with
 | some (.cells u z bs t)=>oE (getc u z bs t o) .val
 | _=>.fail
def ldN (k:Option ABlk)(o c:Nat):ERes:=match k with
 | some (.cells u z bs t)=>lE (grab u z bs t o c) λ l=>.val (.agg l c)
 | _=>.fail
@[simp] theorem ld1_some (u z bs t o):ld1 (some (.cells u z bs t)) o=oE (getc u z bs t o) .val:=Eq.trans rfl rfl
@[simp] theorem ldN_some (u z bs t o c):ldN (some (.cells u z bs t)) o c=lE (grab u z bs t o c) λ l=>.val (.agg l c):=Eq.trans rfl rfl
@[simp] theorem ld1_none (o:Nat):ld1 none o=.fail:=Eq.trans rfl rfl
@[simp] theorem ldN_none (o c:Nat):ldN none o c=.fail:=Eq.trans rfl rfl
@[simp] theorem cLoad1_ptr' (b o:Nat):cLoad1 (.ptr b o) H=ld1 (H.get b) o:=by
 unfold cLoad1 ld1 oE;dsimp only
 cases H.get b with
 | none=>rfl
 | some k=>cases k with
  | cells u z bs t=>dsimp only;cases getc u z bs t o<;>rfl
  | _=>rfl
@[simp] theorem cLoad1_dp (v:AV)(r:List AV):cLoad1 (.dp (v::r)) H=.val v:=Eq.trans rfl rfl
@[simp] theorem cLoadN_ptr' (k b o:Nat):cLoadN k (.ptr b o) H=ldN (H.get b) o k:=by
 unfold cLoadN ldN lE;dsimp only
 cases H.get b with
 | none=>rfl
 | some x=>cases x with
  | cells u z bs t=>dsimp only;cases grab u z bs t o k<;>rfl
  | _=>rfl
theorem cLoadN_dp {k:Nat}{l:List AV}(r:List AV)(h:l.length=k):cLoadN k (.dp (l++r)) H=.val (.agg l k):=by
 unfold cLoadN;dsimp only;have:Nat.ble k (l++r).length=true:=Nat.ble_eq_true_of_le (by simp;omega);rw[this];dsimp only;rw[<-h,take_left]
theorem getc_list (u:Nat)(bs:List AV)(i:Nat):getc u [] bs .nil i=if i<u then bs[i]? else none:=by
 rw[getc_eq]
 split
 ·simp only[Ov.get_nil];cases bs[i]?<;>rfl
 rfl
@[simp] theorem getc_list' (u:Nat)(bs:List AV)(i:Nat):getc u [] bs .nil i=if i<u then bs[i]? else none:=getc_list u bs i
theorem grabR_list (u:Nat)(bs:List AV)(hl:bs.length=u)(o:Nat):∀(k:Nat)(acc:List AV),o+k<=u->grabR u [] bs .nil o k acc=some ((bs.drop o).take k++acc)
 | 0,acc,h=>by simp;rfl
 | k+1,acc,h=>by
  show osel (getc u [] bs .nil (o+k)) none (λ v=>grabR u [] bs .nil o k (v::acc))=_;rw[getc_list,if_pos (by omega),getElem?_eq_getElem (by omega)];simp only[osel_some];rw[grabR_list u bs hl o k _ (by omega),take_add_one,append_assoc]
  congr 1
  simp[getElem?_drop,getElem?_eq_getElem (show o+k<bs.length by omega)]
@[simp] theorem grab_list {u:Nat}{bs:List AV}{o k:Nat}(hl:bs.length=u)(h:o+k<=u):grab u [] bs .nil o k=some ((bs.drop o).take k):=by
 unfold grab;dsimp only
 split
 ·rename_i hb;simp at hb;obtain⟨rfl,rfl⟩:=hb;simp[<-hl]
 have e:pieceO k o bs=some ((bs.drop o).take k):=by
  unfold pieceO;dsimp only;rw[tkO_eq,drO_eq,lenO_zero];have:((bs.drop o).take k).length=k:=by simp;omega
  have hb:Nat.beq ((bs.drop o).take k).length k=true:=by rw[this];exact Nat.beq_refl k
  rw[hb]
 rw[show Nat.ble (Nat.add o k) u=true from Nat.ble_eq_true_of_le h,e];rfl
@[simp high] theorem grab_all (u:Nat) (bs:List AV):grab u [] bs .nil 0 u=some bs:=by
 unfold grab;simp
def stE (k:Nat)(v:AV)(x:Option ABlk)(b o:Nat):ERes:=match x with
 | some (.cells u z bs t)=>bif Nat.beq v.len k&&Nat.ble (o+k) u&&allOne v.cells then .upd (.tup []) b (stBlk u z bs t v.cells o)else .fail
 | _=>.fail
@[simp] theorem stE_some (k:Nat)(v:AV) (u z bs t b o):stE k v (some (.cells u z bs t)) b o=bif Nat.beq v.len k&&Nat.ble (o+k) u&&allOne v.cells then .upd (.tup []) b (stBlk u z bs t v.cells o)else .fail:=Eq.trans rfl rfl
@[simp] theorem cStore_ptr (k b o:Nat)(v:AV):cStore k (.ptr b o) v H=stE k v (H.get b) b o:=by
 unfold cStore stE;dsimp only
 cases H.get b with
 | none=>rfl
 | some x=>cases x with
  | cells u z bs t=>dsimp only;cases Nat.beq v.len k&&Nat.ble (o+k) u&&allOne v.cells<;>rfl
  | _=>rfl
def stL (u:Nat)(bs vs:List AV)(o:Nat)(r:Option (List AV)):ABlk:=match r with
 | some bs'=>.cells u [] bs' .nil
 | none=>.cells u [] bs (Ov.putAll vs o .nil)
@[simp] theorem stL_some (u:Nat)(bs vs:List AV)(o:Nat)(r:List AV):stL u bs vs o (some r)=.cells u [] r .nil:=Eq.trans rfl rfl
@[simp] theorem stBlk_list' {u:Nat}{bs vs:List AV}{o:Nat}(h:u<=64):stBlk u [] bs .nil vs o=stL u bs vs o (patch bs o vs):=by
 unfold stBlk stL;simp only[Nat.ble_eq_true_of_le h]
 cases patch bs o vs<;>rfl
@[simp] theorem cNilc_ptr (b o:Nat):cNilc (.ptr b o)=.val (.ptr b o):=Eq.trans rfl rfl
@[simp] theorem cNilc_dp (cs:List AV):cNilc (.dp cs)=.val (.dp cs):=Eq.trans rfl rfl
@[simp] theorem cAddo_ptr (k b o:Nat):cAddo k (.ptr b o)=.val (.ptr b (o+k)):=by unfold cAddo;dsimp only;rw[forceN_eq]
@[simp] theorem cAddo_dp (k:Nat)(cs:List AV):cAddo k (.dp cs)=.val (.dp (cs.drop k)):=Eq.trans rfl rfl
def nE (o:Option AV):ERes:=match o with
 | some v=>.val v
 | none=>.fail
@[simp] theorem nE_some (v:AV):nE (some v)=.val v:=Eq.trans rfl rfl
@[simp] theorem cFld1_agg (o:Nat)(cs:List AV)(k:Nat):cFld1 o (.agg cs k)=nE (cs[o]?):=by
 unfold cFld1 nE;dsimp only;rw[nth_eq];cases cs[o]?<;>rfl
@[simp] theorem cFldN_agg (o k m:Nat)(cs:List AV):cFldN o k (.agg cs m)=bif Nat.ble (o+k) m then .val (.agg ((cs.drop o).take k) k)else .fail:=by
 unfold cFldN;dsimp only
 cases Nat.ble (o+k) m<;>rfl
@[simp] theorem cExt_tup (i:Nat)(vs:List AV):cExt i (.tup vs)=nE (vs[i]?):=by
 unfold cExt nE;dsimp only;rw[nth_eq];cases vs[i]?<;>rfl
theorem cIxa_ds {cs:List AV}{len sz i:Nat}{k:IntKind}(h:i<len):cIxa sz (.ds cs len sz) (.int k (i:Int))=.val (.dp (cs.drop (i*sz))):=by
 show (match Nat.blt i len&&Nat.beq sz sz with
  | true=>ERes.val (.dp (cs.drop (i*sz)))
  | false=>.fail)=_
 rw[show Nat.blt i len=true from Nat.ble_eq_true_of_le h,Nat.beq_refl];rfl
theorem cIxa_sl {b o len sz i:Nat}{k:IntKind}(h:i<len):cIxa sz (.sl b o len sz) (.int k (i:Int))=.val (.ptr b (o+i*sz)):=by
 show (match Nat.blt i len&&Nat.beq sz sz with
  | true=>forceN (o+i*sz) λ o'=>ERes.val (.ptr b o')
  | false=>.fail)=_
 rw[show Nat.blt i len=true from Nat.ble_eq_true_of_le h,Nat.beq_refl];exact forceN_eq _ _
@[simp] theorem cLenL_ds (cs:List AV)(len sz:Nat):cLenL (.ds cs len sz)=.val (.int .i64 (len:Int)):=Eq.trans rfl rfl
@[simp] theorem cLenL_sl (b o len sz:Nat):cLenL (.sl b o len sz)=.val (.int .i64 (len:Int)):=Eq.trans rfl rfl
@[simp] theorem cLenL_nil:cLenL (.cst (.slice none 0 0))=.val (.int .i64 0):=Eq.trans rfl rfl
@[simp] theorem cLenS_str (l:List Nat):cLenS (.str l)=.val (.int .i64 (l.length:Int)):=by unfold cLenS;dsimp only;rw[lenAcc_zero];rfl
@[simp] theorem vint_eq (k:IntKind)(i:Int):vint k i=.val (.int k i):=by unfold vint;rw[forceI_eq]
@[simp] theorem cBin_add:cBin .add=cAdd:=Eq.trans rfl rfl
@[simp] theorem cBin_lss:cBin .lss=cCmp .lss:=Eq.trans rfl rfl
@[simp] theorem cBin_leq:cBin .leq=cCmp .leq:=Eq.trans rfl rfl
@[simp] theorem cBin_gtr:cBin .gtr=cCmp .gtr:=Eq.trans rfl rfl
@[simp] theorem cBin_geq:cBin .geq=cCmp .geq:=Eq.trans rfl rfl
@[simp] theorem cBin_sub:cBin .sub=int2 (cArith .sub):=Eq.trans rfl rfl
@[simp] theorem cBin_mul:cBin .mul=int2 (cArith .mul):=Eq.trans rfl rfl
@[simp] theorem cBin_quo:cBin .quo=int2 (cArith .quo):=Eq.trans rfl rfl
@[simp] theorem cBin_rem:cBin .rem=int2 (cArith .rem):=Eq.trans rfl rfl
@[simp] theorem cBin_shl:cBin .shl=cShift .shl:=Eq.trans rfl rfl
@[simp] theorem cBin_shr:cBin .shr=cShift .shr:=Eq.trans rfl rfl
@[simp] theorem int2_int (c:IntKind->Int->Int->ERes)(k:IntKind)(a b:Int):int2 c (.int k a) (.int k b)=c k a b:=by simp[int2]
@[simp] theorem cArith_sub (k:IntKind)(a b:Int):cArith .sub k a b=.val (.int k (k.wrap (a - b))):=by simp[cArith]
@[simp] theorem cArith_mul (k:IntKind)(a b:Int):cArith .mul k a b=.val (.int k (k.wrap (a*b))):=by simp[cArith]
@[simp] theorem cAdd_int (k:IntKind)(a b:Int):cAdd (.int k a) (.int k b)=.val (.int k (k.wrap (a+b))):=by simp[cAdd]
@[simp] theorem cCmp_lss (k:IntKind)(a b:Int):cCmp .lss (.int k a) (.int k b)=.val (.bool (decide (a<b))):=by simp[cCmp]
@[simp] theorem cCmp_leq (k:IntKind)(a b:Int):cCmp .leq (.int k a) (.int k b)=.val (.bool (decide (a<=b))):=by simp[cCmp]
@[simp] theorem cCmp_gtr (k:IntKind)(a b:Int):cCmp .gtr (.int k a) (.int k b)=.val (.bool (decide (b<a))):=by simp[cCmp]
@[simp] theorem cCmp_geq (k:IntKind)(a b:Int):cCmp .geq (.int k a) (.int k b)=.val (.bool (decide (b<=a))):=by simp[cCmp]
@[simp] theorem cEq_int (k:IntKind)(a b:Int):cEq false .num (.int k a) (.int k b)=.val (.bool (decide (a=b))):=by simp only[cEq,eqVal,if_true];by_cases h:a=b<;>simp[h]
@[simp] theorem cNe_int (k:IntKind)(a b:Int):cEq true .num (.int k a) (.int k b)=.val (.bool (decide (a≠b))):=by
 simp only[cEq,eqVal,if_true];by_cases h:a=b<;>simp[h]
@[simp] theorem cEq_str (a b:List Nat):cEq false .num (.str a) (.str b)=.val (.bool (decide (a=b))):=by simp only[cEq,eqVal,eqNats_eq];by_cases h:a=b<;>simp[h]
@[simp] theorem cNe_str (a b:List Nat):cEq true .num (.str a) (.str b)=.val (.bool (decide (a≠b))):=by simp only[cEq,eqVal,eqNats_eq];by_cases h:a=b<;>simp[h]
@[simp] theorem cEq_bool (a b:Bool):cEq false .bool (.bool a) (.bool b)=.val (.bool (a == b)):=by simp[cEq,eqVal]
@[simp] theorem cNe_bool (a b:Bool):cEq true .bool (.bool a) (.bool b)=.val (.bool (a != b)):=by cases a<;>cases b<;>rfl
def andO (b:Bool)(r:Option Bool):Option Bool:=if b then r else some false
@[simp] theorem andO_some (b c:Bool):andO b (some c)=some (b&&c):=by cases b<;>rfl
@[simp] theorem eqAtoms_nil:eqAtoms [] [] []=some true:=Eq.trans rfl rfl
@[simp] theorem eqAtoms_i (qs:List LK)(k:IntKind)(a b:Int)(x y:List AV):eqAtoms (.i::qs) (.int k a::x) (.int k b::y)=andO (decide (a=b)) (eqAtoms qs x y):=by
 by_cases h:a=b
 ·simp[eqAtoms,eqLeaf,h,andO]
 have:(a == b)=false:=by simpa using h
 simp only[eqAtoms,eqLeaf,if_true,this,h,andO,decide_false];rfl
@[simp] theorem eqAtoms_s (qs:List LK)(a b:List Nat)(x y:List AV):eqAtoms (.s::qs) (.str a::x) (.str b::y)=andO (decide (a=b)) (eqAtoms qs x y):=by
 by_cases h:a=b
 ·simp[eqAtoms,eqLeaf,eqNats_eq,h,andO]
 have:(a == b)=false:=by simpa using h
 simp only[eqAtoms,eqLeaf,eqNats_eq,this,h,andO,decide_false];rfl
@[simp] theorem eqAtoms_b (qs:List LK)(a b:Bool)(x y:List AV):eqAtoms (.b::qs) (.bool a::x) (.bool b::y)=andO (decide (a=b)) (eqAtoms qs x y):=by
 by_cases h:a=b
 ·simp[eqAtoms,eqLeaf,h,andO]
 have:(a == b)=false:=by simpa using h
 simp only[eqAtoms,eqLeaf,this,h,andO,decide_false];rfl
def bE (neg:Bool)(r:Option Bool):ERes:=match r with
 | some b=>.val (.bool (neg != b))
 | none=>.fail
@[simp] theorem bE_some (neg b:Bool):bE neg (some b)=.val (.bool (neg != b)):=Eq.trans rfl rfl
@[simp] theorem cEqA_agg (neg:Bool)(ks:List LK)(a b:List AV)(n m:Nat):cEqA neg ks (.agg a n) (.agg b m)=if n=ks.length/\m=ks.length then bE neg (eqAtoms ks a b)else .fail:=by
 unfold cEqA bE;dsimp only;rw[nat_beq,nat_beq]
 by_cases h:n=ks.length/\m=ks.length
 ·rw[if_pos h];simp only[h.1,h.2,decide_true,Bool.and_self];cases eqAtoms ks a b<;>rfl
 rw[if_neg h]
 have:(decide (n=ks.length)&&decide (m=ks.length))=false:=by
  by_cases h1:n=ks.length<;>by_cases h2:m=ks.length<;>simp_all
 rw[this]
@[simp] theorem cUn_not (b:Bool):cUn .not (.bool b)=.val (.bool (!b)):=Eq.trans rfl rfl
theorem runDs_unmark {ce:Ce}:∀ {m:List Dm}{H H':Hp}{n:Nat},unmark m H=some H'->runDs ce m .ret H n=.mk .ret H' n
 | [],H,H',n,h=>by simp only[unmark]at h;injection h with h;subst h;simp only[runDs]
 | .col k::m,H,H',n,h=>by
  simp only[unmark]at h
  split at h
  ·rename_i hk;simp only[runDs,hk];exact runDs_unmark h
  cases h
 | .fn _ _::m,H,H',n,h=>by simp[unmark]at h
@[simp] theorem unmark_nil:unmark [] H=some H:=Eq.trans rfl rfl
def rTmp (t:Nat):Fr->Hp->Option AV:=λ F _=>(slotG t).f F
def vE (r:ERes):Option AV:=match r with
 | .val v=>some v
 | _=>none
@[simp] theorem vE_val (v:AV):vE (.val v)=some v:=Eq.trans rfl rfl
def rCelN (a k:Nat):Fr->Hp->Option AV:=λ F H=>match (slotG a).f F with
 | some v=>match cLoadN k v H with
  | .val v=>some v
  | _=>none
 | none=>none
def rCel1 (a:Nat):Fr->Hp->Option AV:=λ F H=>match (slotG a).f F with
 | some v=>match cLoad1 v H with
  | .val v=>some v
  | _=>none
 | none=>none
variable {F:Fr}
@[simp] theorem evR_nil:evR F H []=some []:=Eq.trans rfl rfl
@[simp] theorem evR_cons (x:Fr->Hp->Option AV)(r:List (Fr->Hp->Option AV)):evR F H (x::r)=(x F H).bind λ v=>(evR F H r).bind λ l=>some (v::l):=by
 rw[evR]
 cases x F H with
 | none=>rfl
 | some a=>cases evR F H r<;>rfl
@[simp] theorem rTmp_f (t:Nat):rTmp t F H=F.get t:=by simp[rTmp]
@[simp] theorem rCelN_f (a k:Nat):rCelN a k F H=(F.get a).bind λ v=>vE (cLoadN k v H):=by
 simp only[rCelN,slotG_f]
 cases F.get a with
 | none=>rfl
 | some v=>dsimp only [Option.bind];cases cLoadN k v H<;>rfl
@[simp] theorem rCel1_f (a:Nat):rCel1 a F H=(F.get a).bind λ v=>vE (cLoad1 v H):=by
 simp only[rCel1,slotG_f]
 cases F.get a with
 | none=>rfl
 | some v=>dsimp only [Option.bind];cases cLoad1 v H<;>rfl
@[simp] theorem retV_one (v:AV):retV [v]=v:=Eq.trans rfl rfl
@[simp] theorem retV_nil:retV []=.tup []:=Eq.trans rfl rfl
@[simp] theorem retV_two (v u:AV)(l:List AV):retV (v::u::l)=.tup (v::u::l):=Eq.trans rfl rfl
end
section
variable {P:Program}{ce:Ce}
@[simp] theorem putAll_nil {α:Type}(i:Nat)(t:Tr α):Tr.putAll [] i t=t:=Eq.trans rfl rfl
theorem enter {g:FuncId}{af:AF}{args:List AV}{H:Hp}{n:Nat}{R:AV->Hp->Nat->Prop}(h:compF P g=some af) (hl:args.length<=af.nt)
  (hb:∀F:Fr,(∀i,F.get i=args[i]?)->Ev (af.code.f ce F H n []) (RetQ af.res R)):EvC (fnCall P ce g args H n) R:=by
 unfold fnCall;rw[h];dsimp only;rw[lenAcc_zero,Nat.ble_eq_true_of_le hl];dsimp only
 have:=hb (Tr.putAll args 0 .nil) λ i=>by
  rw[Tr.get_putAll]
  split
  ·simp
  rw[getElem?_eq_none (by omega)];rfl
 cases hr:af.code.f ce (Tr.putAll args 0 .nil) H n []with
 | fail=>rw[hr]at this;exact this
 | mk o F1 H1 n1 m1 =>
  rw[hr]at this
  have key:(o=.normal∨o=.ret)->EvC (leave2 af.res F1 (runDs ce m1 .ret H1 n1)) R:=by
   intro ho
   have:OpB (unmark m1 H1) λ H'=>OpB (evR F1 H' af.res) λ vs=>R (retV vs) H' n1:=by
    rcases ho with rfl | rfl
    ·simpa using this
    simpa using this
   cases hu:unmark m1 H1 with
   | none=>rw[hu]at this;exact absurd this id
   | some H2 =>
    rw[hu]at this;rw[runDs_unmark hu];unfold leave2;dsimp only;simp only[opB_some]at this
    cases he:evR F1 H2 af.res with
    | none=>rw[he]at this;exact this
    | some vs=>rw[he]at this;exact this
  cases o with
  | normal=>exact key (.inl rfl)
  | ret=>exact key (.inr rfl)
  | exit i=>exact this
  | panic v=>exact absurd this id
end
end Go.Abs
namespace Go.Abs
open List
inductive KO where
 | eff (e:Eff)
 | call (g:G) (as:List G)
 | bad
 | flt (e:Eff)
 | raw (f:Pd->K->K)
structure GO where
 g:Option (G×Bool)
 pd:Pd
 op:KO
def inO (pd:Pd)(o:KO)(next:K):K:=match o with
 | .eff e=>opK pd e next
 | .call g as=>callK pd g as next
 | .bad=>failK
 | .flt _=>failK
 | .raw f=>f pd next
def goK (o:Option GO)(next:K):K:=match o with
 | some ⟨none,pd,k⟩=>inO pd k next
 | some ⟨some (g,b),pd,k⟩=>guardK g b (inO pd k next) (nopK pd next)
 | none=>failK
def mkK:List (Option GO)->K
 | []=>endK
 | o::r=>goK o (mkK r)
def koOf (P:Program) (o:Oper):KO:=match o.op with
 | .call {callee:=.value f,args,argTypes:=_}=>match compOp P o with
  | some e=>.eff e
  | none=>match opd f,opds args.toList with
   | some g,some as=>.call g as
   | _,_=>.bad
 | .call {callee:=.invoke x name,args,argTypes:=_}=>match opd x,opds args.toList with
  | some g,some as=>.call (invG P name g) as
  | _,_=>.bad
 | .panic x=>match opd x with
  | some g=>.raw λ _ _=>panicK g
  | none=>.bad
 | .defer {callee:=.value f,args,argTypes:=_}=>match opd f,opds args.toList with
  | some g,some as=>.raw λ pd next=>deferK pd g as next
  | _,_=>.bad
 | _=>match compOp P o with
  | some e=>.eff e
  | none=>.bad
def koM (P:Program) (o:Oper):KO:=match o.op with
 | .call {callee:=.value f,args,argTypes:=_}=>match compOp P o with
  | some e=>.eff e
  | none=>match opd f,opds args.toList with
   | some g,some as=>.call g as
   | _,_=>.bad
 | .call {callee:=.invoke x name,args,argTypes:=_}=>match opd x,opds args.toList with
  | some g,some as=>.call (invG P name g) as
  | _,_=>.bad
 | _=>match compOp P o with
  | some e=>.eff e
  | none=>.bad
def goOf (P:Program) (nt:Nat) (ops:Array Oper) (o:Oper):Option GO:=match compPd nt o.dst with
 | none=>none
 | some pd=>match o.guard with
  | none=>some ⟨none,pd,koOf P o⟩
  | some (j,b)=>match (ops[j]?).bind (·.dst)with
   | some d=>some ⟨some (slotG d,b),pd,koOf P o⟩
   | none=>none
theorem compIn_eq (P:Program)(pd:Pd)(o:Oper)(next:K):compIn P pd o next=inO pd (koOf P o) next:=by
 unfold compIn koOf
 split
 ·rename_i ho;rw[ho]
  cases compOp P o with
  | some e=>rfl
  | none=>dsimp only;split<;>simp_all [inO]
 ·split<;>simp_all [inO]
 ·split<;>simp_all [inO]
 ·split<;>simp_all [inO]
 split<;>simp_all [inO]
theorem compOne_eq (P:Program)(nt:Nat)(ops:Array Oper)(o:Oper)(next:K):compOne P nt ops o next=goK (goOf P nt ops o) next:=by
 unfold compOne goOf
 cases compPd nt o.dst with
 | none=>rfl
 | some pd =>
  dsimp only
  cases o.guard with
  | none=>exact compIn_eq ..
  | some x =>
   obtain⟨j,b⟩:=x;dsimp only
   cases (ops[j]?).bind (·.dst)with
   | none=>rfl
   | some d=>simp only[goK,compIn_eq]
theorem compOps_eq (P:Program)(nt:Nat)(ops:Array Oper):∀l,compOps P nt ops l=mkK (l.map (goOf P nt ops))
 | []=>rfl
 | o::l=>by simp only[compOps,map_cons,mkK,compOne_eq,compOps_eq P nt ops l]
structure RO where
 rs:RS
 g:Option (G×Bool)
 pd:Pd
 op:KO
 cnt:Option Nat
def inRO (o:RO)(next:KR):KR:=match o.op,o.cnt with
 | .eff e,some c=>opR o.rs o.pd e c next
 | .eff e,none=>modR o.rs o.pd e next
 | .call g as,none=>callR o.rs o.pd g as next
 | .flt e,none=>fltR o.rs o.pd e next
 | _,_=>failR
def noRO (o:RO)(next:KR):KR:=match o.cnt with
 | some _=>nopR o.pd next
 | none=>nopM o.pd next
def roR (o:Option RO) (next:KR):KR:=match o with
 | some o=>match o.g with
  | none=>inRO o next
  | some (g,b)=>guardR o.rs g b (inRO o next) (noRO o next)
 | none=>failR
def mkR:List (Option RO)->KR
 | []=>endR
 | o::r=>roR o (mkR r)
def roOf (_P:Program) (nt:Nat) (ops:Array Oper) (i:Nat) (k:Oper->KO) (cnt:Option Nat):Option RO:=match ops[i]? with
 | some o=>match compPd nt o.dst with
  | some pd=>match o.guard with
   | none=>some ⟨rsOf (slotsOf ops o),none,pd,k o,cnt⟩
   | some (j,b)=>match (ops[j]?).bind (·.dst)with
    | some d=>some ⟨rsOf (slotsOf ops o),some (slotG d,b),pd,k o,cnt⟩
    | none=>none
  | none=>none
 | none=>none
def koR (P:Program)(o:Oper):KO:=match compOp P o with
 | some e=>.eff e
 | none=>.bad
def koF (P:Program) (o:Oper):KO:=match o.op with
 | .store _ _ _=>match compOp P o with
  | some e=>.flt e
  | none=>.bad
 | _=>.bad
def roF (P:Program) (nt:Nat) (ops:Array Oper) (i:Nat):Option RO:=match ops[i]? with
 | some o=>match compPd nt o.dst with
  | some pd=>match o.guard with
   | none=>some ⟨rsOf (slotsOf ops o),none,pd,koF P o,none⟩
   | some _=>none
  | none=>none
 | none=>none
def ritems (P:Program)(nt:Nat)(ops:Array Oper):List PItem->Nat->List (Option RO)
 | [],_=>[]
 | .op i e::l,j=>roOf P nt ops i (koR P) (some (Nat.succ (Nat.sub j e)))::ritems P nt ops l j
 | .mod i::l,j=>roOf P nt ops i (koM P) none::ritems P nt ops l (Nat.succ j)
 | .pur i::l,j=>roOf P nt ops i (koR P) (some 0)::ritems P nt ops l j
 | .flt i::l,j=>roF P nt ops i::ritems P nt ops l j
theorem inF_eq (P:Program)(rs:RS)(pd:Pd)(o:Oper)(next:KR)(g:Option (G×Bool)):inF P rs pd o next=inRO ⟨rs,g,pd,koF P o,none⟩ next:=by
 unfold inF inRO koF;dsimp only
 split
 ·split<;>simp_all
 split<;>simp_all
theorem inR_eq (P:Program)(rs:RS)(pd:Pd)(o:Oper)(c:Nat)(next:KR)(g:Option (G×Bool)):inR P rs pd o c next=inRO ⟨rs,g,pd,koR P o,some c⟩ next:=by
 unfold inR inRO koR
 cases compOp P o<;>rfl
theorem inM_eq (P:Program)(rs:RS)(pd:Pd)(o:Oper)(next:KR)(g:Option (G×Bool)):inM P rs pd o next=inRO ⟨rs,g,pd,koM P o,none⟩ next:=by
 unfold inM inRO koM;dsimp only
 split
 ·rename_i ho;rw[ho]
  cases compOp P o with
  | some e=>rfl
  | none=>dsimp only;split<;>simp_all
 ·split<;>simp_all
 split<;>simp_all
theorem compR_eq (P:Program) (nt:Nat) (ops:Array Oper):∀l j,compR P nt ops l j=mkR (ritems P nt ops l j)
 | [],_=>rfl
 | .op i e::l,j=>by
  simp only[compR,ritems,mkR,roOf]
  cases ops[i]? with
  | none=>rfl
  | some o =>
   dsimp only
   cases compPd nt o.dst with
   | none=>rfl
   | some pd =>
    dsimp only [guarded]
    cases o.guard with
    | none=>dsimp only [roR];rw[compR_eq P nt ops l j,inR_eq (g:=none)]
    | some x =>
     obtain⟨q,b⟩:=x;dsimp only
     cases (ops[q]?).bind (·.dst)with
     | none=>rfl
     | some d=>dsimp only [roR,noRO];rw[compR_eq P nt ops l j,inR_eq (g:=some (slotG d,b))]
 | .mod i::l,j=>by
  simp only[compR,ritems,mkR,roOf]
  cases ops[i]? with
  | none=>rfl
  | some o =>
   dsimp only
   cases compPd nt o.dst with
   | none=>rfl
   | some pd =>
    dsimp only [guarded]
    cases o.guard with
    | none=>dsimp only [roR];rw[compR_eq P nt ops l (Nat.succ j),inM_eq (g:=none)]
    | some x =>
     obtain⟨q,b⟩:=x;dsimp only
     cases (ops[q]?).bind (·.dst)with
     | none=>rfl
     | some d=>dsimp only [roR,noRO];rw[compR_eq P nt ops l (Nat.succ j),inM_eq (g:=some (slotG d,b))]
 | .pur i::l,j=>by
  simp only[compR,ritems,mkR,roOf]
  cases ops[i]? with
  | none=>rfl
  | some o =>
   dsimp only
   cases compPd nt o.dst with
   | none=>rfl
   | some pd =>
    dsimp only [guarded]
    cases o.guard with
    | none=>dsimp only [roR];rw[compR_eq P nt ops l j,inR_eq (g:=none)]
    | some x =>
     obtain⟨q,b⟩:=x;dsimp only
     cases (ops[q]?).bind (·.dst)with
     | none=>rfl
     | some d=>dsimp only [roR,noRO];rw[compR_eq P nt ops l j,inR_eq (g:=some (slotG d,b))]
 | .flt i::l,j=>by
  simp only[compR,ritems,mkR,roF]
  cases ops[i]? with
  | none=>rfl
  | some o =>
   dsimp only
   cases compPd nt o.dst with
   | none=>rfl
   | some pd =>
    dsimp only
    cases o.guard with
    | none=>dsimp only [roR];rw[compR_eq P nt ops l j,inF_eq (g:=none)]
    | some x=>rfl
inductive CT where
 | reg (l:List (Option GO))
 | drw (ds:List Nat) (l:List (Option RO))
 | seq (a b:CT)
 | cond (g:G) (a b:CT)
 | block (i:Nat) (b:CT)
 | loop (b:CT)
 | exit (i:Nat)
 | ret
 | skip
 | range (nt:Nat) (g:G) (ps:List Nat) (a b:Code)
 | bad
 | raw (k:K)
def kOf:CT->K
 | .reg l=>mkK l
 | .drw ds l=>drwK ds (mkR l)
 | .seq a b=>seqK (kOf a) (kOf b)
 | .cond g a b=>condK g (kOf a) (kOf b)
 | .block i b=>blockK i (kOf b)
 | .loop b=>loopK (kOf b)
 | .exit i=>exitK i
 | .ret=>retK
 | .skip=>endK
 | .range nt g ps a b=>rangeK nt g ps a b
 | .bad=>failK
 | .raw k=>k
def regT (P:Program)(nt:Nat)(ops:Array Oper)(pl:List PItem)(ok:Bool):CT:=match ok with
 | true=>.drw (dstsOf ops.toList) (ritems P nt ops pl 0)
 | false=>.bad
theorem regK_eq (P:Program)(nt:Nat)(ops:Array Oper)(pl:List PItem)(ok:Bool):regK P nt ops pl ok=kOf (regT P nt ops pl ok):=by
 cases ok with
 | false=>rfl
 | true=>simp only[regK,regT,kOf,drwK,compR_eq]
def ctOf (P:Program) (nt:Nat) (rd:Bool):Code->CT
 | .skip=>.skip
 | .region _ ops d=>bif d then (bif P.follows .mixedOrders then regT P nt ops (plan (ancT ops.toList 0 .nil) ops.toList) (planAll (ancT ops.toList 0 .nil) ops (plan (ancT ops.toList 0 .nil) ops.toList))else .bad)else (bif rd&&anyDefer ops.toList then .bad else .reg (ops.toList.map (goOf P nt ops)))
 | .seq a b=>.seq (ctOf P nt rd a) (ctOf P nt rd b)
 | .cond c a b=>match opd c with
  | some x=>.cond x (ctOf P nt rd a) (ctOf P nt rd b)
  | none=>.bad
 | .block id b=>.block id (ctOf P nt rd b)
 | .loop (.seq a rest)=>match mapHd a with
  | some (x,d,ops,os)=>bif rd&&anyDefer os then .bad else .raw (mapK P nt x d ops os (comp P nt rd rest))
  | none=>.loop (.seq (ctOf P nt rd a) (ctOf P nt rd rest))
 | .loop b=>.loop (ctOf P nt rd b)
 | .exit id=>.exit id
 | .ret=>.ret
 | .scope b=>ctOf P nt rd b
 | .label _=>.skip
 | .rangeFunc f ps a b=>match opd f with
  | some x=>bif rd then .bad else .range nt x ps.toList a b
  | none=>.bad
 | _=>.bad
theorem comp_eq (P:Program)(nt:Nat)(rd:Bool):∀c,comp P nt rd c=kOf (ctOf P nt rd c)
 | .skip=>rfl
 | .region _ ops d=>by
  simp only[comp,ctOf,drawK,regK_eq,compOps_eq]
  cases d with
  | false=>simp only[cond_false];cases (rd&&anyDefer ops.toList)<;>rfl
  | true=>simp only[cond_true];cases P.follows .mixedOrders<;>rfl
 | .seq a b=>by simp only[comp,ctOf,kOf,comp_eq P nt rd a,comp_eq P nt rd b]
 | .cond c a b=>by simp only[comp,ctOf,comp_eq P nt rd a,comp_eq P nt rd b];cases opd c<;>rfl
 | .block id b=>by simp only[comp,ctOf,kOf,comp_eq P nt rd b]
 | .loop b=>by
  have ib:=comp_eq P nt rd b
  cases b with
  | seq a rest =>
   simp only[comp,ctOf];simp only[comp,ctOf,kOf]at ib
   cases mapHd a with
   | none=>simp only[kOf,ib]
   | some y=>obtain⟨x,d,ops,os⟩:=y;dsimp only;cases (rd&&anyDefer os)<;>rfl
  | _=>simp only[comp,ctOf,kOf,ib]<;>(try simp only[comp,ctOf,kOf]at ib;simp only[ib])
 | .exit id=>rfl
 | .ret=>rfl
 | .rangeFunc f ps a b=>by
  simp only[comp,ctOf]
  cases opd f with
  | none=>rfl
  | some x=>dsimp only;cases rd<;>rfl
 | .scope b=>by simp only[comp,ctOf,comp_eq P nt rd b]
 | .label _=>rfl
 | .goto _=>rfl
 | .refuse _=>rfl
structure CF where
 res:List (Fr->Hp->Option AV)
 code:CT
 nt:Nat
def ctF (P:Program)(g:FuncId):Option CF:=match P.funcs[g]? with
 | some fn=>match fn.body with
  | some b => match fn.name == "runtime.NumGoroutine" with
   | true=>none
   | false=>match getRes P fn.results.toList with
    | some r=>some {res:=r,code:=ctOf P fn.ntmps false b,nt:=fn.ntmps}
    | none=>none
  | none=>none
 | none=>none
section
variable {ce:Ce}{F:Fr}{H:Hp}{n:Nat}{m:List Dm}{Q:QA}{Hs:List Hp}
@[simp] theorem kOf_reg (l:List (Option GO)):kOf (.reg l)=mkK l:=Eq.trans rfl rfl
@[simp] theorem kOf_drw (ds:List Nat)(l:List (Option RO)):kOf (.drw ds l)=drwK ds (mkR l):=Eq.trans rfl rfl
@[simp] theorem kOf_seq (a b:CT):kOf (.seq a b)=seqK (kOf a) (kOf b):=Eq.trans rfl rfl
@[simp] theorem kOf_cond (g:G)(a b:CT):kOf (.cond g a b)=condK g (kOf a) (kOf b):=Eq.trans rfl rfl
@[simp] theorem kOf_block (i:Nat)(b:CT):kOf (.block i b)=blockK i (kOf b):=Eq.trans rfl rfl
@[simp] theorem kOf_loop (b:CT):kOf (.loop b)=loopK (kOf b):=Eq.trans rfl rfl
@[simp] theorem kOf_exit (i:Nat):kOf (.exit i)=exitK i:=Eq.trans rfl rfl
@[simp] theorem kOf_ret:kOf .ret=retK:=Eq.trans rfl rfl
@[simp] theorem kOf_skip:kOf .skip=endK:=Eq.trans rfl rfl
def oP (pd:Pd)(e:Eff):Option GO:=some ⟨none,pd,.eff e⟩
def gP (g:G)(b:Bool)(pd:Pd)(e:Eff):Option GO:=some ⟨some (g,b),pd,.eff e⟩
def cP (pd:Pd)(f:FuncId)(as:List G):Option GO:=some ⟨none,pd,.call (constG (.fn (.func f) [] [])) as⟩
def gcP (g:G)(b:Bool)(pd:Pd)(f:FuncId)(as:List G):Option GO:=some ⟨some (g,b),pd,.call (constG (.fn (.func f) [] [])) as⟩
def vP (pd:Pd)(g:G)(as:List G):Option GO:=some ⟨none,pd,.call g as⟩
@[simp] theorem ev_mkNil:Ev ((mkK []).f ce F H n m) Q=Q .normal F H n m:=propext Iff.rfl
def EvO (x:ERes)(pd:Pd)(r:List (Option GO))(ce:Ce)(F:Fr)(H:Hp)(n:Nat)(m:List Dm)(Q:QA):Prop:=EvE x H n λ v H' n'=>Ev ((mkK r).f ce (pd.f v F) H' n' m) Q
def CalO (x:CRes)(pd:Pd)(r:List (Option GO))(ce:Ce)(F:Fr)(m:List Dm)(Q:QA):Prop:=EvC x λ v H' n'=>Ev ((mkK r).f ce (pd.f v F) H' n' m) Q
def ArgO (vs:Option (List AV))(f:FuncId)(pd:Pd)(r:List (Option GO))(ce:Ce)(F:Fr)(H:Hp)(n:Nat)(m:List Dm)(Q:QA):Prop:=OpB vs λ vs=>CalO (ce.call f vs H n) pd r ce F m Q
def GrdO (v:Option AV)(b:Bool)(pd:Pd)(e:Eff)(r:List (Option GO))(ce:Ce)(F:Fr)(H:Hp)(n:Nat)(m:List Dm)(Q:QA):Prop:=GrdE v b (EvO (e F H n) pd r ce F H n m Q) (Ev ((mkK r).f ce (pd.f (.tup []) F) H n m) Q)
def GrcO (v:Option AV)(b:Bool)(pd:Pd)(f:FuncId)(as:List G)(r:List (Option GO))(ce:Ce)(F:Fr)(H:Hp)(n:Nat)(m:List Dm)(Q:QA):Prop:=GrdE v b (ArgO (evs F as) f pd r ce F H n m Q) (Ev ((mkK r).f ce (pd.f (.tup []) F) H n m) Q)
@[simp] theorem evO_fail (pd:Pd)(r:List (Option GO)):EvO .fail pd r ce F H n m Q=False:=propext Iff.rfl
@[simp] theorem evO_val (v:AV)(pd:Pd)(r:List (Option GO)):EvO (.val v) pd r ce F H n m Q=Ev ((mkK r).f ce (pd.f v F) H n m) Q:=propext Iff.rfl
@[simp] theorem evO_new (v:AV)(k:ABlk)(pd:Pd)(r:List (Option GO)):EvO (.new v k) pd r ce F H n m Q=Ev ((mkK r).f ce (pd.f v F) (H.put n (some k)) (n+1) m) Q:=propext Iff.rfl
@[simp] theorem evO_upd (v:AV)(b:Nat)(k:ABlk)(pd:Pd)(r:List (Option GO)):EvO (.upd v b k) pd r ce F H n m Q=Ev ((mkK r).f ce (pd.f v F) (H.put b (some k)) n m) Q:=propext Iff.rfl
@[simp] theorem evO_mv (v:AV)(b:Nat)(k:ABlk)(pd:Pd)(r:List (Option GO)):EvO (.mv v b k) pd r ce F H n m Q=Ev ((mkK r).f ce (pd.f v F) ((H.put b none).put n (some k)) (n+1) m) Q:=propext Iff.rfl
@[simp] theorem calO_mk (v:AV)(H':Hp)(n':Nat)(pd:Pd)(r:List (Option GO)):CalO (.mk v H' n') pd r ce F m Q=Ev ((mkK r).f ce (pd.f v F) H' n' m) Q:=propext Iff.rfl
@[simp] theorem argO_some (vs:List AV)(f:FuncId)(pd:Pd)(r:List (Option GO)):ArgO (some vs) f pd r ce F H n m Q=CalO (ce.call f vs H n) pd r ce F m Q:=propext Iff.rfl
@[simp] theorem grdO_t (pd:Pd)(e:Eff)(r:List (Option GO)):GrdO (some (.bool true)) true pd e r ce F H n m Q=EvO (e F H n) pd r ce F H n m Q:=propext Iff.rfl
@[simp] theorem grdO_f (pd:Pd)(e:Eff)(r:List (Option GO)):GrdO (some (.bool false)) true pd e r ce F H n m Q=Ev ((mkK r).f ce (pd.f (.tup []) F) H n m) Q:=propext Iff.rfl
@[simp] theorem grdO_t' (pd:Pd)(e:Eff)(r:List (Option GO)):GrdO (some (.bool true)) false pd e r ce F H n m Q=Ev ((mkK r).f ce (pd.f (.tup []) F) H n m) Q:=propext Iff.rfl
@[simp] theorem grdO_f' (pd:Pd)(e:Eff)(r:List (Option GO)):GrdO (some (.bool false)) false pd e r ce F H n m Q=EvO (e F H n) pd r ce F H n m Q:=propext Iff.rfl
@[simp] theorem grdO_tup (l:List AV)(b:Bool)(pd:Pd)(e:Eff)(r:List (Option GO)):GrdO (some (.tup l)) b pd e r ce F H n m Q=Ev ((mkK r).f ce (pd.f (.tup []) F) H n m) Q:=propext Iff.rfl
@[simp] theorem grcO_t (pd:Pd)(f:FuncId)(as:List G)(r:List (Option GO)):GrcO (some (.bool true)) true pd f as r ce F H n m Q=ArgO (evs F as) f pd r ce F H n m Q:=propext Iff.rfl
@[simp] theorem grcO_f (pd:Pd)(f:FuncId)(as:List G)(r:List (Option GO)):GrcO (some (.bool false)) true pd f as r ce F H n m Q=Ev ((mkK r).f ce (pd.f (.tup []) F) H n m) Q:=propext Iff.rfl
@[simp] theorem grcO_t' (pd:Pd)(f:FuncId)(as:List G)(r:List (Option GO)):GrcO (some (.bool true)) false pd f as r ce F H n m Q=Ev ((mkK r).f ce (pd.f (.tup []) F) H n m) Q:=propext Iff.rfl
@[simp] theorem grcO_f' (pd:Pd)(f:FuncId)(as:List G)(r:List (Option GO)):GrcO (some (.bool false)) false pd f as r ce F H n m Q=ArgO (evs F as) f pd r ce F H n m Q:=propext Iff.rfl
@[simp] theorem grcO_tup (l:List AV)(b:Bool)(pd:Pd)(f:FuncId)(as:List G)(r:List (Option GO)):GrcO (some (.tup l)) b pd f as r ce F H n m Q=Ev ((mkK r).f ce (pd.f (.tup []) F) H n m) Q:=propext Iff.rfl
@[simp] theorem ev_oP (pd:Pd)(e:Eff)(r:List (Option GO)):Ev ((mkK (oP pd e::r)).f ce F H n m) Q=EvO (e F H n) pd r ce F H n m Q:=ev_op pd e (mkK r)
@[simp] theorem ev_gP (g:G)(b:Bool)(pd:Pd)(e:Eff)(r:List (Option GO)):Ev ((mkK (gP g b pd e::r)).f ce F H n m) Q=GrdO (g.f F) b pd e r ce F H n m Q:=ev_gop g b pd e (mkK r)
@[simp] theorem ev_cP (pd:Pd)(f:FuncId)(as:List G)(r:List (Option GO)):Ev ((mkK (cP pd f as::r)).f ce F H n m) Q=ArgO (evs F as) f pd r ce F H n m Q:=ev_cal pd f as (mkK r)
@[simp] theorem ev_gcP (g:G)(b:Bool)(pd:Pd)(f:FuncId)(as:List G)(r:List (Option GO)):Ev ((mkK (gcP g b pd f as::r)).f ce F H n m) Q=GrcO (g.f F) b pd f as r ce F H n m Q:=ev_gcal g b pd f as (mkK r)
theorem ev_vP {pd:Pd}{g:G}{as:List G}{r:List (Option GO)}{f:FuncId}{first cap vs:List AV}(hg:g.f F=some (.fn (.func f) first cap))(ha:evs F as=some vs):
  Ev ((mkK (vP pd g as::r)).f ce F H n m) Q=CalO (ce.call f (first++(vs++cap)) H n) pd r ce F m Q:=ev_calV hg ha
theorem allVal_one (e:Eff)(F:Fr)(n:Nat)(A:Hp)(As:List Hp):allVal e F n 1 (A::As)=vE (e F A n):=by
 simp only[allVal];unfold vE
 cases e F A n<;>rfl
def eqA (v:AV)(u:Option AV):Option AV:=u.bind λ u=>if avEq v u=true then some u else none
theorem allVal_two (e:Eff)(F:Fr)(n k:Nat)(A:Hp)(As:List Hp):allVal e F n (k+2) (A::As)=(vE (e F A n)).bind λ v=>eqA v (allVal e F n (k+1) As):=by
 rw[allVal];unfold vE eqA
 cases e F A n with
 | val v =>
  dsimp only [Option.bind]
  cases allVal e F n (k+1) As with
  | none=>rfl
  | some u=>dsimp only;cases avEq v u<;>rfl
 | _=>rfl
@[simp] theorem allVal_1 (e:Eff)(F:Fr)(n:Nat)(A:Hp)(As:List Hp):allVal e F n 1 (A::As)=vE (e F A n):=allVal_one e F n A As
@[simp] theorem allVal_2 (e:Eff)(F:Fr)(n:Nat)(A B:Hp)(As:List Hp):allVal e F n 2 (A::B::As)=(vE (e F A n)).bind λ v=>eqA v (vE (e F B n)):=by rw[allVal_two e F n 0,allVal_one]
@[simp] theorem allVal_3 (e:Eff)(F:Fr)(n:Nat)(A B C:Hp)(As:List Hp):allVal e F n 3 (A::B::C::As)=(vE (e F A n)).bind λ v=>eqA v ((vE (e F B n)).bind λ v=>eqA v (vE (e F C n))):=by rw[allVal_two e F n 1,allVal_two e F n 0,allVal_one]
@[simp] theorem eqA_self (v:AV):eqA v (some v)=some v:=by simp[eqA,avEq_self]
def oI (rs:List Nat)(pd:Pd)(e:Eff)(c:Nat):Option RO:=some ⟨rsOf rs,none,pd,.eff e,some c⟩
def mI (rs:List Nat)(pd:Pd)(e:Eff):Option RO:=some ⟨rsOf rs,none,pd,.eff e,none⟩
def cI (rs:List Nat)(pd:Pd)(f:FuncId)(as:List G):Option RO:=some ⟨rsOf rs,none,pd,.call (constG (.fn (.func f) [] [])) as,none⟩
def goI (rs:List Nat)(g:G)(b:Bool)(pd:Pd)(e:Eff)(c:Nat):Option RO:=some ⟨rsOf rs,some (g,b),pd,.eff e,some c⟩
def gmI (rs:List Nat)(g:G)(b:Bool)(pd:Pd)(e:Eff):Option RO:=some ⟨rsOf rs,some (g,b),pd,.eff e,none⟩
def gcI (rs:List Nat)(g:G)(b:Bool)(pd:Pd)(f:FuncId)(as:List G):Option RO:=some ⟨rsOf rs,some (g,b),pd,.call (constG (.fn (.func f) [] [])) as,none⟩
def fI (rs:List Nat)(pd:Pd)(e:Eff):Option RO:=some ⟨rsOf rs,none,pd,.flt e,none⟩
def vI (rs:List Nat)(pd:Pd)(g:G)(as:List G):Option RO:=some ⟨rsOf rs,none,pd,.call g as,none⟩
@[simp] theorem ev_mkRNil:Ev ((mkR []).f ce F H Hs n m) Q=Q .normal F H n m:=propext Iff.rfl
def EvI (x:ERes)(pd:Pd)(r:List (Option RO))(ce:Ce)(F:Fr)(H:Hp)(Hs:List Hp)(n:Nat)(m:List Dm)(Q:QA):Prop:=EvE x H n λ v H' n'=>Ev ((mkR r).f ce (pd.f v F) H' (H'::Hs) n' m) Q
def ErI (x:ERes)(e:Eff)(c:Nat)(F0:Fr)(pd:Pd)(r:List (Option RO))(ce:Ce)(F:Fr)(H:Hp)(Hs:List Hp)(n:Nat)(m:List Dm)(Q:QA):Prop:=match x with
 | .val v=>Ev ((mkR r).f ce (pd.f v F) H Hs n m) Q
 | .new v b=>if noneAt n Hs=true then Ev ((mkR r).f ce (pd.f v F) (H.put n (some b)) Hs (n+1) m) Q else False
 | .fail=>OpB (allVal e F0 n c Hs) λ v=>Ev ((mkR r).f ce (pd.f v F) H Hs n m) Q
 | _=>False
def AvI (x:Option AV)(pd:Pd)(r:List (Option RO))(ce:Ce)(F:Fr)(H:Hp)(Hs:List Hp)(n:Nat)(m:List Dm)(Q:QA):Prop:=OpB x λ v=>Ev ((mkR r).f ce (pd.f v F) H Hs n m) Q
def CalI (x:CRes)(pd:Pd)(r:List (Option RO))(ce:Ce)(F:Fr)(Hs:List Hp)(m:List Dm)(Q:QA):Prop:=EvC x λ v H' n'=>Ev ((mkR r).f ce (pd.f v F) H' (H'::Hs) n' m) Q
def ArgI (vs:Option (List AV))(f:FuncId)(pd:Pd)(r:List (Option RO))(ce:Ce)(F:Fr)(H:Hp)(Hs:List Hp)(n:Nat)(m:List Dm)(Q:QA):Prop:=OpB vs λ vs=>CalI (ce.call f vs H n) pd r ce F Hs m Q
@[simp] theorem evI_fail (pd:Pd)(r:List (Option RO)):EvI .fail pd r ce F H Hs n m Q=False:=propext Iff.rfl
@[simp] theorem evI_val (v:AV)(pd:Pd)(r:List (Option RO)):EvI (.val v) pd r ce F H Hs n m Q=Ev ((mkR r).f ce (pd.f v F) H (H::Hs) n m) Q:=propext Iff.rfl
@[simp] theorem evI_new (v:AV)(k:ABlk)(pd:Pd)(r:List (Option RO)):EvI (.new v k) pd r ce F H Hs n m Q=Ev ((mkR r).f ce (pd.f v F) (H.put n (some k)) (H.put n (some k)::Hs) (n+1) m) Q:=propext Iff.rfl
@[simp] theorem evI_upd (v:AV)(b:Nat)(k:ABlk)(pd:Pd)(r:List (Option RO)):EvI (.upd v b k) pd r ce F H Hs n m Q=Ev ((mkR r).f ce (pd.f v F) (H.put b (some k)) (H.put b (some k)::Hs) n m) Q:=propext Iff.rfl
@[simp] theorem evI_mv (v:AV)(b:Nat)(k:ABlk)(pd:Pd)(r:List (Option RO)):EvI (.mv v b k) pd r ce F H Hs n m Q=Ev ((mkR r).f ce (pd.f v F) ((H.put b none).put n (some k)) ((H.put b none).put n (some k)::Hs) (n+1) m) Q:=propext Iff.rfl
@[simp] theorem erI_val (v:AV)(e:Eff)(c:Nat)(F0:Fr)(pd:Pd)(r:List (Option RO)):ErI (.val v) e c F0 pd r ce F H Hs n m Q=Ev ((mkR r).f ce (pd.f v F) H Hs n m) Q:=propext Iff.rfl
@[simp] theorem erI_new (v:AV)(k:ABlk)(e:Eff)(c:Nat)(F0:Fr)(pd:Pd)(r:List (Option RO)):ErI (.new v k) e c F0 pd r ce F H Hs n m Q=if noneAt n Hs=true then Ev ((mkR r).f ce (pd.f v F) (H.put n (some k)) Hs (n+1) m) Q else False:=propext Iff.rfl
@[simp] theorem erI_fail (e:Eff)(c:Nat)(F0:Fr)(pd:Pd)(r:List (Option RO)):ErI .fail e c F0 pd r ce F H Hs n m Q=AvI (allVal e F0 n c Hs) pd r ce F H Hs n m Q:=propext Iff.rfl
@[simp] theorem avI_some (v:AV)(pd:Pd)(r:List (Option RO)):AvI (some v) pd r ce F H Hs n m Q=Ev ((mkR r).f ce (pd.f v F) H Hs n m) Q:=propext Iff.rfl
@[simp] theorem calI_mk (v:AV)(H':Hp)(n':Nat)(pd:Pd)(r:List (Option RO)):CalI (.mk v H' n') pd r ce F Hs m Q=Ev ((mkR r).f ce (pd.f v F) H' (H'::Hs) n' m) Q:=propext Iff.rfl
@[simp] theorem argI_some (vs:List AV)(f:FuncId)(pd:Pd)(r:List (Option RO)):ArgI (some vs) f pd r ce F H Hs n m Q=CalI (ce.call f vs H n) pd r ce F Hs m Q:=propext Iff.rfl
@[simp] theorem ev_oI (rs:List Nat)(pd:Pd)(e:Eff)(c:Nat)(r:List (Option RO)):Ev ((mkR (oI rs pd e c::r)).f ce F H Hs n m) Q=ErI (e ((rsOf rs).f F) .nil n) e c ((rsOf rs).f F) pd r ce F H Hs n m Q:=by
 have:=ev_opR (ce:=ce) (F:=F) (H:=H) (Hs:=Hs) (n:=n) (m:=m) (Q:=Q) (rsOf rs) pd e c (mkR r);refine Eq.trans this ?_;unfold EvR ErI
 cases e ((rsOf rs).f F) .nil n<;>rfl
def FlI (x:ERes) (pd:Pd) (r:List (Option RO)) (ce:Ce) (F:Fr) (H B:Hp) (Hs:List Hp) (n:Nat) (m:List Dm) (Q:QA):Prop:=match x with
 | .upd v b k=>match B.get b with
  | some _=>Ev ((mkR r).f ce (pd.f v F) (H.put b (some k)) (B.put b none::Hs) n m) Q
  | none=>False
 | _=>False
@[simp] theorem flI_upd' (v:AV)(b:Nat)(k:ABlk)(pd:Pd)(r:List (Option RO))(B:Hp):FlI (.upd v b k) pd r ce F H B Hs n m Q=OpB (B.get b) λ _=>Ev ((mkR r).f ce (pd.f v F) (H.put b (some k)) (B.put b none::Hs) n m) Q:=by
 unfold FlI OpB;dsimp only;cases B.get b<;>rfl
@[simp] theorem flI_fail (pd:Pd)(r:List (Option RO))(B:Hp):FlI .fail pd r ce F H B Hs n m Q=False:=propext Iff.rfl
@[simp] theorem ev_fI (rs:List Nat)(pd:Pd)(e:Eff)(r:List (Option RO))(B:Hp):Ev ((mkR (fI rs pd e::r)).f ce F H (B::Hs) n m) Q=FlI (e ((rsOf rs).f F) B n) pd r ce F H B Hs n m Q:=by
 show Ev ((fltR (rsOf rs) pd e (mkR r)).f ce F H (B::Hs) n m) Q=_;simp only[fltR];unfold FlI
 cases e ((rsOf rs).f F) B n with
 | upd v b k=>dsimp only;cases B.get b<;>rfl
 | _=>rfl
@[simp] theorem ev_mI (rs:List Nat)(pd:Pd)(e:Eff)(r:List (Option RO)):Ev ((mkR (mI rs pd e::r)).f ce F H Hs n m) Q=EvI (e ((rsOf rs).f F) H n) pd r ce F H Hs n m Q:=ev_modR _ pd e (mkR r)
@[simp] theorem ev_cI (rs:List Nat)(pd:Pd)(f:FuncId)(as:List G)(r:List (Option RO)):Ev ((mkR (cI rs pd f as::r)).f ce F H Hs n m) Q=ArgI (evs ((rsOf rs).f F) as) f pd r ce F H Hs n m Q:=ev_calR _ pd f as (mkR r)
def GoI (v:Option AV)(b:Bool)(F0:Fr)(pd:Pd)(e:Eff)(c:Nat)(r:List (Option RO))(ce:Ce)(F:Fr)(H:Hp)(Hs:List Hp)(n:Nat)(m:List Dm)(Q:QA):Prop:=GrdE v b (ErI (e F0 .nil n) e c F0 pd r ce F H Hs n m Q) (Ev ((mkR r).f ce (pd.f (.tup []) F) H Hs n m) Q)
def GmI (v:Option AV)(b:Bool)(F0:Fr)(pd:Pd)(e:Eff)(r:List (Option RO))(ce:Ce)(F:Fr)(H:Hp)(Hs:List Hp)(n:Nat)(m:List Dm)(Q:QA):Prop:=GrdE v b (EvI (e F0 H n) pd r ce F H Hs n m Q) (Ev ((mkR r).f ce (pd.f (.tup []) F) H (H::Hs) n m) Q)
def GcI (v:Option AV)(b:Bool)(F0:Fr)(pd:Pd)(f:FuncId)(as:List G)(r:List (Option RO))(ce:Ce)(F:Fr)(H:Hp)(Hs:List Hp)(n:Nat)(m:List Dm)(Q:QA):Prop:=GrdE v b (ArgI (evs F0 as) f pd r ce F H Hs n m Q) (Ev ((mkR r).f ce (pd.f (.tup []) F) H (H::Hs) n m) Q)
theorem ev_guardR {rs:RS}{g:G}{b:Bool}{yes no:KR}:Ev ((guardR rs g b yes no).f ce F H Hs n m) Q=GrdE (g.f (rs.f F)) b (Ev (yes.f ce F H Hs n m) Q) (Ev (no.f ce F H Hs n m) Q):=by
 simp only[guardR];unfold GrdE
 cases g.f (rs.f F)with
 | none=>rfl
 | some v=>cases v with
  | bool x=>dsimp only;cases x == b<;>rfl
  | _=>rfl
theorem ev_goI0 (rs:List Nat)(g:G)(b:Bool)(pd:Pd)(e:Eff)(c:Nat)(r:List (Option RO)):Ev ((mkR (goI rs g b pd e c::r)).f ce F H Hs n m) Q=GrdE (g.f ((rsOf rs).f F)) b (Ev ((mkR (oI rs pd e c::r)).f ce F H Hs n m) Q) (Ev ((mkR r).f ce (pd.f (.tup []) F) H Hs n m) Q):=
 ev_guardR (ce:=ce) (F:=F) (H:=H) (Hs:=Hs) (n:=n) (m:=m) (Q:=Q) (rs:=rsOf rs) (g:=g) (b:=b) (yes:=opR (rsOf rs) pd e c (mkR r)) (no:=nopR pd (mkR r))
@[simp] theorem ev_goI (rs:List Nat)(g:G)(b:Bool)(pd:Pd)(e:Eff)(c:Nat)(r:List (Option RO)):Ev ((mkR (goI rs g b pd e c::r)).f ce F H Hs n m) Q=GoI (g.f ((rsOf rs).f F)) b ((rsOf rs).f F) pd e c r ce F H Hs n m Q:=by
 rw[ev_goI0,ev_oI];rfl
@[simp] theorem ev_gmI (rs:List Nat)(g:G)(b:Bool)(pd:Pd)(e:Eff)(r:List (Option RO)):Ev ((mkR (gmI rs g b pd e::r)).f ce F H Hs n m) Q=GmI (g.f ((rsOf rs).f F)) b ((rsOf rs).f F) pd e r ce F H Hs n m Q:=by
 have h1:=ev_guardR (ce:=ce) (F:=F) (H:=H) (Hs:=Hs) (n:=n) (m:=m) (Q:=Q) (rs:=rsOf rs) (g:=g) (b:=b) (yes:=modR (rsOf rs) pd e (mkR r)) (no:=nopM pd (mkR r));rw[ev_modR]at h1;exact h1
@[simp] theorem ev_gcI (rs:List Nat)(g:G)(b:Bool)(pd:Pd)(f:FuncId)(as:List G)(r:List (Option RO)):Ev ((mkR (gcI rs g b pd f as::r)).f ce F H Hs n m) Q=GcI (g.f ((rsOf rs).f F)) b ((rsOf rs).f F) pd f as r ce F H Hs n m Q:=by
 have h1:=ev_guardR (ce:=ce) (F:=F) (H:=H) (Hs:=Hs) (n:=n) (m:=m) (Q:=Q) (rs:=rsOf rs) (g:=g) (b:=b) (yes:=calR (rsOf rs) pd f as (mkR r)) (no:=nopM pd (mkR r));rw[ev_calR]at h1;exact h1
@[simp] theorem goI_t (F0:Fr)(pd:Pd)(e:Eff)(c:Nat)(r:List (Option RO)):GoI (some (.bool true)) true F0 pd e c r ce F H Hs n m Q=ErI (e F0 .nil n) e c F0 pd r ce F H Hs n m Q:=propext Iff.rfl
@[simp] theorem goI_f (F0:Fr)(pd:Pd)(e:Eff)(c:Nat)(r:List (Option RO)):GoI (some (.bool false)) true F0 pd e c r ce F H Hs n m Q=Ev ((mkR r).f ce (pd.f (.tup []) F) H Hs n m) Q:=propext Iff.rfl
@[simp] theorem goI_t' (F0:Fr)(pd:Pd)(e:Eff)(c:Nat)(r:List (Option RO)):GoI (some (.bool true)) false F0 pd e c r ce F H Hs n m Q=Ev ((mkR r).f ce (pd.f (.tup []) F) H Hs n m) Q:=propext Iff.rfl
@[simp] theorem goI_f' (F0:Fr)(pd:Pd)(e:Eff)(c:Nat)(r:List (Option RO)):GoI (some (.bool false)) false F0 pd e c r ce F H Hs n m Q=ErI (e F0 .nil n) e c F0 pd r ce F H Hs n m Q:=propext Iff.rfl
@[simp] theorem goI_tup (l:List AV)(b:Bool)(F0:Fr)(pd:Pd)(e:Eff)(c:Nat)(r:List (Option RO)):GoI (some (.tup l)) b F0 pd e c r ce F H Hs n m Q=Ev ((mkR r).f ce (pd.f (.tup []) F) H Hs n m) Q:=propext Iff.rfl
@[simp] theorem gmI_t' (F0:Fr)(pd:Pd)(e:Eff)(r:List (Option RO)):GmI (some (.bool true)) false F0 pd e r ce F H Hs n m Q=Ev ((mkR r).f ce (pd.f (.tup []) F) H (H::Hs) n m) Q:=propext Iff.rfl
@[simp] theorem gmI_f' (F0:Fr)(pd:Pd)(e:Eff)(r:List (Option RO)):GmI (some (.bool false)) false F0 pd e r ce F H Hs n m Q=EvI (e F0 H n) pd r ce F H Hs n m Q:=propext Iff.rfl
@[simp] theorem gcI_t' (F0:Fr)(pd:Pd)(f:FuncId)(as:List G)(r:List (Option RO)):GcI (some (.bool true)) false F0 pd f as r ce F H Hs n m Q=Ev ((mkR r).f ce (pd.f (.tup []) F) H (H::Hs) n m) Q:=propext Iff.rfl
@[simp] theorem gcI_f' (F0:Fr)(pd:Pd)(f:FuncId)(as:List G)(r:List (Option RO)):GcI (some (.bool false)) false F0 pd f as r ce F H Hs n m Q=ArgI (evs F0 as) f pd r ce F H Hs n m Q:=propext Iff.rfl
@[simp] theorem gmI_t (F0:Fr)(pd:Pd)(e:Eff)(r:List (Option RO)):GmI (some (.bool true)) true F0 pd e r ce F H Hs n m Q=EvI (e F0 H n) pd r ce F H Hs n m Q:=propext Iff.rfl
@[simp] theorem gmI_f (F0:Fr)(pd:Pd)(e:Eff)(r:List (Option RO)):GmI (some (.bool false)) true F0 pd e r ce F H Hs n m Q=Ev ((mkR r).f ce (pd.f (.tup []) F) H (H::Hs) n m) Q:=propext Iff.rfl
@[simp] theorem gcI_t (F0:Fr)(pd:Pd)(f:FuncId)(as:List G)(r:List (Option RO)):GcI (some (.bool true)) true F0 pd f as r ce F H Hs n m Q=ArgI (evs F0 as) f pd r ce F H Hs n m Q:=propext Iff.rfl
@[simp] theorem gcI_f (F0:Fr)(pd:Pd)(f:FuncId)(as:List G)(r:List (Option RO)):GcI (some (.bool false)) true F0 pd f as r ce F H Hs n m Q=Ev ((mkR r).f ce (pd.f (.tup []) F) H (H::Hs) n m) Q:=propext Iff.rfl
end
end Go.Abs
namespace Go.Abs
open List
section
variable {φ:Ph}{D:Da}{w:World}{n:Nat}
def FI (h:Hf)(v v':AV):Prop:=v=v'∨Frz h v v'
def BZ (h:Hf)(y0 y:ABlk):Prop:=y0=y∨∃u z bs t l,y0=.cells u z bs t/\y=.cells u [] l .nil/\l.length=u/\∀(i:Nat) v',l[i]?=some v'->∃v,getc u z bs t i=some v/\FI h v v'
structure Shuts (h:Hf)(F:Fr)(H:Hp)(F2:Fr)(H2:Hp):Prop where
 sub:∀b k,h b=some k->H.get b=some k
 gone:∀b,h b≠none->H2.get b=none
 fr:∀(t:Nat) v,F2.get t=some v->∃u,F.get t=some u/\FI h u v
 hp:∀b y,H2.get b=some y->∃y0,H.get b=some y0/\BZ h y0 y
theorem Shuts.refl (F:Fr)(H:Hp):Shuts (λ _=>none) F H F H:=
 ⟨λ b k h=>by simp at h,λ b h=>absurd rfl h,λ t v h=>⟨v,h,.inl rfl⟩,λ b y h=>⟨y,h,.inl rfl⟩⟩
theorem Rel.sub {h h':Hf}(hr:Rel φ D h w)(hs:∀b k,h' b=some k->h b=some k):Rel φ D h' w:=by
 have ne:∀b,h' b≠none->h b≠none:=λ b hb=>by
  cases hx:h' b with
  | none=>exact absurd hx hb
  | some k=>rw[hs b k hx];simp
 exact⟨λ b k hb=>hr.blk b k (hs b k hb),λ b c p q hb hc=>hr.inj b c p q (ne b hb) (ne c hc),λ b p hb=>hr.sep b p (ne b hb),hr.dat⟩
theorem FI.vr {h:Hf}(hr:Rel φ D h w){v v':AV}{x:Value}(hf:FI h v v')(hx:VR φ D v x):VR φ (shut φ D h w) v' x:=by
 rcases hf with rfl | hf
 ·exact hx.mono (λ _ _ h=>h) shut_le
 exact(hf.vr hr hx).mono (λ b p hb=>by simp[PhN]at hb) (λ _ _ h=>h)
theorem BZ.blkR {h:Hf}(hr:Rel φ D h w){y0 y:ABlk}(hz:BZ h y0 y) {p}(hb:BlkR φ D w p y0):BlkR φ (shut φ D h w) w p y:=by
 rcases hz with rfl | ⟨u,z,bs,t,l,rfl,rfl,hl,hz⟩
 ·exact hb.mono (λ _ _ h=>h) shut_le rfl
 obtain⟨c,e,fr,h1,h2,h3,h4,h5,h6⟩:=hb;refine⟨c,e,fr,h1,h2,h3,λ i v hv=>?_,λ _ _=>hl,h6⟩;rw[getc_list]at hv
 split at hv
 ·skip
  obtain⟨v0,h7,h8⟩:=hz i v hv;obtain⟨x,h9,h10⟩:=h4 i v0 h7;exact⟨x,h9,h8.vr hr h10⟩
 cases hv
theorem shut_none {h:Hf}{p:Nat×Nat×Nat}(hb:D p.1=none)(hn:∀b' p',h b'≠none->φ b'=some p'->p'.1≠p.1):shut φ D h w p.1=none:=by
 unfold shut;rw[hb];dsimp only;rw[if_neg];rintro⟨b',p',h1,h2,h3⟩;exact hn b' p' h1 h2 h3
theorem shut_new {h:Hf}{c:Nat}(hc:shut φ D h w c≠none):D c≠none∨∃b p,h b≠none/\φ b=some p/\p.1=c:=by
 unfold shut at hc
 split at hc
 ·rename_i x hx;exact .inl (by rw[hx];simp)
 split at hc
 ·rename_i hh;exact .inr hh
 exact absurd rfl hc
theorem Shuts.rel {h:Hf}{F F2:Fr}{H H2:Hp}(s:Shuts h F H F2 H2)(hr:Rel φ D H.get w):Rel φ (shut φ D h w) H2.get w:=by
 have hs:=hr.sub s.sub
 have ne:∀b,H2.get b≠none->H.get b≠none:=λ b hb=>by
  cases hx:H2.get b with
  | none=>exact absurd hx hb
  | some k=>obtain⟨y0,h0,_⟩:=s.hp b k hx;rw[h0];simp
 have neh:∀b,h b≠none->H.get b≠none:=λ b hb=>by
  cases hx:h b with
  | none=>exact absurd hx hb
  | some k=>rw[s.sub b k hx];simp
 refine⟨λ b k hb=>?_,λ b c p q hb hc=>hr.inj b c p q (ne b hb) (ne c hc),λ b p hb hp=>?_,shut_dat hr.dat⟩
 ·obtain⟨y0,h0,hz⟩:=s.hp b k hb;obtain⟨p,hp,hl,hk⟩:=hr.blk b y0 h0;exact⟨p,hp,hl,hz.blkR hs hk⟩
 refine shut_none (hr.sep b p (ne b hb) hp) λ b' p' h1 h2 h3=>?_;have:=hr.inj b' b p' p (neh b' h1) (ne b hb) h2 hp h3;subst this;exact hb (s.gone b' h1)
theorem Shuts.ext {h:Hf}{F F2:Fr}{H H2:Hp}(s:Shuts h F H F2 H2):Ext φ D H.get w n φ (shut φ D h w) H2.get w n:=by
 have ne:∀b,H2.get b≠none->H.get b≠none:=λ b hb=>by
  cases hx:H2.get b with
  | none=>exact absurd hx hb
  | some k=>obtain⟨y0,h0,_⟩:=s.hp b k hx;rw[h0];simp
 have neh:∀b,h b≠none->H.get b≠none:=λ b hb=>by
  cases hx:h b with
  | none=>exact absurd hx hb
  | some k=>rw[s.sub b k hx];simp
 refine⟨Nat.le_refl _,λ _ _ h=>h,λ b a c=>absurd a c,shut_le,Nat.le_refl _,λ _ _ _=>rfl,λ b p hb hp=>.inr ⟨b,p,ne b hb,hp,rfl⟩,λ c hc=>?_,λ b hb=>.inl (ne b hb),rfl,rfl⟩
 rcases shut_new hc with h1 | ⟨b,p,h1,h2,h3⟩
 ·exact .inl h1
 exact .inr (.inr ⟨b,p,neh b h1,h2,h3⟩)
theorem Shuts.st {h:Hf}{nt:Nat}{m:List Dm}{a:Act}{F F2:Fr}{H H2:Hp}(s:Shuts h F H F2 H2)(st:St nt φ D F H m a w):St nt φ (shut φ D h w) F2 H2 m a w:=
 ⟨s.rel st.rel,⟨λ t v hv=>by
  obtain⟨u,h1,h2⟩:=s.fr t v hv;obtain⟨x,h3,h4⟩:=st.fr.1 t u h1;exact⟨x,h3,h2.vr (st.rel.sub s.sub) h4⟩,st.fr.2.mono shut_le⟩,st.sz,st.mar.mono (λ _ _ h=>h) shut_le⟩
def Zs (I:Nat->Fr->Hp->Nat->List Dm->Prop)(k:Nat)(F:Fr)(H:Hp)(n:Nat)(m:List Dm):Prop:=∃h F2 H2,Shuts h F H F2 H2/\I k F2 H2 n m
theorem Zs.refl {I:Nat->Fr->Hp->Nat->List Dm->Prop}{k:Nat}{F:Fr}{H:Hp}{m:List Dm}(h:I k F H n m):Zs I k F H n m:=⟨_,F,H,Shuts.refl F H,h⟩
end
end Go.Abs
namespace Go.Abs
open List
def FrA (φ:Ph)(n:Nat):Prop:=∀b,n<=b->φ b=none
theorem FrA.fresh {φ:Ph}{n:Nat}(h:FrA φ n)(k:Nat):Fresh φ n k:=λ b hb _=>h b hb
theorem FrA.step {φ D h w n φ' D' h' w' n'}(hf:FrA φ n)(e:Ext φ D h w n φ' D' h' w' n'):FrA φ' n':=by
 intro b hb
 cases hx:φ' b with
 | none=>rfl
 | some p=>have:=e.new b (hf b (Nat.le_trans e.le hb)) (by rw[hx];simp);omega
section
variable {P:Program}
def CallR (P:Program) (g:FuncId) (args:List AV) (H:Hp) (n:Nat) (R:AV->Hp->Nat->Prop):Prop:=
 (∃ fn b, P.funcs[g]? = some fn ∧ fn.body = some b ∧ (fn.name == "runtime.NumGoroutine") = false) ∧
  ∀ φ D w xs,Rel φ D H.get w->VRs φ D args xs->FrA φ n->∀RR:Ending->World->Prop,
   (∀v H' n' φ' D' w' x,R v H' n'->Ext φ D H.get w n φ' D' H'.get w' n'->Rel φ' D' H'.get w'->VR φ' D' v x->RR (.returned x) w')->CallsIn Fence.wide 0 P g ⟨xs⟩ w RR
theorem CallR.mono {g:FuncId}{args:List AV}{H:Hp}{n:Nat}{R S:AV->Hp->Nat->Prop}(h:CallR P g args H n R)(hs:∀v H' n',R v H' n'->S v H' n'):CallR P g args H n S:=
 ⟨h.1,λ φ D w xs a b c RR hR=>h.2 φ D w xs a b c RR λ v H' n' φ' D' w' x r=>hR v H' n' φ' D' w' x (hs _ _ _ r)⟩
theorem CallOk.callR {g:FuncId}{args:List AV}{H:Hp}{n:Nat}{v:AV}{H':Hp}{n':Nat}(h:CallOk P g args H n v H' n'):CallR P g args H n (λ u K k=>u=v/\K=H'/\k=n'):=
 ⟨h.1,λ φ D w xs a b c RR hR=>h.2.2 φ D w xs a b (c.fresh _) RR λ φ' D' w' x e r k=>hR v H' n' φ' D' w' x ⟨rfl,rfl,rfl⟩ e r k⟩
def Wp (nt:Nat)(run:QT->Act->World->Prop)(F:Fr)(H:Hp)(n:Nat)(m:List Dm)(Q:QA):Prop:=
 ∀ φ D a w,St nt φ D F H m a w->FrA φ n->∀QQ:QT,(∀o F' H' n' m' φ' D' a' w' px,Q o F' H' n' m'->Ext φ D H.get w n φ' D' H'.get w' n'->St nt φ' D' F' H' m' a' w'->PanR φ' D' px o->QQ (exitOf px o) a' w')->run QQ a w
theorem Wp.shut {nt:Nat}{run:QT->Act->World->Prop}{h:Hf}{F F2:Fr}{H H2:Hp}{n:Nat}{m:List Dm}{Q:QA}(s:Shuts h F H F2 H2)(hw:Wp nt run F2 H2 n m Q):Wp nt run F H n m Q:=
 λ φ _D a w st hf QQ hQ=>hw φ _ a w (s.st st) hf QQ λ o F' H' n' m' φ' D' a' w' px q e=>hQ o F' H' n' m' φ' D' a' w' px q (s.ext.trans e)
def CodR (P:Program)(nt:Nat)(c:Code)(F:Fr)(H:Hp)(n:Nat)(Q:QA):Prop:=∀cb:Nat,Wp nt (λ QQ a w=>c.wpIn (FW (some cb)) 0 P QQ a w) F H n [] Q
def RndE (q:Nat)(R:AV->Hp->Nat->Prop)(j:AOut)(H3:Hp)(n3:Nat):Prop:=∃st nt G ps a b j0,H3.get q=some (.loop st j0 nt G ps a b)/\match j with
 | .normal=>R (.bool true) (H3.put q (some (.loop .ready .normal nt G ps a b))) n3
 | .exit i=>R (.bool false) (H3.put q (some (.loop .done (.exit i) nt G ps a b))) n3
 | .ret=>R (.bool false) (H3.put q (some (.loop .done .ret nt G ps a b))) n3
 | .panic _=>False
def YldR (P:Program) (q:Nat) (vs:List AV) (H:Hp) (n:Nat) (R:AV->Hp->Nat->Prop):Prop:=∃st j nt F0 ps a b F1,H.get q=some (.loop st j nt F0 ps a b)/\putsF nt ps vs F0=some F1 /\
 CodR P nt a F1 H n λ o F2 H2 n2 m2=>o=.normal/\m2=[]/\∃j2 nt2 G2 ps2 a2 b2,H2.get q=some (.loop .ready j2 nt2 G2 ps2 a2 b2) /\
  CodR P nt b F2 (H2.put q (some (.loop .busy j2 nt2 G2 ps2 a2 b2))) n2 λ j3 _ H3 n3 _=>RndE q R j3 H3 n3
def RngE (n:Nat)(F:Fr)(m:List Dm)(Q:QA)(H':Hp)(n':Nat):Prop:=∃st j nt G ps a b,H'.get n=some (.loop st j nt G ps a b)/\st≠.busy/\(∀v,j≠.panic v)/\Q j F (H'.put n none) n' (.col (Nat.succ n)::m)
def VCO (P:Program):List (Option GO)->Fr->Hp->Nat->List Dm->QA->Prop
 | [],F,H,n,m,Q=>Q .normal F H n m
 | none::_,_,_,_,_,_=>False
 | some ⟨none,pd,.eff e⟩::r,F,H,n,m,Q=>EvE (e F H n) H n λ v H' n'=>VCO P r (pd.f v F) H' n' m Q
 | some ⟨none,pd,.call g as⟩::r,F,H,n,m,Q=>(∃f first cap vs,g.f F=some (.fn (.func f) first cap)/\evs F as=some vs/\CallR P f (first++(vs++cap)) H n λ v H' n'=>VCO P r (pd.f v F) H' n' m Q) ∨
  (∃q vs,g.f F=some (.yld q)/\evs F as=some vs/\YldR P q vs H n λ v H' n'=>VCO P r (pd.f v F) H' n' m Q)
 | some ⟨none,_,.bad⟩::_,_,_,_,_,_=>False
 | some ⟨none,_,.flt _⟩::_,_,_,_,_,_=>False
 | some ⟨none,_,.raw _⟩::_,_,_,_,_,_=>False
 | some ⟨some (g,b),pd,.eff e⟩::r,F,H,n,m,Q=>GrdE (g.f F) b (EvE (e F H n) H n λ v H' n'=>VCO P r (pd.f v F) H' n' m Q) (VCO P r (pd.f (.tup []) F) H n m Q)
 | some ⟨some (g,b),pd,.call h as⟩::r,F,H,n,m,Q=>GrdE (g.f F) b ((∃f first cap vs,h.f F=some (.fn (.func f) first cap)/\evs F as=some vs/\CallR P f (first++(vs++cap)) H n λ v H' n'=>VCO P r (pd.f v F) H' n' m Q) ∨
  (∃q vs,h.f F=some (.yld q)/\evs F as=some vs/\YldR P q vs H n λ v H' n'=>VCO P r (pd.f v F) H' n' m Q)) (VCO P r (pd.f (.tup []) F) H n m Q)
 | some ⟨some (g,b),pd,.bad⟩::r,F,H,n,m,Q=>GrdE (g.f F) b False (VCO P r (pd.f (.tup []) F) H n m Q)
 | some ⟨some (g,b),pd,.flt _⟩::r,F,H,n,m,Q=>GrdE (g.f F) b False (VCO P r (pd.f (.tup []) F) H n m Q)
 | some ⟨some (g,b),pd,.raw _⟩::r,F,H,n,m,Q=>GrdE (g.f F) b False (VCO P r (pd.f (.tup []) F) H n m Q)
def VC (P:Program):CT->Fr->Hp->Nat->List Dm->QA->Prop
 | .reg l,F,H,n,m,Q=>VCO P l F H n m Q
 | .drw ds l,F,H,n,m,Q=>∃ce h F2 H2,CeOk P ce/\Shuts h F H F2 H2/\Ev ((drwK ds (mkR l)).f ce F2 H2 n m) Q
 | .seq a b,F,H,n,m,Q=>VC P a F H n m λ o F' H' n' m'=>match o with
  | .normal=>VC P b F' H' n' m' Q
  | .exit i=>Q (.exit i) F' H' n' m'
  | .ret=>Q .ret F' H' n' m'
  | .panic _=>False
 | .cond g a b,F,H,n,m,Q=>CondE (g.f F) (VC P a F H n m Q) (VC P b F H n m Q)
 | .block i b,F,H,n,m,Q=>VC P b F H n m (BlkQ i Q)
 | .loop b,F,H,n,m,Q=>∃(I J:Nat->Fr->Hp->Nat->List Dm->Prop) (k:Nat),J k F H n m/\(∀k F H n m,J k F H n m->Zs I k F H n m)/\∀k F H n m,I k F H n m->VC P b F H n m (RndQ J k Q)
 | .exit i,F,H,n,m,Q=>Q (.exit i) F H n m
 | .ret,F,H,n,m,Q=>Q .ret F H n m
 | .skip,F,H,n,m,Q=>Q .normal F H n m
 | .range nt g ps a b,F,H,n,m,Q=>∃f first cap,g.f F=some (.fn (.func f) first cap) /\
  CallR P f (first++(.yld n::cap)) ((H.put (Nat.succ n) (some .defd)).put n (some (.loop .ready .normal nt F ps a b))) (Nat.succ (Nat.succ n)) λ _ H' n'=>RngE n F m Q H' n'
 | .bad,_,_,_,_,_=>False
 | .raw k,F,H,n,m,Q=>∃ce,CeOk P ce/\Ev (k.f ce F H n m) Q
variable {nt:Nat}{ops:Array Oper}{r:Option Nat}
theorem wp_of_sound {run:QT->Act->World->Prop}{f:Fr->Hp->Nat->List Dm->Res}(hs:Sound nt run f){F:Fr}{H:Hp}{n:Nat}{m:List Dm}{Q:QA}(h:Ev (f F H n m) Q):Wp nt run F H n m Q:=by
 obtain⟨o,F',H',n',m',h1,h2⟩:=ev_out h;obtain⟨hn,hk⟩:=hs _ _ _ _ _ _ _ _ _ h1;exact λ φ D a w st hf QQ hQ=>hk φ D a w st (hf.fresh _) QQ λ φ' D' a' w' px e s pp=>hQ o F' H' n' m' φ' D' a' w' px h2 e s pp
theorem wp_eff {rest:List Nat}{o:Oper}{e:Eff}{pd:Pd}{F:Fr}{H:Hp}{n:Nat}{m:List Dm}{Q:QA}{X:Fr->Hp->Nat->Prop}(he:EffOk P o e)(hq:quietOp o.op=true)(hpd:PdOk nt o.dst pd)
  (hnext:∀F H n,X F H n->Wp nt (λ QQ a w=>wpOpsIn (FW r) 0 P ops QQ rest a w) F H n m Q)(h:EvE (e F H n) H n λ v H' n'=>X (pd.f v F) H' n'):
  Wp nt (λ QQ a w=>o.wpIn (FW r) 0 P a w (wpOpsIn (FW r) 0 P ops QQ rest) QQ) F H n m Q:=by
 intro φ D a w st hf QQ hQ
 have key:∀(v:AV) (H1:Hp) (n1:Nat) (rr:ERes),e F H n=rr->rr≠.fail->outV rr=v->outH rr H.get n=H1.get->outN rr n=n1->X (pd.f v F) H1 n1 ->
   o.wpIn (FW r) 0 P a w (wpOpsIn (FW r) 0 P ops QQ rest) QQ:=by
  intro v H1 n1 rr her hne hv hH hn hX;have hd:=he F H n φ D a w st.rel st.fr (by rw[her];exact hf.fresh _) (by rw[her];exact hne);rw[her]at hd;obtain⟨nx,cv,φ1,w1,hrun,hnx,hext,hrel,hvr⟩:=hd;rw[hH]at hext hrel;rw[hn]at hext;rw[hv]at hvr;have hfr:=hpd v F φ1 D a cv (st.fr.mono hext.phi (λ _ _ h=>h)) st.sz hvr;have hst:St nt φ1 D (pd.f v F) H1 m (a.put o.dst cv) w1:=⟨hrel,hfr.1,hfr.2,by rw[put_defers];exact st.mar.mono hext.phi hext.dat⟩;have hgo:=hnext _ _ _ hX φ1 D (a.put o.dst cv) w1 hst (hf.step hext) QQ λ o F' H' n' m' φ' D' a' w' px q hx hst' pp=>hQ o F' H' n' m' φ' D' a' w' px q (hext.trans hx) hst' pp;refine⟨λ _ _=>trivial,?_⟩;rw[semAt_quiet hq,hrun]
  cases hnx with
  | value=>exact hgo
  | skip=>exact hgo
 cases her:e F H n with
 | fail=>rw[her]at h;exact absurd h id
 | val v=>rw[her]at h;exact key v H n _ her (by simp) rfl rfl rfl h
 | new v k=>rw[her]at h;exact key v _ _ _ her (by simp) rfl (outH_new ..) rfl h
 | upd v b k=>rw[her]at h;exact key v _ _ _ her (by simp) rfl (outH_upd ..) rfl h
 | mv v b k=>rw[her]at h;exact key v _ _ _ her (by simp) rfl (outH_mv ..) rfl h
theorem yldR_sound {q:Nat}{vs:List AV}{H:Hp}{n:Nat}{R:AV->Hp->Nat->Prop}(h:YldR P q vs H n R)(o:Oper)(c:Call)(φ:Ph)(D:Da)(a:Act)(w:World)(x:Operand)(ho:o.op=.call c)(hc:c.callee=.value x)(hyl:VR φ D (.yld q) (a.eval x))(hargs:VRs φ D vs (c.args.toList.map a.eval))(hrel:Rel φ D H.get w)(hf:FrA φ n)(K:Act->World->Prop)(Q:QT)
  (hK:∀v H' n' φ' D' w' cv,R v H' n'->Ext φ D H.get w n φ' D' H'.get w' n'->Rel φ' D' H'.get w'->VR φ' D' v cv->K (a.put o.dst cv) w'):o.wpIn (FW r) 0 P a w K Q:=by
 obtain⟨st0,j0,nt,F0,ps,ca,cb',F1,hq0,hF1,h1⟩:=h;refine⟨λ _ _=>trivial,?_⟩;generalize hxv:a.eval x=xv at hyl
 cases hyl with
 | yld _ cb co cz hp =>
 obtain⟨_,rr,hr1,hr2,hr3,hr4,hr5,hr6,hr7,hr8⟩:=hrel.block hq0 hp;have hr1:w.heap[cb]?=some (.loop rr):=hr1;obtain⟨p1,p2,p3⟩:=putsF_ok ps vs _ F0 F1 rr.tmps hF1 hargs hr5 hr4
 have hsz:(c.args.map a.eval).size=rr.params.size:=by
  have e1:rr.params.size=ps.length:=by rw[<-hr6];simp
  rw[e1,p1];simp
 have hrun:(o.semAt (FW r).round a.eval).run P w=.ok (.round cb rr.fn ((rr.params.zip (c.args.map a.eval)).foldl (λ tmps (t,a)=>tmps.setIfInBounds t a) rr.tmps) rr.assign rr.body) w:=by
  rw[semAt_quiet (by rw[ho];rfl)];have hy:=run_yield (P:=P) (args:=(#[]:Array Value)++Array.map a.eval c.args) hr1 (by simpa using hsz);simp only[execOp,ho,resolve,hc,hxv,Deferred.ofValue,Sem.run_bind,Sem.run_pure,Result.andThen_ok,invoke,hy];simp
 have hfold:(rr.params.zip (c.args.map a.eval)).foldl (λ tmps (t,a)=>tmps.setIfInBounds t a) rr.tmps=((ps.zip (c.args.toList.map a.eval)).foldl (λ t (x:Nat×Value)=>t.setIfInBounds x.1 x.2) rr.tmps):=by
  rw[<-Array.foldl_toList,Array.toList_zip,hr6];simp
 rw[hrun,hfold,hr7,hr8];refine⟨λ h=>by simp[FW]at h,roundIn_of_wpIn trivial ?_⟩;refine h1 cb φ D {tmps:=_,defers:=[]} w ⟨hrel,p2,p3,rfl⟩ hf _ λ o1 F2 H2 n2 m2 φ1 D1 a1 w1 px hq1 e1 st1 pp=>?_;obtain⟨rfl,rfl,j2,nt2,G2,ps2,a2,b2,hq2,h2⟩:=hq1;have hp1:=e1.phi _ _ hp;obtain⟨hlt2,r2,hr21,hr22,hr23,hr24,hr25,hr26,hr27,hr28⟩:=st1.rel.block hq2 hp1;have hr21:w1.heap[cb]?=some (.loop r2):=hr21;have hlt2:cb<w1.heap.size:=hlt2;refine⟨_,run_beginRound (P:=P) hr21 hr22,?_⟩;obtain⟨k1,k2⟩:=rel_loop (n:=n2) (rr:={r2 with state:=.busy}) (k:=.loop .busy j2 nt2 G2 ps2 a2 b2) st1.rel (by rw[hq2];simp) hp1 ⟨_,Go.World.putObj_heap_same hlt2,rfl,hr23,hr24,hr25,hr26,hr27,hr28⟩;refine h2 cb φ1 D1 a1 _ ⟨k1,st1.fr,st1.sz,st1.mar⟩ ((hf.step e1).step k2) _ λ j3 F3 H3 n3 m3 φ2 D2 a2' w2 px e2 ext2 st2 pp=>?_;obtain⟨st3,nt3,G3,ps3,a3,b3,jj,hq3,hR⟩:=e2;have hp2:=ext2.phi _ _ hp1;obtain⟨hlt3,r3,hr31,hr32,hr33,hr34,hr35,hr36,hr37,hr38⟩:=st2.rel.block hq3 hp2;have hr31:w2.heap[cb]?=some (.loop r3):=hr31;have hlt3:cb<w2.heap.size:=hlt3
 cases j3 with
 | normal =>
  have hend:=run_endRound (P:=P) (jumpCode (.normal)) hr31;obtain⟨k3,k4⟩:=rel_loop (n:=n3) (rr:={r3 with state:=.ready,pending:=jumpCode (.normal)}) (k:=.loop .ready (.normal) nt3 G3 ps3 a3 b3) st2.rel (by rw[hq3];simp) hp2 ⟨_,Go.World.putObj_heap_same hlt3,rfl,rfl,hr34,hr35,hr36,hr37,hr38⟩;exact⟨_,_,hend,hK _ _ _ φ2 D2 _ (.bool true) hR (((e1.trans k2).trans ext2).trans k4) k3 (.bool _)⟩
 | exit i =>
  have hend:=run_endRound (P:=P) (jumpCode (.exit i)) hr31;obtain⟨k3,k4⟩:=rel_loop (n:=n3) (rr:={r3 with state:=.done,pending:=jumpCode (.exit i)}) (k:=.loop .done (.exit i) nt3 G3 ps3 a3 b3) st2.rel (by rw[hq3];simp) hp2 ⟨_,Go.World.putObj_heap_same hlt3,rfl,rfl,hr34,hr35,hr36,hr37,hr38⟩;exact⟨_,_,hend,hK _ _ _ φ2 D2 _ (.bool false) hR (((e1.trans k2).trans ext2).trans k4) k3 (.bool _)⟩
 | ret =>
  have hend:=run_endRound (P:=P) (jumpCode (.ret)) hr31;obtain⟨k3,k4⟩:=rel_loop (n:=n3) (rr:={r3 with state:=.done,pending:=jumpCode (.ret)}) (k:=.loop .done (.ret) nt3 G3 ps3 a3 b3) st2.rel (by rw[hq3];simp) hp2 ⟨_,Go.World.putObj_heap_same hlt3,rfl,rfl,hr34,hr35,hr36,hr37,hr38⟩;exact⟨_,_,hend,hK _ _ _ φ2 D2 _ (.bool false) hR (((e1.trans k2).trans ext2).trans k4) k3 (.bool _)⟩
 | panic v=>exact absurd hR id
theorem wp_call {rest:List Nat}{o:Oper}{c:Call}{g:G}{as:List G}{pd:Pd}{F:Fr}{H:Hp}{n:Nat}{m:List Dm}{Q:QA}{X:Fr->Hp->Nat->Prop}(ho:o.op=.call c)(hg:CalOk P c g)(has:opds c.args.toList=some as)(hpd:PdOk nt o.dst pd)
  (hnext:∀F H n,X F H n->Wp nt (λ QQ a w=>wpOpsIn (FW r) 0 P ops QQ rest a w) F H n m Q)
  (h:(∃f first cap vs,g.f F=some (.fn (.func f) first cap)/\evs F as=some vs/\CallR P f (first++(vs++cap)) H n λ v H' n'=>X (pd.f v F) H' n')∨(∃q vs,g.f F=some (.yld q)/\evs F as=some vs/\YldR P q vs H n λ v H' n'=>X (pd.f v F) H' n')):
  Wp nt (λ QQ a w=>o.wpIn (FW r) 0 P a w (wpOpsIn (FW r) 0 P ops QQ rest) QQ) F H n m Q:=by
 intro φ D a w st hf QQ hQ
 cases h with
 | inr h =>
  obtain⟨q,vs,hgv,hev,hy⟩:=h;obtain⟨x,hx1,hx2⟩:=hg.yld a F φ D q st.fr hgv;refine yldR_sound hy o c φ D a w x ho hx1 hx2 (opds_sound has F φ D a st.fr vs hev) st.rel hf _ _ λ v H' n' φ1 D1 w1 cv hX hext hrel hvr=>?_;have hfr:=hpd v F φ1 D1 a cv (st.fr.mono hext.phi hext.dat) st.sz hvr;exact hnext _ _ _ hX φ1 D1 (a.put o.dst cv) w1 ⟨hrel,hfr.1,hfr.2,by rw[put_defers];exact st.mar.mono hext.phi hext.dat⟩ (hf.step hext) QQ λ o F' H' n' m' φ' D' a' w' px q hx hst' pp=>hQ o F' H' n' m' φ' D' a' w' px q (hext.trans hx) hst' pp
 | inl h =>
  obtain⟨f,first,cap,vs,hgv,hev,⟨fn,b,hfn,hb,hname⟩,hcs⟩:=h;refine⟨λ _ _=>trivial,?_⟩;obtain⟨fl,cl,h1,h2,hrun0⟩:=hg.fn o a F φ D f first cap ho st.fr hgv;have h3:=opds_sound has F φ D a st.fr vs hev
  have hrun:(o.semAt (FW r).round a.eval).run P w=.ok (.enter f ⟨fl++(c.args.toList.map a.eval++cl)⟩) w:=by
   rw[semAt_quiet (by rw[ho];rfl)];exact hrun0 fn b w hfn hname hb
  rw[hrun];refine⟨λ h=>by simp[FW]at h,callsIn_FW (hcs φ D w _ st.rel (h1.append (h3.append h2)) hf _ λ v H' n' φ1 D1 w1 cv hX hext hrel hvr=>?_)⟩;have hfr:=hpd v F φ1 D1 a cv (st.fr.mono hext.phi hext.dat) st.sz hvr;exact hnext _ _ _ hX φ1 D1 (a.put o.dst cv) w1 ⟨hrel,hfr.1,hfr.2,by rw[put_defers];exact st.mar.mono hext.phi hext.dat⟩ (hf.step hext) QQ λ o F' H' n' m' φ' D' a' w' px q hx hst' pp=>hQ o F' H' n' m' φ' D' a' w' px q (hext.trans hx) hst' pp
theorem wp_skip {rest:List Nat}{o:Oper}{pd:Pd}{F:Fr}{H:Hp}{n:Nat}{m:List Dm}{Q:QA}(hpd:PdOk nt o.dst pd)(h:Wp nt (λ QQ a w=>wpOpsIn (FW r) 0 P ops QQ rest a w) (pd.f (.tup []) F) H n m Q):
  Wp nt (λ QQ a w=>wpOpsIn (FW r) 0 P ops QQ rest (a.put o.dst undef) w) F H n m Q:=by
 intro φ D a w st hf QQ hQ;have hfr:=hpd (.tup []) F φ D a undef st.fr st.sz (.tup _ _ .nil);exact h φ D (a.put o.dst undef) w ⟨st.rel,hfr.1,hfr.2,by rw[put_defers];exact st.mar⟩ hf QQ hQ
theorem koOf_call {o:Oper}{g:G}{as:List G}(h:koOf P o=.call g as):∃c,o.op=.call c/\CalOk P c g/\opds c.args.toList=some as:=by
 unfold koOf at h
 split at h
 ·rename_i f args tys ho
  split at h
  ·cases h
  split at h
  ·rename_i g' as' h1 h2;injection h with a b;subst a b;exact⟨_,ho,.value rfl h1,h2⟩
  cases h
 ·rename_i f name args tys ho
  split at h
  ·rename_i g' as' h1 h2;injection h with a b;subst a b;exact⟨_,ho,.invoke rfl h1,h2⟩
  cases h
 ·split at h<;>cases h
 ·split at h<;>cases h
 split at h<;>cases h
theorem koOf_eff {o:Oper}{e:Eff}(h:koOf P o=.eff e):compOp P o=some e:=by
 unfold koOf at h
 split at h
 ·split at h
  ·rename_i h1;injection h with h;subst h;exact h1
  split at h<;>cases h
 ·split at h<;>cases h
 ·split at h<;>cases h
 ·split at h<;>cases h
 split at h
 ·rename_i h1;injection h with h;subst h;exact h1
 cases h
theorem tell {F:Fr}{φ:Ph}{D:Da}{a:Act}{j d:Nat}(hd:(ops[j]?).bind (·.dst)=some d)(hF:FR φ D F.get a.tmps){v:AV}(hv:F.get d=some v):(∀c,v=.bool c->yielded ops a.tmps j=some c)/\((∀c,v≠.bool c)->yielded ops a.tmps j=none):=by
 obtain⟨x,hx,hvx⟩:=hF.1 d v hv;unfold yielded;rw[hd];simp only[Option.bind_some,hx];refine⟨λ c hc=>?_,λ hc=>?_⟩
 ·subst hc;cases hvx;rfl
 cases x<;>first | rfl | exact absurd (vr_bool hvx) (hc _)
theorem vcO_sound : ∀(l:List Oper) (i:Nat) (F:Fr) (H:Hp) (n:Nat) (m:List Dm) (Q:QA),ops.toList.drop i=l->VCO P (l.map (goOf P nt ops)) F H n m Q ->
  Wp nt (λ QQ a w=>wpOpsIn (FW r) 0 P ops QQ (range' i l.length) a w) F H n m Q
 | [],i,F,H,n,m,Q,_,h=>λ φ D a w st hf QQ hQ=>hQ .normal F H n m φ D a w undef h (Ext.refl ..) st trivial
 | o :: l, i, F, H,n,m,Q,hl,h=>by
  have hi:ops[i]?=some o:=by
   have:=congrArg (λ(x:List Oper)=>x[0]?) hl;simpa[getElem?_drop]using this
  have hl':ops.toList.drop (i+1)=l:=by
   have:=congrArg (λ(x:List Oper)=>x.drop 1) hl;simpa[drop_drop]using this
  have ih:=λ F H n=>vcO_sound l (i+1) F H n m Q hl';have h0:=h;simp only[map_cons]at h;unfold goOf at h
  cases hp:compPd nt o.dst with
  | none=>rw[hp]at h;exact absurd h id
  | some pd =>
   rw[hp]at h;have hpd:=compPd_ok hp;dsimp only at h
   cases hgd:o.guard with
   | none =>
    rw[hgd]at h;dsimp only at h
    have fin:Wp nt (λ QQ a w=>o.wpIn (FW r) 0 P a w (wpOpsIn (FW r) 0 P ops QQ (range' (i+1) l.length)) QQ) F H n m Q->Wp nt (λ QQ a w=>wpOpsIn (FW r) 0 P ops QQ (range' i (l.length+1)) a w) F H n m Q:=by
     intro hw φ D a w st hf QQ hQ;show wpOpsIn (FW r) 0 P ops QQ (i::range' (i+1) l.length) a w;simp only[wpOpsIn,hi,Region.wanted,hgd,if_true];exact hw φ D a w st hf QQ hQ
    refine fin ?_
    cases hk:koOf P o with
    | bad=>rw[hk]at h;exact absurd h id
    | flt e=>rw[hk]at h;exact absurd h id
    | raw f=>rw[hk]at h;exact absurd h id
    | eff e =>
     rw[hk]at h;have hc:=koOf_eff hk;exact wp_eff (X:=λ F H n=>VCO P (l.map (goOf P nt ops)) F H n m Q) (op_sound hc) (compOp_quiet hc) hpd (λ F H n hx=>ih F H n hx) h
    | call g as =>
     rw[hk]at h;obtain⟨c,h1,h2,h4⟩:=koOf_call hk;exact wp_call (X:=λ F H n=>VCO P (l.map (goOf P nt ops)) F H n m Q) h1 h2 h4 hpd (λ F H n hx=>ih F H n hx) h
   | some x =>
    obtain⟨j,b⟩:=x;rw[hgd]at h;dsimp only at h
    cases hd:(ops[j]?).bind (·.dst)with
    | none=>rw[hd]at h;exact absurd h id
    | some d =>
     rw[hd]at h;dsimp only at h
     have fin:∀(Y N:Prop),(Y->Wp nt (λ QQ a w=>o.wpIn (FW r) 0 P a w (wpOpsIn (FW r) 0 P ops QQ (range' (i+1) l.length)) QQ) F H n m Q)->(N->VCO P (l.map (goOf P nt ops)) (pd.f (.tup []) F) H n m Q) ->
       GrdE ((slotG d).f F) b Y N->Wp nt (λ QQ a w=>wpOpsIn (FW r) 0 P ops QQ (range' i (l.length+1)) a w) F H n m Q:=by
      intro Y N hY hN hG
      have no:N->∀ φ D a w,St nt φ D F H m a w->FrA φ n->∀QQ:QT,(∀o F' H' n' m' φ' D' a' w' px,Q o F' H' n' m'->Ext φ D H.get w n φ' D' H'.get w' n'->St nt φ' D' F' H' m' a' w'->PanR φ' D' px o->QQ (exitOf px o) a' w')->wpOpsIn (FW r) 0 P ops QQ (range' (i+1) l.length) (a.put o.dst undef) w:=
       λ hN'=>wp_skip hpd (ih _ _ _ (hN hN'))
      rw[slotG_eq]at hG;intro φ D a w st hf QQ hQ;show wpOpsIn (FW r) 0 P ops QQ (i::range' (i+1) l.length) a w
      cases hv:F.get d with
      | none=>rw[hv]at hG;exact absurd hG id
      | some v =>
       rw[hv]at hG
       by_cases hb:∃c,v=.bool c
       ·obtain⟨c,rfl⟩:=hb;have hy:=(tell hd st.fr hv).1 c rfl;have hG:(bif c == b then Y else N):=hG;simp only[wpOpsIn,hi,Region.wanted,hgd,hy]
        cases hcb:c == b with
        | true =>
         rw[hcb]at hG;rw[if_pos (by simpa using hcb)];exact hY hG φ D a w st hf QQ hQ
        | false =>
         rw[hcb]at hG;rw[if_neg (by simpa using hcb)];exact⟨λ _ _=>trivial,no hG φ D a w st hf QQ hQ⟩
       have hnb:∀c,v≠.bool c:=λ c e=>hb ⟨c,e⟩;have hy:=(tell hd st.fr hv).2 hnb
       have hG:N:=by
        cases v<;>first | exact hG | exact absurd rfl (hnb _)
       simp only[wpOpsIn,hi,Region.wanted,hgd,hy];rw[if_neg (by simp)];exact⟨λ _ _=>trivial,no hG φ D a w st hf QQ hQ⟩
     cases hk:koOf P o with
     | bad=>rw[hk]at h;exact fin _ _ (λ h=>absurd h id) (λ h=>h) h
     | flt e=>rw[hk]at h;exact fin _ _ (λ h=>absurd h id) (λ h=>h) h
     | raw f=>rw[hk]at h;exact fin _ _ (λ h=>absurd h id) (λ h=>h) h
     | eff e =>
      rw[hk]at h;have hc:=koOf_eff hk;exact fin _ _ (λ hy=>wp_eff (X:=λ F H n=>VCO P (l.map (goOf P nt ops)) F H n m Q) (op_sound hc) (compOp_quiet hc) hpd (λ F H n hx=>ih F H n hx) hy) (λ h=>h) h
     | call g as =>
      rw[hk]at h;obtain⟨c,h1,h2,h4⟩:=koOf_call hk;exact fin _ _ (λ hy=>wp_call (X:=λ F H n=>VCO P (l.map (goOf P nt ops)) F H n m Q) h1 h2 h4 hpd (λ F H n hx=>ih F H n hx) hy) (λ h=>h) h
theorem Wp.seq {x y:Code}{F:Fr}{H:Hp}{n:Nat}{m:List Dm}{Q R:QA}(h1:Wp nt (λ QQ a w=>x.wpIn (FW r) 0 P QQ a w) F H n m R)
  (h2:∀o F' H' n' m',R o F' H' n' m'->match o with
   | .normal=>Wp nt (λ QQ a w=>y.wpIn (FW r) 0 P QQ a w) F' H' n' m' Q
   | .exit i=>Q (.exit i) F' H' n' m'
   | .ret=>Q .ret F' H' n' m'
   | .panic _=>False):Wp nt (λ QQ a w=>(Code.seq x y).wpIn (FW r) 0 P QQ a w) F H n m Q:=by
 intro φ D a w st hf QQ hQ;refine wpIn_seq (h1 φ D a w st hf _ λ o F' H' n' m' φ' D' a' w' px hr e st' pp=>?_);have:=h2 o F' H' n' m' hr
 cases o with
 | normal=>exact this φ' D' a' w' st' (hf.step e) QQ λ o2 F2 H2 n2 m2 φ2 D2 a2 w2 px q e2 s2 pp=>hQ o2 F2 H2 n2 m2 φ2 D2 a2 w2 px q (e.trans e2) s2 pp
 | exit i=>exact hQ _ _ _ _ _ _ _ _ _ _ this e st' pp
 | ret=>exact hQ _ _ _ _ _ _ _ _ _ _ this e st' pp
 | panic v=>exact absurd this id
theorem Wp.rounds {b:Code}{Q:QA}{I J:Nat->Fr->Hp->Nat->List Dm->Prop}(hj:∀k F H n m,J k F H n m->Zs I k F H n m)(hb:∀k F H n m,I k F H n m->Wp nt (λ QQ a w=>b.wpIn (FW r) 0 P QQ a w) F H n m (RndQ J k Q)):
  ∀(j k:Nat) (F:Fr) (H:Hp) (n:Nat) (m:List Dm),k<j->J k F H n m->Wp nt (λ QQ a w=>Code.roundsIn (FW r) 0 P b QQ j a w) F H n m Q
 | 0,k,_,_,_,_,h,_=>by omega
 | j + 1,k,F,H,n,m,h,hI=>by
  obtain⟨hh,F0,H0,hs,hI0⟩:=hj k F H n m hI;refine Wp.shut hs ?_;intro φ D a w st hf QQ hQ;show Code.roundsIn (FW r) 0 P b QQ (j+1) a w;rw[roundsIn_succ];refine hb k F0 H0 n m hI0 φ D a w st hf _ λ o F' H' n' m' φ' D' a' w' px hr e st' pp=>?_
  cases o with
  | normal =>
   obtain⟨k',hk,hI'⟩:=hr;exact Wp.rounds hj hb j k' F' H' n' m' (by omega) hI' φ' D' a' w' st' (hf.step e) QQ λ o2 F2 H2 n2 m2 φ2 D2 a2 w2 px q e2 s2 pp=>hQ o2 F2 H2 n2 m2 φ2 D2 a2 w2 px q (e.trans e2) s2 pp
  | exit i=>exact hQ _ _ _ _ _ _ _ _ _ _ hr e st' pp
  | ret=>exact hQ _ _ _ _ _ _ _ _ _ _ hr e st' pp
  | panic v=>exact absurd hr id
theorem wp_range {g:Operand}{x:G}{ps:Array Tmp}{ca cb:Code}{F:Fr}{H:Hp}{n:Nat}{m:List Dm}{Q:QA}(hg:opd g=some x) (h:VC P (.range nt x ps.toList ca cb) F H n m Q):Wp nt (λ QQ a w=>(Code.rangeFunc g ps ca cb).wpIn (FW none) 0 P QQ a w) F H n m Q:=by
 obtain⟨f,first,cap,hx,⟨fn,b,hfn,hb,hname⟩,hcs⟩:=h;intro φ D a w sta hf QQ hQ;refine wpIn_rangeFunc λ fid _=>?_;have hgr:=opd_sound hg F φ D a sta.fr _ hx
 cases hxv:a.eval g with
 | func ff fx cx =>
  rw[hxv]at hgr
  cases hgr with
  | fn _ _ _ fl cl h1 h2 =>
  obtain⟨r1,e1⟩:=rel_new (n:=n+1) sta.rel (λ b hb1 hb2=>hf b (by omega)) (.deferred (some [])) 0 .defd (World.newObj_get w _);rw[hset_get]at r1 e1;let w1:=World.newObj w (.deferred (some []));let φ1:=Ph.set φ (n+1) (w.heap.size,0,0)
  have hf1:Fresh φ1 n (n+1):=by
   intro b hb1 hb2;have:b≠n+1:=by omega
   simp only[φ1,Ph.set,this,if_false];exact hf b (by omega)
  obtain⟨r2,e2⟩:=rel_new (n:=n) r1 hf1 (.loop {state:=.ready,pending:=none,fn:=fid,tmps:=a.tmps,params:=ps,assign:=ca,body:=cb,defers:=w.heap.size}) 0 (.loop .ready .normal nt F ps.toList ca cb)
   ⟨_,World.newObj_get w1 _,rfl,rfl,sta.sz,(sta.fr.mono e1.phi (λ _ _ h=>h)).mono (Ph.set_mono (hf1 n (Nat.le_refl _) (by omega))) (λ _ _ h=>h),rfl,rfl,rfl⟩
  rw[hset_get]at r2 e2;let w2:=World.newObj w1 (.loop {state:=.ready,pending:=none,fn:=fid,tmps:=a.tmps,params:=ps,assign:=ca,body:=cb,defers:=w.heap.size});let φ2:=Ph.set φ1 n (w1.heap.size,0,0)
  have e12:Ext φ D H.get w n φ2 D ((H.put (n+1) (some .defd)).put n (some (.loop .ready .normal nt F ps.toList ca cb))).get w2 (n+2):=
   (e1.wide (Nat.le_succ n) (Nat.le_refl _)).join (e2.wide (Nat.le_refl _) (by omega))
  have hsz1:w1.heap.size=w.heap.size+1:=by simp[w1,World.newObj]
  have hφn:φ2 n=some (w.heap.size+1,0,0):=by simp only[φ2,Ph.set,if_true,hsz1]
  have hφm:φ2 (n+1)=some (w.heap.size,0,0):=e2.phi _ _ (by simp[Ph.set]);refine⟨w.heap.size+1,[{target:=.collected w.heap.size,args:=#[]}],w2,{target:=.fn (.func f) ⟨cl⟩,args:=⟨fl⟩++#[.func (.yield (w.heap.size+1)) #[] #[]]},w2,f,⟨fl++(.func (.yield (w.heap.size+1)) #[] #[]::cl)⟩,w2,run_enterLoop_outer ..,?_,λ _ _=>trivial,?_,λ h=>by simp[FW]at h,?_⟩
  ·simp only[resolve,hxv,Deferred.ofValue,Sem.run_pure];simp[Act.eval]
  ·have harr:(⟨fl⟩:Array Value)++#[Value.func (.yield (w.heap.size+1)) #[] #[]]++⟨cl⟩=⟨fl++(.func (.yield (w.heap.size+1)) #[] #[]::cl)⟩:=by apply Array.ext';simp
   simp only[invoke,callFunc,Sem.run_bind,run_program,Result.andThen_ok,hfn,hname,hb,harr];simp
  refine callsIn_FW (hcs φ2 D w2 _ r2 ((h1.mono e12.phi (λ _ _ h=>h)).append (.cons _ _ _ _ (.yld _ _ _ _ hφn) (h2.mono e12.phi (λ _ _ h=>h)))) (hf.step e12) _ λ v H1 n1 φ3 D3 w3 cv hE e3 hr3 _=>?_);obtain⟨st,j,nt3,G3,ps3,a3,b3,hq,hst,hnp,hQj⟩:=hE;obtain⟨hlt,rr,q1,q2,q3,q4,q5,q6⟩:=hr3.block hq (e3.phi _ _ hφn);have q1:w3.heap[w.heap.size+1]?=some (.loop rr):=q1;have hend:=run_endLoop (P:=P) q1 (by rw[q2];exact hst);obtain⟨k1,k2⟩:=rel_drop (n:=n1) hr3 (b:=n) (by rw[hq];simp) (e3.phi _ _ hφn) (Go.World.putObj w3 (w.heap.size+1) (.loop {rr with state:=.exhausted})) (λ c hc=>Go.World.putObj_heap_other hc) Go.World.putObj_size rfl rfl;rw[hset_get]at k1 k2;have eall:=(e12.trans e3).trans k2
  have hst':St nt φ3 D3 F (H1.put n none) (.col (Nat.succ n)::m) {a with defers:=[{target:=.collected w.heap.size,args:=#[]}]++a.defers} (Go.World.putObj w3 (w.heap.size+1) (.loop {rr with state:=.exhausted})):=
   ⟨k1,sta.fr.mono eall.phi eall.dat,sta.sz,⟨_,_,_,_,e3.phi _ _ hφm,rfl,sta.mar.mono eall.phi eall.dat⟩⟩
  refine⟨_,_,hend,?_⟩;have:=hQ j F _ n1 _ φ3 D3 _ _ undef hQj eall hst';rw[q3]at this ⊢
  cases j with
  | panic v=>exact absurd rfl (hnp v)
  | normal=>exact this trivial
  | exit i=>exact wpIn_exit (this trivial)
  | ret=>exact wpIn_ret (this trivial)
 | _=>rw[hxv]at hgr;cases hgr
theorem vc_sound:∀(c:Code) (F:Fr) (H:Hp) (n:Nat) (m:List Dm) (Q:QA),VC P (ctOf P nt r.isSome c) F H n m Q->Wp nt (λ QQ a w=>c.wpIn (FW r) 0 P QQ a w) F H n m Q
 | .skip,F,H,n,m,Q,h=>λ φ D a w st hf QQ hQ=>wpIn_skip (hQ .normal _ _ _ _ _ _ _ _ undef h (Ext.refl ..) st trivial)
 | .exit i,F,H,n,m,Q,h=>λ φ D a w st hf QQ hQ=>wpIn_exit (hQ (.exit i) _ _ _ _ _ _ _ _ undef h (Ext.refl ..) st trivial)
 | .ret,F,H,n,m,Q,h=>λ φ D a w st hf QQ hQ=>wpIn_ret (hQ .ret _ _ _ _ _ _ _ _ undef h (Ext.refl ..) st trivial)
 | .region rid ops d,F,H,n,m,Q,h=>by
  cases d with
  | false =>
   simp only[ctOf,cond_false]at h
   have h:VCO P (ops.toList.map (goOf P nt ops)) F H n m Q:=by
    cases hr:r.isSome&&anyDefer ops.toList with
    | true=>rw[hr]at h;exact absurd h id
    | false=>rw[hr]at h;exact h
   have:=vcO_sound (P:=P) (nt:=nt) (ops:=ops) (r:=r) ops.toList 0 F H n m Q rfl h;intro φ D a w st hf QQ hQ;refine wpIn_region ?_;rw[range_eq_range'];exact this φ D a w st hf QQ hQ
  | true =>
   simp only[ctOf,cond_true]at h
   cases hmix:P.follows .mixedOrders with
   | false=>rw[hmix]at h;exact absurd h id
   | true =>
    rw[hmix]at h;simp only[cond_true]at h
    have hk:∃ce h F2 H2,CeOk P ce/\Shuts h F H F2 H2/\Ev ((comp P nt r.isSome (.region rid ops true)).f ce F2 H2 n m) Q:=by
     cases hp:planAll (ancT ops.toList 0 .nil) ops (plan (ancT ops.toList 0 .nil) ops.toList)with
     | false=>rw[hp]at h;exact absurd h id
     | true =>
      rw[hp]at h;obtain⟨ce,hh,F2,H2,h1,hs,h2⟩:=h;refine⟨ce,hh,F2,H2,h1,hs,?_⟩;rw[comp_eq];simp only[ctOf,cond_true,hmix,hp];exact h2
    obtain⟨ce,hh,F2,H2,h1,hs,h2⟩:=hk;exact Wp.shut hs (wp_of_sound (comp_sound (P:=P) (nt:=nt) (r:=r) h1 (.region rid ops true)) h2)
 | .seq x y,F,H,n,m,Q,h=>by
  refine Wp.seq (vc_sound x F H n m _ h) λ o F' H' n' m' hr=>?_
  cases o with
  | normal=>exact vc_sound y F' H' n' m' Q hr
  | exit i=>exact hr
  | ret=>exact hr
  | panic v=>exact absurd hr id
 | .cond c x y,F,H,n,m,Q,h=>by
  simp only[ctOf]at h
  cases hc:opd c with
  | none=>rw[hc]at h;exact absurd h id
  | some g =>
   rw[hc]at h;have h:CondE (g.f F) (VC P (ctOf P nt r.isSome x) F H n m Q) (VC P (ctOf P nt r.isSome y) F H n m Q):=h;intro φ D a w st hf QQ hQ
   cases hg:g.f F with
   | none=>rw[hg]at h;exact absurd h id
   | some v =>
    have hv:=opd_sound hc F φ D a st.fr _ hg;rw[hg]at h
    cases v with
    | bool b =>
     generalize hz:a.eval c=z at hv;cases hv
     cases b with
     | true=>exact wpIn_cond (t:=true) hz (vc_sound x F H n m Q h φ D a w st hf QQ hQ)
     | false=>exact wpIn_cond (t:=false) hz (vc_sound y F H n m Q h φ D a w st hf QQ hQ)
    | _=>exact absurd h id
 | .block id b,F,H,n,m,Q,h=>by
  intro φ D a w st hf QQ hQ;refine wpIn_block (vc_sound b F H n m (BlkQ id Q) h φ D a w st hf _ λ o F' H' n' m' φ' D' a' w' px hr e st' pp=>?_)
  cases o with
  | normal=>exact hQ _ _ _ _ _ _ _ _ _ _ hr e st' pp
  | ret=>exact hQ _ _ _ _ _ _ _ _ _ _ hr e st' pp
  | panic v=>exact False.elim hr
  | exit j =>
   have hr:(if id=j then Q .normal F' H' n' m' else Q (.exit j) F' H' n' m'):=hr
   by_cases hij:j=id
   ·subst hij;rw[if_pos rfl]at hr;simp only[exitOf,Exit.inBlock,if_true];exact hQ _ _ _ _ _ _ _ _ _ px hr e st' trivial
   rw[if_neg (λ e=>hij e.symm)]at hr;simp only[exitOf,Exit.inBlock,hij,if_false];exact hQ _ _ _ _ _ _ _ _ _ _ hr e st' pp
 | .loop b,F,H,n,m,Q,h=>by
  have ib:=vc_sound b
  have plain:VC P (.loop (ctOf P nt r.isSome b)) F H n m Q->Wp nt (λ QQ a w=>(Code.loop b).wpIn (FW r) 0 P QQ a w) F H n m Q:=by
   intro h;obtain⟨I,J,k,hI,hj,hs⟩:=h;intro φ D a w st hf QQ hQ;exact wpIn_loop_rounds (k+1) (Wp.rounds hj (λ k F H n m hi=>ib F H n m _ (hs k F H n m hi)) (k+1) k F H n m (by omega) hI φ D a w st hf QQ hQ)
  cases b with
  | seq x y =>
   cases hm:mapHd x with
   | none =>
    refine plain ?_;simp only[ctOf,hm]at h;exact h
   | some q =>
    obtain⟨x',d,ops,os⟩:=q;simp only[ctOf,hm]at h
    cases hr:r.isSome&&anyDefer os with
    | true=>rw[hr]at h;exact absurd h id
    | false =>
     rw[hr]at h;obtain⟨ce,h1,h2⟩:=h;refine wp_of_sound (comp_sound (P:=P) (nt:=nt) (r:=r) h1 (.loop (.seq x y))) ?_;have:comp P nt r.isSome (.loop (.seq x y))=mapK P nt x' d ops os (comp P nt r.isSome y):=by simp only[comp,hm,hr];rfl
     rw[this];exact h2
  | _=>exact plain h
 | .rangeFunc g ps ca cb,F,H,n,m,Q,h=>by
  simp only[ctOf]at h
  cases hc:opd g with
  | none=>rw[hc]at h;exact absurd h id
  | some x =>
   rw[hc]at h
   cases r with
   | some cb0=>exact absurd h id
   | none=>exact wp_range hc h
 | .scope b,F,H,n,m,Q,h=>by
  intro φ D a w st hf QQ hQ;refine wpIn_scope (vc_sound b F H n m Q h φ D a w st hf _ λ o F' H' n' m' φ' D' a' w' px hr e st' pp=>?_);have:=hQ o F' H' n' m' φ' D' a' w' px hr e st' pp
  cases o<;>exact this
 | .label _,F,H,n,m,Q,h=>λ φ D a w st hf QQ hQ=>wpIn_label (hQ .normal _ _ _ _ _ _ _ _ undef h (Ext.refl ..) st trivial)
 | .goto _,_,_,_,_,_,h=>absurd h id
 | .refuse _,_,_,_,_,_,h=>absurd h id
theorem CallR.of {g:FuncId}{c:CF}{args:List AV}{H:Hp}{n:Nat}{R:AV->Hp->Nat->Prop}(hc:ctF P g=some c) (hl:args.length<=c.nt)
  (h:∀F:Fr,(∀i,F.get i=args[i]?)->VC P c.code F H n [] (RetQ c.res R)):CallR P g args H n R:=by
 unfold ctF at hc
 split at hc
 ·rename_i fn hfn
  split at hc
  ·rename_i b hb
   split at hc
   ·cases hc
   rename_i hname
   split at hc
   ·rename_i gs hgs;injection hc with hc;subst hc;dsimp only at hl h;refine⟨⟨fn,b,hfn,hb,by simpa using hname⟩,λ φ D w xs hrel hvs hf RR hR=>?_⟩;refine callsIn_of_wp_marks hfn hb trivial ?_
    have hsz:((⟨xs⟩:Array Value)++Array.replicate (fn.ntmps - (⟨xs⟩:Array Value).size) undef).size=fn.ntmps:=by
     have:=hvs.length;simp;omega
    have hv:=h (Tr.putAll args 0 .nil) λ i=>by
     rw[Tr.get_putAll]
     split
     ·simp
     rw[getElem?_eq_none (by omega)];rfl
    refine vc_sound (r:=none) b _ _ _ _ _ hv φ D {tmps:=(⟨xs⟩:Array Value)++Array.replicate (fn.ntmps - (⟨xs⟩:Array Value).size) undef,defers:=[]} w ⟨hrel,frame_ok hrel.dat.2 hvs _,hsz,rfl⟩ hf _ λ o F1 H1 n1 m1 φ1 D1 a1 w1 px hq hext st1 pp=>?_
    have key:(o=.normal∨o=.ret)->LeavesInM Fence.wide 0 P fn a1.tmps RR a1.defers .returning w1:=by
     intro ho
     have hq:OpB (unmark m1 H1) λ H'=>OpB (evR F1 H' gs) λ vs=>R (retV vs) H' n1:=by
      rcases ho with rfl | rfl
      ·simpa using hq
      simpa using hq
     cases hu:unmark m1 H1 with
     | none=>rw[hu]at hq;exact absurd hq id
     | some H2 =>
      rw[hu]at hq;simp only[opB_some]at hq
      cases he:evR F1 H2 gs with
      | none=>rw[he]at hq;exact absurd hq id
      | some vs =>
       rw[he]at hq;exact leaves_ok (P:=P) (fn:=fn) (vs:=vs) hgs he m1 H1 a1.defers a1.tmps φ1 D1 w1 _ RR hu st1.rel st1.fr st1.mar λ φ2 D2 w2 x h1 h2 h3=>hR _ _ _ φ2 D2 w2 x hq (hext.trans h1) h2 h3
    cases o with
    | normal=>exact key (.inl rfl)
    | ret=>exact key (.inr rfl)
    | exit i=>exact absurd hq id
    | panic v=>exact absurd hq id
   cases hc
  cases hc
 cases hc
theorem FnPure.ofR {g:FuncId}{args:List AV}{v:AV}(hp:PureL args)(hv:Pure v)(h:CallR P g args .nil 0 (λ v1 H' _=>Frz H'.get v1 v)):FnPure P g args v:=by
 obtain⟨hb,hs⟩:=h;refine⟨hb,hp,hv,λ D w xs hd hv R hR=>?_⟩;refine hs PhN D w xs (rel_none hd) hv (λ _ _=>rfl) R λ v1 H' n' φ' D' w' x h2 hext hrel hx=>?_;refine hR (shut φ' D' H'.get w') w' x ⟨λ c x hx=>shut_le c x (hext.dat c x hx),hext.size,λ c hc=>hext.keep c hc λ b p hb=>by simp at hb,λ c hc=>?_,hext.os,hext.out⟩ (shut_dat hrel.dat) (h2.vr hrel hx);unfold shut at hc
 split at hc
 ·rename_i y hy
  rcases hext.dnew c (by rw[hy];simp)with h | h | ⟨b0,p0,hh,_⟩
  ·exact .inl h
  ·exact .inr h
  simp at hh
 split at hc
 ·rename_i hex;obtain⟨b,p,hb,hp,rfl⟩:=hex
  rcases hext.live b p hb hp with h | ⟨b0,p0,hh,_⟩
  ·exact .inr h
  simp at hh
 exact absurd rfl hc
theorem FnPure.callR {g:FuncId}{args:List AV}{v:AV}(h:FnPure P g args v)(H:Hp)(n:Nat):CallR P g args H n (λ u K k=>u=v/\K=H/\k=n):=(h.callOk H n).callR
mutual
def Flat:AV->Prop
 | .int _ _=>True
 | .bool _=>True
 | .str _=>True
 | .cst _=>True
 | .agg cs _=>FlatL cs
 | .tup cs=>FlatL cs
 | .ifc _ v=>Flat v
 | _=>False
def FlatL:List AV->Prop
 | []=>True
 | v::r=>Flat v/\FlatL r
end
@[simp] theorem flat_int (k:IntKind)(i:Int):Flat (.int k i):=by simp only[Flat]
@[simp] theorem flat_bool (b:Bool):Flat (.bool b):=by simp only[Flat]
@[simp] theorem flat_str (l:List Nat):Flat (.str l):=by simp only[Flat]
@[simp] theorem flat_cst (v:Value):Flat (.cst v):=by simp only[Flat]
@[simp] theorem flat_agg (cs:List AV)(n:Nat):Flat (.agg cs n)=FlatL cs:=by simp only[Flat]
@[simp] theorem flat_tup (cs:List AV):Flat (.tup cs)=FlatL cs:=by simp only[Flat]
@[simp] theorem flatL_nil:FlatL []:=by simp only[FlatL]
@[simp] theorem flatL_cons (v:AV)(r:List AV):FlatL (v::r)=(Flat v/\FlatL r):=by simp only[FlatL]
mutual
theorem Flat.out {φ φ':Ph}{D D':Da}:∀ {v:AV}{x:Value},Flat v->VR φ D v x->VR φ' D' v x
 | .int _ _,_,_,.int _ _=>.int _ _
 | .bool _,_,_,.bool _=>.bool _
 | .str _,_,_,.str _ _ e=>.str _ _ e
 | .cst _,_,_,.cst _ e=>.cst _ e
 | .agg _ _,_,h,.agg _ _ _ a b=>.agg _ _ _ (FlatL.vrs (by simpa only [Flat]using h) a) b
 | .tup _,_,h,.tup _ _ a=>.tup _ _ (FlatL.vrs (by simpa only [Flat]using h) a)
 | .ifc _ _,_,h,.ifc _ _ _ a=>.ifc _ _ _ (Flat.out (by simpa only [Flat]using h) a)
theorem FlatL.vrs {φ φ':Ph}{D D':Da}:∀ {vs:List AV}{xs:List Value},FlatL vs->VRs φ D vs xs->VRs φ' D' vs xs
 | [],_,_,.nil=>.nil
 | _::_,_,h,.cons _ _ _ _ h1 h2=>.cons _ _ _ _ (Flat.out (by simp only[FlatL]at h;exact h.1) h1) (FlatL.vrs (by simp only[FlatL]at h;exact h.2) h2)
end
theorem FnPure.callG {g:FuncId}{args args':List AV}{v:AV}(h:FnPure P g args' v) (hf:Flat v){H:Hp}(n:Nat) (hz:FrzL H.get args args'):∀ φ D w xs,Rel φ D H.get w->VRs φ D args xs->∀R:Ending->World->Prop,
  (∀ φ' D' w' x,Ext φ D H.get w n φ' D' H.get w' n->Rel φ' D' H.get w'->VR φ' D' v x->R (.returned x) w')->CallsIn Fence.wide 0 P g ⟨xs⟩ w R:=by
 intro φ D w xs hr hv R hR;refine h.run (shut φ D H.get w) w xs (shut_dat hr.dat) (hz.vrs hr hv) R λ D' w' x hk hd hx=>?_
 let D2:Da:=λ c=>match D c with
  | some y=>some y
  | none=>match shut φ D H.get w c with
   | some _=>none
   | none=>D' c
 have e1:∀c x,D c=some x->D2 c=some x:=λ c x hc=>by simp only[D2,hc]
 have e2:∀c x,D2 c=some x->D' c=some x:=by
  intro c x hc;simp only[D2]at hc
  split at hc
  ·rename_i y hy;injection hc with hc;subst hc;exact hk.dat c _ (shut_le c _ hy)
  split at hc
  ·cases hc
  exact hc
 have e3:∀c,D2 c≠none->D c≠none∨w.heap.size<=c:=by
  intro c hc;simp only[D2]at hc
  split at hc
  ·rename_i y hy;exact .inl (by rw[hy];simp)
  split at hc
  ·exact absurd rfl hc
  rename_i hs
  rcases hk.dnew c hc with h | h
  ·exact absurd hs h
  exact .inr h
 refine hR φ D2 w' x ⟨Nat.le_refl _,λ _ _ h=>h,λ _ a b=>absurd a b,e1,hk.size,λ c hc _=>hk.keep c hc,λ b p hb hp=>.inr ⟨b,p,hb,hp,rfl⟩,λ c hc=>(e3 c hc).elim .inl λ h=>.inr (.inl h),λ _ h=>.inl h,hk.os,hk.out⟩ ?_ (hf.out hx);refine⟨λ b k hb=>?_,hr.inj,λ b p hb hp=>?_,⟨λ c x hc=>hd.1 c x (e2 c x hc),hr.dat.2.mono e1⟩⟩
 ·obtain⟨p,hp,hl,hk'⟩:=hr.blk b k hb;exact⟨p,hp,Nat.lt_of_lt_of_le hl hk.size,hk'.mono (λ _ _ h=>h) e1 (hk.keep _ hl)⟩
 cases hD:D2 p.1 with
 | none=>rfl
 | some x =>
  rcases e3 p.1 (by rw[hD];simp)with h1 | h1
  ·exact absurd (hr.sep b p hb hp) h1
  cases hx:H.get b with
  | none=>exact absurd hx hb
  | some k=>have:=(hr.block hx hp).1;omega
theorem FnPure.callF {g:FuncId}{args args':List AV}{v:AV}(h:FnPure P g args' v)(hf:Flat v){H:Hp}(n:Nat)(hz:FrzL H.get args args'):CallR P g args H n (λ u K k=>u=v/\K=H/\k=n):=
 ⟨h.body,λ φ D w xs hr hv _ R hR=>h.callG hf n hz φ D w xs hr hv R λ φ' D' w' x e r k=>hR v H n φ' D' w' x ⟨rfl,rfl,rfl⟩ e r k⟩
end
end Go.Abs
namespace Go.Abs
open List
def SeqV (P:Program)(b:CT)(Q:QA):QA:=λ o F' H' n' m'=>match o with
 | .normal=>VC P b F' H' n' m' Q
 | .exit i=>Q (.exit i) F' H' n' m'
 | .ret=>Q .ret F' H' n' m'
 | .panic _=>False
def CondV (v:Option AV)(a b:CT)(P:Program)(F:Fr)(H:Hp)(n:Nat)(m:List Dm)(Q:QA):Prop:=CondE v (VC P a F H n m Q) (VC P b F H n m Q)
def OpV (x:ERes)(pd:Pd)(r:List (Option GO))(P:Program)(F:Fr)(H:Hp)(n:Nat)(m:List Dm)(Q:QA):Prop:=EvE x H n λ v H' n'=>VCO P r (pd.f v F) H' n' m Q
def CalV (f:FuncId)(vs:List AV)(pd:Pd)(r:List (Option GO))(P:Program)(F:Fr)(H:Hp)(n:Nat)(m:List Dm)(Q:QA):Prop:=CallR P f vs H n λ v H' n'=>VCO P r (pd.f v F) H' n' m Q
def ArgV (vs:Option (List AV))(f:FuncId)(pd:Pd)(r:List (Option GO))(P:Program)(F:Fr)(H:Hp)(n:Nat)(m:List Dm)(Q:QA):Prop:=OpB vs λ vs=>CalV f vs pd r P F H n m Q
def YldV (q:Nat)(vs:List AV)(pd:Pd)(r:List (Option GO))(P:Program)(F:Fr)(H:Hp)(n:Nat)(m:List Dm)(Q:QA):Prop:=YldR P q vs H n λ v H' n'=>VCO P r (pd.f v F) H' n' m Q
def FunV (v:Option AV)(vs:Option (List AV))(pd:Pd)(r:List (Option GO))(P:Program)(F:Fr)(H:Hp)(n:Nat)(m:List Dm)(Q:QA):Prop:=match v with
 | some (.fn (.func f) first cap)=>OpB vs λ vs=>CalV f (first++(vs++cap)) pd r P F H n m Q
 | some (.yld q)=>OpB vs λ vs=>YldV q vs pd r P F H n m Q
 | _=>False
def RngV (v:Option AV)(nt:Nat)(ps:List Nat)(a b:Code)(P:Program)(F:Fr)(H:Hp)(n:Nat)(m:List Dm)(Q:QA):Prop:=match v with
 | some (.fn (.func f) first cap)=>CallR P f (first++(.yld n::cap)) ((H.put (Nat.succ n) (some .defd)).put n (some (.loop .ready .normal nt F ps a b))) (Nat.succ (Nat.succ n)) λ _ H' n'=>RngE n F m Q H' n'
 | _=>False
def GrdV (v:Option AV)(b:Bool)(pd:Pd)(e:Eff)(r:List (Option GO))(P:Program)(F:Fr)(H:Hp)(n:Nat)(m:List Dm)(Q:QA):Prop:=GrdE v b (OpV (e F H n) pd r P F H n m Q) (VCO P r (pd.f (.tup []) F) H n m Q)
def GrcV (v:Option AV)(b:Bool)(pd:Pd)(f:FuncId)(as:List G)(r:List (Option GO))(P:Program)(F:Fr)(H:Hp)(n:Nat)(m:List Dm)(Q:QA):Prop:=GrdE v b (ArgV (evs F as) f pd r P F H n m Q) (VCO P r (pd.f (.tup []) F) H n m Q)
def GrfV (v:Option AV)(b:Bool)(pd:Pd)(g:G)(as:List G)(r:List (Option GO))(P:Program)(F:Fr)(H:Hp)(n:Nat)(m:List Dm)(Q:QA):Prop:=GrdE v b (FunV (g.f F) (evs F as) pd r P F H n m Q) (VCO P r (pd.f (.tup []) F) H n m Q)
def LoopV (b:CT)(P:Program)(F:Fr)(H:Hp)(n:Nat)(m:List Dm)(Q:QA):Prop:=∃(I J:Nat->Fr->Hp->Nat->List Dm->Prop)(k:Nat),J k F H n m/\(∀k F H n m,J k F H n m->Zs I k F H n m)/\∀k F H n m,I k F H n m->VC P b F H n m (RndQ J k Q)
def DrwV (ds:List Nat)(l:List (Option RO))(P:Program)(F:Fr)(H:Hp)(n:Nat)(m:List Dm)(Q:QA):Prop:=∃ce h F2 H2,CeOk P ce/\Shuts h F H F2 H2/\Ev ((drwK ds (mkR l)).f ce F2 H2 n m) Q
section
variable {P:Program}{F:Fr}{H:Hp}{n:Nat}{m:List Dm}{Q:QA}
@[simp] theorem seqV_normal (b:CT):SeqV P b Q .normal F H n m=VC P b F H n m Q:=propext Iff.rfl
@[simp] theorem seqV_exit (b:CT)(i:Nat):SeqV P b Q (.exit i) F H n m=Q (.exit i) F H n m:=propext Iff.rfl
@[simp] theorem seqV_ret (b:CT):SeqV P b Q .ret F H n m=Q .ret F H n m:=propext Iff.rfl
@[simp] theorem condV_true (a b:CT):CondV (some (.bool true)) a b P F H n m Q=VC P a F H n m Q:=propext Iff.rfl
@[simp] theorem condV_false (a b:CT):CondV (some (.bool false)) a b P F H n m Q=VC P b F H n m Q:=propext Iff.rfl
@[simp] theorem vc_reg (l:List (Option GO)):VC P (.reg l) F H n m Q=VCO P l F H n m Q:=propext Iff.rfl
@[simp] theorem vc_drw (ds:List Nat)(l:List (Option RO)):VC P (.drw ds l) F H n m Q=DrwV ds l P F H n m Q:=propext Iff.rfl
@[simp] theorem vc_seq (a b:CT):VC P (.seq a b) F H n m Q=VC P a F H n m (SeqV P b Q):=propext Iff.rfl
@[simp] theorem vc_cond (g:G)(a b:CT):VC P (.cond g a b) F H n m Q=CondV (g.f F) a b P F H n m Q:=propext Iff.rfl
@[simp] theorem vc_block (i:Nat)(b:CT):VC P (.block i b) F H n m Q=VC P b F H n m (BlkQ i Q):=propext Iff.rfl
@[simp] theorem vc_loop (b:CT):VC P (.loop b) F H n m Q=LoopV b P F H n m Q:=propext Iff.rfl
@[simp] theorem vc_exit (i:Nat):VC P (.exit i) F H n m Q=Q (.exit i) F H n m:=propext Iff.rfl
@[simp] theorem vc_ret:VC P .ret F H n m Q=Q .ret F H n m:=propext Iff.rfl
@[simp] theorem vc_skip:VC P .skip F H n m Q=Q .normal F H n m:=propext Iff.rfl
@[simp] theorem opV_fail (pd:Pd)(r:List (Option GO)):OpV .fail pd r P F H n m Q=False:=propext Iff.rfl
@[simp] theorem opV_val (v:AV)(pd:Pd)(r:List (Option GO)):OpV (.val v) pd r P F H n m Q=VCO P r (pd.f v F) H n m Q:=propext Iff.rfl
@[simp] theorem opV_new (v:AV)(k:ABlk)(pd:Pd)(r:List (Option GO)):OpV (.new v k) pd r P F H n m Q=VCO P r (pd.f v F) (H.put n (some k)) (n+1) m Q:=propext Iff.rfl
@[simp] theorem opV_upd (v:AV)(b:Nat)(k:ABlk)(pd:Pd)(r:List (Option GO)):OpV (.upd v b k) pd r P F H n m Q=VCO P r (pd.f v F) (H.put b (some k)) n m Q:=propext Iff.rfl
@[simp] theorem opV_mv (v:AV)(b:Nat)(k:ABlk)(pd:Pd)(r:List (Option GO)):OpV (.mv v b k) pd r P F H n m Q=VCO P r (pd.f v F) ((H.put b none).put n (some k)) (n+1) m Q:=propext Iff.rfl
@[simp] theorem argV_some (vs:List AV)(f:FuncId)(pd:Pd)(r:List (Option GO)):ArgV (some vs) f pd r P F H n m Q=CalV f vs pd r P F H n m Q:=propext Iff.rfl
@[simp] theorem funV_some (f:FuncId)(first cap vs:List AV)(pd:Pd)(r:List (Option GO)):FunV (some (.fn (.func f) first cap)) (some vs) pd r P F H n m Q=CalV f (first++(vs++cap)) pd r P F H n m Q:=propext Iff.rfl
@[simp] theorem grdV_t (pd:Pd)(e:Eff)(r:List (Option GO)):GrdV (some (.bool true)) true pd e r P F H n m Q=OpV (e F H n) pd r P F H n m Q:=propext Iff.rfl
@[simp] theorem grdV_f (pd:Pd)(e:Eff)(r:List (Option GO)):GrdV (some (.bool false)) true pd e r P F H n m Q=VCO P r (pd.f (.tup []) F) H n m Q:=propext Iff.rfl
@[simp] theorem grdV_t' (pd:Pd)(e:Eff)(r:List (Option GO)):GrdV (some (.bool true)) false pd e r P F H n m Q=VCO P r (pd.f (.tup []) F) H n m Q:=propext Iff.rfl
@[simp] theorem grdV_f' (pd:Pd)(e:Eff)(r:List (Option GO)):GrdV (some (.bool false)) false pd e r P F H n m Q=OpV (e F H n) pd r P F H n m Q:=propext Iff.rfl
@[simp] theorem grdV_tup (l:List AV)(b:Bool)(pd:Pd)(e:Eff)(r:List (Option GO)):GrdV (some (.tup l)) b pd e r P F H n m Q=VCO P r (pd.f (.tup []) F) H n m Q:=propext Iff.rfl
@[simp] theorem grcV_t (pd:Pd)(f:FuncId)(as:List G)(r:List (Option GO)):GrcV (some (.bool true)) true pd f as r P F H n m Q=ArgV (evs F as) f pd r P F H n m Q:=propext Iff.rfl
@[simp] theorem grcV_f (pd:Pd)(f:FuncId)(as:List G)(r:List (Option GO)):GrcV (some (.bool false)) true pd f as r P F H n m Q=VCO P r (pd.f (.tup []) F) H n m Q:=propext Iff.rfl
@[simp] theorem grcV_t' (pd:Pd)(f:FuncId)(as:List G)(r:List (Option GO)):GrcV (some (.bool true)) false pd f as r P F H n m Q=VCO P r (pd.f (.tup []) F) H n m Q:=propext Iff.rfl
@[simp] theorem grcV_f' (pd:Pd)(f:FuncId)(as:List G)(r:List (Option GO)):GrcV (some (.bool false)) false pd f as r P F H n m Q=ArgV (evs F as) f pd r P F H n m Q:=propext Iff.rfl
@[simp] theorem grcV_tup (l:List AV)(b:Bool)(pd:Pd)(f:FuncId)(as:List G)(r:List (Option GO)):GrcV (some (.tup l)) b pd f as r P F H n m Q=VCO P r (pd.f (.tup []) F) H n m Q:=propext Iff.rfl
@[simp] theorem grfV_t (pd:Pd)(g:G)(as:List G)(r:List (Option GO)):GrfV (some (.bool true)) true pd g as r P F H n m Q=FunV (g.f F) (evs F as) pd r P F H n m Q:=propext Iff.rfl
@[simp] theorem grfV_f (pd:Pd)(g:G)(as:List G)(r:List (Option GO)):GrfV (some (.bool false)) true pd g as r P F H n m Q=VCO P r (pd.f (.tup []) F) H n m Q:=propext Iff.rfl
@[simp] theorem grfV_t' (pd:Pd)(g:G)(as:List G)(r:List (Option GO)):GrfV (some (.bool true)) false pd g as r P F H n m Q=VCO P r (pd.f (.tup []) F) H n m Q:=propext Iff.rfl
@[simp] theorem grfV_f' (pd:Pd)(g:G)(as:List G)(r:List (Option GO)):GrfV (some (.bool false)) false pd g as r P F H n m Q=FunV (g.f F) (evs F as) pd r P F H n m Q:=propext Iff.rfl
@[simp] theorem grfV_tup (l:List AV)(b:Bool)(pd:Pd)(g:G)(as:List G)(r:List (Option GO)):GrfV (some (.tup l)) b pd g as r P F H n m Q=VCO P r (pd.f (.tup []) F) H n m Q:=propext Iff.rfl
@[simp] theorem vcO_nil:VCO P [] F H n m Q=Q .normal F H n m:=propext Iff.rfl
@[simp] theorem vcO_oP (pd:Pd)(e:Eff)(r:List (Option GO)):VCO P (oP pd e::r) F H n m Q=OpV (e F H n) pd r P F H n m Q:=propext Iff.rfl
@[simp] theorem vcO_gP (g:G)(b:Bool)(pd:Pd)(e:Eff)(r:List (Option GO)):VCO P (gP g b pd e::r) F H n m Q=GrdV (g.f F) b pd e r P F H n m Q:=propext Iff.rfl
theorem call_const (g:G)(as:List G)(K:FuncId->List AV->Prop)(K2:Nat->List AV->Prop):((∃f first cap vs,g.f F=some (.fn (.func f) first cap)/\evs F as=some vs/\K f (first++(vs++cap)))∨(∃q vs,g.f F=some (.yld q)/\evs F as=some vs/\K2 q vs))↔(match g.f F with
  | some (.fn (.func f) first cap)=>OpB (evs F as) λ vs=>K f (first++(vs++cap))
  | some (.yld q)=>OpB (evs F as) λ vs=>K2 q vs
  | _=>False):=by
 constructor
 ·rintro(⟨f,first,cap,vs,h1,h2,h3⟩ | ⟨q,vs,h1,h2,h3⟩)
  ·rw[h1,h2];exact h3
  rw[h1,h2];exact h3
 intro h
 split at h
 ·rename_i f first cap hg
  cases hv:evs F as with
  | none=>rw[hv]at h;exact absurd h id
  | some vs=>rw[hv]at h;exact .inl ⟨f,first,cap,vs,hg,rfl,h⟩
 ·rename_i q hg
  cases hv:evs F as with
  | none=>rw[hv]at h;exact absurd h id
  | some vs=>rw[hv]at h;exact .inr ⟨q,vs,hg,rfl,h⟩
 exact absurd h id
@[simp] theorem vcO_vP (pd:Pd)(g:G)(as:List G)(r:List (Option GO)):VCO P (vP pd g as::r) F H n m Q=FunV (g.f F) (evs F as) pd r P F H n m Q:=by
 refine Eq.trans (propext (call_const (F:=F) g as (λ f l=>CalV f l pd r P F H n m Q) λ q l=>YldV q l pd r P F H n m Q)) ?_;unfold FunV;rfl
@[simp] theorem vcO_cP (pd:Pd)(f:FuncId)(as:List G)(r:List (Option GO)):VCO P (cP pd f as::r) F H n m Q=ArgV (evs F as) f pd r P F H n m Q:=by
 refine Eq.trans (vcO_vP pd (constG (.fn (.func f) [] [])) as r) ?_;simp only[constG_f,FunV,ArgV,nil_append,append_nil]
@[simp] theorem vcO_gcP (g:G)(b:Bool)(pd:Pd)(f:FuncId)(as:List G)(r:List (Option GO)):VCO P (gcP g b pd f as::r) F H n m Q=GrcV (g.f F) b pd f as r P F H n m Q:=by
 show GrdE (g.f F) b (VCO P (cP pd f as::r) F H n m Q) _=_;rw[vcO_cP];rfl
def gvP (g:G)(b:Bool)(pd:Pd)(h:G)(as:List G):Option GO:=some ⟨some (g,b),pd,.call h as⟩
@[simp] theorem vcO_gvP (g:G)(b:Bool)(pd:Pd)(h:G)(as:List G)(r:List (Option GO)):VCO P (gvP g b pd h as::r) F H n m Q=GrfV (g.f F) b pd h as r P F H n m Q:=by
 show GrdE (g.f F) b (VCO P (vP pd h as::r) F H n m Q) _=_;rw[vcO_vP];rfl
@[simp] theorem funV_yld (q:Nat)(vs:List AV)(pd:Pd)(r:List (Option GO)):FunV (some (.yld q)) (some vs) pd r P F H n m Q=YldV q vs pd r P F H n m Q:=propext Iff.rfl
theorem rng_const (g:G)(K:FuncId->List AV->List AV->Prop):(∃f first cap,g.f F=some (.fn (.func f) first cap)/\K f first cap)↔(match g.f F with
  | some (.fn (.func f) first cap)=>K f first cap
  | _=>False):=by
 constructor
 ·rintro⟨f,first,cap,h1,h2⟩;rw[h1];exact h2
 intro h
 split at h
 ·rename_i f first cap hg;exact⟨f,first,cap,hg,h⟩
 exact absurd h id
@[simp] theorem vc_range (nt:Nat)(g:G)(ps:List Nat)(a b:Code):VC P (.range nt g ps a b) F H n m Q=RngV (g.f F) nt ps a b P F H n m Q:=
 Eq.trans (propext (rng_const (F:=F) g λ f first cap=>CallR P f (first++(.yld n::cap)) ((H.put (Nat.succ n) (some .defd)).put n (some (.loop .ready .normal nt F ps a b))) (Nat.succ (Nat.succ n)) λ _ H' n'=>RngE n F m Q H' n')) (by unfold RngV;rfl)
theorem RngV.of {f:FuncId}{first cap:List AV}{nt:Nat}{ps:List Nat}{a b:Code}(h:CallR P f (first++(.yld n::cap)) ((H.put (n+1) (some .defd)).put n (some (.loop .ready .normal nt F ps a b))) (n+2) λ _ H' n'=>RngE n F m Q H' n'):RngV (some (.fn (.func f) first cap)) nt ps a b P F H n m Q:=h
theorem CodR.of {nt:Nat}{c:Code}{Q:QA}(h:VC P (ctOf P nt true c) F H n [] Q):CodR P nt c F H n Q:=λ cb=>vc_sound (r:=some cb) c F H n [] Q h
theorem YldV.of {q:Nat}{vs:List AV}{pd:Pd}{r:List (Option GO)}{st:LoopState}{j:AOut}{nt:Nat}{F0 F1:Fr}{ps:List Nat}{a b:Code}(hq:H.get q=some (.loop st j nt F0 ps a b))(hp:putsF nt ps vs F0=some F1)
  (ha:VC P (ctOf P nt true a) F1 H n [] λ o F2 H2 n2 m2=>o=.normal/\m2=[]/\∃j2 nt2 G2 ps2 a2 b2,H2.get q=some (.loop .ready j2 nt2 G2 ps2 a2 b2)/\VC P (ctOf P nt true b) F2 (H2.put q (some (.loop .busy j2 nt2 G2 ps2 a2 b2))) n2 [] λ j3 _ H3 n3 _=>RndE q (λ v H' n'=>VCO P r (pd.f v F) H' n' m Q) j3 H3 n3):YldV q vs pd r P F H n m Q:=by
 refine⟨st,j,nt,F0,ps,a,b,F1,hq,hp,λ cb=>?_⟩;refine λ φ D ac w sta hf QQ hQ=>vc_sound (r:=some cb) a F1 H n [] _ ha φ D ac w sta hf QQ λ o F' H' n' m' φ' D' a' w' px h e s pp=>hQ o F' H' n' m' φ' D' a' w' px ?_ e s pp;obtain⟨h1,h2,j2,nt2,G2,ps2,a2,b2,h3,h4⟩:=h;exact⟨h1,h2,j2,nt2,G2,ps2,a2,b2,h3,CodR.of h4⟩
@[simp] theorem unmark_col {q:Nat}{m:List Dm}{H:Hp}(h:H.get q=some .defd):unmark (.col q::m) H=unmark m (H.put q none):=by
 simp only[unmark,h]
def rngs:Code->List (Code×Code)
 | .seq a b=>rngs a++rngs b
 | .cond _ a b=>rngs a++rngs b
 | .block _ b=>rngs b
 | .loop b=>rngs b
 | .scope b=>rngs b
 | .rangeFunc _ _ a b=>[(a,b)]
 | _=>[]
def rngOf (P:Program) (g k:Nat):Code×Code:=match P.funcs[g]? with
 | some fn=>match fn.body with
  | some b=>(rngs b).getD k (.skip,.skip)
  | none=>(.skip,.skip)
 | none=>(.skip,.skip)
theorem CalV.of {f:FuncId}{vs:List AV}{pd:Pd}{r:List (Option GO)}{R:AV->Hp->Nat->Prop}(h:CallR P f vs H n R)(k:∀v H' n',R v H' n'->VCO P r (pd.f v F) H' n' m Q):CalV f vs pd r P F H n m Q:=h.mono k
theorem CalV.pure {f:FuncId}{vs:List AV}{pd:Pd}{r:List (Option GO)}{v:AV}(h:FnPure P f vs v)(k:VCO P r (pd.f v F) H n m Q):CalV f vs pd r P F H n m Q:=(h.callR H n).mono λ u K k' ⟨a,b,c⟩=>by subst a b c;exact k
theorem CalV.frz {f:FuncId}{vs vs':List AV}{pd:Pd}{r:List (Option GO)}{v:AV}(h:FnPure P f vs' v)(hf:Flat v)(hz:FrzL H.get vs vs')(k:VCO P r (pd.f v F) H n m Q):CalV f vs pd r P F H n m Q:=(h.callF hf n hz).mono λ u K k' ⟨a,b,c⟩=>by subst a b c;exact k
theorem LoopV.of {b:CT}(I:Nat->Fr->Hp->Nat->List Dm->Prop)(k:Nat)(h0:I k F H n m)(hs:∀k F H n m,I k F H n m->VC P b F H n m (RndQ I k Q)):LoopV b P F H n m Q:=⟨I,I,k,h0,λ _ _ _ _ _ h=>Zs.refl h,hs⟩
theorem LoopV.ofZ {b:CT}(I:Nat->Fr->Hp->Nat->List Dm->Prop)(k:Nat)(h0:Zs I k F H n m)(hs:∀k F H n m,I k F H n m->VC P b F H n m (RndQ (Zs I) k Q)):LoopV b P F H n m Q:=⟨I,Zs I,k,h0,λ _ _ _ _ _ h=>h,hs⟩
theorem DrwV.of {ds:List Nat}{l:List (Option RO)}{ce:Ce}(hce:CeOk P ce)(h:Ev ((drwK ds (mkR l)).f ce F H n m) Q):DrwV ds l P F H n m Q:=⟨ce,_,F,H,hce,Shuts.refl F H,h⟩
theorem DrwV.ofZ {ds:List Nat}{l:List (Option RO)}{ce:Ce}{h:Hf}{F2:Fr}{H2:Hp}(hce:CeOk P ce)(s:Shuts h F H F2 H2)(k:Ev ((drwK ds (mkR l)).f ce F2 H2 n m) Q):DrwV ds l P F H n m Q:=⟨ce,h,F2,H2,hce,s,k⟩
theorem CondV.of {c:Prop} [Decidable c] {a b:CT}(h1:c->VC P a F H n m Q)(h2:¬c->VC P b F H n m Q):CondV (some (.bool (decide c))) a b P F H n m Q:=by
 by_cases h:c
 ·simp[h];exact h1 h
 simp[h];exact h2 h
theorem CondV.ofB {c:Bool}{a b:CT}(h1:c=true->VC P a F H n m Q)(h2:c=false->VC P b F H n m Q):CondV (some (.bool c)) a b P F H n m Q:=by
 cases c
 ·exact h2 rfl
 exact h1 rfl
theorem ce0_ok:CeOk P (ceOf λ _ _ _ _=>.fail):=ceOf_ok λ _ _ _ _ _ _ _ h=>by cases h
theorem pureV {g:FuncId}{c:CF}{args:List AV}{v:AV}(hc:ctF P g=some c)(hp:PureL args)(hv:Pure v)(hl:args.length<=c.nt)
  (h:∀F:Fr,(∀i,F.get i=args[i]?)->VC P c.code F .nil 0 [] (RetQ c.res λ v1 H' _=>Frz H'.get v1 v)):FnPure P g args v:=FnPure.ofR hp hv (CallR.of hc hl h)
def getV (r:CRes):Option AV:=match r with
 | .mk v _ _=>some v
 | _=>none
theorem FnPure.lit {g:FuncId}{args:List AV}{v:AV}(hp:PureL args)(hv:Pure v)(h:getV (fnCall P (ceOf λ _ _ _ _=>.fail) g args .nil 0)=some v):FnPure P g args v:=by
 refine FnPure.of ce0_ok hp ?_
 cases hr:fnCall P (ceOf λ _ _ _ _=>.fail) g args .nil 0 with
 | fail=>rw[hr]at h;cases h
 | pan v1 H' n'=>rw[hr]at h;cases h
 | mk v1 H' n'=>rw[hr]at h;injection h with h;subst h;exact⟨_,_,_,rfl,.pure _ hv⟩
theorem FnPure.byRun {g:FuncId}{args:List AV}{v:AV}(k:Nat)(hp:PureL args)(hv:Pure v)(h:getV ((Go.Abs.run P (k+1)).call g args .nil 0)=some v):FnPure P g args v:=by
 refine FnPure.of (run_ok (P:=P) k) hp ?_;have e:fnCall P (Go.Abs.run P k) g args .nil 0=(Go.Abs.run P (k+1)).call g args .nil 0:=rfl
 cases hr:fnCall P (Go.Abs.run P k) g args .nil 0 with
 | fail=>rw[<-e,hr]at h;cases h
 | pan v1 H' n'=>rw[<-e,hr]at h;cases h
 | mk v1 H' n'=>rw[<-e,hr]at h;injection h with h;subst h;exact⟨_,_,_,rfl,.pure _ hv⟩
mutual
theorem VR.back {φ φ':Ph}{D D':Da}(hφ:∀b x,φ b=some x->φ' b=some x):∀ {v x x'},VR φ D v x->VR φ' D' v x'->VR φ D' v x'
 | _,_,_,.int _ _,.int _ _=>.int _ _
 | _,_,_,.bool _,.bool _=>.bool _
 | _,_,_,.str _ _ _,.str _ _ e=>.str _ _ e
 | _,_,_,.ptr _ _ _ _ _ h,.ptr _ _ _ _ _ k=>by rw[hφ _ _ h]at k;injection k with k;injection k with a b;injection b with b c;subst a b c;exact .ptr _ _ _ _ _ h
 | _,_,_,.sl _ _ _ _ _ _ _ _ _ h _ _,.sl _ _ _ _ _ _ _ _ _ k p q=>by rw[hφ _ _ h]at k;injection k with k;injection k with a b;injection b with b c;subst a b c;exact .sl _ _ _ _ _ _ _ _ _ h p q
 | _,_,_,.agg _ _ _ h _,.agg _ _ _ k e=>.agg _ _ _ (VRs.back hφ h k) e
 | _,_,_,.tup _ _ h,.tup _ _ k=>.tup _ _ (VRs.back hφ h k)
 | _,_,_,.ifc _ _ _ h,.ifc _ _ _ k=>.ifc _ _ _ (VR.back hφ h k)
 | _,_,_,.fn _ _ _ _ _ h1 h2,.fn _ _ _ _ _ k1 k2=>.fn _ _ _ _ _ (VRs.back hφ h1 k1) (VRs.back hφ h2 k2)
 | _,_,_,.map _ _ _ _ h,.map _ _ _ _ k=>by rw[hφ _ _ h]at k;injection k with k;injection k with a b;injection b with b c;subst a b c;exact .map _ _ _ _ h
 | _,_,_,.ds _ _ _ _ _ _ _ _ _ _ _ h _,.ds _ _ _ _ _ _ _ _ a b c k e=>.ds _ _ _ _ _ _ _ _ a b c (VRs.back hφ h k) e
 | _,_,_,.ds _ _ _ _ _ _ _ _ _ _ _ _ _,.ds0 _ _ _=>.ds0 _ _ _
 | _,_,_,.ds _ _ _ _ _ _ _ _ _ _ _ _ _,.dsn _=>.dsn _
 | _,_,_,.ds0 _ _ _,.ds _ _ _ _ _ _ _ _ a b c k e=>.ds _ _ _ _ _ _ _ _ a b c (by cases k;exact .nil) e
 | _,_,_,.ds0 _ _ _,.ds0 _ _ _=>.ds0 _ _ _
 | _,_,_,.ds0 _ _ _,.dsn _=>.dsn _
 | _,_,_,.dsn _,.ds _ _ _ _ _ _ _ _ a b c k e=>.ds _ _ _ _ _ _ _ _ a b c (by cases k;exact .nil) e
 | _,_,_,.dsn _,.ds0 _ _ _=>.ds0 _ _ _
 | _,_,_,.dsn _,.dsn _=>.dsn _
 | _,_,_,.dp _ _ _ _ _ _ _ h,.dp _ _ _ _ _ a b k=>.dp _ _ _ _ _ a b (VRs.back hφ h k)
 | _,_,_,.yld _ _ _ _ h,.yld _ _ _ _ k=>by rw[hφ _ _ h]at k;injection k with k;injection k with a b;injection b with b c;subst a b c;exact .yld _ _ _ _ h
 | _,_,_,.cst _ _,.cst _ e=>.cst _ e
theorem VRs.back {φ φ':Ph}{D D':Da}(hφ:∀b x,φ b=some x->φ' b=some x):∀ {v x x'},VRs φ D v x->VRs φ' D' v x'->VRs φ D' v x'
 | _,_,_,.nil,.nil=>.nil
 | _,_,_,.cons _ _ _ _ h1 h2,.cons _ _ _ _ k1 k2=>.cons _ _ _ _ (VR.back hφ h1 k1) (VRs.back hφ h2 k2)
end
theorem EsR.back {φ φ':Ph}{D D':Da}(hφ:∀b x,φ b=some x->φ' b=some x):∀ {v x x'},EsR φ D v x->EsR φ' D' v x'->EsR φ D' v x'
 | _,_,_,.nil,.nil=>.nil
 | _,_,_,.cons _ _ _ _ _ _ _ a b c,.cons _ _ _ _ _ _ _ a' b' c'=>.cons _ _ _ _ _ _ _ (a.back hφ a') (b.back hφ b') (EsR.back hφ c c')
theorem FR.back {φ φ':Ph}{D D':Da}(hφ:∀b x,φ b=some x->φ' b=some x){F:Ff}{t t':Array Value}(h:FR φ D F t)(k:FR φ' D' F t'):FR φ D' F t':=by
 refine⟨λ s v hv=>?_,k.2⟩;obtain⟨x,_,h2⟩:=h.1 s v hv;obtain⟨y,k1,k2⟩:=k.1 s v hv;exact⟨y,k1,h2.back hφ k2⟩
theorem BlkR.back {φ φ':Ph}{D D':Da}{w w':World} {p}(hφ:∀b x,φ b=some x->φ' b=some x){k:ABlk}(h:BlkR φ D w p k)(k':BlkR φ' D' w' p k):BlkR φ D' w' p k:=by
 cases k with
 | cells u z bs t =>
  obtain⟨c,e,fr,h1,h2,h3,h4,h5⟩:=h;obtain⟨c',e',fr',k1,k2,k3,k4,k5⟩:=k';exact⟨c',e',fr',k1,k2,k3,λ i v hv=>let ⟨x,_,a⟩:=h4 i v hv;let ⟨y,b,b'⟩:=k4 i v hv;⟨y,b,a.back hφ b'⟩,k5⟩
 | map es clk=>obtain⟨c,h1,h2⟩:=h;obtain⟨c',k1,k2⟩:=k';exact⟨c',k1,h2.back hφ k2⟩
 | loop st j nt F ps a b =>
  obtain⟨r,h1,h2,h3,h4,h5,h6⟩:=h;obtain⟨r',k1,k2,k3,k4,k5,k6⟩:=k';exact⟨r',k1,k2,k3,k4,h5.back hφ k5,k6⟩
 | defd=>exact k'
 | iter m s l c =>
  obtain⟨h0,cm,h1,h2⟩:=h;obtain⟨_,cm',k1,k2⟩:=k';refine⟨h0,cm',k1,?_⟩
  cases m with
  | none=>exact k2
  | some b =>
   obtain⟨cb,co,cz,h3,_⟩:=h2;obtain⟨cb',co',cz',k3,k4⟩:=k2;have:=hφ _ _ h3;rw[this]at k3;injection k3 with k3;injection k3 with e1 e2;exact⟨cb,co,cz,h3,by rw[k4,e1]⟩
theorem CallR.forget {g:FuncId}{args:List AV}{v0:AV}(hv:Flat v0)(h:CallR P g args H n (λ v H' _=>v=v0/\∀b,H.get b≠none->H'.get b=H.get b)):CallR P g args H n (λ u K k=>u=v0/\K=H/\k=n):=by
 refine⟨h.1,λ φ D w xs hr hvs hf RR hR=>h.2 φ D w xs hr hvs hf RR λ v H' n' φ' D' w' x ⟨hz,hk⟩ e r hx=>?_⟩;subst hz;refine hR v H n φ D' w' x ⟨rfl,rfl,rfl⟩ ⟨Nat.le_refl _,λ _ _ h=>h,λ _ a b=>absurd a b,e.dat,e.size,e.keep,λ b p hb hp=>.inr ⟨b,p,hb,hp,rfl⟩,e.dnew,λ _ h=>.inl h,e.os,e.out⟩ ?_ (hv.out hx);refine⟨λ b k hb=>?_,hr.inj,λ b p hb hp=>?_,r.dat⟩
 ·obtain⟨p,hp,hl,hb1⟩:=hr.blk b k hb;have hb':H'.get b=some k:=by rw[hk b (by rw[hb];simp),hb]
  have:=(r.block hb' (e.phi _ _ hp)).2;exact⟨p,hp,Nat.lt_of_lt_of_le hl e.size,hb1.back e.phi this⟩
 exact r.sep b p (by rw[hk b hb];exact hb) (e.phi _ _ hp)
theorem CalV.same {f:FuncId}{vs:List AV}{pd:Pd}{r:List (Option GO)}{v:AV}(h:CallR P f vs H n (λ u K k=>u=v/\K=H/\k=n))(k:VCO P r (pd.f v F) H n m Q):CalV f vs pd r P F H n m Q:=h.mono λ u K k' ⟨a,b,c⟩=>by subst a b c;exact k
end
end Go.Abs
namespace Go.Abs
open List
section
variable {P:Program}
theorem EvE.mono {r:ERes}{H:Hp}{n:Nat}{k k':AV->Hp->Nat->Prop}(h:EvE r H n k)(hk:∀v H n,k v H n->k' v H n):EvE r H n k':=by
 cases r<;>first | exact h | exact hk _ _ _ h
theorem GrdE.mono {v:Option AV}{b:Bool}{p q p' q':Prop}(h:GrdE v b p q)(hp:p->p')(hq:q->q'):GrdE v b p' q':=by
 unfold GrdE at h ⊢
 split at h
 ·rename_i c
  cases hc:(c == b)with
  | true=>rw[hc]at h;exact hp h
  | false=>rw[hc]at h;exact hq h
 ·exact hq h
 exact h
theorem CondE.mono {v:Option AV}{p q p' q':Prop}(h:CondE v p q)(hp:p->p')(hq:q->q'):CondE v p' q':=by
 unfold CondE at h ⊢
 split at h
 ·exact hp h
 ·exact hq h
 exact h
theorem Ev.mono {r:Res}{Q Q':QA}(h:Ev r Q)(hq:∀o F H n m,Q o F H n m->Q' o F H n m):Ev r Q':=by
 unfold Ev at h ⊢
 split at h
 ·exact h
 ·exact hq _ _ _ _ _ h
 exact h
theorem CodR.mono {nt:Nat}{c:Code}{F:Fr}{H:Hp}{n:Nat}{Q Q':QA}(h:CodR P nt c F H n Q)(hq:∀o F H n m,Q o F H n m->Q' o F H n m):CodR P nt c F H n Q':=
 λ cb φ D a w st hf QQ hQ=>h cb φ D a w st hf QQ λ o F' H' n' m' φ' D' a' w' px q=>hQ o F' H' n' m' φ' D' a' w' px (hq _ _ _ _ _ q)
theorem YldR.mono {q:Nat}{vs:List AV}{H:Hp}{n:Nat}{R S:AV->Hp->Nat->Prop}(h:YldR P q vs H n R)(hs:∀v H' n',R v H' n'->S v H' n'):YldR P q vs H n S:=by
 obtain⟨st,j,nt,F0,ps,a,b,F1,h1,h2,h3⟩:=h;refine⟨st,j,nt,F0,ps,a,b,F1,h1,h2,h3.mono ?_⟩;rintro o F2 H2 n2 m2 ⟨rfl,rfl,j2,nt2,G2,ps2,a2,b2,h4,h5⟩;refine⟨rfl,rfl,j2,nt2,G2,ps2,a2,b2,h4,h5.mono ?_⟩;rintro j3 _ H3 n3 _ ⟨st,nt,G,ps,a,b,j0,h6,h7⟩;refine⟨st,nt,G,ps,a,b,j0,h6,?_⟩
 cases j3<;>first | exact hs _ _ _ h7 | exact h7
theorem calE_mono {x:Option AV}{as:Option (List AV)}{H:Hp}{n:Nat}{R S:AV->Hp->Nat->Prop}(hs:∀v H' n',R v H' n'->S v H' n')
  (h:(∃f first cap vs,x=some (.fn (.func f) first cap)/\as=some vs/\CallR P f (first++(vs++cap)) H n R)∨(∃q vs,x=some (.yld q)/\as=some vs/\YldR P q vs H n R)):
  (∃f first cap vs,x=some (.fn (.func f) first cap)/\as=some vs/\CallR P f (first++(vs++cap)) H n S)∨(∃q vs,x=some (.yld q)/\as=some vs/\YldR P q vs H n S):=by
 rcases h with⟨f,first,cap,vs,a,b,c⟩ | ⟨q,vs,a,b,c⟩
 ·exact .inl ⟨f,first,cap,vs,a,b,c.mono hs⟩
 exact .inr ⟨q,vs,a,b,c.mono hs⟩
theorem VCO.mono:∀(l:List (Option GO))(F:Fr)(H:Hp)(n:Nat)(m:List Dm)(Q Q':QA),(∀o F H n m,Q o F H n m->Q' o F H n m)->VCO P l F H n m Q->VCO P l F H n m Q'
 | [],_F,_H,_n,_m,_Q,_Q',hq,h=>hq _ _ _ _ _ h
 | none::_,_,_,_,_,_,_,_,h=>h
 | some ⟨none,_pd,.eff _e⟩::r,_F,_H,_n,_m,_Q,_Q',hq,h=>EvE.mono h λ _v _H' _n'=>VCO.mono r _ _ _ _ _ _ hq
 | some ⟨none,_pd,.call _g _as⟩::r,_F,_H,_n,_m,_Q,_Q',hq,h=>calE_mono (λ _v _H' _n'=>VCO.mono r _ _ _ _ _ _ hq) h
 | some ⟨none,_,.bad⟩::_,_,_,_,_,_,_,_,h=>h
 | some ⟨none,_,.flt _⟩::_,_,_,_,_,_,_,_,h=>h
 | some ⟨none,_,.raw _⟩::_,_,_,_,_,_,_,_,h=>h
 | some ⟨some (_g,_b),_pd,.eff _e⟩::r,_F,_H,_n,_m,_Q,_Q',hq,h=>GrdE.mono h (λ h=>EvE.mono h λ _v _H' _n'=>VCO.mono r _ _ _ _ _ _ hq) (VCO.mono r _ _ _ _ _ _ hq)
 | some ⟨some (_g,_b),_pd,.call _ _as⟩::r,_F,_H,_n,_m,_Q,_Q',hq,h=>GrdE.mono h (λ h=>calE_mono (λ _v _H' _n'=>VCO.mono r _ _ _ _ _ _ hq) h) (VCO.mono r _ _ _ _ _ _ hq)
 | some ⟨some (_g,_b),_pd,.bad⟩::r,_F,_H,_n,_m,_Q,_Q',hq,h=>GrdE.mono h id (VCO.mono r _ _ _ _ _ _ hq)
 | some ⟨some (_g,_b),_pd,.flt _⟩::r,_F,_H,_n,_m,_Q,_Q',hq,h=>GrdE.mono h id (VCO.mono r _ _ _ _ _ _ hq)
 | some ⟨some (_g,_b),_pd,.raw _⟩::r,_F,_H,_n,_m,_Q,_Q',hq,h=>GrdE.mono h id (VCO.mono r _ _ _ _ _ _ hq)
theorem VC.mono:∀(c:CT)(F:Fr)(H:Hp)(n:Nat)(m:List Dm)(Q Q':QA),(∀o F H n m,Q o F H n m->Q' o F H n m)->VC P c F H n m Q->VC P c F H n m Q'
 | .reg l,F,H,n,m,Q,Q',hq,h=>VCO.mono l F H n m Q Q' hq h
 | .drw ds l,F,H,n,m,Q,Q',hq,⟨ce,h,F2,H2,a,s,b⟩=>⟨ce,h,F2,H2,a,s,b.mono hq⟩
 | .seq a b,F,H,n,m,Q,Q',hq,h=>VC.mono a F H n m _ _ (λ o F' H' n' m' h'=>match o,h' with
  | .normal,h'=>VC.mono b F' H' n' m' _ _ hq h'
  | .exit i,h'=>hq _ _ _ _ _ h'
  | .ret,h'=>hq _ _ _ _ _ h'
  | .panic _,h'=>h') h
 | .cond g a b,F,H,n,m,Q,Q',hq,h=>CondE.mono h (VC.mono a _ _ _ _ _ _ hq) (VC.mono b _ _ _ _ _ _ hq)
 | .block i b,F,H,n,m,Q,Q',hq,h=>VC.mono b F H n m _ _ (λ o F' H' n' m' h'=>match o,h' with
  | .normal,h'=>hq _ _ _ _ _ h'
  | .exit j,h'=>by
   unfold BlkQ at h' ⊢;dsimp only at h' ⊢
   split at h'
   ·rename_i e;rw[if_pos e];exact hq _ _ _ _ _ h'
   rename_i e;rw[if_neg e];exact hq _ _ _ _ _ h'
  | .ret,h'=>hq _ _ _ _ _ h'
  | .panic _,h'=>h') h
 | .loop b,F,H,n,m,Q,Q',hq,⟨I,J,k,h0,hj,hs⟩=>⟨I,J,k,h0,hj,λ k F H n m hi=>VC.mono b F H n m _ _ (λ o F' H' n' m' h'=>match o,h' with
  | .normal,h'=>h'
  | .exit i,h'=>hq _ _ _ _ _ h'
  | .ret,h'=>hq _ _ _ _ _ h'
  | .panic _,h'=>h') (hs k F H n m hi)⟩
 | .exit i,F,H,n,m,Q,Q',hq,h=>hq _ _ _ _ _ h
 | .ret,F,H,n,m,Q,Q',hq,h=>hq _ _ _ _ _ h
 | .skip,F,H,n,m,Q,Q',hq,h=>hq _ _ _ _ _ h
 | .range nt g ps a b,F,H,n,m,Q,Q',hq,⟨f,first,cap,h1,h2⟩=>⟨f,first,cap,h1,h2.mono λ v H' n' ⟨st,j,nt,G,ps,a,b,e1,e2,e3,e4⟩=>⟨st,j,nt,G,ps,a,b,e1,e2,e3,hq _ _ _ _ _ e4⟩⟩
 | .bad,_,_,_,_,_,_,_,h=>h
 | .raw k,F,H,n,m,Q,Q',hq,⟨ce,a,b⟩=>⟨ce,a,b.mono hq⟩
def LoopU (P:Program) (b:CT) (Q:QA):Nat->Fr->Hp->Nat->List Dm->Prop
 | 0,_,_,_,_=>False
 | k+1,F,H,n,m=>VC P b F H n m λ o F' H' n' m'=>match o with
  | .normal=>LoopU P b Q k F' H' n' m'
  | .exit i=>Q (.exit i) F' H' n' m'
  | .ret=>Q .ret F' H' n' m'
  | .panic _=>False
def RndU (P:Program)(b:CT)(Q:QA)(k:Nat):QA:=λ o F' H' n' m'=>match o with
 | .normal=>LoopU P b Q k F' H' n' m'
 | .exit i=>Q (.exit i) F' H' n' m'
 | .ret=>Q .ret F' H' n' m'
 | .panic _=>False
variable {F:Fr}{H:Hp}{n:Nat}{m:List Dm}{Q:QA}
@[simp] theorem rndU_normal (b:CT)(k:Nat):RndU P b Q k .normal F H n m=LoopU P b Q k F H n m:=propext Iff.rfl
@[simp] theorem rndU_exit (b:CT)(k i:Nat):RndU P b Q k (.exit i) F H n m=Q (.exit i) F H n m:=propext Iff.rfl
@[simp] theorem rndU_ret (b:CT)(k:Nat):RndU P b Q k .ret F H n m=Q .ret F H n m:=propext Iff.rfl
theorem loopU_succ (b:CT)(k:Nat):LoopU P b Q (k+1) F H n m=VC P b F H n m (RndU P b Q k):=propext Iff.rfl
theorem LoopU.step {b:CT}{k:Nat}(h:VC P b F H n m (RndU P b Q k)):LoopU P b Q (k+1) F H n m:=h
theorem LoopV.ofU {b:CT}(k:Nat)(h:LoopU P b Q (k+1) F H n m):LoopV b P F H n m Q:=
 ⟨λ k F H n m=>LoopU P b Q k F H n m,λ k F H n m=>LoopU P b Q k F H n m,k+1,h,λ _ _ _ _ _ h=>Zs.refl h,λ k F H n m hi=>by
  cases k with
  | zero=>exact hi.elim
  | succ k =>
   refine VC.mono b F H n m _ _ (λ o F' H' n' m' h'=>?_) hi
   cases o with
   | normal=>exact⟨k,Nat.lt_succ_self k,h'⟩
   | exit i=>exact h'
   | ret=>exact h'
   | panic v=>exact h'⟩
end
end Go.Abs
namespace Go.Abs
open List
def OwnB (k:ABlk)(l:List AV):Prop:=∃u z bs t,k=.cells u z bs t/\u=l.length/\(∀i,getc u z bs t i=l[i]?)/\(t=.nil->z=[]->bs.length=u)
theorem OwnB.list {l:List AV}{u:Nat}(h:u=l.length):OwnB (.cells u [] l .nil) l:=⟨u,[],l,.nil,rfl,h,λ i=>by
 rw[getc_list]
 split
 ·rfl
 rw[getElem?_eq_none (by omega)],λ _ _=>h.symm⟩
theorem grabR_own {u:Nat}{z bs:List AV}{t:Ov AV}{l:List AV}(hg:∀i,getc u z bs t i=l[i]?)(o:Nat):∀(k:Nat)(acc:List AV),o+k<=l.length->grabR u z bs t o k acc=some ((l.drop o).take k++acc)
 | 0,acc,_=>by simp;rfl
 | k+1,acc,h=>by
  show osel (getc u z bs t (o+k)) none (λ v=>grabR u z bs t o k (v::acc))=_;rw[hg,getElem?_eq_getElem (by omega)];simp only[osel_some];rw[grabR_own hg o k _ (by omega),take_add_one,append_assoc]
  congr 1
  simp[getElem?_drop,getElem?_eq_getElem (show o+k<l.length by omega)]
theorem OwnB.grab {k:ABlk}{l:List AV}(h:OwnB k l){o c:Nat}(hc:o+c<=l.length):∃u z bs t,k=.cells u z bs t/\Go.Abs.grab u z bs t o c=some ((l.drop o).take c):=by
 obtain⟨u,z,bs,t,rfl,hu,hg,hi⟩:=h;refine⟨u,z,bs,t,rfl,?_⟩
 have ex:∃r,Go.Abs.grab u z bs t o c=some r:=by
  have hb:Nat.ble (Nat.add o c) u=true:=Nat.ble_eq_true_of_le (by rw[hu];exact hc)
  have orr:∀r,∃l',orR r u z bs t o c=some l':=by
   intro r;unfold orR
   split
   ·exact⟨_,rfl⟩
   exact⟨_,grabR_own hg o c [] hc⟩
  unfold Go.Abs.grab
  split
  ·split
   ·split
    ·exact⟨_,rfl⟩
    rw[hb];exact orr _
   split
   ·rw[hb];exact⟨_,rfl⟩
   exact⟨_,grabR_own hg o c [] hc⟩
  ·rw[hb];exact orr _
  rw[hb];dsimp only
  split
  ·split
   ·exact orr _
   exact orr _
  exact⟨_,grabR_own hg o c [] hc⟩
 obtain⟨r,hr⟩:=ex;rw[hr];obtain⟨h1,h2⟩:=grab_spec hi hr
 congr 1
 apply ext_getElem?;intro i
 by_cases hlt:i<c
 ·rw[<-h2 i hlt,hg,getElem?_take,if_pos hlt,getElem?_drop]
 rw[getElem?_eq_none (by omega),getElem?_eq_none (by simp;omega)]
def OwnS (H:Hp)(n:Nat)(v:AV)(l:List AV)(len sz:Nat):Prop:=l.length=len*sz/\((v=.cst (.slice none 0 0)/\len=0)∨∃b k,v=.sl b 0 len sz/\b<n/\H.get b=some k/\OwnB k l)
section
variable {P:Program}{F:Fr}{H:Hp}{n:Nat}{m:List Dm}{Q:QA}
theorem OwnS.nil (H:Hp)(n sz:Nat):OwnS H n (.cst (.slice none 0 0)) [] 0 sz:=⟨by simp,.inl ⟨rfl,rfl⟩⟩
theorem OwnS.frz {v:AV}{l l':List AV}{len sz:Nat}(h:OwnS H n v l len sz)(hl:FrzL H.get l l')(hz:0<sz:=by omega):Frz H.get v (.ds l' len sz):=by
 obtain⟨s',rfl⟩:∃k,sz=k+1:=⟨sz - 1,by omega⟩;obtain⟨h0,⟨rfl,rfl⟩ | ⟨b,k,rfl,hb,hk,ho⟩⟩:=h
 ·have:l=[]:=by simpa using h0
  subst this;cases hl;exact .nil _
 obtain⟨u,z,bs,t,rfl,hg⟩:=ho.grab (o:=0) (c:=len*(s'+1)) (by omega);refine .sl _ _ _ _ _ _ _ _ _ _ hk hg ?_;rw[drop_zero,take_of_length_le (by omega)];exact hl
theorem FrzL.pure {h:Hf}{l:List AV}(hl:PureL l):FrzL h l l:=by
 induction l with
 | nil=>exact .nil
 | cons v r ih=>simp only[pureL_cons]at hl;exact .cons _ _ _ _ (.pure _ hl.1) (ih hl.2)
theorem OwnS.cApp {v x:AV}{l new:List AV}{len sz by_ k:Nat}(h:OwnS H n v l len sz) (hx:sliceCells H sz x=some new) (hk:sliceLen x=some k) (hn:new.length=k*sz)
  (hs:0<sz)(hk0:0<k)(hbig:len+k<=big)(hby:by_<=4096)(h1:allOne new=true):
  ∃H',(∀K:AV->Hp->Nat->Prop,EvE (Go.Abs.cApp sz by_ n v x H) H n K=K (.sl n 0 (len+k) sz) H' (n+1))/\OwnS H' (n+1) (.sl n 0 (len+k) sz) (l++new) (len+k) sz/\∀c,c≠n->v≠.sl c 0 len sz->H'.get c=H.get c:=by
 unfold Go.Abs.cApp;rw[hx,hk];dsimp only;obtain⟨h0,⟨rfl,rfl⟩ | ⟨b,kb,rfl,hb,hkb,u,z,bs,t,rfl,hu,hg,hi⟩⟩:=h
 ·have hl:l=[]:=by simpa using h0
  subst hl
  have e:cApp1 sz by_ n k new H (.cst (.slice none 0 0))=.new (.sl n 0 k sz) (.cells (k*sz) [] new .nil):=by
   unfold cApp1;simp only[nat_beq,nat_blt,nat_ble,show ¬k=0 by omega,hs,show k<=big by omega,hby,h1,decide_true,decide_false,Bool.and_self]
  rw[e];refine⟨_,λ K=>(by rw[Nat.zero_add];rfl),⟨by simp[hn],.inr ⟨n,.cells (k*sz) [] new .nil,by simp,by omega,by simp,?_⟩⟩,λ c hc _=>?_⟩
  ·simpa using OwnB.list (l:=new) hn.symm
  simp[show ¬c=n by omega]
 have e:cApp1 sz by_ n k new H (.sl b 0 len sz)=.mv (.sl n 0 (len+k) sz) b (.cells ((len+k)*sz) z bs (Ov.putAll new (len*sz) t)):=by
  unfold cApp1 cApp2;simp only[nat_beq,nat_blt,nat_ble,show ¬k=0 by omega,hs,hbig,hby,h1,decide_true,decide_false,Bool.and_self,hkb,hu,h0,Nat.le_refl,forceN_eq]
 rw[e];have hm:(len+k)*sz=len*sz+k*sz:=Nat.add_mul _ _ _;refine⟨_,λ K=>rfl,⟨by simp[hn,h0,hm],.inr ⟨n,.cells ((len+k)*sz) z bs (Ov.putAll new (len*sz) t),rfl,by omega,by simp,_,z,bs,_,rfl,by simp[hn,h0,hm],λ i=>?_,λ ht=>?_⟩⟩,λ c hc hne=>?_⟩
 ·rw[getc_eq,Ov.get_putAll]
  by_cases hlt:i<(len+k)*sz
  ·rw[if_pos hlt]
   by_cases hin:len*sz<=i/\i<len*sz+new.length
   ·rw[if_pos hin,getElem?_append_right (by omega),h0];rw[getElem?_eq_getElem (by omega)]
   rw[if_neg hin,getElem?_append_left (by omega)];have:=hg i;rw[getc_eq,if_pos (by omega)]at this;exact this
  rw[if_neg hlt,getElem?_eq_none (by simp[h0,hn];omega)]
 ·exfalso
  cases new with
  | nil=>simp at hn;have:0<k*sz:=Nat.mul_pos hk0 hs;omega
  | cons v r =>
   have:=Ov.get_putAll (v::r) (len*sz) t (len*sz);rw[ht,if_pos (by simp)]at this;simp at this
 have:c≠b:=λ e=>hne (by rw[e]);simp[show ¬c=n by omega,this]
theorem OwnS.app {v x:AV}{l new:List AV}{len sz by_ k:Nat}{pd:Pd}{r:List (Option GO)}(h:OwnS H n v l len sz)(hx:sliceCells H sz x=some new)(hk:sliceLen x=some k)(hn:new.length=k*sz)
  (hs:0<sz)(hk0:0<k)(hbig:len+k<=big)(hby:by_<=4096)(h1:allOne new=true)
  (hgo:∀H',OwnS H' (n+1) (.sl n 0 (len+k) sz) (l++new) (len+k) sz->(∀c,c<n->v≠.sl c 0 len sz->H'.get c=H.get c)->VCO P r (pd.f (.sl n 0 (len+k) sz) F) H' (n+1) m Q):OpV (Go.Abs.cApp sz by_ n v x H) pd r P F H n m Q:=by
 obtain⟨H',e,h1,h2⟩:=h.cApp hx hk hn hs hk0 hbig hby h1;unfold OpV;rw[e];exact hgo H' h1 λ c hc=>h2 c (Nat.ne_of_lt hc)
theorem OwnS.appI {ce:Ce}{Hs:List Hp}{v x:AV}{l new:List AV}{len sz by_ k:Nat}{pd:Pd}{r:List (Option RO)}(h:OwnS H n v l len sz)(hx:sliceCells H sz x=some new)(hk:sliceLen x=some k)(hn:new.length=k*sz)
  (hs:0<sz)(hk0:0<k)(hbig:len+k<=big)(hby:by_<=4096)(h1:allOne new=true)
  (hgo:∀H',OwnS H' (n+1) (.sl n 0 (len+k) sz) (l++new) (len+k) sz->(∀c,c<n->v≠.sl c 0 len sz->H'.get c=H.get c)->Ev ((mkR r).f ce (pd.f (.sl n 0 (len+k) sz) F) H' (H'::Hs) (n+1) m) Q):EvI (Go.Abs.cApp sz by_ n v x H) pd r ce F H Hs n m Q:=by
 obtain⟨H',e,h1,h2⟩:=h.cApp hx hk hn hs hk0 hbig hby h1;unfold EvI;rw[e];exact hgo H' h1 λ c hc=>h2 c (Nat.ne_of_lt hc)
def FnOwn (P:Program)(g:FuncId)(args l:List AV)(len sz:Nat):Prop:=∀(H:Hp)(n:Nat),CallOk P g args H n (.sl n 0 len sz) (H.put n (some (.cells (len*sz) [] l .nil))) (n+1)
theorem FnOwn.of {g:FuncId}{args l:List AV}{len sz:Nat}(hp:PureL args) (hl:PureL l) (h0:0<len) (h:CallR P g args .nil 0 (λ v H' n'=>OwnS H' n' v l len sz)):FnOwn P g args l len sz:=by
 intro H n;refine⟨h.1,Nat.le_succ n,λ φ D w xs hr hv hf R hR=>?_⟩;refine h.2 PhN D w xs (rel_none hr.dat) (hp.vrs hv) (λ _ _=>rfl) R λ v H' n' φ' D' w' x ho e r hx=>?_;obtain⟨hlen,⟨_,hz⟩ | ⟨b,k,rfl,hb,hk,ho⟩⟩:=ho
 ·omega
 cases hx with
 | sl _ _ _ _ cb co cz cap ad hp' hle had =>
 have hn:φ n=none:=hf n (Nat.le_refl _) (by omega);have hm:=Ph.set_mono (p:=(cb,co,cz)) hn;have hlive:=r.block hk hp'
 have hcb:w.heap.size<=cb:=by
  rcases e.live b _ (by rw[hk];simp) hp' with h | ⟨b0,p0,hh,_⟩
  ·exact h
  simp at hh
 have hdn:∀c,D' c≠none->D c≠none∨w.heap.size<=c:=by
  intro c hc
  rcases e.dnew c hc with h | h | ⟨b0,p0,hh,_⟩
  ·exact .inl h
  ·exact .inr h
  simp at hh
 have hold:∀c p,H.get c≠none->φ c=some p->p.1<w.heap.size:=by
  intro c p hc hp
  cases hx:H.get c with
  | none=>exact absurd hx hc
  | some k=>exact(hr.block hx hp).1
 have hhn:H.get n=none:=by
  cases hx:H.get n with
  | none=>rfl
  | some k=>obtain⟨p,hp,_⟩:=hr.blk n k hx;rw[hn]at hp;cases hp
 refine hR (φ.set n (cb,co,cz)) D' w' _ ⟨Nat.le_succ n,hm,?_,e.dat,e.size,λ c hc _=>e.keep c hc λ b p hb=>by simp at hb,?_,λ c hc=>(hdn c hc).elim .inl λ h=>.inr (.inl h),?_,e.os,e.out⟩ ⟨?_,?_,?_,r.dat⟩ ?_
 ·intro c h0 h1;unfold Ph.set at h1
  by_cases hc:c=n
  ·omega
  simp[hc,h0]at h1
 ·intro c p hc hp;rw[Tr.get_put]at hc;unfold Ph.set at hp
  by_cases hcn:c=n
  ·subst hcn;simp at hp;subst hp;exact .inl hcb
  simp[hcn]at hc hp;exact .inr ⟨c,p,hc,hp,rfl⟩
 ·intro c hc;rw[Tr.get_put]at hc
  by_cases hcn:c=n
  ·exact .inr (by omega)
  simp[hcn]at hc;exact .inl hc
 ·intro c kk hc;rw[Tr.get_put]at hc
  by_cases hcn:c=n
  ·subst hcn;simp at hc;subst hc;refine⟨(cb,co,cz),by simp[Ph.set],hlive.1,?_⟩;obtain⟨u,z,bs,t,rfl,hu,hg,hi⟩:=ho;obtain⟨cc,ee,fr,q1,q2,q3,q4,q5,q6⟩:=hlive.2;refine⟨cc,ee,fr,q1,q2,q3,λ i v hv=>?_,λ _ _=>hlen,by omega⟩;rw[getc_list]at hv
   split at hv
   ·have:=hg i;rw[hv]at this;obtain⟨y,hy,hvy⟩:=q4 i v this;exact⟨y,hy,(hl.mem v (mem_of_getElem? hv)).out hvy⟩
   cases hv
  rw[if_neg hcn]at hc;obtain⟨p,hp,hlt,hbk⟩:=hr.blk c kk hc;exact⟨p,hm _ _ hp,Nat.lt_of_lt_of_le hlt e.size,hbk.mono hm e.dat (e.keep _ hlt λ b p hb=>by simp at hb)⟩
 ·intro c d p q hc hd hp hq hpq;rw[Tr.get_put]at hc hd;unfold Ph.set at hp hq
  by_cases h1:c=n<;>by_cases h2:d=n<;>simp[h1,h2]at hc hd hp hq ⊢
  ·have:=hold d q hd hq;rw[<-hp]at hpq;simp at hpq;omega
  ·have:=hold c p hc hp;rw[<-hq]at hpq;simp at hpq;omega
  exact hr.inj c d p q hc hd hp hq hpq
 ·intro c p hc hp;rw[Tr.get_put]at hc;unfold Ph.set at hp
  by_cases h1:c=n
  ·subst h1;simp at hp;subst hp;exact r.sep b (cb,co,cz) (by rw[hk];simp) hp'
  simp[h1]at hc hp
  cases hD:D' p.1 with
  | none=>rfl
  | some x =>
   rcases hdn p.1 (by rw[hD];simp)with h | h
   ·exact absurd (hr.sep c p hc hp) h
   have:=hold c p hc hp;omega
 exact .sl _ _ _ _ cb co cz cap ad (by simp[Ph.set]) hle had
theorem CalV.own {f:FuncId}{vs l:List AV}{len sz:Nat}{pd:Pd}{r:List (Option GO)}(h:FnOwn P f vs l len sz)(k:VCO P r (pd.f (.sl n 0 len sz) F) (H.put n (some (.cells (len*sz) [] l .nil))) (n+1) m Q):CalV f vs pd r P F H n m Q:=
 (h H n).callR.mono λ u K k' ⟨a,b,c⟩=>by subst a b c;exact k
open Classical in
def ceT (l:List (FuncId×List AV×(Hp->Nat->CRes))):Ce:=ceOf λ g args H n=>match l.find? (λ x=>decide (x.1=g/\x.2.1=args))with
 | some x=>x.2.2 H n
 | none=>.fail
theorem ceT_ok {l:List (FuncId×List AV×(Hp->Nat->CRes))}(h:∀x∈l,∀H n v H' n',x.2.2 H n=.mk v H' n'->CallOk P x.1 x.2.1 H n v H' n'):CeOk P (ceT l):=by
 refine ceOf_ok λ g args H n v H' n' e=>?_
 split at e
 ·rename_i x hx;have h1:=find?_some hx;simp at h1;obtain⟨rfl,rfl⟩:=h1;exact h x (mem_of_find?_eq_some hx) H n v H' n' e
 cases e
theorem ceT_hd (g:FuncId)(args:List AV)(f:Hp->Nat->CRes)(l:List (FuncId×List AV×(Hp->Nat->CRes)))(H:Hp)(n:Nat):(ceT ((g,args,f)::l)).call g args H n=noPan (f H n):=by
 simp[ceT,ceOf]
theorem ceT_tl {g g':FuncId}{args args':List AV}{f:Hp->Nat->CRes}{l:List (FuncId×List AV×(Hp->Nat->CRes))}(h:g=g'->args=args'->∀H n,(ceT l).call g args H n=noPan (f H n))(H:Hp)(n:Nat):(ceT ((g',args',f)::l)).call g args H n=(ceT l).call g args H n:=by
 by_cases e:g'=g/\args'=args
 ·obtain⟨rfl,rfl⟩:=e;rw[h rfl rfl,ceT_hd]
 simp only[ceT,ceOf,find?_cons,e,decide_false]
theorem ceT_pure {g:FuncId}{args:List AV}{u:AV}(h:FnPure P g args u):∀H n v H' n',CRes.mk u H n=.mk v H' n'->CallOk P g args H n v H' n':=by
 intro H n v H' n' e;cases e;exact h.callOk H n
end
theorem Frz.bool {h:Hf}{a b:Bool}(e:a=b):Frz h (.bool a) (.bool b):=by subst e;exact .pure _ (by simp)
theorem Frz.eq {h:Hf}{v v':AV}(hp:Pure v')(e:v=v'):Frz h v v':=by subst e;exact .pure _ hp
@[simp] theorem sliceCells_ds (H:Hp)(cs:List AV)(len sz:Nat):sliceCells H sz (.ds cs len sz)=some cs:=by simp[sliceCells]
@[simp] theorem sliceLen_ds (cs:List AV)(len sz:Nat):sliceLen (.ds cs len sz)=some len:=Eq.trans rfl rfl
@[simp] theorem sliceLen_sl (b o len sz:Nat):sliceLen (.sl b o len sz)=some len:=Eq.trans rfl rfl
theorem sliceCells_sl {H:Hp}{b o len sz:Nat}{k:ABlk}{l:List AV}(hb:H.get b=some k)(ho:OwnB k l)(hl:o+len*sz<=l.length):sliceCells H sz (.sl b o len sz)=some ((l.drop o).take (len*sz)):=by
 obtain⟨u,z,bs,t,rfl,hg⟩:=ho.grab hl;simp only[sliceCells,nat_beq,decide_true,cond_true,hb,hg]
end Go.Abs
namespace Go.Abs
open List
open Go.RowKit Go.ChangeShapes
def DofW (w:World):Da:=λ c=>match w.heap[c]? with
 | some (.cells x _ _)=>some x
 | _=>none
theorem dofW_dat (w:World)(hg:GB (DofW w)):Dat (DofW w) w:=by
 refine⟨λ c x h=>?_,hg⟩;unfold DofW at h
 split at h
 ·rename_i y e fr hy;injection h with h;subst h;exact⟨e,fr,hy⟩
 cases h
inductive All2 {α β:Type} (R:α->β->Prop):List α->List β->Prop
 | nil:All2 R [] []
 | cons {a b l m}:R a b->All2 R l m->All2 R (a::l) (b::m)
theorem All2.append {α β:Type}{R:α->β->Prop} {a b c d}(h:All2 R a b)(k:All2 R c d):All2 R (a++c) (b++d):=by
 induction h with
 | nil=>exact k
 | cons h1 _ ih=>exact .cons h1 ih
section
variable {H:Type}{enc:TypeId×Value->H}{P:Program}{w:World}{base:Nat}{spare:Nat->Bool}{held:Bool}
theorem mapM_get {α:Type}{f:Nat->Option α}:∀ {k:Nat}{l:List α},(List.range k).mapM f=some l->l.length=k/\∀i,i<k->f i=l[i]?:=by
 intro k l h;exact⟨by simpa using mapM_some_length h,λ i hi=>mapM_some_get h i i (by simp[hi])⟩
theorem cells_chunk {cb co i s:Nat}{x:Array Value}{e:TypeId}{fr:Nat×Nat}{cs:List Value}(hx:w.heap[cb]?=some (.cells x e fr)) (h:w.cells? base ((⟨cb,co,none⟩:Addr).add i) s=some cs):cs=(x.toList.drop (co+i)).take s/\cs.length=s:=by
 unfold World.cells? at h
 split at h
 ·obtain⟨hl,hg⟩:=mapM_get h;refine⟨?_,hl⟩;apply ext_getElem?;intro j
  by_cases hj:j<s
  ·rw[<-hg j hj,getElem?_take,if_pos hj,getElem?_drop]
   have ha:((⟨cb,co,none⟩:Addr).add i).add j=⟨cb,co+i+j,none⟩:=by
    unfold Addr.add
    by_cases h1:i=0<;>by_cases h2:j=0<;>simp[h1,h2]
   rw[ha];simp[World.cell?,hx]
  rw[getElem?_eq_none (by omega),getElem?_eq_none (by simp;omega)]
 cases h
theorem flatMap_len {α:Type}{av:α->List AV}{s:Nat}(hav:∀a,(av a).length=s)(l:List α):(l.flatMap av).length=l.length*s:=by
 induction l with
 | nil=>simp
 | cons a r ih=>rw[flatMap_cons,length_append,ih,hav,length_cons,Nat.add_mul];omega
theorem read_slice {α:Type}{av:α->List AV}{R:α->DataW H->Prop}{t e:TypeId}{s fuel:Nat}{cs:List Value}{x:DataW H×List MemPlace}(ht:P.underlying t=some (.slice e)) (hs:P.cellsOf e=s) (h0:0<s) (hav:∀a,(av a).length=s)
  (hel:∀n cs y,n<fuel->DataW.trod enc P w base spare held n e cs=some y->∃a,VRs PhN (DofW w) (av a) cs/\R a y.1)
  (h:DataW.trod enc P w base spare held fuel t cs=some x):∃v l,cs=[v]/\VR PhN (DofW w) (.ds (l.flatMap av) l.length s) v/\((l=[]/\x.1=.nil)∨∃ds rest,x.1=.slice ds rest/\All2 R l ds):=by
 rcases DataW.trod_slice ht h with⟨rfl,rfl⟩ | ⟨a,len,cap,elems,rest,n,rfl,rfl,rfl,_,hle,_,hlen,hg,_,_⟩
 ·obtain⟨s,rfl⟩:∃k,s=k+1:=⟨s - 1,by omega⟩;exact⟨_,[],rfl,.dsn s,.inl ⟨rfl,rfl⟩⟩
 refine⟨.slice (some a) len cap,?_⟩
 by_cases hl0:len=0
 ·subst hl0;have:elems=[]:=length_eq_zero_iff.1 hlen;subst this;exact⟨[],rfl,.ds0 _ _ _,.inr ⟨_,_,rfl,.nil⟩⟩
 rw[hs]at hg;have h00:=hg 0 (by omega);have hlt0:0<elems.length:=by omega
 rw[getElem?_eq_getElem hlt0,Option.bind_eq_some_iff]at h00;obtain⟨cs0,hc0,_⟩:=h00;obtain⟨cb,co,sp⟩:=a
 have hsp:sp=none/\∃x e fr,w.heap[cb]?=some (.cells x e fr):=by
  unfold World.cells? at hc0
  split at hc0
  ·obtain⟨hl,hg'⟩:=mapM_get hc0;have:=hg' 0 h0;rw[getElem?_eq_getElem (by omega)]at this;simp only[Nat.zero_mul,Addr.add,if_true,World.cell?]at this
   split at this
   ·rename_i x e fr hx
    cases sp with
    | none=>exact⟨rfl,x,e,fr,hx⟩
    | some _=>simp at this
   cases this
  cases hc0
 obtain⟨rfl,xs,ee,fr,hx⟩:=hsp;have hD:DofW w cb=some xs:=by simp[DofW,hx]
 have key:∀k,k<=len->∃l:List α,l.length=k/\VRs PhN (DofW w) (l.flatMap av) ((xs.toList.drop co).take (k*s))/\All2 R l ((elems.map (·.1)).take k):=by
  intro k
  induction k with
  | zero=>intro _;exact⟨[],rfl,by simpa using VRs.nil,by simpa using All2.nil⟩
  | succ k ih =>
   intro hk;obtain⟨l,h1,h2,h3⟩:=ih (by omega);have hk':k<elems.length:=by omega
   have:=hg k (by omega);rw[getElem?_eq_getElem hk',Option.bind_eq_some_iff]at this;obtain⟨ck,hck,htk⟩:=this;obtain⟨b,hb1,hb2⟩:=hel n ck _ (Nat.lt_succ_self n) htk;obtain⟨hcc,hcl⟩:=cells_chunk hx hck;refine⟨l++[b],by simp[h1],?_,?_⟩
   ·rw[flatMap_append,show (k+1)*s=k*s+s by rw[Nat.add_mul];simp,take_add,drop_drop];refine h2.append ?_;rw[<-hcc];simpa using hb1
   rw[take_succ_eq_append_getElem (by simpa using hk')];exact All2.append h3 (.cons (by simpa using hb2) .nil)
 obtain⟨l,h1,h2,h3⟩:=key len (Nat.le_refl _);refine⟨l,rfl,?_,.inr ⟨_,_,rfl,?_⟩⟩
 ·rw[h1];refine .ds _ _ _ _ _ _ _ _ hD rfl ?_ h2 hle;rw[flatMap_len hav,h1]
 rw[take_of_length_le (by simp;omega)]at h3;exact h3
end
theorem read_agg {φ:Ph}{D:Da}{cs:List AV}{n:Nat}{v:Value}(hl:cs.length=n)(h2:n≠1)(h:VRs φ D cs v.cells.toList):VR φ D (.agg cs n) v:=by
 cases v with
 | agg xs=>obtain⟨l⟩:=xs;exact .agg _ _ _ h hl
 | _=>have:=h.length;simp[Value.cells]at this;omega
theorem kept_of {w w':World}{may:MemPlace->Prop}(hos:w'.os=w.os)(hout:w'.output=w.output)(hk:∀c,c<w.heap.size->w'.heap[c]?=w.heap[c]?):w.keptBut w' may:=by
 refine⟨hos,hout,λ i hi=>?_⟩;rw[hk i hi]
 cases w.heap[i]? with
 | none=>trivial
 | some o=>cases o<;>simp
theorem same_of {w w':World}(hk:∀c,c<w.heap.size->w'.heap[c]?=w.heap[c]?){p:MemPlace}(hp:p.block<w.heap.size):w.sameAt w' p:=by
 cases p with
 | cell b o=>exact World.cell?_of_block (w:=w) (hk b hp)
 | map b=>exact hk b hp
theorem trod_stays {H:Type}{enc:TypeId×Value->H}{P:Program}{t:TypeId}(hl:laidOutB P=true)(hr:P.readableRec t=true)(hrow:t<P.types.size){w w':World}{v:Value}{d:DataW H}{ps:List MemPlace}
  (h:DataW.Trod enc P w 0 (λ _=>true) true t v d ps)(hk:∀c,c<w.heap.size->w'.heap[c]?=w.heap[c]?)(hlt:∀x∈ps,x.block<w.heap.size):
  DataW.Trod enc P w' 0 (λ b=>decide (b<w.heap.size)) true t v d ps:=
 WideElems.Trod_stays hl hr hrow h (λ x hx=>same_of hk (hlt x hx)) (λ x hx=>by simpa using hlt x hx)
theorem trodAll_stays {H:Type}{enc:TypeId×Value->H}{P:Program}(hl:laidOutB P=true){w w':World}(hk:∀c,c<w.heap.size->w'.heap[c]?=w.heap[c]?):∀ {ts:List TypeId}{vs:List Value}{ds:List (DataW H)}{ps:List MemPlace},
  (∀t∈ts,P.readableRec t=true/\t<P.types.size)->DataW.TrodAll enc P w 0 (λ _=>true) true ts vs ds ps->(∀x∈ps,x.block<w.heap.size)->DataW.TrodAll enc P w' 0 (λ b=>decide (b<w.heap.size)) true ts vs ds ps
 | [],[],[],_,_,h,_=>h
 | t::ts,v::vs,d::ds,_,ht,⟨p,q,h1,h2,e⟩,hlt=>by
  subst e;exact⟨p,q,trod_stays hl (ht t (by simp)).1 (ht t (by simp)).2 h1 hk λ x hx=>hlt x (by simp[hx]),trodAll_stays hl hk (λ u hu=>ht u (by simp[hu])) h2 λ x hx=>hlt x (by simp[hx]),rfl⟩
 | [],_::_,_,_,_,h,_=>h.elim
 | [],[],_::_,_,_,h,_=>h.elim
 | _::_,[],_,_,_,h,_=>h.elim
 | _::_,_::_,[],_,_,h,_=>h.elim
theorem law_post {H:Type}{enc:TypeId×Value->H}{P:Program}{f:Func}{s:ChangeSpec}{w w':World}{args:Array Value}{ds gs:List (DataW H)}{before:List MemPlace}{tb:TypeId}(hl:laidOutB P=true)
  (ht:∀t∈f.params.toList,P.readableRec t=true/\t<P.types.size)(hvars:s.vars=[])(hres:f.resultTypes=#[tb])(hb:P.underlying tb=some .bool)
  (hfn:s.fn H (ds++gs)={results:=[.lit (.bool true)],args:=ds,vars:=[]})
  (hW:DataW.Whole enc P f.params.toList s.vars false w args.toList ds gs before)(hos:w'.os=w.os)(hout:w'.output=w.output)(hk:∀c,c<w.heap.size->w'.heap[c]?=w.heap[c]?):
  s.post enc P f false true false false w args (.bool true) w':=by
 have hW':=hW;obtain⟨p,q,hA,hV,rfl,hfz,hnd⟩:=hW;rw[hvars]at hV
 obtain⟨rfl,rfl⟩:gs=[]/\q=[]:=by
  cases gs with
  | nil=>exact⟨rfl,hV⟩
  | cons=>exact hV.elim
 refine⟨ds,[],p++[],[],p,[],hW',?_,?_,?_,kept_of hos hout hk,λ h=>by cases h⟩
 ·rw[hfn,hres];simp only[Value.resultList];exact⟨[],[],⟨1,by unfold DataW.trod;simp[hb,Value.cells]⟩,rfl,rfl⟩
 ·rw[hfn];exact trodAll_stays hl hk ht hA λ x hx=>by simpa using hW'.lt x (by simp[hx])
 rw[hfn,hvars];exact rfl
end Go.Abs
