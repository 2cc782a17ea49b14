/- A part. -/
import Derived.Test.YtlhafglnokpioaaGreatAbs5
noncomputable section
namespace Go.Abs
open List
section
mutual
def iF (n:Nat):AV->Prop
 |.ptr b _=>b<n
 |.sl b _ _ _=>b<n
 |.map b=>b<n
 |.iZ b=>b<n
 |.agg cs _=>dO n cs
 |.br cs=>dO n cs
 |.oQ _ v=>iF n v
 |.fn _ a b=>dO n a/\dO n b
 |.ds cs _ _=>dO n cs
 |.dp cs=>dO n cs
 |_=>True
def dO (n:Nat):List AV->Prop
 |[]=>True
 |v::r=>iF n v/\dO n r
end
variable {n:Nat}
@[simp] theorem atd (k:IntKind)(i:Int):iF n (.int k i):=by simp only[iF]
@[simp] theorem ao_ (b:Bool):iF n (.bool b):=by simp only[iF]
@[simp] theorem atc (l:List Nat):iF n (.str l):=by simp only[iF]
@[simp] theorem ate (v:Value):iF n (.aV v):=by simp only[iF]
@[simp] theorem OZ (b o:Nat):iF n (.ptr b o)=(b<n):=by simp only[iF]
@[simp] theorem ajZ (b o l s:Nat):iF n (.sl b o l s)=(b<n):=by simp only[iF]
@[simp] theorem aeP (b:Nat):iF n (.map b)=(b<n):=by simp only[iF]
@[simp] theorem O1 (cs:List AV)(k:Nat):iF n (.agg cs k)=dO n cs:=by simp only[iF]
@[simp] theorem OY (cs:List AV):iF n (.br cs)=dO n cs:=by simp only[iF]
@[simp] theorem O0 (t:TypeId)(v:AV):iF n (.oQ t v)=iF n v:=by simp only[iF]
@[simp] theorem aj0 (cs:List AV)(k s:Nat):iF n (.ds cs k s)=dO n cs:=by simp only[iF]
@[simp] theorem aj1 (cs:List AV):iF n (.dp cs)=dO n cs:=by simp only[iF]
@[simp] theorem WY:dO n []:=by simp only[dO]
@[simp] theorem iw (v:AV)(r:List AV):dO n (v::r)=(iF n v/\dO n r):=by simp only[dO]
theorem dO.mem:∀ {l:List AV},dO n l->∀v∈l,iF n v
 |[],_,v,hv=>by simp at hv
 |a::r,h,v,hv=>by
  simp only[iw]at h
  rcases mem_cons.1 hv with rfl|hv
  ·exact h.1
  exact dO.mem h.2 v hv
theorem dO.of:∀ {l:List AV},(∀v∈l,iF n v)->dO n l
 |[],_=>ai
 |a::r,h=>by simp only[iw];exact⟨h a ai,dO.of λ v hv=>h v (by simp[hv])⟩
mutual
theorem Flat.jQ:∀ {v:AV},Flat v->iF n v
 |.int _ _,_=>ai
 |.bool _,_=>ai
 |.str _,_=>ai
 |.aV _,_=>ai
 |.agg _ _,h=>by simp only[O1];exact fO.jQ (by simpa only [Flat]using h)
 |.br _,h=>by simp only[OY];exact fO.jQ (by simpa only [Flat]using h)
 |.oQ _ _,h=>by simp only[O0];exact Flat.jQ (by simpa only [Flat]using h)
 |.ptr _ _,h=>by simp only[Flat]at h
 |.sl _ _ _ _,h=>by simp only[Flat]at h
 |.map _,h=>by simp only[Flat]at h
 |.iZ _,h=>by simp only[Flat]at h
 |.fn _ _ _,h=>by simp only[Flat]at h
 |.ds _ _ _,h=>by simp only[Flat]at h
 |.dp _,h=>by simp only[Flat]at h
theorem fO.jQ:∀ {vs:List AV},fO vs->dO n vs
 |[],_=>ai
 |_::_,h=>by simp only[fO]at h;simp only[iw];exact⟨Flat.jQ h.1,fO.jQ h.2⟩
end
def ru (φ:Ph)(n:Nat):Ph:=λ b=>if b<n then φ b else none
theorem jB {φ:Ph}{b:Nat}(h:b<n):ru φ n b=φ b:=by unfold ru;rw[ay h]
theorem cn {φ:Ph}{b:Nat} {p}(h:ru φ n b=some p):b<n/\φ b=some p:=by
 unfold ru at h
 split at h
 ·rename_i hb;exact⟨hb,h⟩
 cases h
mutual
theorem VR.cut {φ:Ph}{D:Da}:∀ {v:AV}{x:Value},iF n v->VR φ D v x->VR (ru φ n) D v x
 |_,_,_,.int _ _=>.int _ _
 |_,_,_,.bool _=>.bool _
 |_,_,_,.str _ _ h=>.str _ _ h
 |_,_,r,.ptr _ _ _ _ _ h=>.ptr _ _ _ _ _ ((jB (by simpa using r)).trans h)
 |_,_,r,.sl _ _ _ _ _ _ _ _ _ h a b=>.sl _ _ _ _ _ _ _ _ _ ((jB (by simpa using r)).trans h) a b
 |_,_,r,.agg _ _ _ h e=>.agg _ _ _ (bT.cut (by simpa using r) h) e
 |_,_,r,.br _ _ h=>.br _ _ (bT.cut (by simpa using r) h)
 |_,_,r,.oQ _ _ _ h=>.oQ _ _ _ (VR.cut (by simpa using r) h)
 |_,_,r,.fn _ _ _ _ _ h k=>.fn _ _ _ _ _ (bT.cut (by simp only[iF]at r;exact r.1) h) (bT.cut (by simp only[iF]at r;exact r.2) k)
 |_,_,r,.map _ _ _ _ h=>.map _ _ _ _ ((jB (by simpa using r)).trans h)
 |_,_,r,.ds _ _ _ _ _ _ _ _ h a b c d=>.ds _ _ _ _ _ _ _ _ h a b (bT.cut (by simpa using r) c) d
 |_,_,_,.pY _ _ _=>.pY _ _ _
 |_,_,_,.tQ _=>.tQ _
 |_,_,r,.dp _ _ _ _ _ h a b=>.dp _ _ _ _ _ h a (bT.cut (by simpa using r) b)
 |_,_,r,.iZ _ _ _ _ h=>.iZ _ _ _ _ ((jB (by simp only[iF]at r;exact r)).trans h)
 |_,_,_,.aV _ h=>.aV _ h
theorem bT.cut {φ:Ph}{D:Da}:∀ {v:List AV}{x:List Value},dO n v->bT φ D v x->bT (ru φ n) D v x
 |_,_,_,.nil=>.nil
 |_,_,r,.cons _ _ _ _ h k=>.cons _ _ _ _ (VR.cut (by simp only[iw]at r;exact r.1) h) (bT.cut (by simp only[iw]at r;exact r.2) k)
end
def wv (n:Nat):bJ->Prop
 |.cells u z bs t=>∀i v,gR u z bs t i=some v->iF n v
 |.map es _=>∀e∈es,iF n e.1/\iF n e.2.1
 |.jN=>True
 |_=>False
theorem bV {u:Nat}{l:List AV}(h:dO n l):wv n (.cells u [] l .nil):=by
 intro i v hv;rw[nZ]at hv
 split at hv
 ·exact h.mem v (mem_of_getElem? hv)
 cases hv
theorem xe.cut {φ:Ph}{D:Da}:∀ {es l},(∀e∈es,iF n e.1/\iF n e.2.1)->xe φ D es l->xe (ru φ n) D es l
 |_,_,_,.nil=>.nil
 |_,_,r,.cons _ _ _ _ _ _ _ h k t=>.cons _ _ _ _ _ _ _ (h.cut (r _ (mem_cons_self ..)).1) (k.cut (r _ (mem_cons_self ..)).2) (xe.cut (λ e he=>r e (by simp[he])) t)
theorem iY.cut {φ:Ph}{D:Da}{w:World} {p}{k:bJ}(r:wv n k)(h:iY φ D w p k):iY (ru φ n) D w p k:=by
 cases k with
 |cells u z bs t =>
  obtain⟨c,e,fr,h1,h2,h3,h4,h5⟩:=h;exact⟨c,e,fr,h1,h2,h3,λ i v hv=>let ⟨x,a,b⟩:=h4 i v hv;⟨x,a,b.cut (r i v hv)⟩,h5⟩
 |map es clk=>obtain⟨Cd,h1,h2⟩:=h;exact⟨Cd,h1,h2.cut r⟩
 |jN=>exact h
 |loop=>exact aw r id
 |iter=>exact aw r id
end
def BLe (y' y:bJ):Prop:=∀(φ:Ph)(D:Da)(w:World)(p:Nat×Nat×Nat),iY φ D w p y'->iY φ D w p y
theorem BLe.refl (y:bJ):BLe y y:=λ _ _ _ _ h=>h
theorem OwnB.ble {y:bJ}{l:List AV}{u:Nat}(h:OwnB y l)(hu:u=l.length):BLe y (.cells u [] l .nil):=by
 subst hu;obtain⟨u,z,bs,t,rfl,rfl,hg,hl⟩:=h;rintro φ D w p ⟨c,e,fr,h1,h2,h3,h4,h5,h6⟩;refine⟨c,e,fr,h1,h2,h3,λ i v hv=>h4 i v ?_,λ _ _=>rfl,h6⟩;rw[nZ]at hv;rw[hg]
 split at hv
 ·exact hv
 cases hv
section
variable {P:Program}
theorem ao.okS {g:FuncId}{args:List AV}{S S' H H':Hp}{n n':Nat}{v0:AV}(h:ao P g args S n (λ v K k=>v=v0/\(∀b y,S'.get b=some y->∃y',K.get b=some y'/\BLe y' y)/\k<=n')) (hle:n<=n')
  (ha:dO n args)(hs:∀b k,S.get b=some k->b<n/\wv n k)(hsub:∀b k,S.get b=some k->H.get b=some k)
  (h1:∀b,S.get b≠none∨(n<=b/\b<n')->H'.get b=S'.get b)(h2:∀b,S.get b=none->¬(n<=b/\b<n')->H'.get b=H.get b):bC P g args H n v0 H' n':=by
 refine⟨h.1,hle,λ φ D w xs hrel hvs hf R hR=>?_⟩
 have hne:∀b,S.get b≠none->H.get b≠none:=λ b hb=>by
  cases hx:S.get b with
  |none=>exact aw hx hb
  |some k=>rw[hsub b k hx];simp
 have hr0:Rel (ru φ n) D S.get w:=by
  refine⟨λ b k hb=>?_,λ b c p q hb hc hp hq=>?_,λ b p hb hp=>?_,hrel.eQ⟩
  ·obtain⟨p,hp,hl,hk⟩:=hrel.blk b k (hsub b k hb);exact⟨p,(jB (hs b k hb).1).trans hp,hl,hk.cut (hs b k hb).2⟩
  ·exact hrel.inj b c p q (hne b hb) (hne c hc) (cn hp).2 (cn hq).2
  exact hrel.sep b p (hne b hb) (cn hp).2
 refine h.2 (ru φ n) D w xs hr0 (hvs.cut ha) (λ b hb=>?_) R λ v K k φ' D' w' x ⟨hv,hK,hk⟩ e r hx=>?_
 ·unfold ru;rw[ak ah]
 subst hv
 have awD:∀b p,φ' b=some p->(match φ b with|some p=>some p|none=>φ' b)=some p:=by
  intro b p hp
  cases hb:φ b with
  |none=>exact hp
  |some q =>
   dsimp only
   by_cases hlt:b<n
   ·have:=e.phi b q ((jB hlt).trans hb);rw[hp]at this;exact this.symm
   have h3:=e.new b (by unfold ru;rw[ak hlt]) (by rw[hp];simp);rw[hf b h3.1 ah]at hb;cases hb
 generalize hφ2:(λ b=>match φ b with|some p=>some p|none=>φ' b:Ph)=φ2;have ak_:∀b,φ2 b=match φ b with|some p=>some p|none=>φ' b:=λ b=>by rw[<-hφ2]
 have hup:∀b p,φ' b=some p->φ2 b=some p:=λ b p hp=>by rw[ak_];exact awD b p hp
 have vF:∀b p,φ b=some p->φ2 b=some p:=λ b p hp=>by rw[ak_,hp]
 have hcase:∀b,H'.get b≠none->(∃y y',H'.get b=some y/\K.get b=some y'/\BLe y' y)∨(S.get b=none/\¬(n<=b/\b<n')/\H'.get b=H.get b):=by
  intro b hb
  by_cases hc:S.get b≠none∨(n<=b/\b<n')
  ·cases hy:H'.get b with
   |none=>exact aw hy hb
   |some y =>
    obtain⟨y',h3,h4⟩:=hK b y (by rw[<-h1 b hc,hy]);exact .inl ⟨y,y',rfl,h3,h4⟩
  have hc1:S.get b=none:=Decidable.byContradiction λ h=>hc (.inl h);have hc2:¬(n<=b/\b<n'):=λ h=>hc (.inr h);exact .inr ⟨hc1,hc2,h2 b hc1 hc2⟩
 have hold:∀b,S.get b=none->H'.get b=H.get b->H'.get b≠none->∃p,φ b=some p/\p.1<w.heap.size/\(∀y,H'.get b=some y->iY φ D w p y)/\(∀b0 p0,S.get b0≠none->φ b0=some p0->p0.1≠p.1):=by
  intro b hb1 hb2 hb3
  cases hy:H.get b with
  |none=>rw[hb2,hy]at hb3;exact aw rfl hb3
  |some y =>
   obtain⟨p,hp,hlt,hk⟩:=hrel.blk b y hy;refine⟨p,hp,hlt,λ y' hy'=>?_,λ b0 p0 hb0 hp0 heq=>?_⟩
   ·rw[hb2,hy]at hy';injection hy' with hy';subst hy';exact hk
   have:=hrel.inj b0 b p0 p (hne b0 hb0) (by rw[hy];simp) hp0 hp heq;subst this;exact hb0 hb1
 have hnew:∀b p,K.get b≠none->φ2 b=some p->φ' b=some p:=by
  intro b p hb hp
  cases hy:K.get b with
  |none=>exact aw hy hb
  |some y =>
   obtain⟨q,hq,_⟩:=r.blk b y hy;have:=hup b q hq;rw[hp]at this;rw[hq,this]
 have hs':∀ {b:Nat} {y:bJ},K.get b=some y->K.get b≠none:=λ h=>by rw[h];simp
 refine hR φ2 D' w' x ⟨hle,vF,λ b hb hb2=>?_,e.eQ,e.size,λ c hc hk=>e.keep c hc λ b p hb hp=>hk b p (hne b hb) (cn hp).2,λ b p hb hp=>?_,λ c hc=>?_,λ b hb=>?_,e.os,e.out⟩
  ⟨λ b y hy=>?_,λ b c p q hb hc hp hq heq=>?_,λ b p hb hp=>?_,r.eQ⟩ (hx.mono hup λ _ _ h=>h)
 ·have h3:=e.new b (by
   cases hc:ru φ n b with
   |none=>rfl
   |some p=>rw[(cn hc).2]at hb;cases hb) (by rw[ak_,hb]at hb2;exact hb2)
  omega
 ·rcases hcase b hb with⟨_,_,_,h3,_⟩|⟨h3,_,h5⟩
  ·rcases e.live b p (hs' h3) (hnew b p (hs' h3) hp)with h4|⟨b0,p0,h5,h6,h7⟩
   ·exact .inl h4
   exact .inr ⟨b0,p0,hne b0 h5,(cn h6).2,h7⟩
  obtain⟨p1,hp1,hlt,_⟩:=hold b h3 h5 hb;have:=vF b p1 hp1;rw[hp]at this;injection this with this;subst this;exact .inr ⟨b,p,by rw[<-h5];exact hb,hp1,rfl⟩
 ·rcases e.kD c hc with h4|h4|⟨b0,p0,h5,h6,h7⟩
  ·exact .inl h4
  ·exact .inr (.inl h4)
  exact .inr (.inr ⟨b0,p0,hne b0 h5,(cn h6).2,h7⟩)
 ·rcases hcase b hb with⟨_,_,_,h3,_⟩|⟨_,_,h5⟩
  ·rcases e.hid b (hs' h3)with h4|h4
   ·exact .inl (hne b h4)
   exact .inr ah
  exact .inl (by rw[<-h5];exact hb)
 ·have hb:H'.get b≠none:=by rw[hy];simp
  rcases hcase b hb with⟨y1,y',h2,h3,h4⟩|⟨h3,_,h5⟩
  ·rw[hy]at h2;injection h2 with h2;subst h2;obtain⟨p,hp,hl,hk⟩:=r.blk b y' h3;exact⟨p,hup b p hp,hl,(h4 _ _ _ _ hk).mono hup (λ _ _ h=>h) rfl⟩
  obtain⟨p,hp,hlt,hB,hx⟩:=hold b h3 h5 hb;exact⟨p,vF b p hp,Nat.lt_of_lt_of_le hlt e.size,(hB y hy).mono vF e.eQ (e.keep p.1 hlt λ b0 p0 hb0 hp0=>hx b0 p0 hb0 (cn hp0).2)⟩
 ·have mixed:∀b c p q,K.get b≠none->S.get c=none->H'.get c=H.get c->H'.get c≠none->φ2 b=some p->φ2 c=some q->p.1=q.1->b=c:=by
   intro b c p q hb h4 h5 hc hp hq heq;obtain⟨q1,hq1,hlt,_,hx⟩:=hold c h4 h5 hc;have:=vF c q1 hq1;rw[hq]at this;injection this with this;subst this
   rcases e.live b p hb (hnew b p hb hp)with h6|⟨b0,p0,h5,h6,h7⟩
   ·omega
   exact aw (h7.trans heq) (hx b0 p0 h5 (cn h6).2)
  rcases hcase b hb with⟨_,_,_,h3,_⟩|⟨h3,_,h5⟩
  ·rcases hcase c hc with⟨_,_,_,h4,_⟩|⟨h4,_,h6⟩
   ·exact r.inj b c p q (hs' h3) (hs' h4) (hnew b p (hs' h3) hp) (hnew c q (hs' h4) hq) heq
   exact mixed b c p q (hs' h3) h4 h6 hc hp hq heq
  rcases hcase c hc with⟨_,_,_,h4,_⟩|⟨h4,_,h6⟩
  ·exact(mixed c b q p (hs' h4) h3 h5 hb hq hp heq.symm).symm
  obtain⟨p1,hp1,_⟩:=hold b h3 h5 hb;obtain⟨q1,hq1,_⟩:=hold c h4 h6 hc;have e1:=vF b p1 hp1;have e2:=vF c q1 hq1;rw[hp]at e1;rw[hq]at e2;injection e1 with e1;injection e2 with e2;subst e1 e2;exact hrel.inj b c p q (by rw[<-h5];exact hb) (by rw[<-h6];exact hc) hp1 hq1 heq
 rcases hcase b hb with⟨_,_,_,h3,_⟩|⟨h3,_,h5⟩
 ·exact r.sep b p (hs' h3) (hnew b p (hs' h3) hp)
 obtain⟨p1,hp1,hlt,_,hx⟩:=hold b h3 h5 hb;have e1:=vF b p1 hp1;rw[hp]at e1;injection e1 with e1;subst e1;have hD:=hrel.sep b p (by rw[<-h5];exact hb) hp1
 cases hd:D' p.1 with
 |none=>rfl
 |some y =>
  rcases e.kD p.1 (by rw[hd];simp)with h4|h4|⟨b0,p0,h6,h7,h8⟩
  ·exact aw hD h4
  ·omega
  exact aw h8 (hx b0 p0 h6 (cn h7).2)
end
end Go.Abs
namespace Go.Abs
open List
section
variable {F:Fr}{H:Hp}{Hs:List Hp}{n:Nat}{m:List Dm}{Q:QA}{ce:Ce}
def FnI (v:Option AV)(vs:Option (List AV))(pd:Pd)(r:List (Option RO))(ce:Ce)(F:Fr)(H:Hp)(Hs:List Hp)(n:Nat)(m:List Dm)(Q:QA):Prop:=match v,vs with
 |some (.fn (.func f) first cap),some vs=>Jc (ce.call f (first++(vs++cap)) H n) pd r ce F Hs m Q
 |some (.iZ q),some vs=>Jc (GI ce q vs H n) pd r ce F Hs m Q
 |_,_=>False
@[simp] theorem aqV (f:FuncId)(first cap vs:List AV)(pd:Pd)(r:List (Option RO)):FnI (some (.fn (.func f) first cap)) (some vs) pd r ce F H Hs n m Q=Jc (ce.call f (first++(vs++cap)) H n) pd r ce F Hs m Q:=propext Iff.rfl
theorem Ic (rs:RS) (pd:Pd) (g:G) (as:List G) (next:List (Option RO)):Ev ((lz rs pd g as (fY next)).f ce F H Hs n m) Q=FnI (g.f (rs.f F)) (evs (rs.f F) as) pd next ce F H Hs n m Q:=by
 simp only[lz];unfold FnI
 cases g.f (rs.f F)with
 |none=>rfl
 |some v =>
  cases v with
  |fn x first cap =>
   cases x with
   |func f =>
    dsimp only
    cases evs (rs.f F) as with
    |none=>rfl
    |some vs =>
     dsimp only;unfold Jc EvC
     cases ce.call f (first++(vs++cap)) H n<;>rfl
   |_=>rfl
  |iZ q =>
   dsimp only
   cases evs (rs.f F) as with
   |none=>rfl
   |some vs =>
    dsimp only;unfold Jc EvC
    cases GI ce q vs H n<;>rfl
  |_=>rfl
@[simp] theorem azM (rs:List Nat)(pd:Pd)(g:G)(as:List G)(r:List (Option RO)):Ev ((fY (vI rs pd g as::r)).f ce F H Hs n m) Q=FnI (g.f ((cX rs).f F)) (evs ((cX rs).f F) as) pd r ce F H Hs n m Q:=Ic (cX rs) pd g as r
def YF (rs:List Nat)(g:G)(b:Bool)(pd:Pd)(h:G)(as:List G):Option RO:=some ⟨cX rs,some (g,b),pd,.call h as,none⟩
def GvI (v:Option AV)(b:Bool)(F0:Fr)(pd:Pd)(h:G)(as:List G)(r:List (Option RO))(ce:Ce)(F:Fr)(H:Hp)(Hs:List Hp)(n:Nat)(m:List Dm)(Q:QA):Prop:=fA v b (FnI (h.f F0) (evs F0 as) pd r ce F H Hs n m Q) (Ev ((fY r).f ce (pd.f (.br []) F) H (H::Hs) n m) Q)
@[simp] theorem axA (rs:List Nat)(g:G)(b:Bool)(pd:Pd)(h:G)(as:List G)(r:List (Option RO)):Ev ((fY (YF rs g b pd h as::r)).f ce F H Hs n m) Q=GvI (g.f ((cX rs).f F)) b ((cX rs).f F) pd h as r ce F H Hs n m Q:=by
 have h1:=qN (ce:=ce) (F:=F) (H:=H) (Hs:=Hs) (n:=n) (m:=m) (Q:=Q) (rs:=cX rs) (g:=g) (b:=b) (yes:=lz (cX rs) pd h as (fY r)) (no:=UA pd (fY r));rw[Ic]at h1;exact h1
@[simp] theorem azz (F0:Fr)(pd:Pd)(h:G)(as:List G)(r:List (Option RO)):GvI (some (.bool true)) true F0 pd h as r ce F H Hs n m Q=FnI (h.f F0) (evs F0 as) pd r ce F H Hs n m Q:=propext Iff.rfl
@[simp] theorem azA (F0:Fr)(pd:Pd)(h:G)(as:List G)(r:List (Option RO)):GvI (some (.bool false)) true F0 pd h as r ce F H Hs n m Q=Ev ((fY r).f ce (pd.f (.br []) F) H (H::Hs) n m) Q:=propext Iff.rfl
@[simp] theorem aw1 (F0:Fr)(pd:Pd)(h:G)(as:List G)(r:List (Option RO)):GvI (some (.bool true)) false F0 pd h as r ce F H Hs n m Q=Ev ((fY r).f ce (pd.f (.br []) F) H (H::Hs) n m) Q:=propext Iff.rfl
@[simp] theorem aw2 (F0:Fr)(pd:Pd)(h:G)(as:List G)(r:List (Option RO)):GvI (some (.bool false)) false F0 pd h as r ce F H Hs n m Q=FnI (h.f F0) (evs F0 as) pd r ce F H Hs n m Q:=propext Iff.rfl
end
end Go.Abs
namespace Go.Abs
open List
set_option maxRecDepth 100000
mutual
theorem fj.mono {h h':Hf}(hh:∀b k,h b=some k->h' b=some k):∀ {v v'},fj h v v'->fj h' v v'
 |_,_,.pure _ k=>.pure _ k
 |_,_,.nil _=>.nil _
 |_,_,.sl _ _ _ _ _ _ _ _ _ _ a b k=>.sl _ _ _ _ _ _ _ _ _ _ (hh _ _ a) b (bp.mono hh k)
 |_,_,.ptr _ _ _ _ _ _ _ _ _ a b k=>.ptr _ _ _ _ _ _ _ _ _ (hh _ _ a) b (bp.mono hh k)
 |_,_,.agg _ _ _ k=>.agg _ _ _ (bp.mono hh k)
 |_,_,.br _ _ k=>.br _ _ (bp.mono hh k)
theorem bp.mono {h h':Hf}(hh:∀b k,h b=some k->h' b=some k):∀ {v v'},bp h v v'->bp h' v v'
 |_,_,.nil=>.nil
 |_,_,.cons _ _ _ _ a b=>.cons _ _ _ _ (fj.mono hh a) (bp.mono hh b)
end
theorem bp.append {h:Hf}:∀ {a a' b b'},bp h a a'->bp h b b'->bp h (a++b) (a'++b')
 |_,_,_,_,.nil,k=>k
 |_,_,_,_,.cons _ _ _ _ x y,k=>.cons _ _ _ _ x (bp.append y k)
def dm (H:Hp)(n:Nat):Prop:=∀b,n<=b->H.get b=none
def above (n:Nat)(H:Hp):Hf:=λ b=>if n<=b then H.get b else none
theorem IP {n n':Nat}{H H':Hp}(h:∀b k,n<=b->H.get b=some k->n'<=b/\H'.get b=some k):∀b k,above n H b=some k->above n' H' b=some k:=by
 intro b k hb;unfold above at hb ⊢
 split at hb
 ·rename_i hle;obtain⟨h1,h2⟩:=h b k hle hb;rw[ay h1,h2]
 cases hb
theorem CJ {n:Nat}{H:Hp}:∀b k,above n H b=some k->H.get b=some k:=by
 intro b k hb;unfold above at hb
 split at hb
 ·exact hb
 cases hb
@[simp] theorem wr1:IntKind.i64.wrap 1=1:=by simp[IntKind.wrap,IntKind.signed,IntKind.bits]
@[simp] theorem wr2:IntKind.i64.wrap 2=2:=by simp[IntKind.wrap,IntKind.signed,IntKind.bits]
@[simp] theorem wr3:IntKind.i64.wrap 3=3:=by simp[IntKind.wrap,IntKind.signed,IntKind.bits]
@[simp] theorem nn2 (n:Nat):(n=n+1+1)=False:=by simp only[eq_iff_iff,iff_false];omega
@[simp] theorem nr2 (n:Nat):(n+1+1=n)=False:=by simp only[eq_iff_iff,iff_false];omega
@[simp] theorem nn3 (n:Nat):(n=n+1+1+1)=False:=by simp only[eq_iff_iff,iff_false];omega
@[simp] theorem nr3 (n:Nat):(n+1+1+1=n)=False:=by simp only[eq_iff_iff,iff_false];omega
@[simp] theorem nn4 (n:Nat):(n=n+1+1+1+1)=False:=by simp only[eq_iff_iff,iff_false];omega
@[simp] theorem nr4 (n:Nat):(n+1+1+1+1=n)=False:=by simp only[eq_iff_iff,iff_false];omega
@[simp] theorem nn5 (n:Nat):(n=n+1+1+1+1+1)=False:=by simp only[eq_iff_iff,iff_false];omega
@[simp] theorem nr5 (n:Nat):(n+1+1+1+1+1=n)=False:=by simp only[eq_iff_iff,iff_false];omega
@[simp] theorem nn6 (n:Nat):(n=n+1+1+1+1+1+1)=False:=by simp only[eq_iff_iff,iff_false];omega
@[simp] theorem nr6 (n:Nat):(n+1+1+1+1+1+1=n)=False:=by simp only[eq_iff_iff,iff_false];omega
@[simp] theorem nn7 (n:Nat):(n=n+1+1+1+1+1+1+1)=False:=by simp only[eq_iff_iff,iff_false];omega
@[simp] theorem nr7 (n:Nat):(n+1+1+1+1+1+1+1=n)=False:=by simp only[eq_iff_iff,iff_false];omega
@[simp] theorem nn8 (n:Nat):(n=n+1+1+1+1+1+1+1+1)=False:=by simp only[eq_iff_iff,iff_false];omega
@[simp] theorem nr8 (n:Nat):(n+1+1+1+1+1+1+1+1=n)=False:=by simp only[eq_iff_iff,iff_false];omega
@[simp] theorem nn9 (n:Nat):(n=n+1+1+1+1+1+1+1+1+1)=False:=by simp only[eq_iff_iff,iff_false];omega
@[simp] theorem nr9 (n:Nat):(n+1+1+1+1+1+1+1+1+1=n)=False:=by simp only[eq_iff_iff,iff_false];omega
@[simp] theorem nn10 (n:Nat):(n=n+1+1+1+1+1+1+1+1+1+1)=False:=by simp only[eq_iff_iff,iff_false];omega
@[simp] theorem nr10 (n:Nat):(n+1+1+1+1+1+1+1+1+1+1=n)=False:=by simp only[eq_iff_iff,iff_false];omega
@[simp] theorem nn11 (n:Nat):(n=n+1+1+1+1+1+1+1+1+1+1+1)=False:=by simp only[eq_iff_iff,iff_false];omega
@[simp] theorem nr11 (n:Nat):(n+1+1+1+1+1+1+1+1+1+1+1=n)=False:=by simp only[eq_iff_iff,iff_false];omega
@[simp] theorem nn12 (n:Nat):(n=n+1+1+1+1+1+1+1+1+1+1+1+1)=False:=by simp only[eq_iff_iff,iff_false];omega
@[simp] theorem nr12 (n:Nat):(n+1+1+1+1+1+1+1+1+1+1+1+1=n)=False:=by simp only[eq_iff_iff,iff_false];omega
theorem jz {b n:Nat}(h:b<n):(b=n)=False/\(b=n+1)=False/\(b=n+1+1)=False/\(b=n+1+1+1)=False/\(b=n+1+1+1+1)=False/\(b=n+1+1+1+1+1)=False/\(b=n+1+1+1+1+1+1)=False/\(b=n+1+1+1+1+1+1+1)=False/\(b=n+1+1+1+1+1+1+1+1)=False/\(b=n+1+1+1+1+1+1+1+1+1)=False/\(b=n+1+1+1+1+1+1+1+1+1+1)=False/\(b=n+1+1+1+1+1+1+1+1+1+1+1)=False/\(b=n+1+1+1+1+1+1+1+1+1+1+1+1)=False:=by
 refine⟨?_,?_,?_,?_,?_,?_,?_,?_,?_,?_,?_,?_,?_⟩<;>(simp only[eq_iff_iff,iff_false];omega)
theorem XU {b n:Nat}(h:b<n):(n=b)=False/\(n+1=b)=False/\(n+1+1=b)=False/\(n+1+1+1=b)=False/\(n+1+1+1+1=b)=False/\(n+1+1+1+1+1=b)=False/\(n+1+1+1+1+1+1=b)=False/\(n+1+1+1+1+1+1+1=b)=False/\(n+1+1+1+1+1+1+1+1=b)=False/\(n+1+1+1+1+1+1+1+1+1=b)=False/\(n+1+1+1+1+1+1+1+1+1+1=b)=False/\(n+1+1+1+1+1+1+1+1+1+1+1=b)=False/\(n+1+1+1+1+1+1+1+1+1+1+1+1=b)=False:=by
 refine⟨?_,?_,?_,?_,?_,?_,?_,?_,?_,?_,?_,?_,?_⟩<;>(simp only[eq_iff_iff,iff_false];omega)
theorem dm.lt {H:Hp}{n b:Nat}{k:bJ}(ht:dm H n)(h:H.get b=some k):b<n:=by
 rcases Nat.lt_or_ge b n with h' |h'
 ·exact h'
 rw[ht b h']at h;cases h
theorem dm.none {H:Hp}{n:Nat}(h:dm H n):H.get (n)=Option.none/\H.get (n+1)=Option.none/\H.get (n+1+1)=Option.none/\H.get (n+1+1+1)=Option.none/\H.get (n+1+1+1+1)=Option.none/\H.get (n+1+1+1+1+1)=Option.none/\H.get (n+1+1+1+1+1+1)=Option.none/\H.get (n+1+1+1+1+1+1+1)=Option.none/\H.get (n+1+1+1+1+1+1+1+1)=Option.none/\H.get (n+1+1+1+1+1+1+1+1+1)=Option.none/\H.get (n+1+1+1+1+1+1+1+1+1+1)=Option.none/\H.get (n+1+1+1+1+1+1+1+1+1+1+1)=Option.none/\H.get (n+1+1+1+1+1+1+1+1+1+1+1+1)=Option.none:=by
 refine⟨?_,?_,?_,?_,?_,?_,?_,?_,?_,?_,?_,?_,?_⟩<;>exact h _ ah
structure Cl where
 g:FuncId
 args:List AV
 H:Hp
 n:Nat
 v:AV
 H':Hp
 n':Nat
open Classical in
def ceL (l:List Cl):Ce:=Au λ g args H n=>match l.find? (λ x=>decide (x.g=g/\x.args=args/\x.H=H/\x.n=n))with
 |some x=>.mk x.v x.H' x.n'
 |none=>.fail
theorem KT {P:Program}{l:List Cl}(h:∀x∈l,bC P x.g x.args x.H x.n x.v x.H' x.n'):iD P (ceL l):=by
 refine Ek λ g args H n v H' n' e=>?_
 split at e
 ·rename_i x hx;have h1:=find?_some hx;simp at h1;obtain⟨rfl,rfl,rfl,rfl⟩:=h1;injection e with e1 e2 e3;subst e1 e2 e3;exact h x (mem_of_find?_eq_some hx)
 cases e
theorem zj {g:FuncId}{args:List AV}{H:Hp}{n:Nat}{v:AV}{H':Hp}{n':Nat}{l:List Cl}:(ceL (⟨g,args,H,n,v,H',n'⟩::l)).call g args H n=yw (.mk v H' n'):=by
 simp[ceL,Au]
theorem amf {g g':FuncId}{args args':List AV}{H H0:Hp}{n n0:Nat}{v:AV}{H':Hp}{n':Nat}{l:List Cl}(hg:g'≠g):(ceL (⟨g',args',H0,n0,v,H',n'⟩::l)).call g args H n=(ceL l).call g args H n:=by
 simp[ceL,Au,find?_cons,hg]
section
variable {H:Hp}{n:Nat}
theorem Zl {x:AV}{new:List AV}{sz gp k:Nat}(hx:aX H sz x=some new)(hk:sliceLen x=some k)(hs:0<sz)(hk0:0<k)(hbig:k<=big)(hby:gp<=4096)(h1:bo new=true):
  gZ sz gp n (.aV (.slice none 0 0)) x H=.new (.sl n 0 k sz) (.cells (k*sz) [] new .nil):=by
 unfold Go.Abs.gZ;rw[hx,hk];dsimp only;unfold oS;simp only[lO,wJ,tJ,show ¬k=0 by omega,hs,hbig,hby,h1,decide_true,decide_false,Bool.and_self]
theorem aml {x:AV}{new:List AV}{sz gp k b len u:Nat}{z bs:List AV}{t:Ov AV}(hb:H.get b=some (.cells u z bs t))(hu:len*sz<=u)(hx:aX H sz x=some new)(hk:sliceLen x=some k)(hs:0<sz)(hk0:0<k)(hbig:len+k<=big)(hby:gp<=4096)(h1:bo new=true):
  gZ sz gp n (.sl b 0 len sz) x H=.mv (.sl n 0 (len+k) sz) b (.cells ((len+k)*sz) z bs (Ov.bO new (len*sz) t)):=by
 unfold Go.Abs.gZ;rw[hx,hk];dsimp only;unfold oS Iy;simp only[lO,wJ,tJ,show ¬k=0 by omega,hs,hbig,hby,h1,decide_true,decide_false,Bool.and_self,hb,hu,dj]
theorem bu {b sz:Nat}{l:List AV}(hb:H.get b=some (.cells sz [] l .nil)):aX H sz (.sl b 0 1 sz)=some l:=by
 simp only[aX,lO,decide_true,cond_true,hb,Nat.one_mul,YG]
end
theorem OwnB.app {u:Nat}{z bs l new:List AV}{t:Ov AV}(h:OwnB (.cells u z bs t) l) (hn:new≠[]):OwnB (.cells (u+new.length) z bs (Ov.bO new u t)) (l++new):=by
 obtain⟨u',z',bs',t',e,hu,hg,hi⟩:=h;injection e with e1 e2 e3 e4;subst e1 e2 e3 e4;refine⟨_,z,bs,_,rfl,by simp[hu],λ i=>?_,λ ht=>?_⟩
 ·rw[cM,Ov.bI]
  by_cases hlt:i<u+new.length
  ·rw[ay hlt]
   by_cases jf:u<=i/\i<u+new.length
   ·rw[ay jf,getElem?_append_right ah,<-hu,cY ah]
   rw[ak jf,getElem?_append_left ah];have:=hg i;rw[cM,ay ah]at this;exact this
  rw[ak hlt,getElem?_eq_none (by simp;omega)]
 exfalso
 cases new with
 |nil=>exact hn rfl
 |cons v r =>
  have:=Ov.bI (v::r) u t u;rw[ht,ay ai]at this;simp at this
def blk (v:AV):Option Nat:=match v with
 |.sl b _ _ _=>some b
 |_=>none
@[simp] theorem au2:blk (.aV (.slice none 0 0))=none:=rfl
@[simp] theorem ax1 (b o l s:Nat):blk (.sl b o l s)=some b:=rfl
theorem aD.frame {H H':Hp}{n n':Nat}{w:AV}{l:List AV}{len sz:Nat}(h:aD H n w l len sz)(hn:n<=n')(hk:∀c,blk w=some c->H'.get c=H.get c):aD H' n' w l len sz:=by
 obtain⟨h0,⟨rfl,h1⟩|⟨b,k,rfl,hb,hbk,ho⟩⟩:=h
 ·exact⟨h0,.inl ⟨rfl,h1⟩⟩
 exact⟨h0,.inr ⟨b,k,rfl,ah,(hk b rfl).trans hbk,ho⟩⟩
theorem aD.zx {H:Hp}{n:Nat}{ce:Ce}{Hs:List Hp}{F:Fr}{m:List Dm}{Q:QA}{v x:AV}{l new:List AV}{len sz gp k:Nat}{pd:Pd}{r:List (Option RO)}(h:aD H n v l len sz)(hx:aX H sz x=some new)(hk:sliceLen x=some k)(hn:new.length=k*sz)
  (hs:0<sz)(hk0:0<k)(hbig:len+k<=big)(hby:gp<=4096)(h1:bo new=true)
  (hgo:∀H',aD H' (n+1) (.sl n 0 (len+k) sz) (l++new) (len+k) sz->(∀c,c≠n->v≠.sl c 0 len sz->H'.get c=H.get c)->Ev ((fY r).f ce (pd.f (.sl n 0 (len+k) sz) F) H' (H'::Hs) (n+1) m) Q):Vs (Go.Abs.gZ sz gp n v x H) pd r ce F H Hs n m Q:=by
 obtain⟨H',e,h1,h2⟩:=h.gZ hx hk hn hs hk0 hbig hby h1;unfold Vs;rw[e];exact hgo H' h1 λ c hc=>h2 c hc
theorem aD.db {H:Hp}{n:Nat}{w:AV}{l:List AV}{len sz c:Nat}(h:aD H n w l len sz)(hc:blk w=some c):c<n:=by
 obtain⟨_,⟨rfl,_⟩|⟨b,k,rfl,hb,_⟩⟩:=h
 ·cases hc
 simp at hc;omega
theorem aD.fS {H:Hp}{n:Nat}{v:AV}{l:List AV}{len sz:Nat}(h:aD H n v l len sz):v.one=true:=by
 obtain⟨_,⟨rfl,_⟩|⟨b,k,rfl,_⟩⟩:=h<;>simp
theorem OwnB.st {u:Nat}{z bs:List AV}{t:Ov AV}{l:List AV}(h:OwnB (.cells u z bs t) l){i:Nat}(hi:i<l.length) (v:AV):OwnB (mL u z bs t [v] i) (l.set i v):=by
 obtain⟨u',z',bs',t',e,hu,hg,hl⟩:=h;injection e with e1 e2 e3 e4;subst e1 e2 e3 e4
 have key:∀t2,(∀j,t2.get j=if i<=j/\j<i+1 then [v][j - i]? else t.get j)->t2≠.nil->OwnB (.cells u z bs t2) (l.set i v):=by
  intro t2 h2 hne;refine⟨u,z,bs,t2,rfl,by simp[hu],λ j=>?_,λ e=>aw e hne⟩;have hj:=hg j;rw[cM]at hj ⊢;rw[getElem?_set,h2]
  by_cases e:i=j
  ·subst e;rw[ay ah,ay ah,ay rfl,ay hi];simp
  rw[ak e]
  by_cases hju:j<u
  ·rw[ay hju]at hj ⊢;rw[ak ah];exact hj
  rw[ak hju]at hj ⊢;exact hj
 have hput:∀t:Ov AV,(Ov.bO [v] i t)≠.nil:=by
  intro t e;have:=Ov.bI [v] i t i;rw[e,ay ai]at this;simp at this
 have yK:OwnB (.cells u z bs (Ov.bO [v] i t)) (l.set i v):=key _ (λ j=>Ov.bI [v] i t j) (hput t);unfold mL
 split
 ·split
  ·split
   ·split
    ·rename_i bs' hp;have hb:=hl rfl rfl;obtain⟨p1,_,p3⟩:=jn hp
     have:bs'=l.set i v:=by
      apply ext_getElem?;intro j;rw[p3,getElem?_set];have hj:=hg j;rw[nZ]at hj
      by_cases e:i=j
      ·subst e;rw[ay ai,ay rfl,ay hi];simp
      rw[ak (by simp;omega),ak e];rw[<-hj]
      split
      ·rfl
      rw[getElem?_eq_none ah]
     rw[this];exact .list (by simp[hu])
    exact yK
   exact yK
  exact yK
 ·exact yK
 exact yK
theorem nP {H:Hp}{b i:Nat}{k:bJ}{L:List AV}(hb:H.get b=some k)(ho:OwnB k L)(hi:i<L.length):cN (.ptr b i) H=.val L[i]:=by
 obtain⟨u,z,bs,t,rfl,h3,h4,_⟩:=ho;have:=h4 i;rw[cY hi]at this;simp[hb,this]
theorem cS (n:Nat):(jo n []=true)=True:=by simp[jo]
theorem bX (n:Nat)(h:Hp)(l:List Hp):(jo n (h::l)=true)=(h.get n=none/\jo n l=true):=by
 cases e:h.get n<;>simp[jo,e]
end Go.Abs
namespace Go.Abs
open List
section
variable {P:Program}
end
end Go.Abs
namespace Go.Abs
open List
section
variable {P:Program}
def pick (H:Hp):List Nat->Hp
 |[]=>.nil
 |b::r=>(pick H r).put b (H.get b)
theorem eM (H:Hp)(L:List Nat)(c:Nat):(pick H L).get c=if c∈L then H.get c else none:=by
 induction L with
 |nil=>simp[pick]
 |cons b r ih =>
  simp only[pick,Tr.get_put,ih,mem_cons]
  by_cases h:c=b
  ·subst h;simp
  simp[h]
theorem fK {H:Hp}{L:List Nat}{c:Nat}(h:c∈L):(pick H L).get c=H.get c:=by rw[eM,ay h]
theorem kW {H:Hp}{L:List Nat}{n:Nat}(h:∀b∈L,b<n):dm (pick H L) n:=by
 intro b hb;rw[eM,ak];intro hm;have:=h b hm;omega
theorem ao.okZ {g:FuncId}{args:List AV}{H H1:Hp}{n:Nat}{v0:AV}(L:List Nat) (ha:dO n args) (hL:∀b∈L,b<n) (hb:∀b∈L,∀k,H.get b=some k->wv n k) (hb1:∀b∈L,∀k,H1.get b=some k->wv n k)
  (h2:∀b,b∉L->H1.get b=H.get b)
  (h:ao P g args (pick H L) n (λ v K _=>fj (above n K) v v0/\∀b∈L,∀y,H1.get b=some y->∃y',K.get b=some y'/\BZ (above n K) y' y)):bC P g args H n v0 H1 n:=by
 refine⟨h.1,aL _,λ φ D w xs hrel hvs hf R hR=>?_⟩
 have hS:∀b,(pick H L).get b≠none->b∈L/\H.get b≠none:=λ b hb=>by
  rw[eM]at hb
  by_cases hm:b∈L
  ·rw[ay hm]at hb;exact⟨hm,hb⟩
  rw[ak hm]at hb;exact aw rfl hb
 have hr0:Rel (ru φ n) D (pick H L).get w:=by
  refine⟨λ b k hk=>?_,λ b c p q hb hc hp hq=>?_,λ b p hb hp=>?_,hrel.eQ⟩
  ·obtain⟨hm,_⟩:=hS b (by rw[hk];simp);rw[fK hm]at hk;obtain⟨p,hp,hl,hbk⟩:=hrel.blk b k hk;exact⟨p,(jB (hL b hm)).trans hp,hl,hbk.cut (hb b hm k hk)⟩
  ·exact hrel.inj b c p q (hS b hb).2 (hS c hc).2 (cn hp).2 (cn hq).2
  exact hrel.sep b p (hS b hb).2 (cn hp).2
 refine h.2 (ru φ n) D w xs hr0 (hvs.cut ha) (λ b hb=>?_) R λ v K k φ' D' w' x ⟨hz,hK⟩ e r hx=>?_
 ·unfold ru;rw[ak ah]
 have hto:∀b p,b<n->φ' b=some p->φ b=some p:=by
  intro b p hlt hp
  cases hq:φ b with
  |none =>
   have:=e.new b ((jB hlt).trans hq) (by rw[hp];simp);omega
  |some q =>
   have:=e.phi b q ((jB hlt).trans hq);rw[hp]at this;exact this.symm
 have HL:∀b p,b<n->φ b=some p->φ' b=some p:=λ b p hlt hp=>e.phi b p ((jB hlt).trans hp);have hs:Rel φ' D' (above n K) w':=r.sub CJ
 have hab:∀b,above n K b≠none->n<=b/\K.get b≠none:=λ b hb=>by
  unfold above at hb
  by_cases hm:n<=b
  ·rw[ay hm]at hb;exact⟨hm,hb⟩
  rw[ak hm]at hb;exact aw rfl hb
 have jf:∀b,b∈L->H1.get b≠none->K.get b≠none:=λ b hm hb=>by
  cases hy:H1.get b with
  |none=>exact aw hy hb
  |some y=>obtain⟨y',h3,_⟩:=hK b hm y hy;rw[h3];simp
 have hold:∀b p,b∉L->H1.get b≠none->φ b=some p->p.1<w.heap.size/\(∀b0 p0,(pick H L).get b0≠none->φ b0=some p0->p0.1≠p.1):=by
  intro b p hm hb hp;rw[h2 b hm]at hb
  cases hy:H.get b with
  |none=>exact aw hy hb
  |some y =>
   refine⟨(hrel.block hy hp).1,λ b0 p0 h0 hp0 heq=>?_⟩;have:=hrel.inj b0 b p0 p (hS b0 h0).2 hb hp0 hp heq;subst this;exact hm (hS b0 h0).1
 have hlv:∀b p,K.get b≠none->φ' b=some p->w.heap.size<=p.1∨∃b0 p0,(pick H L).get b0≠none/\φ b0=some p0/\p0.1=p.1:=by
  intro b p hb hp
  rcases e.live b p hb hp with h4|⟨b0,p0,h5,h6,h7⟩
  ·exact .inl h4
  exact .inr ⟨b0,p0,h5,(cn h6).2,h7⟩
 refine hR φ (Go.Abs.shut φ' D' (above n K) w') w' x ⟨aL _,λ _ _ h=>h,λ _ a b=>aw a b,λ c x hc=>fa c x (e.eQ c x hc),e.size,λ c hc hk=>e.keep c hc λ b p hb hp=>hk b p (hS b hb).2 (cn hp).2,λ b p hb hp=>?_,λ c hc=>?_,λ b hb=>?_,e.os,e.out⟩
  ⟨λ b y hy=>?_,λ b c p q hb hc hp hq heq=>?_,λ b p hb hp=>?_,mO r.eQ⟩ ((hz.vr hs hx).mono (λ b p hb=>by simp[lF]at hb) (λ _ _ h=>h))
 ·by_cases hm:b∈L
  ·rcases hlv b p (jf b hm hb) (HL b p (hL b hm) hp)with h4|⟨b0,p0,h5,h6,h7⟩
   ·exact .inl h4
   exact .inr ⟨b0,p0,(hS b0 h5).2,h6,h7⟩
  exact .inr ⟨b,p,by rw[<-h2 b hm];exact hb,hp,rfl⟩
 ·rcases xJ hc with h3|⟨b,p,h3,h4,h5⟩
  ·rcases e.kD c h3 with h4|h4|⟨b0,p0,h5,h6,h7⟩
   ·exact .inl h4
   ·exact .inr (.inl h4)
   exact .inr (.inr ⟨b0,p0,(hS b0 h5).2,(cn h6).2,h7⟩)
  rcases hlv b p (hab b h3).2 h4 with h6|⟨b0,p0,h6,h7,h8⟩
  ·exact .inr (.inl ah)
  exact .inr (.inr ⟨b0,p0,(hS b0 h6).2,h7,h8.trans h5⟩)
 ·by_cases hm:b∈L
  ·rcases e.hid b (jf b hm hb)with h4|h4
   ·exact .inl (hS b h4).2
   have:=hL b hm;omega
  exact .inl (by rw[<-h2 b hm];exact hb)
 ·by_cases hm:b∈L
  ·obtain⟨y',h3,h4⟩:=hK b hm y hy;obtain⟨p,hp,hl,hk⟩:=r.blk b y' h3;exact⟨p,hto b p (hL b hm) hp,hl,((h4.agm hs hk).cut (hb1 b hm y hy)).mono (λ c q hc=>hto c q (cn hc).1 (cn hc).2) (λ _ _ h=>h) rfl⟩
  rw[h2 b hm]at hy;obtain⟨p,hp,hl,hk⟩:=hrel.blk b y hy;have hh:=hold b p hm (by rw[h2 b hm,hy];simp) hp;exact⟨p,hp,Nat.lt_of_lt_of_le hl e.size,hk.mono (λ _ _ h=>h) (λ c x hc=>fa c x (e.eQ c x hc)) (e.keep p.1 hl λ b0 p0 hb0 hp0=>hh.2 b0 p0 hb0 (cn hp0).2)⟩
 ·have mixed:∀b c p q,b∈L->c∉L->H1.get b≠none->H1.get c≠none->φ b=some p->φ c=some q->p.1=q.1->False:=by
   intro b c p q hb hc hb1 hc1 hp hq heq;have hh:=hold c q hc hc1 hq
   rcases hlv b p (jf b hb hb1) (HL b p (hL b hb) hp)with h4|⟨b0,p0,h5,h6,h7⟩
   ·omega
   exact hh.2 b0 p0 h5 h6 (h7.trans heq)
  by_cases hm:b∈L
  ·by_cases hm2:c∈L
   ·exact r.inj b c p q (jf b hm hb) (jf c hm2 hc) (HL b p (hL b hm) hp) (HL c q (hL c hm2) hq) heq
   exact(mixed b c p q hm hm2 hb hc hp hq heq).elim
  by_cases hm2:c∈L
  ·exact(mixed c b q p hm2 hm hc hb hq hp heq.symm).elim
  exact hrel.inj b c p q (by rw[<-h2 b hm];exact hb) (by rw[<-h2 c hm2];exact hc) hp hq heq
 by_cases hm:b∈L
 ·have hp':=HL b p (hL b hm) hp;refine qx (r.sep b p (jf b hm hb) hp') λ b' p' h3 h4 h5=>?_;have:=r.inj b' b p' p (hab b' h3).2 (jf b hm hb) h4 hp' h5;have h6:=(hab b' h3).1;have h7:=hL b hm;omega
 have hh:=hold b p hm hb hp;refine qx ?_ λ b' p' h3 h4 h5=>?_
 ·cases hd:D' p.1 with
  |none=>rfl
  |some y =>
   have hD:=hrel.sep b p (by rw[<-h2 b hm];exact hb) hp
   rcases e.kD p.1 (by rw[hd];simp)with h4|h4|⟨b0,p0,h6,h7,h8⟩
   ·exact aw hD h4
   ·omega
   exact aw h8 (hh.2 b0 p0 h6 (cn h7).2)
 rcases hlv b' p' (hab b' h3).2 h4 with h6|⟨b0,p0,h6,h7,h8⟩
 ·omega
 exact hh.2 b0 p0 h6 h7 (h8.trans h5)
theorem ao.okB {g:FuncId}{args:List AV}{H:Hp}{n p:Nat}{v0:AV}{y1:bJ}(L:List Nat)(hp:p∈L)(ha:dO n args)(hL:∀b∈L,b<n)(hb:∀b∈L,∀k,H.get b=some k->wv n k)(hy:wv n y1)
  (h:∀H0:Hp,dm H0 n->(∀c∈L,H0.get c=H.get c)->ao P g args H0 n (λ v K _=>fj (above n K) v v0/\(∀c,c<n->c≠p->K.get c=H0.get c)/\∃y',K.get p=some y'/\BZ (above n K) y' y1)):bC P g args H n v0 (H.put p (some y1)) n:=by
 refine ao.okZ L ha hL hb (λ b hm k hk=>?_) (λ b hm=>?_) ((h (pick H L) (kW hL) λ c hc=>fK hc).mono λ v K k ⟨h1,h2,y',h3,h4⟩=>⟨h1,λ b hm y hy=>?_⟩)
 ·rw[Tr.get_put]at hk
  split at hk
  ·injection hk with hk;subst hk;exact hy
  exact hb b hm k hk
 ·rw[Tr.get_put,ak];rintro rfl;exact hm hp
 rw[Tr.get_put]at hy
 split at hy
 ·rename_i e;subst e;injection hy with hy;subst hy;exact⟨y',h3,h4⟩
 rename_i e;refine⟨y,?_,.inl rfl⟩;rw[h2 b (hL b hm) e,fK hm];exact hy
theorem ao.Aj {g:FuncId}{args:List AV}{H:Hp}{n:Nat}{v0:AV}(L:List Nat)(ha:dO n args)(hL:∀b∈L,b<n)(hb:∀b∈L,∀k,H.get b=some k->wv n k)
  (h:∀H0:Hp,dm H0 n->(∀c∈L,H0.get c=H.get c)->ao P g args H0 n (λ v K _=>fj (above n K) v v0/\∀c,c<n->K.get c=H0.get c)):bC P g args H n v0 H n:=by
 refine ao.okZ L ha hL hb hb (λ _ _=>rfl) ((h (pick H L) (kW hL) λ c hc=>fK hc).mono λ v K k ⟨h1,h2⟩=>⟨h1,λ b hm y hy=>⟨y,?_,.inl rfl⟩⟩);rw[h2 b (hL b hm),fK hm];exact hy
end
end Go.Abs
