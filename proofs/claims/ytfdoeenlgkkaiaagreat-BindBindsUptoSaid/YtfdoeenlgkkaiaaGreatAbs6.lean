/- A part. -/
import Derived.Test.YtfdoeenlgkkaiaaGreatAbs5
noncomputable section
namespace Go.Abs
open List
section
mutual
def ky (n:Nat):AV->Prop
 | .ptr b _=>b<n
 | .sl b _ _ _=>b<n
 | .map b=>b<n
 | .je b=>b<n
 | .agg cs _=>fB n cs
 | .bg cs=>fB n cs
 | .kV _ v=>ky n v
 | .fn _ a b=>fB n a/\fB n b
 | .ds cs _ _=>fB n cs
 | .dp cs=>fB n cs
 | _=>True
def fB (n:Nat):List AV->Prop
 | []=>True
 | v::r=>ky n v/\fB n r
end
variable {n:Nat}
@[simp] theorem asg (k:IntKind)(i:Int):ky n (.int k i):=by simp only[ky]
@[simp] theorem anb (b:Bool):ky n (.bool b):=by simp only[ky]
@[simp] theorem ase (l:List Nat):ky n (.str l):=by simp only[ky]
@[simp] theorem ash (v:Value):ky n (.ak v):=by simp only[ky]
@[simp] theorem Z' (b o:Nat):ky n (.ptr b o)=(b<n):=by simp only[ky]
@[simp] theorem auz (b o l s:Nat):ky n (.sl b o l s)=(b<n):=by simp only[ky]
@[simp] theorem asf (b:Nat):ky n (.map b)=(b<n):=by simp only[ky]
@[simp] theorem aab (cs:List AV)(k:Nat):ky n (.agg cs k)=fB n cs:=by simp only[ky]
@[simp] theorem Z_ (cs:List AV):ky n (.bg cs)=fB n cs:=by simp only[ky]
@[simp] theorem aaa (t:TypeId)(v:AV):ky n (.kV t v)=ky n v:=by simp only[ky]
@[simp] theorem auA (cs:List AV)(k s:Nat):ky n (.ds cs k s)=fB n cs:=by simp only[ky]
@[simp] theorem auB (cs:List AV):ky n (.dp cs)=fB n cs:=by simp only[ky]
@[simp] theorem PR:fB n []:=by simp only[fB]
@[simp] theorem iD (v:AV)(r:List AV):fB n (v::r)=(ky n v/\fB n r):=by simp only[fB]
theorem fB.mem:∀ {l:List AV},fB n l->∀v∈l,ky n v
 | [],_,v,hv=>by simp at hv
 | a::r,h,v,hv=>by
  simp only[iD]at h
  rcases mem_cons.1 hv with rfl | hv
  ·exact h.1
  exact fB.mem h.2 v hv
theorem fB.of:∀ {l:List AV},(∀v∈l,ky n v)->fB n l
 | [],_=>by simp
 | a::r,h=>by simp only[iD];exact⟨h a (by simp),fB.of λ v hv=>h v (by simp[hv])⟩
mutual
theorem Flat.kA:∀ {v:AV},Flat v->ky n v
 | .int _ _,_=>by simp
 | .bool _,_=>by simp
 | .str _,_=>by simp
 | .ak _,_=>by simp
 | .agg _ _,h=>by simp only[aab];exact fE.kA (by simpa only [Flat]using h)
 | .bg _,h=>by simp only[Z_];exact fE.kA (by simpa only [Flat]using h)
 | .kV _ _,h=>by simp only[aaa];exact Flat.kA (by simpa only [Flat]using h)
 | .ptr _ _,h=>by simp only[Flat]at h
 | .sl _ _ _ _,h=>by simp only[Flat]at h
 | .map _,h=>by simp only[Flat]at h
 | .je _,h=>by simp only[Flat]at h
 | .fn _ _ _,h=>by simp only[Flat]at h
 | .ds _ _ _,h=>by simp only[Flat]at h
 | .dp _,h=>by simp only[Flat]at h
theorem fE.kA:∀ {vs:List AV},fE vs->fB n vs
 | [],_=>by simp
 | _::_,h=>by simp only[fE]at h;simp only[iD];exact⟨Flat.kA h.1,fE.kA h.2⟩
end
def oL (φ:Ph)(n:Nat):Ph:=λ b=>if b<n then φ b else none
theorem iU {φ:Ph}{b:Nat}(h:b<n):oL φ n b=φ b:=by unfold oL;rw[if_pos h]
theorem cj {φ:Ph}{b:Nat} {p}(h:oL φ n b=some p):b<n/\φ b=some p:=by
 unfold oL at h
 split at h
 ·rename_i hb;exact⟨hb,h⟩
 cases h
mutual
theorem VR.cut {φ:Ph}{D:Da}:∀ {v:AV}{x:Value},ky n v->VR φ D v x->VR (oL φ n) D v x
 | _,_,_,.int _ _=>.int _ _
 | _,_,_,.bool _=>.bool _
 | _,_,_,.str _ _ h=>.str _ _ h
 | _,_,r,.ptr _ _ _ _ _ h=>.ptr _ _ _ _ _ ((iU (by simpa using r)).trans h)
 | _,_,r,.sl _ _ _ _ _ _ _ _ _ h a b=>.sl _ _ _ _ _ _ _ _ _ ((iU (by simpa using r)).trans h) a b
 | _,_,r,.agg _ _ _ h e=>.agg _ _ _ (bW.cut (by simpa using r) h) e
 | _,_,r,.bg _ _ h=>.bg _ _ (bW.cut (by simpa using r) h)
 | _,_,r,.kV _ _ _ h=>.kV _ _ _ (VR.cut (by simpa using r) h)
 | _,_,r,.fn _ _ _ _ _ h k=>.fn _ _ _ _ _ (bW.cut (by simp only[ky]at r;exact r.1) h) (bW.cut (by simp only[ky]at r;exact r.2) k)
 | _,_,r,.map _ _ _ _ h=>.map _ _ _ _ ((iU (by simpa using r)).trans h)
 | _,_,r,.ds _ _ _ _ _ _ _ _ h a b c d=>.ds _ _ _ _ _ _ _ _ h a b (bW.cut (by simpa using r) c) d
 | _,_,_,.rK _ _ _=>.rK _ _ _
 | _,_,_,.sC _=>.sC _
 | _,_,r,.dp _ _ _ _ _ h a b=>.dp _ _ _ _ _ h a (bW.cut (by simpa using r) b)
 | _,_,r,.je _ _ _ _ h=>.je _ _ _ _ ((iU (by simp only[ky]at r;exact r)).trans h)
 | _,_,_,.ak _ h=>.ak _ h
theorem bW.cut {φ:Ph}{D:Da}:∀ {v:List AV}{x:List Value},fB n v->bW φ D v x->bW (oL φ n) D v x
 | _,_,_,.nil=>.nil
 | _,_,r,.cons _ _ _ _ h k=>.cons _ _ _ _ (VR.cut (by simp only[iD]at r;exact r.1) h) (bW.cut (by simp only[iD]at r;exact r.2) k)
end
def xV (n:Nat):bI->Prop
 | .cells u z bs t=>∀i v,fY u z bs t i=some v->ky n v
 | .map es _=>∀e∈es,ky n e.1/\ky n e.2.1
 | .kX=>True
 | _=>False
theorem dT {u:Nat}{l:List AV}(h:fB n l):xV n (.cells u [] l .nil):=by
 intro i v hv;rw[jP]at hv
 split at hv
 ·exact h.mem v (mem_of_getElem? hv)
 cases hv
theorem sZ.cut {φ:Ph}{D:Da}:∀ {es l},(∀e∈es,ky n e.1/\ky n e.2.1)->sZ φ D es l->sZ (oL φ n) D es l
 | _,_,_,.nil=>.nil
 | _,_,r,.cons _ _ _ _ _ _ _ h k t=>.cons _ _ _ _ _ _ _ (h.cut (r _ (mem_cons_self ..)).1) (k.cut (r _ (mem_cons_self ..)).2) (sZ.cut (λ e he=>r e (by simp[he])) t)
theorem iT.cut {φ:Ph}{D:Da}{w:World} {p}{k:bI}(r:xV n k)(h:iT φ D w p k):iT (oL φ n) D w p k:=by
 cases k with
 | cells u z bs t =>
  obtain⟨c,e,fr,h1,h2,h3,h4,h5⟩:=h;exact⟨c,e,fr,h1,h2,h3,λ i v hv=>let ⟨x,a,b⟩:=h4 i v hv;⟨x,a,b.cut (r i v hv)⟩,h5⟩
 | map es OV=>obtain⟨zg,h1,h2⟩:=h;exact⟨zg,h1,h2.cut r⟩
 | kX=>exact h
 | loop=>exact absurd r id
 | iter=>exact absurd r id
end
def BLe (y' y:bI):Prop:=∀(φ:Ph)(D:Da)(w:World)(p:Nat×Nat×Nat),iT φ D w p y'->iT φ D w p y
theorem BLe.refl (y:bI):BLe y y:=λ _ _ _ _ h=>h
theorem fe.ble {y:bI}{l:List AV}{u:Nat}(h:fe y l)(hu:u=l.length):BLe y (.cells u [] l .nil):=by
 subst hu;obtain⟨u,z,bs,t,rfl,rfl,hg,hl⟩:=h;rintro φ D w p ⟨c,e,fr,h1,h2,h3,h4,h5,h6⟩;refine⟨c,e,fr,h1,h2,h3,λ i v hv=>h4 i v ?_,λ _ _=>rfl,h6⟩;rw[jP]at hv;rw[hg]
 split at hv
 ·exact hv
 cases hv
section
variable {P:Program}
theorem aH.okS {g:FuncId}{args:List AV}{S S' H H':Hp}{n n':Nat}{v0:AV}(h:aH P g args S n (λ v K k=>v=v0/\(∀b y,S'.get b=some y->∃y',K.get b=some y'/\BLe y' y)/\k<=n')) (hle:n<=n')
  (ha:fB n args)(hs:∀b k,S.get b=some k->b<n/\xV n k)(hsub:∀b k,S.get b=some k->H.get b=some k)
  (h1:∀b,S.get b≠none∨(n<=b/\b<n')->H'.get b=S'.get b)(h2:∀b,S.get b=none->¬(n<=b/\b<n')->H'.get b=H.get b):bT P g args H n v0 H' n':=by
 refine⟨h.1,hle,λ φ D w xs hrel hvs hf R hR=>?_⟩
 have hne:∀b,S.get b≠none->H.get b≠none:=λ b hb=>by
  cases hx:S.get b with
  | none=>exact absurd hx hb
  | some k=>rw[hsub b k hx];simp
 have hr0:Rel (oL φ n) D S.get w:=by
  refine⟨λ b k hb=>?_,λ b c p q hb hc hp hq=>?_,λ b p hb hp=>?_,hrel.dat⟩
  ·obtain⟨p,hp,hl,hk⟩:=hrel.blk b k (hsub b k hb);exact⟨p,(iU (hs b k hb).1).trans hp,hl,hk.cut (hs b k hb).2⟩
  ·exact hrel.inj b c p q (hne b hb) (hne c hc) (cj hp).2 (cj hq).2
  exact hrel.sep b p (hne b hb) (cj hp).2
 refine h.2 (oL φ n) D w xs hr0 (hvs.cut ha) (λ b hb=>?_) R λ v K k φ' D' w' x ⟨hv,hK,hk⟩ e r hx=>?_
 ·unfold oL;rw[if_neg (by omega)]
 subst hv
 have avs:∀b p,φ' b=some p->(match φ b with | some p=>some p | none=>φ' b)=some p:=by
  intro b p hp
  cases hb:φ b with
  | none=>exact hp
  | some q =>
   dsimp only
   by_cases hlt:b<n
   ·have:=e.phi b q ((iU hlt).trans hb);rw[hp]at this;exact this.symm
   have h3:=e.new b (by unfold oL;rw[if_neg hlt]) (by rw[hp];simp);rw[hf b h3.1 (by omega)]at hb;cases hb
 generalize hφ2:(λ b=>match φ b with | some p=>some p | none=>φ' b:Ph)=φ2;have ajs:∀b,φ2 b=match φ b with | some p=>some p | none=>φ' b:=λ b=>by rw[<-hφ2]
 have hup:∀b p,φ' b=some p->φ2 b=some p:=λ b p hp=>by rw[ajs];exact avs b p hp
 have tC:∀b p,φ b=some p->φ2 b=some p:=λ b p hp=>by rw[ajs,hp]
 have hcase:∀b,H'.get b≠none->(∃y y',H'.get b=some y/\K.get b=some y'/\BLe y' y)∨(S.get b=none/\¬(n<=b/\b<n')/\H'.get b=H.get b):=by
  intro b hb
  by_cases hc:S.get b≠none∨(n<=b/\b<n')
  ·cases hy:H'.get b with
   | none=>exact absurd hy hb
   | some y =>
    obtain⟨y',h3,h4⟩:=hK b y (by rw[<-h1 b hc,hy]);exact .inl ⟨y,y',rfl,h3,h4⟩
  have hc1:S.get b=none:=Decidable.byContradiction λ h=>hc (.inl h);have hc2:¬(n<=b/\b<n'):=λ h=>hc (.inr h);exact .inr ⟨hc1,hc2,h2 b hc1 hc2⟩
 have hold:∀b,S.get b=none->H'.get b=H.get b->H'.get b≠none->∃p,φ b=some p/\p.1<w.heap.size/\(∀y,H'.get b=some y->iT φ D w p y)/\(∀b0 p0,S.get b0≠none->φ b0=some p0->p0.1≠p.1):=by
  intro b hb1 hb2 hb3
  cases hy:H.get b with
  | none=>rw[hb2,hy]at hb3;exact absurd rfl hb3
  | some y =>
   obtain⟨p,hp,hlt,hk⟩:=hrel.blk b y hy;refine⟨p,hp,hlt,λ y' hy'=>?_,λ b0 p0 hb0 hp0 heq=>?_⟩
   ·rw[hb2,hy]at hy';injection hy' with hy';subst hy';exact hk
   have:=hrel.inj b0 b p0 p (hne b0 hb0) (by rw[hy];simp) hp0 hp heq;subst this;exact hb0 hb1
 have hnew:∀b p,K.get b≠none->φ2 b=some p->φ' b=some p:=by
  intro b p hb hp
  cases hy:K.get b with
  | none=>exact absurd hy hb
  | some y =>
   obtain⟨q,hq,_⟩:=r.blk b y hy;have:=hup b q hq;rw[hp]at this;rw[hq,this]
 have hs':∀ {b:Nat} {y:bI},K.get b=some y->K.get b≠none:=λ h=>by rw[h];simp
 refine hR φ2 D' w' x ⟨hle,tC,λ b hb hb2=>?_,e.dat,e.size,λ c hc hk=>e.keep c hc λ b p hb hp=>hk b p (hne b hb) (cj hp).2,λ b p hb hp=>?_,λ c hc=>?_,λ b hb=>?_,e.os,e.out⟩
  ⟨λ b y hy=>?_,λ b c p q hb hc hp hq heq=>?_,λ b p hb hp=>?_,r.dat⟩ (hx.mono hup λ _ _ h=>h)
 ·have h3:=e.new b (by
   cases hc:oL φ n b with
   | none=>rfl
   | some p=>rw[(cj hc).2]at hb;cases hb) (by rw[ajs,hb]at hb2;exact hb2)
  omega
 ·rcases hcase b hb with⟨_,_,_,h3,_⟩ | ⟨h3,_,h5⟩
  ·rcases e.live b p (hs' h3) (hnew b p (hs' h3) hp)with h4 | ⟨b0,p0,h5,h6,h7⟩
   ·exact .inl h4
   exact .inr ⟨b0,p0,hne b0 h5,(cj h6).2,h7⟩
  obtain⟨p1,hp1,hlt,_⟩:=hold b h3 h5 hb;have:=tC b p1 hp1;rw[hp]at this;injection this with this;subst this;exact .inr ⟨b,p,by rw[<-h5];exact hb,hp1,rfl⟩
 ·rcases e.jz c hc with h4 | h4 | ⟨b0,p0,h5,h6,h7⟩
  ·exact .inl h4
  ·exact .inr (.inl h4)
  exact .inr (.inr ⟨b0,p0,hne b0 h5,(cj h6).2,h7⟩)
 ·rcases hcase b hb with⟨_,_,_,h3,_⟩ | ⟨_,_,h5⟩
  ·rcases e.hid b (hs' h3)with h4 | h4
   ·exact .inl (hne b h4)
   exact .inr (by omega)
  exact .inl (by rw[<-h5];exact hb)
 ·have hb:H'.get b≠none:=by rw[hy];simp
  rcases hcase b hb with⟨y1,y',h2,h3,h4⟩ | ⟨h3,_,h5⟩
  ·rw[hy]at h2;injection h2 with h2;subst h2;obtain⟨p,hp,hl,hk⟩:=r.blk b y' h3;exact⟨p,hup b p hp,hl,(h4 _ _ _ _ hk).mono hup (λ _ _ h=>h) rfl⟩
  obtain⟨p,hp,hlt,hB,hx⟩:=hold b h3 h5 hb;exact⟨p,tC b p hp,Nat.lt_of_lt_of_le hlt e.size,(hB y hy).mono tC e.dat (e.keep p.1 hlt λ b0 p0 hb0 hp0=>hx b0 p0 hb0 (cj hp0).2)⟩
 ·have mixed:∀b c p q,K.get b≠none->S.get c=none->H'.get c=H.get c->H'.get c≠none->φ2 b=some p->φ2 c=some q->p.1=q.1->b=c:=by
   intro b c p q hb h4 h5 hc hp hq heq;obtain⟨q1,hq1,hlt,_,hx⟩:=hold c h4 h5 hc;have:=tC c q1 hq1;rw[hq]at this;injection this with this;subst this
   rcases e.live b p hb (hnew b p hb hp)with h6 | ⟨b0,p0,h5,h6,h7⟩
   ·omega
   exact absurd (h7.trans heq) (hx b0 p0 h5 (cj h6).2)
  rcases hcase b hb with⟨_,_,_,h3,_⟩ | ⟨h3,_,h5⟩
  ·rcases hcase c hc with⟨_,_,_,h4,_⟩ | ⟨h4,_,h6⟩
   ·exact r.inj b c p q (hs' h3) (hs' h4) (hnew b p (hs' h3) hp) (hnew c q (hs' h4) hq) heq
   exact mixed b c p q (hs' h3) h4 h6 hc hp hq heq
  rcases hcase c hc with⟨_,_,_,h4,_⟩ | ⟨h4,_,h6⟩
  ·exact(mixed c b q p (hs' h4) h3 h5 hb hq hp heq.symm).symm
  obtain⟨p1,hp1,_⟩:=hold b h3 h5 hb;obtain⟨q1,hq1,_⟩:=hold c h4 h6 hc;have e1:=tC b p1 hp1;have e2:=tC c q1 hq1;rw[hp]at e1;rw[hq]at e2;injection e1 with e1;injection e2 with e2;subst e1 e2;exact hrel.inj b c p q (by rw[<-h5];exact hb) (by rw[<-h6];exact hc) hp1 hq1 heq
 rcases hcase b hb with⟨_,_,_,h3,_⟩ | ⟨h3,_,h5⟩
 ·exact r.sep b p (hs' h3) (hnew b p (hs' h3) hp)
 obtain⟨p1,hp1,hlt,_,hx⟩:=hold b h3 h5 hb;have e1:=tC b p1 hp1;rw[hp]at e1;injection e1 with e1;subst e1;have hD:=hrel.sep b p (by rw[<-h5];exact hb) hp1
 cases hd:D' p.1 with
 | none=>rfl
 | some y =>
  rcases e.jz p.1 (by rw[hd];simp)with h4 | h4 | ⟨b0,p0,h6,h7,h8⟩
  ·exact absurd hD h4
  ·omega
  exact absurd h8 (hx b0 p0 h6 (cj h7).2)
end
end Go.Abs
namespace Go.Abs
open List
section
variable {F:Fr}{H:Hp}{Hs:List Hp}{n:Nat}{m:List Dm}{Q:QA}{ce:Ce}
def FnI (v:Option AV)(vs:Option (List AV))(pd:Pd)(r:List (Option RO))(ce:Ce)(F:Fr)(H:Hp)(Hs:List Hp)(n:Nat)(m:List Dm)(Q:QA):Prop:=match v,vs with
 | some (.fn (.func f) first cap),some vs=>E7 (ce.call f (first++(vs++cap)) H n) pd r ce F Hs m Q
 | some (.je q),some vs=>E7 (CY ce q vs H n) pd r ce F Hs m Q
 | _,_=>False
@[simp] theorem aoS (f:FuncId)(first cap vs:List AV)(pd:Pd)(r:List (Option RO)):FnI (some (.fn (.func f) first cap)) (some vs) pd r ce F H Hs n m Q=E7 (ce.call f (first++(vs++cap)) H n) pd r ce F Hs m Q:=propext Iff.rfl
theorem Ed (rs:RS) (pd:Pd) (g:G) (as:List G) (next:List (Option RO)):Ev ((iB rs pd g as (fH next)).f ce F H Hs n m) Q=FnI (g.f (rs.f F)) (fM (rs.f F) as) pd next ce F H Hs n m Q:=by
 simp only[iB];unfold FnI
 cases g.f (rs.f F)with
 | none=>rfl
 | some v =>
  cases v with
  | fn x first cap =>
   cases x with
   | func f =>
    dsimp only
    cases fM (rs.f F) as with
    | none=>rfl
    | some vs =>
     dsimp only;unfold E7 EvC
     cases ce.call f (first++(vs++cap)) H n<;>rfl
   | _=>rfl
  | je q =>
   dsimp only
   cases fM (rs.f F) as with
   | none=>rfl
   | some vs =>
    dsimp only;unfold E7 EvC
    cases CY ce q vs H n<;>rfl
  | _=>rfl
@[simp] theorem ayg (rs:List Nat)(pd:Pd)(g:G)(as:List G)(r:List (Option RO)):Ev ((fH (vI rs pd g as::r)).f ce F H Hs n m) Q=FnI (g.f ((cF rs).f F)) (fM ((cF rs).f F) as) pd r ce F H Hs n m Q:=Ed (cF rs) pd g as r
def gvI (rs:List Nat)(g:G)(b:Bool)(pd:Pd)(h:G)(as:List G):Option RO:=some ⟨cF rs,some (g,b),pd,.call h as,none⟩
def GvI (v:Option AV)(b:Bool)(F0:Fr)(pd:Pd)(h:G)(as:List G)(r:List (Option RO))(ce:Ce)(F:Fr)(H:Hp)(Hs:List Hp)(n:Nat)(m:List Dm)(Q:QA):Prop:=eZ v b (FnI (h.f F0) (fM F0 as) pd r ce F H Hs n m Q) (Ev ((fH r).f ce (pd.f (.bg []) F) H (H::Hs) n m) Q)
@[simp] theorem aws (rs:List Nat)(g:G)(b:Bool)(pd:Pd)(h:G)(as:List G)(r:List (Option RO)):Ev ((fH (gvI rs g b pd h as::r)).f ce F H Hs n m) Q=GvI (g.f ((cF rs).f F)) b ((cF rs).f F) pd h as r ce F H Hs n m Q:=by
 have h1:=oA (ce:=ce) (F:=F) (H:=H) (Hs:=Hs) (n:=n) (m:=m) (Q:=Q) (rs:=cF rs) (g:=g) (b:=b) (yes:=iB (cF rs) pd h as (fH r)) (no:=NP pd (fH r));rw[Ed]at h1;exact h1
@[simp] theorem ax3 (F0:Fr)(pd:Pd)(h:G)(as:List G)(r:List (Option RO)):GvI (some (.bool true)) true F0 pd h as r ce F H Hs n m Q=FnI (h.f F0) (fM F0 as) pd r ce F H Hs n m Q:=propext Iff.rfl
@[simp] theorem ax4 (F0:Fr)(pd:Pd)(h:G)(as:List G)(r:List (Option RO)):GvI (some (.bool false)) true F0 pd h as r ce F H Hs n m Q=Ev ((fH r).f ce (pd.f (.bg []) F) H (H::Hs) n m) Q:=propext Iff.rfl
@[simp] theorem avW (F0:Fr)(pd:Pd)(h:G)(as:List G)(r:List (Option RO)):GvI (some (.bool true)) false F0 pd h as r ce F H Hs n m Q=Ev ((fH r).f ce (pd.f (.bg []) F) H (H::Hs) n m) Q:=propext Iff.rfl
@[simp] theorem avX (F0:Fr)(pd:Pd)(h:G)(as:List G)(r:List (Option RO)):GvI (some (.bool false)) false F0 pd h as r ce F H Hs n m Q=FnI (h.f F0) (fM F0 as) pd r ce F H Hs n m Q:=propext Iff.rfl
end
end Go.Abs
namespace Go.Abs
open List
set_option maxRecDepth 100000
mutual
theorem dU.mono {h h':Hf}(hh:∀b k,h b=some k->h' b=some k):∀ {v v'},dU h v v'->dU h' v v'
 | _,_,.pure _ k=>.pure _ k
 | _,_,.nil _=>.nil _
 | _,_,.sl _ _ _ _ _ _ _ _ _ _ a b k=>.sl _ _ _ _ _ _ _ _ _ _ (hh _ _ a) b (aN.mono hh k)
 | _,_,.ptr _ _ _ _ _ _ _ _ _ a b k=>.ptr _ _ _ _ _ _ _ _ _ (hh _ _ a) b (aN.mono hh k)
 | _,_,.agg _ _ _ k=>.agg _ _ _ (aN.mono hh k)
 | _,_,.bg _ _ k=>.bg _ _ (aN.mono hh k)
theorem aN.mono {h h':Hf}(hh:∀b k,h b=some k->h' b=some k):∀ {v v'},aN h v v'->aN h' v v'
 | _,_,.nil=>.nil
 | _,_,.cons _ _ _ _ a b=>.cons _ _ _ _ (dU.mono hh a) (aN.mono hh b)
end
theorem aN.append {h:Hf}:∀ {a a' b b'},aN h a a'->aN h b b'->aN h (a++b) (a'++b')
 | _,_,_,_,.nil,k=>k
 | _,_,_,_,.cons _ _ _ _ x y,k=>.cons _ _ _ _ x (aN.append y k)
theorem aN.one {h:Hf}:∀ {a a'},aN h a a'->bm a'=true->bm a=true
 | _,_,.nil,_=>by simp
 | _,_,.cons v v' vs vs' x y,k=>by
  simp only[tM,Bool.and_eq_true]at k ⊢;refine⟨?_,aN.one y k.2⟩
  cases x with
  | pure _ _=>exact k.1
  | nil _=>rfl
  | sl=>rfl
  | ptr=>rfl
  | agg=>exact k.1
  | bg=>exact k.1
def cS (H:Hp)(n:Nat):Prop:=∀b,n<=b->H.get b=none
def Grow (H:Hp)(n:Nat)(H':Hp)(n':Nat):Prop:=n<=n'/\(∀b,b<n->H'.get b=H.get b)/\cS H' n'
theorem Grow.mono {H H':Hp}{n n':Nat}(h:Grow H n H' n')(ht:cS H n):∀b k,H.get b=some k->H'.get b=some k:=by
 intro b k hb
 by_cases hlt:b<n
 ·rw[h.2.1 b hlt,hb]
 rw[ht b (by omega)]at hb;cases hb
theorem Grow.trans {H H1 H2:Hp}{n n1 n2:Nat}(h:Grow H n H1 n1)(k:Grow H1 n1 H2 n2):Grow H n H2 n2:=
 ⟨Nat.le_trans h.1 k.1,λ b hb=>(k.2.1 b (Nat.lt_of_lt_of_le hb h.1)).trans (h.2.1 b hb),k.2.2⟩
def above (n:Nat)(H:Hp):Hf:=λ b=>if n<=b then H.get b else none
theorem EC {n n':Nat}{H H':Hp}(h:∀b k,n<=b->H.get b=some k->n'<=b/\H'.get b=some k):∀b k,above n H b=some k->above n' H' b=some k:=by
 intro b k hb;unfold above at hb ⊢
 split at hb
 ·rename_i hle;obtain⟨h1,h2⟩:=h b k hle hb;rw[if_pos h1,h2]
 cases hb
theorem OH {n:Nat}{H:Hp}:∀b k,above n H b=some k->H.get b=some k:=by
 intro b k hb;unfold above at hb
 split at hb
 ·exact hb
 cases hb
theorem Grow.refl {H:Hp}{n:Nat}(ht:cS H n):Grow H n H n:=⟨Nat.le_refl _,λ _ _=>rfl,ht⟩
theorem Grow.new {H H':Hp}{n n':Nat}(h:Grow H n H' n')(k:bI):Grow H n (H'.put n' (some k)) (n'+1):=
 ⟨by have:=h.1;omega,λ b hb=>by
  have:¬b=n':=by have:=h.1;omega
  simp[this,h.2.1 b hb],λ b hb=>by
  have:¬b=n':=by omega
  simp[this,h.2.2 b (by omega)]⟩
theorem Grow.upd {H H':Hp}{n n':Nat}(h:Grow H n H' n'){c:Nat}(k:Option bI)(hc:n<=c)(hc':c<n'):Grow H n (H'.put c k) n':=
 ⟨h.1,λ b hb=>by
  have:¬b=c:=by omega
  simp[this,h.2.1 b hb],λ b hb=>by
  have:¬b=c:=by omega
  simp[this,h.2.2 b hb]⟩
theorem Grow.le {H H':Hp}{n n1 n':Nat}(h:Grow H n H' n1)(hle:n1<=n'):Grow H n H' n':=⟨Nat.le_trans h.1 hle,h.2.1,λ b hb=>h.2.2 b (Nat.le_trans hle hb)⟩
@[simp] theorem wr1:IntKind.i64.wrap 1=1:=by simp[IntKind.wrap,IntKind.signed,IntKind.bits]
@[simp] theorem wr2:IntKind.i64.wrap 2=2:=by simp[IntKind.wrap,IntKind.signed,IntKind.bits]
@[simp] theorem wr3:IntKind.i64.wrap 3=3:=by simp[IntKind.wrap,IntKind.signed,IntKind.bits]
@[simp] theorem nn2 (n:Nat):(n=n+1+1)=False:=by simp only[eq_iff_iff,iff_false];omega
@[simp] theorem nr2 (n:Nat):(n+1+1=n)=False:=by simp only[eq_iff_iff,iff_false];omega
@[simp] theorem nn3 (n:Nat):(n=n+1+1+1)=False:=by simp only[eq_iff_iff,iff_false];omega
@[simp] theorem nr3 (n:Nat):(n+1+1+1=n)=False:=by simp only[eq_iff_iff,iff_false];omega
@[simp] theorem nn4 (n:Nat):(n=n+1+1+1+1)=False:=by simp only[eq_iff_iff,iff_false];omega
@[simp] theorem nr4 (n:Nat):(n+1+1+1+1=n)=False:=by simp only[eq_iff_iff,iff_false];omega
@[simp] theorem nn5 (n:Nat):(n=n+1+1+1+1+1)=False:=by simp only[eq_iff_iff,iff_false];omega
@[simp] theorem nr5 (n:Nat):(n+1+1+1+1+1=n)=False:=by simp only[eq_iff_iff,iff_false];omega
@[simp] theorem nn6 (n:Nat):(n=n+1+1+1+1+1+1)=False:=by simp only[eq_iff_iff,iff_false];omega
@[simp] theorem nr6 (n:Nat):(n+1+1+1+1+1+1=n)=False:=by simp only[eq_iff_iff,iff_false];omega
@[simp] theorem nn7 (n:Nat):(n=n+1+1+1+1+1+1+1)=False:=by simp only[eq_iff_iff,iff_false];omega
@[simp] theorem nr7 (n:Nat):(n+1+1+1+1+1+1+1=n)=False:=by simp only[eq_iff_iff,iff_false];omega
@[simp] theorem nn8 (n:Nat):(n=n+1+1+1+1+1+1+1+1)=False:=by simp only[eq_iff_iff,iff_false];omega
@[simp] theorem nr8 (n:Nat):(n+1+1+1+1+1+1+1+1=n)=False:=by simp only[eq_iff_iff,iff_false];omega
@[simp] theorem nn9 (n:Nat):(n=n+1+1+1+1+1+1+1+1+1)=False:=by simp only[eq_iff_iff,iff_false];omega
@[simp] theorem nr9 (n:Nat):(n+1+1+1+1+1+1+1+1+1=n)=False:=by simp only[eq_iff_iff,iff_false];omega
@[simp] theorem nn10 (n:Nat):(n=n+1+1+1+1+1+1+1+1+1+1)=False:=by simp only[eq_iff_iff,iff_false];omega
@[simp] theorem nr10 (n:Nat):(n+1+1+1+1+1+1+1+1+1+1=n)=False:=by simp only[eq_iff_iff,iff_false];omega
@[simp] theorem nn11 (n:Nat):(n=n+1+1+1+1+1+1+1+1+1+1+1)=False:=by simp only[eq_iff_iff,iff_false];omega
@[simp] theorem nr11 (n:Nat):(n+1+1+1+1+1+1+1+1+1+1+1=n)=False:=by simp only[eq_iff_iff,iff_false];omega
@[simp] theorem nn12 (n:Nat):(n=n+1+1+1+1+1+1+1+1+1+1+1+1)=False:=by simp only[eq_iff_iff,iff_false];omega
@[simp] theorem nr12 (n:Nat):(n+1+1+1+1+1+1+1+1+1+1+1+1=n)=False:=by simp only[eq_iff_iff,iff_false];omega
theorem dj {b n:Nat}(h:b<n):(b=n)=False/\(b=n+1)=False/\(b=n+1+1)=False/\(b=n+1+1+1)=False/\(b=n+1+1+1+1)=False/\(b=n+1+1+1+1+1)=False/\(b=n+1+1+1+1+1+1)=False/\(b=n+1+1+1+1+1+1+1)=False/\(b=n+1+1+1+1+1+1+1+1)=False/\(b=n+1+1+1+1+1+1+1+1+1)=False/\(b=n+1+1+1+1+1+1+1+1+1+1)=False/\(b=n+1+1+1+1+1+1+1+1+1+1+1)=False/\(b=n+1+1+1+1+1+1+1+1+1+1+1+1)=False:=by
 refine⟨?_,?_,?_,?_,?_,?_,?_,?_,?_,?_,?_,?_,?_⟩<;>(simp only[eq_iff_iff,iff_false];omega)
theorem Aj {b n:Nat}(h:b<n):(n=b)=False/\(n+1=b)=False/\(n+1+1=b)=False/\(n+1+1+1=b)=False/\(n+1+1+1+1=b)=False/\(n+1+1+1+1+1=b)=False/\(n+1+1+1+1+1+1=b)=False/\(n+1+1+1+1+1+1+1=b)=False/\(n+1+1+1+1+1+1+1+1=b)=False/\(n+1+1+1+1+1+1+1+1+1=b)=False/\(n+1+1+1+1+1+1+1+1+1+1=b)=False/\(n+1+1+1+1+1+1+1+1+1+1+1=b)=False/\(n+1+1+1+1+1+1+1+1+1+1+1+1=b)=False:=by
 refine⟨?_,?_,?_,?_,?_,?_,?_,?_,?_,?_,?_,?_,?_⟩<;>(simp only[eq_iff_iff,iff_false];omega)
theorem cS.lt {H:Hp}{n b:Nat}{k:bI}(ht:cS H n)(h:H.get b=some k):b<n:=by
 rcases Nat.lt_or_ge b n with h' | h'
 ·exact h'
 rw[ht b h']at h;cases h
theorem cS.none {H:Hp}{n:Nat}(h:cS H n):H.get (n)=Option.none/\H.get (n+1)=Option.none/\H.get (n+1+1)=Option.none/\H.get (n+1+1+1)=Option.none/\H.get (n+1+1+1+1)=Option.none/\H.get (n+1+1+1+1+1)=Option.none/\H.get (n+1+1+1+1+1+1)=Option.none/\H.get (n+1+1+1+1+1+1+1)=Option.none/\H.get (n+1+1+1+1+1+1+1+1)=Option.none/\H.get (n+1+1+1+1+1+1+1+1+1)=Option.none/\H.get (n+1+1+1+1+1+1+1+1+1+1)=Option.none/\H.get (n+1+1+1+1+1+1+1+1+1+1+1)=Option.none/\H.get (n+1+1+1+1+1+1+1+1+1+1+1+1)=Option.none:=by
 refine⟨?_,?_,?_,?_,?_,?_,?_,?_,?_,?_,?_,?_,?_⟩<;>exact h _ (by omega)
structure Cl where
 g:FuncId
 args:List AV
 H:Hp
 n:Nat
 v:AV
 H':Hp
 n':Nat
open Classical in
def Kk (l:List Cl):Ce:=xQ λ g args H n=>match l.find? (λ x=>decide (x.g=g/\x.args=args/\x.H=H/\x.n=n))with
 | some x=>.mk x.v x.H' x.n'
 | none=>.fail
theorem fP {P:Program}{l:List Cl}(h:∀x∈l,bT P x.g x.args x.H x.n x.v x.H' x.n'):gL P (Kk l):=by
 refine Bg λ g args H n v H' n' e=>?_
 split at e
 ·rename_i x hx;have h1:=find?_some hx;simp at h1;obtain⟨rfl,rfl,rfl,rfl⟩:=h1;injection e with e1 e2 e3;subst e1 e2 e3;exact h x (mem_of_find?_eq_some hx)
 cases e
theorem fQ {g:FuncId}{args:List AV}{H:Hp}{n:Nat}{v:AV}{H':Hp}{n':Nat}{l:List Cl}:(Kk (⟨g,args,H,n,v,H',n'⟩::l)).call g args H n=vj (.mk v H' n'):=by
 simp[Kk,xQ]
theorem Bh {g g':FuncId}{args args':List AV}{H H0:Hp}{n n0:Nat}{v:AV}{H':Hp}{n':Nat}{l:List Cl}(hg:g'≠g):(Kk (⟨g',args',H0,n0,v,H',n'⟩::l)).call g args H n=(Kk l).call g args H n:=by
 simp[Kk,xQ,find?_cons,hg]
section
variable {H:Hp}{n:Nat}
theorem aB {b sz:Nat}{l:List AV}(hb:H.get b=some (.cells sz [] l .nil)):bZ H sz (.sl b 0 1 sz)=some l:=by
 simp only[bZ,nV,decide_true,cond_true,hb,Nat.one_mul,Rr]
end
theorem fe.app {u:Nat}{z bs l new:List AV}{t:Ov AV}(h:fe (.cells u z bs t) l) (hn:new≠[]):fe (.cells (u+new.length) z bs (Ov.bO new u t)) (l++new):=by
 obtain⟨u',z',bs',t',e,hu,hg,hi⟩:=h;injection e with e1 e2 e3 e4;subst e1 e2 e3 e4;refine⟨_,z,bs,_,rfl,by simp[hu],λ i=>?_,λ ht=>?_⟩
 ·rw[cW,Ov.bG]
  by_cases hlt:i<u+new.length
  ·rw[if_pos hlt]
   by_cases hin:u<=i/\i<u+new.length
   ·rw[if_pos hin,getElem?_append_right (by omega),<-hu,getElem?_eq_getElem (by omega)]
   rw[if_neg hin,getElem?_append_left (by omega)];have:=hg i;rw[cW,if_pos (by omega)]at this;exact this
  rw[if_neg hlt,getElem?_eq_none (by simp;omega)]
 exfalso
 cases new with
 | nil=>exact hn rfl
 | cons v r =>
  have:=Ov.bG (v::r) u t u;rw[ht,if_pos (by simp)]at this;simp at this
def blk (v:AV):Option Nat:=match v with
 | .sl b _ _ _=>some b
 | _=>none
@[simp] theorem atK:blk (.ak (.slice none 0 0))=none:=rfl
@[simp] theorem awM (b o l s:Nat):blk (.sl b o l s)=some b:=rfl
theorem fe.uniq {u:Nat}{l l':List AV}(h:fe (.cells u [] l .nil) l')(hu:u=l.length):l'=l:=by
 obtain⟨u',z,bs,t,e,h1,h2,_⟩:=h;injection e with e1 e2 e3 e4;subst e1 e2 e3 e4;apply ext_getElem?;intro i;rw[<-h2 i,jP]
 split
 ·rfl
 rw[getElem?_eq_none (by omega)]
theorem ar.frame {H H':Hp}{n n':Nat}{w:AV}{l:List AV}{len sz:Nat}(h:ar H n w l len sz)(hn:n<=n')(hk:∀c,blk w=some c->H'.get c=H.get c):ar H' n' w l len sz:=by
 obtain⟨h0,⟨rfl,h1⟩ | ⟨b,k,rfl,hb,hbk,ho⟩⟩:=h
 ·exact⟨h0,.inl ⟨rfl,h1⟩⟩
 exact⟨h0,.inr ⟨b,k,rfl,by omega,(hk b rfl).trans hbk,ho⟩⟩
theorem ar.ru {H:Hp}{n:Nat}{ce:Ce}{Hs:List Hp}{F:Fr}{m:List Dm}{Q:QA}{v x:AV}{l new:List AV}{len sz jV k:Nat}{pd:Pd}{r:List (Option RO)}(h:ar H n v l len sz)(hx:bZ H sz x=some new)(hk:sliceLen x=some k)(hn:new.length=k*sz)
  (hs:0<sz)(hk0:0<k)(hbig:len+k<=big)(hby:jV<=4096)(h1:bm new=true)
  (hgo:∀H',ar H' (n+1) (.sl n 0 (len+k) sz) (l++new) (len+k) sz->(∀c,c≠n->v≠.sl c 0 len sz->H'.get c=H.get c)->Ev ((fH r).f ce (pd.f (.sl n 0 (len+k) sz) F) H' (H'::Hs) (n+1) m) Q):OP (Go.Abs.lU sz jV n v x H) pd r ce F H Hs n m Q:=by
 obtain⟨H',e,h1,h2⟩:=h.lU hx hk hn hs hk0 hbig hby h1;unfold OP;rw[e];exact hgo H' h1 λ c hc=>h2 c hc
theorem ar.aK {H:Hp}{n:Nat}{w:AV}{l:List AV}{len sz c:Nat}(h:ar H n w l len sz)(hc:blk w=some c):c<n:=by
 obtain⟨_,⟨rfl,_⟩ | ⟨b,k,rfl,hb,_⟩⟩:=h
 ·cases hc
 simp at hc;omega
theorem ar.dO {H:Hp}{n:Nat}{v:AV}{l:List AV}{len sz:Nat}(h:ar H n v l len sz):v.one=true:=by
 obtain⟨_,⟨rfl,_⟩ | ⟨b,k,rfl,_⟩⟩:=h<;>simp
theorem fe.st {u:Nat}{z bs:List AV}{t:Ov AV}{l:List AV}(h:fe (.cells u z bs t) l){i:Nat}(hi:i<l.length) (v:AV):fe (mi u z bs t [v] i) (l.set i v):=by
 obtain⟨u',z',bs',t',e,hu,hg,hl⟩:=h;injection e with e1 e2 e3 e4;subst e1 e2 e3 e4
 have key:∀t2,(∀j,t2.get j=if i<=j/\j<i+1 then [v][j - i]? else t.get j)->t2≠.nil->fe (.cells u z bs t2) (l.set i v):=by
  intro t2 h2 hne;refine⟨u,z,bs,t2,rfl,by simp[hu],λ j=>?_,λ e=>absurd e hne⟩;have hj:=hg j;rw[cW]at hj ⊢;rw[getElem?_set,h2]
  by_cases e:i=j
  ·subst e;rw[if_pos (by omega),if_pos (by omega),if_pos rfl,if_pos hi];simp
  rw[if_neg e]
  by_cases hju:j<u
  ·rw[if_pos hju]at hj ⊢;rw[if_neg (by omega)];exact hj
  rw[if_neg hju]at hj ⊢;exact hj
 have hput:∀t:Ov AV,(Ov.bO [v] i t)≠.nil:=by
  intro t e;have:=Ov.bG [v] i t i;rw[e,if_pos (by simp)]at this;simp at this
 have vC:fe (.cells u z bs (Ov.bO [v] i t)) (l.set i v):=key _ (λ j=>Ov.bG [v] i t j) (hput t);unfold mi
 split
 ·split
  ·split
   ·split
    ·rename_i bs' hp;have hb:=hl rfl rfl;obtain⟨p1,_,p3⟩:=iF hp
     have:bs'=l.set i v:=by
      apply ext_getElem?;intro j;rw[p3,getElem?_set];have hj:=hg j;rw[jP]at hj
      by_cases e:i=j
      ·subst e;rw[if_pos (by simp),if_pos rfl,if_pos hi];simp
      rw[if_neg (by simp;omega),if_neg e];rw[<-hj]
      split
      ·rfl
      rw[getElem?_eq_none (by omega)]
     rw[this];exact .list (by simp[hu])
    exact vC
   exact vC
  exact vC
 ·exact vC
 exact vC
theorem Qh {H:Hp}{b i:Nat}{k:bI}{L:List AV}(hb:H.get b=some k)(ho:fe k L)(hi:i<L.length):eT (.ptr b i) H=.val L[i]:=by
 obtain⟨u,z,bs,t,rfl,h3,h4,_⟩:=ho;have:=h4 i;rw[getElem?_eq_getElem hi]at this;simp[hb,this]
theorem bL (n:Nat):(iI n []=true)=True:=by simp[iI]
theorem bw (n:Nat)(h:Hp)(l:List Hp):(iI n (h::l)=true)=(h.get n=none/\iI n l=true):=by
 cases e:h.get n<;>simp[iI,e]
theorem aH.shut {P:Program}{g:FuncId}{args args':List AV}{G:AV->Prop}{H:Hp}{n:Nat}(h:aH P g args' .nil 0 (λ v1 H' _=>∃v,G v/\dU H'.get v1 v)) (hz:aN H.get args args'):aH P g args H n (λ u K k=>G u/\K=.nil/\k=n):=by
 refine⟨h.1,λ φ D w xs hr hv hf RR hR=>?_⟩;refine h.2 jW (Go.Abs.shut φ D H.get w) w xs (qL (jH hr.dat)) (hz.oQ hr hv) (λ _ _=>rfl) RR λ v1 H' n' φ' D' w' x ⟨v,hG,hfz⟩ e r hx=>?_;refine hR v .nil n φ (Go.Abs.shut φ' D' H'.get w') w' x ⟨hG,rfl,rfl⟩ ⟨Nat.le_refl _,λ _ _ h=>h,λ _ a b=>absurd a b,λ c x hc=>fg c x (e.dat c x (fg c x hc)),e.size,λ c hc _=>e.keep c hc λ b p hb=>by simp at hb,λ b p hb=>by simp at hb,λ c hc=>?_,λ b hb=>by simp at hb,e.os,e.out⟩ ⟨λ b k hb=>by simp at hb,λ b c p q hb=>by simp at hb,λ b p hb=>by simp at hb,jH r.dat⟩ (hfz.lJ.out (hfz.vr r hx))
 have key:D' c≠none∨w.heap.size<=c:=by
  unfold Go.Abs.shut at hc
  split at hc
  ·rename_i y hy;exact .inl (by rw[hy];simp)
  split at hc
  ·rename_i hex;obtain⟨b,p,hb,hp,rfl⟩:=hex
   rcases e.live b p hb hp with h | ⟨b0,p0,hh,_⟩
   ·exact .inr h
   simp at hh
  exact absurd rfl hc
 rcases key with h1 | h1
 ·rcases e.jz c h1 with h2 | h2 | ⟨b0,p0,hh,_⟩
  ·unfold Go.Abs.shut at h2
   split at h2
   ·rename_i y hy;exact .inl (by rw[hy];simp)
   split at h2
   ·rename_i hex;obtain⟨b,p,hb,hp,hp1⟩:=hex;exact .inr (.inr ⟨b,p,hb,hp,hp1⟩)
   exact absurd rfl h2
  ·exact .inr (.inl h2)
  simp at hh
 exact .inr (.inl h1)
end Go.Abs
namespace Go.Abs
open List
section
variable {P:Program}
end
end Go.Abs
namespace Go.Abs
open List
section
variable {P:Program}
def pick (H:Hp):List Nat->Hp
 | []=>.nil
 | b::r=>(pick H r).put b (H.get b)
theorem u6 (H:Hp)(L:List Nat)(c:Nat):(pick H L).get c=if c∈L then H.get c else none:=by
 induction L with
 | nil=>simp[pick]
 | cons b r ih =>
  simp only[pick,Tr.get_put,ih,mem_cons]
  by_cases h:c=b
  ·subst h;simp
  simp[h]
theorem lD {H:Hp}{L:List Nat}{c:Nat}(h:c∈L):(pick H L).get c=H.get c:=by rw[u6,if_pos h]
theorem u5 {H:Hp}{L:List Nat}{n:Nat}(h:∀b∈L,b<n):cS (pick H L) n:=by
 intro b hb;rw[u6,if_neg];intro hm;have:=h b hm;omega
theorem aH.okZ {g:FuncId}{args:List AV}{H H1:Hp}{n:Nat}{v0:AV}(L:List Nat) (ha:fB n args) (hL:∀b∈L,b<n) (hb:∀b∈L,∀k,H.get b=some k->xV n k) (hb1:∀b∈L,∀k,H1.get b=some k->xV n k)
  (h2:∀b,b∉L->H1.get b=H.get b)
  (h:aH P g args (pick H L) n (λ v K _=>dU (above n K) v v0/\∀b∈L,∀y,H1.get b=some y->∃y',K.get b=some y'/\BZ (above n K) y' y)):bT P g args H n v0 H1 n:=by
 refine⟨h.1,Nat.le_refl _,λ φ D w xs hrel hvs hf R hR=>?_⟩
 have hS:∀b,(pick H L).get b≠none->b∈L/\H.get b≠none:=λ b hb=>by
  rw[u6]at hb
  by_cases hm:b∈L
  ·rw[if_pos hm]at hb;exact⟨hm,hb⟩
  rw[if_neg hm]at hb;exact absurd rfl hb
 have hr0:Rel (oL φ n) D (pick H L).get w:=by
  refine⟨λ b k hk=>?_,λ b c p q hb hc hp hq=>?_,λ b p hb hp=>?_,hrel.dat⟩
  ·obtain⟨hm,_⟩:=hS b (by rw[hk];simp);rw[lD hm]at hk;obtain⟨p,hp,hl,hbk⟩:=hrel.blk b k hk;exact⟨p,(iU (hL b hm)).trans hp,hl,hbk.cut (hb b hm k hk)⟩
  ·exact hrel.inj b c p q (hS b hb).2 (hS c hc).2 (cj hp).2 (cj hq).2
  exact hrel.sep b p (hS b hb).2 (cj hp).2
 refine h.2 (oL φ n) D w xs hr0 (hvs.cut ha) (λ b hb=>?_) R λ v K k φ' D' w' x ⟨hz,hK⟩ e r hx=>?_
 ·unfold oL;rw[if_neg (by omega)]
 have hto:∀b p,b<n->φ' b=some p->φ b=some p:=by
  intro b p hlt hp
  cases hq:φ b with
  | none =>
   have:=e.new b ((iU hlt).trans hq) (by rw[hp];simp);omega
  | some q =>
   have:=e.phi b q ((iU hlt).trans hq);rw[hp]at this;exact this.symm
 have DW:∀b p,b<n->φ b=some p->φ' b=some p:=λ b p hlt hp=>e.phi b p ((iU hlt).trans hp);have hs:Rel φ' D' (above n K) w':=r.sub OH
 have hab:∀b,above n K b≠none->n<=b/\K.get b≠none:=λ b hb=>by
  unfold above at hb
  by_cases hm:n<=b
  ·rw[if_pos hm]at hb;exact⟨hm,hb⟩
  rw[if_neg hm]at hb;exact absurd rfl hb
 have hin:∀b,b∈L->H1.get b≠none->K.get b≠none:=λ b hm hb=>by
  cases hy:H1.get b with
  | none=>exact absurd hy hb
  | some y=>obtain⟨y',h3,_⟩:=hK b hm y hy;rw[h3];simp
 have hold:∀b p,b∉L->H1.get b≠none->φ b=some p->p.1<w.heap.size/\(∀b0 p0,(pick H L).get b0≠none->φ b0=some p0->p0.1≠p.1):=by
  intro b p hm hb hp;rw[h2 b hm]at hb
  cases hy:H.get b with
  | none=>exact absurd hy hb
  | some y =>
   refine⟨(hrel.block hy hp).1,λ b0 p0 h0 hp0 heq=>?_⟩;have:=hrel.inj b0 b p0 p (hS b0 h0).2 hb hp0 hp heq;subst this;exact hm (hS b0 h0).1
 have hlv:∀b p,K.get b≠none->φ' b=some p->w.heap.size<=p.1∨∃b0 p0,(pick H L).get b0≠none/\φ b0=some p0/\p0.1=p.1:=by
  intro b p hb hp
  rcases e.live b p hb hp with h4 | ⟨b0,p0,h5,h6,h7⟩
  ·exact .inl h4
  exact .inr ⟨b0,p0,h5,(cj h6).2,h7⟩
 refine hR φ (Go.Abs.shut φ' D' (above n K) w') w' x ⟨Nat.le_refl _,λ _ _ h=>h,λ _ a b=>absurd a b,λ c x hc=>fg c x (e.dat c x hc),e.size,λ c hc hk=>e.keep c hc λ b p hb hp=>hk b p (hS b hb).2 (cj hp).2,λ b p hb hp=>?_,λ c hc=>?_,λ b hb=>?_,e.os,e.out⟩
  ⟨λ b y hy=>?_,λ b c p q hb hc hp hq heq=>?_,λ b p hb hp=>?_,jH r.dat⟩ ((hz.vr hs hx).mono (λ b p hb=>by simp[jW]at hb) (λ _ _ h=>h))
 ·by_cases hm:b∈L
  ·rcases hlv b p (hin b hm hb) (DW b p (hL b hm) hp)with h4 | ⟨b0,p0,h5,h6,h7⟩
   ·exact .inl h4
   exact .inr ⟨b0,p0,(hS b0 h5).2,h6,h7⟩
  exact .inr ⟨b,p,by rw[<-h2 b hm];exact hb,hp,rfl⟩
 ·rcases C9 hc with h3 | ⟨b,p,h3,h4,h5⟩
  ·rcases e.jz c h3 with h4 | h4 | ⟨b0,p0,h5,h6,h7⟩
   ·exact .inl h4
   ·exact .inr (.inl h4)
   exact .inr (.inr ⟨b0,p0,(hS b0 h5).2,(cj h6).2,h7⟩)
  rcases hlv b p (hab b h3).2 h4 with h6 | ⟨b0,p0,h6,h7,h8⟩
  ·exact .inr (.inl (by omega))
  exact .inr (.inr ⟨b0,p0,(hS b0 h6).2,h7,h8.trans h5⟩)
 ·by_cases hm:b∈L
  ·rcases e.hid b (hin b hm hb)with h4 | h4
   ·exact .inl (hS b h4).2
   have:=hL b hm;omega
  exact .inl (by rw[<-h2 b hm];exact hb)
 ·by_cases hm:b∈L
  ·obtain⟨y',h3,h4⟩:=hK b hm y hy;obtain⟨p,hp,hl,hk⟩:=r.blk b y' h3;exact⟨p,hto b p (hL b hm) hp,hl,((h4.apS hs hk).cut (hb1 b hm y hy)).mono (λ c q hc=>hto c q (cj hc).1 (cj hc).2) (λ _ _ h=>h) rfl⟩
  rw[h2 b hm]at hy;obtain⟨p,hp,hl,hk⟩:=hrel.blk b y hy;have hh:=hold b p hm (by rw[h2 b hm,hy];simp) hp;exact⟨p,hp,Nat.lt_of_lt_of_le hl e.size,hk.mono (λ _ _ h=>h) (λ c x hc=>fg c x (e.dat c x hc)) (e.keep p.1 hl λ b0 p0 hb0 hp0=>hh.2 b0 p0 hb0 (cj hp0).2)⟩
 ·have mixed:∀b c p q,b∈L->c∉L->H1.get b≠none->H1.get c≠none->φ b=some p->φ c=some q->p.1=q.1->False:=by
   intro b c p q hb hc hb1 hc1 hp hq heq;have hh:=hold c q hc hc1 hq
   rcases hlv b p (hin b hb hb1) (DW b p (hL b hb) hp)with h4 | ⟨b0,p0,h5,h6,h7⟩
   ·omega
   exact hh.2 b0 p0 h5 h6 (h7.trans heq)
  by_cases hm:b∈L
  ·by_cases hm2:c∈L
   ·exact r.inj b c p q (hin b hm hb) (hin c hm2 hc) (DW b p (hL b hm) hp) (DW c q (hL c hm2) hq) heq
   exact(mixed b c p q hm hm2 hb hc hp hq heq).elim
  by_cases hm2:c∈L
  ·exact(mixed c b q p hm2 hm hc hb hq hp heq.symm).elim
  exact hrel.inj b c p q (by rw[<-h2 b hm];exact hb) (by rw[<-h2 c hm2];exact hc) hp hq heq
 by_cases hm:b∈L
 ·have hp':=DW b p (hL b hm) hp;refine rR (r.sep b p (hin b hm hb) hp') λ b' p' h3 h4 h5=>?_;have:=r.inj b' b p' p (hab b' h3).2 (hin b hm hb) h4 hp' h5;have h6:=(hab b' h3).1;have h7:=hL b hm;omega
 have hh:=hold b p hm hb hp;refine rR ?_ λ b' p' h3 h4 h5=>?_
 ·cases hd:D' p.1 with
  | none=>rfl
  | some y =>
   have hD:=hrel.sep b p (by rw[<-h2 b hm];exact hb) hp
   rcases e.jz p.1 (by rw[hd];simp)with h4 | h4 | ⟨b0,p0,h6,h7,h8⟩
   ·exact absurd hD h4
   ·omega
   exact absurd h8 (hh.2 b0 p0 h6 (cj h7).2)
 rcases hlv b' p' (hab b' h3).2 h4 with h6 | ⟨b0,p0,h6,h7,h8⟩
 ·omega
 exact hh.2 b0 p0 h6 h7 (h8.trans h5)
theorem aH.okB {g:FuncId}{args:List AV}{H:Hp}{n p:Nat}{v0:AV}{y1:bI}(L:List Nat)(hp:p∈L)(ha:fB n args)(hL:∀b∈L,b<n)(hb:∀b∈L,∀k,H.get b=some k->xV n k)(hy:xV n y1)
  (h:∀H0:Hp,cS H0 n->(∀c∈L,H0.get c=H.get c)->aH P g args H0 n (λ v K _=>dU (above n K) v v0/\(∀c,c<n->c≠p->K.get c=H0.get c)/\∃y',K.get p=some y'/\BZ (above n K) y' y1)):bT P g args H n v0 (H.put p (some y1)) n:=by
 refine aH.okZ L ha hL hb (λ b hm k hk=>?_) (λ b hm=>?_) ((h (pick H L) (u5 hL) λ c hc=>lD hc).mono λ v K k ⟨h1,h2,y',h3,h4⟩=>⟨h1,λ b hm y hy=>?_⟩)
 ·rw[Tr.get_put]at hk
  split at hk
  ·injection hk with hk;subst hk;exact hy
  exact hb b hm k hk
 ·rw[Tr.get_put,if_neg];rintro rfl;exact hm hp
 rw[Tr.get_put]at hy
 split at hy
 ·rename_i e;subst e;injection hy with hy;subst hy;exact⟨y',h3,h4⟩
 rename_i e;refine⟨y,?_,.inl rfl⟩;rw[h2 b (hL b hm) e,lD hm];exact hy
theorem aH.okN {g:FuncId}{args:List AV}{H:Hp}{n:Nat}{v0:AV}(L:List Nat)(ha:fB n args)(hL:∀b∈L,b<n)(hb:∀b∈L,∀k,H.get b=some k->xV n k)
  (h:∀H0:Hp,cS H0 n->(∀c∈L,H0.get c=H.get c)->aH P g args H0 n (λ v K _=>dU (above n K) v v0/\∀c,c<n->K.get c=H0.get c)):bT P g args H n v0 H n:=by
 refine aH.okZ L ha hL hb hb (λ _ _=>rfl) ((h (pick H L) (u5 hL) λ c hc=>lD hc).mono λ v K k ⟨h1,h2⟩=>⟨h1,λ b hm y hy=>⟨y,?_,.inl rfl⟩⟩);rw[h2 b (hL b hm),lD hm];exact hy
theorem BZ.refl (h:Hf)(y:bI):BZ h y y:=.inl rfl
end
end Go.Abs
