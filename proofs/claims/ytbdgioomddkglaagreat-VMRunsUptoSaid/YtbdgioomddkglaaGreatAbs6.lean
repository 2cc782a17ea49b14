/- A part. -/
import Derived.Test.YtbdgioomddkglaaGreatAbs5
noncomputable section
namespace Go.Abs
open List
section
mutual
def jQ (n:Nat):AV->Prop
 |.ptr b _=>b<n
 |.sl b _ _ _=>b<n
 |.map b=>b<n
 |.j9 b=>b<n
 |.agg cs _=>eg n cs
 |.aW cs=>eg n cs
 |.fO _ v=>jQ n v
 |.fn _ a b=>eg n a/\eg n b
 |.ds cs _ _=>eg n cs
 |.dp cs=>eg n cs
 |_=>True
def eg (n:Nat):List AV->Prop
 |[]=>True
 |v::r=>jQ n v/\eg n r
end
variable {n:Nat}
@[simp] theorem apr (k:IntKind)(i:Int):jQ n (.int k i):=by simp only[jQ]
@[simp] theorem alH (b:Bool):jQ n (.bool b):=by simp only[jQ]
@[simp] theorem apn (l:List Nat):jQ n (.str l):=by simp only[jQ]
@[simp] theorem aps (v:Value):jQ n (.aI v):=by simp only[jQ]
@[simp] theorem apo (b o:Nat):jQ n (.ptr b o)=(b<n):=by simp only[jQ]
@[simp] theorem ara (b o l s:Nat):jQ n (.sl b o l s)=(b<n):=by simp only[jQ]
@[simp] theorem apq (b:Nat):jQ n (.map b)=(b<n):=by simp only[jQ]
@[simp] theorem aaL (cs:List AV)(k:Nat):jQ n (.agg cs k)=eg n cs:=by simp only[jQ]
@[simp] theorem aaJ (cs:List AV):jQ n (.aW cs)=eg n cs:=by simp only[jQ]
@[simp] theorem aaK (t:TypeId)(v:AV):jQ n (.fO t v)=jQ n v:=by simp only[jQ]
@[simp] theorem arb (cs:List AV)(k s:Nat):jQ n (.ds cs k s)=eg n cs:=by simp only[jQ]
@[simp] theorem arc (cs:List AV):jQ n (.dp cs)=eg n cs:=by simp only[jQ]
@[simp] theorem alI:eg n []:=by simp only[eg]
@[simp] theorem mD (v:AV)(r:List AV):eg n (v::r)=(jQ n v/\eg n r):=by simp only[eg]
theorem eg.mem:∀ {l:List AV},eg n l->∀v∈l,jQ n v
 |[],_,v,hv=>by simp at hv
 |a::r,h,v,hv=>by
  simp only[mD]at h
  rcases mem_cons.1 hv with rfl|hv
  ·exact h.1
  exact eg.mem h.2 v hv
theorem eg.of:∀ {l:List AV},(∀v∈l,jQ n v)->eg n l
 |[],_=>by simp
 |a::r,h=>by simp only[mD];exact⟨h a (by simp),eg.of λ v hv=>h v (by simp[hv])⟩
mutual
theorem Flat.lC:∀ {v:AV},Flat v->jQ n v
 |.int _ _,_=>by simp
 |.bool _,_=>by simp
 |.str _,_=>by simp
 |.aI _,_=>by simp
 |.agg _ _,h=>by simp only[aaL];exact fM.lC (by simpa only [Flat]using h)
 |.aW _,h=>by simp only[aaJ];exact fM.lC (by simpa only [Flat]using h)
 |.fO _ _,h=>by simp only[aaK];exact Flat.lC (by simpa only [Flat]using h)
 |.ptr _ _,h=>by simp only[Flat]at h
 |.sl _ _ _ _,h=>by simp only[Flat]at h
 |.map _,h=>by simp only[Flat]at h
 |.j9 _,h=>by simp only[Flat]at h
 |.fn _ _ _,h=>by simp only[Flat]at h
 |.ds _ _ _,h=>by simp only[Flat]at h
 |.dp _,h=>by simp only[Flat]at h
theorem fM.lC:∀ {vs:List AV},fM vs->eg n vs
 |[],_=>by simp
 |_::_,h=>by simp only[fM]at h;simp only[mD];exact⟨Flat.lC h.1,fM.lC h.2⟩
end
def qd (φ:Ph)(n:Nat):Ph:=λ b=>if b<n then φ b else none
theorem jP {φ:Ph}{b:Nat}(h:b<n):qd φ n b=φ b:=by unfold qd;rw[ak h]
theorem cG {φ:Ph}{b:Nat} {p}(h:qd φ n b=some p):b<n/\φ b=some p:=by
 unfold qd at h
 split at h
 ·rename_i hb;exact⟨hb,h⟩
 cases h
mutual
theorem VR.cut {φ:Ph}{D:Da}:∀ {v:AV}{x:Value},jQ n v->VR φ D v x->VR (qd φ n) D v x
 |_,_,_,.int _ _=>.int _ _
 |_,_,_,.bool _=>.bool _
 |_,_,_,.str _ _ h=>.str _ _ h
 |_,_,r,.ptr _ _ _ _ _ h=>.ptr _ _ _ _ _ ((jP (by simpa using r)).trans h)
 |_,_,r,.sl _ _ _ _ _ _ _ _ _ h a b=>.sl _ _ _ _ _ _ _ _ _ ((jP (by simpa using r)).trans h) a b
 |_,_,r,.agg _ _ _ h e=>.agg _ _ _ (cw.cut (by simpa using r) h) e
 |_,_,r,.aW _ _ h=>.aW _ _ (cw.cut (by simpa using r) h)
 |_,_,r,.fO _ _ _ h=>.fO _ _ _ (VR.cut (by simpa using r) h)
 |_,_,r,.fn _ _ _ _ _ h k=>.fn _ _ _ _ _ (cw.cut (by simp only[jQ]at r;exact r.1) h) (cw.cut (by simp only[jQ]at r;exact r.2) k)
 |_,_,r,.map _ _ _ _ h=>.map _ _ _ _ ((jP (by simpa using r)).trans h)
 |_,_,r,.ds _ _ _ _ _ _ _ _ h a b c d=>.ds _ _ _ _ _ _ _ _ h a b (cw.cut (by simpa using r) c) d
 |_,_,_,.rT _ _ _=>.rT _ _ _
 |_,_,_,.uv _=>.uv _
 |_,_,r,.dp _ _ _ _ _ h a b=>.dp _ _ _ _ _ h a (cw.cut (by simpa using r) b)
 |_,_,r,.j9 _ _ _ _ h=>.j9 _ _ _ _ ((jP (by simp only[jQ]at r;exact r)).trans h)
 |_,_,_,.aI _ h=>.aI _ h
theorem cw.cut {φ:Ph}{D:Da}:∀ {v:List AV}{x:List Value},eg n v->cw φ D v x->cw (qd φ n) D v x
 |_,_,_,.nil=>.nil
 |_,_,r,.cons _ _ _ _ h k=>.cons _ _ _ _ (VR.cut (by simp only[mD]at r;exact r.1) h) (cw.cut (by simp only[mD]at r;exact r.2) k)
end
def yP (n:Nat):bz->Prop
 |.cells u z bs t=>∀i v,gZ u z bs t i=some v->jQ n v
 |.map es _=>∀e∈es,jQ n e.1/\jQ n e.2.1
 |.mR=>True
 |_=>False
theorem kN {u:Nat}{l:List AV}(h:eg n l):yP n (.cells u [] l .nil):=by
 intro i v hv;rw[k_]at hv
 split at hv
 ·exact h.mem v (mem_of_getElem? hv)
 cases hv
theorem vA.cut {φ:Ph}{D:Da}:∀ {es l},(∀e∈es,jQ n e.1/\jQ n e.2.1)->vA φ D es l->vA (qd φ n) D es l
 |_,_,_,.nil=>.nil
 |_,_,r,.cons _ _ _ _ _ _ _ h k t=>.cons _ _ _ _ _ _ _ (h.cut (r _ (mem_cons_self ..)).1) (k.cut (r _ (mem_cons_self ..)).2) (vA.cut (λ e he=>r e (by simp[he])) t)
theorem jq.cut {φ:Ph}{D:Da}{w:World} {p}{k:bz}(r:yP n k)(h:jq φ D w p k):jq (qd φ n) D w p k:=by
 cases k with
 |cells u z bs t =>
  obtain⟨c,e,fr,h1,h2,h3,h4,h5⟩:=h;exact⟨c,e,fr,h1,h2,h3,λ i v hv=>let ⟨x,a,b⟩:=h4 i v hv;⟨x,a,b.cut (r i v hv)⟩,h5⟩
 |map es clk=>obtain⟨Ad,h1,h2⟩:=h;exact⟨Ad,h1,h2.cut r⟩
 |mR=>exact h
 |loop=>exact aj r id
 |iter=>exact aj r id
end
def BLe (y' y:bz):Prop:=∀(φ:Ph)(D:Da)(w:World)(p:Nat×Nat×Nat),jq φ D w p y'->jq φ D w p y
theorem OwnB.ble {y:bz}{l:List AV}{u:Nat}(h:OwnB y l)(hu:u=l.length):BLe y (.cells u [] l .nil):=by
 subst hu;obtain⟨u,z,bs,t,rfl,rfl,hg,hl⟩:=h;rintro φ D w p ⟨c,e,fr,h1,h2,h3,h4,h5,h6⟩;refine⟨c,e,fr,h1,h2,h3,λ i v hv=>h4 i v ?_,λ _ _=>rfl,h6⟩;rw[k_]at hv;rw[hg]
 split at hv
 ·exact hv
 cases hv
section
variable {P:Program}
theorem ar.okS {g:FuncId}{args:List AV}{S S' H H':Hp}{n n':Nat}{v0:AV}(h:ar P g args S n (λ v K k=>v=v0/\(∀b y,S'.get b=some y->∃y',K.get b=some y'/\BLe y' y)/\k<=n')) (hle:n<=n')
  (ha:eg n args)(hs:∀b k,S.get b=some k->b<n/\yP n k)(hsub:∀b k,S.get b=some k->H.get b=some k)
  (h1:∀b,S.get b≠none∨(n<=b/\b<n')->H'.get b=S'.get b)(h2:∀b,S.get b=none->¬(n<=b/\b<n')->H'.get b=H.get b):bO P g args H n v0 H' n':=by
 refine⟨h.1,hle,λ φ D w xs hrel hvs hf R hR=>?_⟩
 have hne:∀b,S.get b≠none->H.get b≠none:=λ b hb=>by
  cases hx:S.get b with
  |none=>exact aj hx hb
  |some k=>rw[hsub b k hx];simp
 have hr0:Rel (qd φ n) D S.get w:=by
  refine⟨λ b k hb=>?_,λ b c p q hb hc hp hq=>?_,λ b p hb hp=>?_,hrel.eQ⟩
  ·obtain⟨p,hp,hl,hk⟩:=hrel.blk b k (hsub b k hb);exact⟨p,(jP (hs b k hb).1).trans hp,hl,hk.cut (hs b k hb).2⟩
  ·exact hrel.inj b c p q (hne b hb) (hne c hc) (cG hp).2 (cG hq).2
  exact hrel.sep b p (hne b hb) (cG hp).2
 refine h.2 (qd φ n) D w xs hr0 (hvs.cut ha) (λ b hb=>?_) R λ v K k φ' D' w' x ⟨hv,hK,hk⟩ e r hx=>?_
 ·unfold qd;rw[ae (by omega)]
 subst hv
 have asf:∀b p,φ' b=some p->(match φ b with|some p=>some p|none=>φ' b)=some p:=by
  intro b p hp
  cases hb:φ b with
  |none=>exact hp
  |some q =>
   dsimp only
   by_cases hlt:b<n
   ·have:=e.phi b q ((jP hlt).trans hb);rw[hp]at this;exact this.symm
   have h3:=e.new b (by unfold qd;rw[ae hlt]) (by rw[hp];simp);rw[hf b h3.1 (by omega)]at hb;cases hb
 generalize hφ2:(λ b=>match φ b with|some p=>some p|none=>φ' b:Ph)=φ2;have ah7:∀b,φ2 b=match φ b with|some p=>some p|none=>φ' b:=λ b=>by rw[<-hφ2]
 have hup:∀b p,φ' b=some p->φ2 b=some p:=λ b p hp=>by rw[ah7];exact asf b p hp
 have ue:∀b p,φ b=some p->φ2 b=some p:=λ b p hp=>by rw[ah7,hp]
 have hcase:∀b,H'.get b≠none->(∃y y',H'.get b=some y/\K.get b=some y'/\BLe y' y)∨(S.get b=none/\¬(n<=b/\b<n')/\H'.get b=H.get b):=by
  intro b hb
  by_cases hc:S.get b≠none∨(n<=b/\b<n')
  ·cases hy:H'.get b with
   |none=>exact aj hy hb
   |some y =>
    obtain⟨y',h3,h4⟩:=hK b y (by rw[<-h1 b hc,hy]);exact .inl ⟨y,y',rfl,h3,h4⟩
  have hc1:S.get b=none:=Decidable.byContradiction λ h=>hc (.inl h);have hc2:¬(n<=b/\b<n'):=λ h=>hc (.inr h);exact .inr ⟨hc1,hc2,h2 b hc1 hc2⟩
 have hold:∀b,S.get b=none->H'.get b=H.get b->H'.get b≠none->∃p,φ b=some p/\p.1<w.heap.size/\(∀y,H'.get b=some y->jq φ D w p y)/\(∀b0 p0,S.get b0≠none->φ b0=some p0->p0.1≠p.1):=by
  intro b hb1 hb2 hb3
  cases hy:H.get b with
  |none=>rw[hb2,hy]at hb3;exact aj rfl hb3
  |some y =>
   obtain⟨p,hp,hlt,hk⟩:=hrel.blk b y hy;refine⟨p,hp,hlt,λ y' hy'=>?_,λ b0 p0 hb0 hp0 heq=>?_⟩
   ·rw[hb2,hy]at hy';injection hy' with hy';subst hy';exact hk
   have:=hrel.inj b0 b p0 p (hne b0 hb0) (by rw[hy];simp) hp0 hp heq;subst this;exact hb0 hb1
 have hnew:∀b p,K.get b≠none->φ2 b=some p->φ' b=some p:=by
  intro b p hb hp
  cases hy:K.get b with
  |none=>exact aj hy hb
  |some y =>
   obtain⟨q,hq,_⟩:=r.blk b y hy;have:=hup b q hq;rw[hp]at this;rw[hq,this]
 have hs':∀ {b:Nat} {y:bz},K.get b=some y->K.get b≠none:=λ h=>by rw[h];simp
 refine hR φ2 D' w' x ⟨hle,ue,λ b hb hb2=>?_,e.eQ,e.size,λ c hc hk=>e.keep c hc λ b p hb hp=>hk b p (hne b hb) (cG hp).2,λ b p hb hp=>?_,λ c hc=>?_,λ b hb=>?_,e.os,e.out⟩
  ⟨λ b y hy=>?_,λ b c p q hb hc hp hq heq=>?_,λ b p hb hp=>?_,r.eQ⟩ (hx.mono hup λ _ _ h=>h)
 ·have h3:=e.new b (by
   cases hc:qd φ n b with
   |none=>rfl
   |some p=>rw[(cG hc).2]at hb;cases hb) (by rw[ah7,hb]at hb2;exact hb2)
  omega
 ·rcases hcase b hb with⟨_,_,_,h3,_⟩|⟨h3,_,h5⟩
  ·rcases e.live b p (hs' h3) (hnew b p (hs' h3) hp)with h4|⟨b0,p0,h5,h6,h7⟩
   ·exact .inl h4
   exact .inr ⟨b0,p0,hne b0 h5,(cG h6).2,h7⟩
  obtain⟨p1,hp1,hlt,_⟩:=hold b h3 h5 hb;have:=ue b p1 hp1;rw[hp]at this;injection this with this;subst this;exact .inr ⟨b,p,by rw[<-h5];exact hb,hp1,rfl⟩
 ·rcases e.lj c hc with h4|h4|⟨b0,p0,h5,h6,h7⟩
  ·exact .inl h4
  ·exact .inr (.inl h4)
  exact .inr (.inr ⟨b0,p0,hne b0 h5,(cG h6).2,h7⟩)
 ·rcases hcase b hb with⟨_,_,_,h3,_⟩|⟨_,_,h5⟩
  ·rcases e.hid b (hs' h3)with h4|h4
   ·exact .inl (hne b h4)
   exact .inr (by omega)
  exact .inl (by rw[<-h5];exact hb)
 ·have hb:H'.get b≠none:=by rw[hy];simp
  rcases hcase b hb with⟨y1,y',h2,h3,h4⟩|⟨h3,_,h5⟩
  ·rw[hy]at h2;injection h2 with h2;subst h2;obtain⟨p,hp,hl,hk⟩:=r.blk b y' h3;exact⟨p,hup b p hp,hl,(h4 _ _ _ _ hk).mono hup (λ _ _ h=>h) rfl⟩
  obtain⟨p,hp,hlt,hB,hx⟩:=hold b h3 h5 hb;exact⟨p,ue b p hp,Nat.lt_of_lt_of_le hlt e.size,(hB y hy).mono ue e.eQ (e.keep p.1 hlt λ b0 p0 hb0 hp0=>hx b0 p0 hb0 (cG hp0).2)⟩
 ·have mixed:∀b c p q,K.get b≠none->S.get c=none->H'.get c=H.get c->H'.get c≠none->φ2 b=some p->φ2 c=some q->p.1=q.1->b=c:=by
   intro b c p q hb h4 h5 hc hp hq heq;obtain⟨q1,hq1,hlt,_,hx⟩:=hold c h4 h5 hc;have:=ue c q1 hq1;rw[hq]at this;injection this with this;subst this
   rcases e.live b p hb (hnew b p hb hp)with h6|⟨b0,p0,h5,h6,h7⟩
   ·omega
   exact aj (h7.trans heq) (hx b0 p0 h5 (cG h6).2)
  rcases hcase b hb with⟨_,_,_,h3,_⟩|⟨h3,_,h5⟩
  ·rcases hcase c hc with⟨_,_,_,h4,_⟩|⟨h4,_,h6⟩
   ·exact r.inj b c p q (hs' h3) (hs' h4) (hnew b p (hs' h3) hp) (hnew c q (hs' h4) hq) heq
   exact mixed b c p q (hs' h3) h4 h6 hc hp hq heq
  rcases hcase c hc with⟨_,_,_,h4,_⟩|⟨h4,_,h6⟩
  ·exact(mixed c b q p (hs' h4) h3 h5 hb hq hp heq.symm).symm
  obtain⟨p1,hp1,_⟩:=hold b h3 h5 hb;obtain⟨q1,hq1,_⟩:=hold c h4 h6 hc;have e1:=ue b p1 hp1;have e2:=ue c q1 hq1;rw[hp]at e1;rw[hq]at e2;injection e1 with e1;injection e2 with e2;subst e1 e2;exact hrel.inj b c p q (by rw[<-h5];exact hb) (by rw[<-h6];exact hc) hp1 hq1 heq
 rcases hcase b hb with⟨_,_,_,h3,_⟩|⟨h3,_,h5⟩
 ·exact r.sep b p (hs' h3) (hnew b p (hs' h3) hp)
 obtain⟨p1,hp1,hlt,_,hx⟩:=hold b h3 h5 hb;have e1:=ue b p1 hp1;rw[hp]at e1;injection e1 with e1;subst e1;have hD:=hrel.sep b p (by rw[<-h5];exact hb) hp1
 cases hd:D' p.1 with
 |none=>rfl
 |some y =>
  rcases e.lj p.1 (by rw[hd];simp)with h4|h4|⟨b0,p0,h6,h7,h8⟩
  ·exact aj hD h4
  ·omega
  exact aj h8 (hx b0 p0 h6 (cG h7).2)
end
end Go.Abs
namespace Go.Abs
open List
section
variable {F:Fr}{H:Hp}{Hs:List Hp}{n:Nat}{m:List Dm}{Q:QA}{ce:Ce}
def FnI (v:Option AV)(vs:Option (List AV))(pd:Pd)(r:List (Option RO))(ce:Ce)(F:Fr)(H:Hp)(Hs:List Hp)(n:Nat)(m:List Dm)(Q:QA):Prop:=match v,vs with
 |some (.fn (.func f) first cap),some vs=>GI (ce.call f (first++(vs++cap)) H n) pd r ce F Hs m Q
 |some (.j9 q),some vs=>GI (DW ce q vs H n) pd r ce F Hs m Q
 |_,_=>False
@[simp] theorem anm (f:FuncId)(first cap vs:List AV)(pd:Pd)(r:List (Option RO)):FnI (some (.fn (.func f) first cap)) (some vs) pd r ce F H Hs n m Q=GI (ce.call f (first++(vs++cap)) H n) pd r ce F Hs m Q:=propext Iff.rfl
theorem Td (rs:RS) (pd:Pd) (g:G) (as:List G) (next:List (Option RO)):Ev ((hU rs pd g as (iF next)).f ce F H Hs n m) Q=FnI (g.f (rs.f F)) (evs (rs.f F) as) pd next ce F H Hs n m Q:=by
 simp only[hU];unfold FnI
 cases g.f (rs.f F)with
 |none=>rfl
 |some v =>
  cases v with
  |fn x first cap =>
   cases x with
   |func f =>
    dsimp only
    cases evs (rs.f F) as with
    |none=>rfl
    |some vs =>
     dsimp only;unfold GI EvC
     cases ce.call f (first++(vs++cap)) H n<;>rfl
   |_=>rfl
  |j9 q =>
   dsimp only
   cases evs (rs.f F) as with
   |none=>rfl
   |some vs =>
    dsimp only;unfold GI EvC
    cases DW ce q vs H n<;>rfl
  |_=>rfl
@[simp] theorem auJ (rs:List Nat)(pd:Pd)(g:G)(as:List G)(r:List (Option RO)):Ev ((iF (vI rs pd g as::r)).f ce F H Hs n m) Q=FnI (g.f ((dE rs).f F)) (evs ((dE rs).f F) as) pd r ce F H Hs n m Q:=Td (dE rs) pd g as r
def GvI (v:Option AV)(b:Bool)(F0:Fr)(pd:Pd)(h:G)(as:List G)(r:List (Option RO))(ce:Ce)(F:Fr)(H:Hp)(Hs:List Hp)(n:Nat)(m:List Dm)(Q:QA):Prop:=gd v b (FnI (h.f F0) (evs F0 as) pd r ce F H Hs n m Q) (Ev ((iF r).f ce (pd.f (.aW []) F) H (H::Hs) n m) Q)
@[simp] theorem auv (F0:Fr)(pd:Pd)(h:G)(as:List G)(r:List (Option RO)):GvI (some (.bool true)) true F0 pd h as r ce F H Hs n m Q=FnI (h.f F0) (evs F0 as) pd r ce F H Hs n m Q:=propext Iff.rfl
@[simp] theorem auw (F0:Fr)(pd:Pd)(h:G)(as:List G)(r:List (Option RO)):GvI (some (.bool false)) true F0 pd h as r ce F H Hs n m Q=Ev ((iF r).f ce (pd.f (.aW []) F) H (H::Hs) n m) Q:=propext Iff.rfl
@[simp] theorem asv (F0:Fr)(pd:Pd)(h:G)(as:List G)(r:List (Option RO)):GvI (some (.bool true)) false F0 pd h as r ce F H Hs n m Q=Ev ((iF r).f ce (pd.f (.aW []) F) H (H::Hs) n m) Q:=propext Iff.rfl
@[simp] theorem asw (F0:Fr)(pd:Pd)(h:G)(as:List G)(r:List (Option RO)):GvI (some (.bool false)) false F0 pd h as r ce F H Hs n m Q=FnI (h.f F0) (evs F0 as) pd r ce F H Hs n m Q:=propext Iff.rfl
end
end Go.Abs
namespace Go.Abs
open List
set_option maxRecDepth 100000
mutual
theorem fW.mono {h h':Hf}(hh:∀b k,h b=some k->h' b=some k):∀ {v v'},fW h v v'->fW h' v v'
 |_,_,.pure _ k=>.pure _ k
 |_,_,.nil _=>.nil _
 |_,_,.sl _ _ _ _ _ _ _ _ _ _ a b k=>.sl _ _ _ _ _ _ _ _ _ _ (hh _ _ a) b (cM.mono hh k)
 |_,_,.ptr _ _ _ _ _ _ _ _ _ a b k=>.ptr _ _ _ _ _ _ _ _ _ (hh _ _ a) b (cM.mono hh k)
 |_,_,.agg _ _ _ k=>.agg _ _ _ (cM.mono hh k)
 |_,_,.aW _ _ k=>.aW _ _ (cM.mono hh k)
theorem cM.mono {h h':Hf}(hh:∀b k,h b=some k->h' b=some k):∀ {v v'},cM h v v'->cM h' v v'
 |_,_,.nil=>.nil
 |_,_,.cons _ _ _ _ a b=>.cons _ _ _ _ (fW.mono hh a) (cM.mono hh b)
end
theorem cM.append {h:Hf}:∀ {a a' b b'},cM h a a'->cM h b b'->cM h (a++b) (a'++b')
 |_,_,_,_,.nil,k=>k
 |_,_,_,_,.cons _ _ _ _ x y,k=>.cons _ _ _ _ x (cM.append y k)
def gJ (H:Hp)(n:Nat):Prop:=∀b,n<=b->H.get b=none
def above (n:Nat)(H:Hp):Hf:=λ b=>if n<=b then H.get b else none
theorem PV {n:Nat}{H:Hp}:∀b k,above n H b=some k->H.get b=some k:=by
 intro b k hb;unfold above at hb
 split at hb
 ·exact hb
 cases hb
@[simp] theorem wr1:IntKind.i64.wrap 1=1:=by simp[IntKind.wrap,IntKind.signed,IntKind.bits]
@[simp] theorem wr2:IntKind.i64.wrap 2=2:=by simp[IntKind.wrap,IntKind.signed,IntKind.bits]
@[simp] theorem nn2 (n:Nat):(n=n+1+1)=False:=by simp only[eq_iff_iff,iff_false];omega
@[simp] theorem nr2 (n:Nat):(n+1+1=n)=False:=by simp only[eq_iff_iff,iff_false];omega
@[simp] theorem nn3 (n:Nat):(n=n+1+1+1)=False:=by simp only[eq_iff_iff,iff_false];omega
@[simp] theorem nr3 (n:Nat):(n+1+1+1=n)=False:=by simp only[eq_iff_iff,iff_false];omega
@[simp] theorem nn4 (n:Nat):(n=n+1+1+1+1)=False:=by simp only[eq_iff_iff,iff_false];omega
@[simp] theorem nr4 (n:Nat):(n+1+1+1+1=n)=False:=by simp only[eq_iff_iff,iff_false];omega
@[simp] theorem nn5 (n:Nat):(n=n+1+1+1+1+1)=False:=by simp only[eq_iff_iff,iff_false];omega
@[simp] theorem nr5 (n:Nat):(n+1+1+1+1+1=n)=False:=by simp only[eq_iff_iff,iff_false];omega
@[simp] theorem nn6 (n:Nat):(n=n+1+1+1+1+1+1)=False:=by simp only[eq_iff_iff,iff_false];omega
@[simp] theorem nr6 (n:Nat):(n+1+1+1+1+1+1=n)=False:=by simp only[eq_iff_iff,iff_false];omega
@[simp] theorem nn7 (n:Nat):(n=n+1+1+1+1+1+1+1)=False:=by simp only[eq_iff_iff,iff_false];omega
@[simp] theorem nr7 (n:Nat):(n+1+1+1+1+1+1+1=n)=False:=by simp only[eq_iff_iff,iff_false];omega
@[simp] theorem nn8 (n:Nat):(n=n+1+1+1+1+1+1+1+1)=False:=by simp only[eq_iff_iff,iff_false];omega
@[simp] theorem nr8 (n:Nat):(n+1+1+1+1+1+1+1+1=n)=False:=by simp only[eq_iff_iff,iff_false];omega
@[simp] theorem nn9 (n:Nat):(n=n+1+1+1+1+1+1+1+1+1)=False:=by simp only[eq_iff_iff,iff_false];omega
@[simp] theorem nr9 (n:Nat):(n+1+1+1+1+1+1+1+1+1=n)=False:=by simp only[eq_iff_iff,iff_false];omega
@[simp] theorem nn10 (n:Nat):(n=n+1+1+1+1+1+1+1+1+1+1)=False:=by simp only[eq_iff_iff,iff_false];omega
@[simp] theorem nr10 (n:Nat):(n+1+1+1+1+1+1+1+1+1+1=n)=False:=by simp only[eq_iff_iff,iff_false];omega
@[simp] theorem nn11 (n:Nat):(n=n+1+1+1+1+1+1+1+1+1+1+1)=False:=by simp only[eq_iff_iff,iff_false];omega
@[simp] theorem nr11 (n:Nat):(n+1+1+1+1+1+1+1+1+1+1+1=n)=False:=by simp only[eq_iff_iff,iff_false];omega
@[simp] theorem nn12 (n:Nat):(n=n+1+1+1+1+1+1+1+1+1+1+1+1)=False:=by simp only[eq_iff_iff,iff_false];omega
@[simp] theorem nr12 (n:Nat):(n+1+1+1+1+1+1+1+1+1+1+1+1=n)=False:=by simp only[eq_iff_iff,iff_false];omega
theorem cg {b n:Nat}(h:b<n):(b=n)=False/\(b=n+1)=False/\(b=n+1+1)=False/\(b=n+1+1+1)=False/\(b=n+1+1+1+1)=False/\(b=n+1+1+1+1+1)=False/\(b=n+1+1+1+1+1+1)=False/\(b=n+1+1+1+1+1+1+1)=False/\(b=n+1+1+1+1+1+1+1+1)=False/\(b=n+1+1+1+1+1+1+1+1+1)=False/\(b=n+1+1+1+1+1+1+1+1+1+1)=False/\(b=n+1+1+1+1+1+1+1+1+1+1+1)=False/\(b=n+1+1+1+1+1+1+1+1+1+1+1+1)=False:=by
 refine⟨?_,?_,?_,?_,?_,?_,?_,?_,?_,?_,?_,?_,?_⟩<;>(simp only[eq_iff_iff,iff_false];omega)
theorem wu {b n:Nat}(h:b<n):(n=b)=False/\(n+1=b)=False/\(n+1+1=b)=False/\(n+1+1+1=b)=False/\(n+1+1+1+1=b)=False/\(n+1+1+1+1+1=b)=False/\(n+1+1+1+1+1+1=b)=False/\(n+1+1+1+1+1+1+1=b)=False/\(n+1+1+1+1+1+1+1+1=b)=False/\(n+1+1+1+1+1+1+1+1+1=b)=False/\(n+1+1+1+1+1+1+1+1+1+1=b)=False/\(n+1+1+1+1+1+1+1+1+1+1+1=b)=False/\(n+1+1+1+1+1+1+1+1+1+1+1+1=b)=False:=by
 refine⟨?_,?_,?_,?_,?_,?_,?_,?_,?_,?_,?_,?_,?_⟩<;>(simp only[eq_iff_iff,iff_false];omega)
theorem gJ.lt {H:Hp}{n b:Nat}{k:bz}(ht:gJ H n)(h:H.get b=some k):b<n:=by
 rcases Nat.lt_or_ge b n with h' |h'
 ·exact h'
 rw[ht b h']at h;cases h
theorem gJ.none {H:Hp}{n:Nat}(h:gJ H n):H.get (n)=Option.none/\H.get (n+1)=Option.none/\H.get (n+1+1)=Option.none/\H.get (n+1+1+1)=Option.none/\H.get (n+1+1+1+1)=Option.none/\H.get (n+1+1+1+1+1)=Option.none/\H.get (n+1+1+1+1+1+1)=Option.none/\H.get (n+1+1+1+1+1+1+1)=Option.none/\H.get (n+1+1+1+1+1+1+1+1)=Option.none/\H.get (n+1+1+1+1+1+1+1+1+1)=Option.none/\H.get (n+1+1+1+1+1+1+1+1+1+1)=Option.none/\H.get (n+1+1+1+1+1+1+1+1+1+1+1)=Option.none/\H.get (n+1+1+1+1+1+1+1+1+1+1+1+1)=Option.none:=by
 refine⟨?_,?_,?_,?_,?_,?_,?_,?_,?_,?_,?_,?_,?_⟩<;>exact h _ (by omega)
structure Cl where
 g:FuncId
 args:List AV
 H:Hp
 n:Nat
 v:AV
 H':Hp
 n':Nat
open Classical in
def ceL (l:List Cl):Ce:=r6 λ g args H n=>match l.find? (λ x=>decide (x.g=g/\x.args=args/\x.H=H/\x.n=n))with
 |some x=>.mk x.v x.H' x.n'
 |none=>.fail
theorem ny {P:Program}{l:List Cl}(h:∀x∈l,bO P x.g x.args x.H x.n x.v x.H' x.n'):iQ P (ceL l):=by
 refine BK λ g args H n v H' n' e=>?_
 split at e
 ·rename_i x hx;have h1:=find?_some hx;simp at h1;obtain⟨rfl,rfl,rfl,rfl⟩:=h1;injection e with e1 e2 e3;subst e1 e2 e3;exact h x (mem_of_find?_eq_some hx)
 cases e
theorem lk {g:FuncId}{args:List AV}{H:Hp}{n:Nat}{v:AV}{H':Hp}{n':Nat}{l:List Cl}:(ceL (⟨g,args,H,n,v,H',n'⟩::l)).call g args H n=kV (.mk v H' n'):=by
 simp[ceL,r6]
theorem TJ {g g':FuncId}{args args':List AV}{H H0:Hp}{n n0:Nat}{v:AV}{H':Hp}{n':Nat}{l:List Cl}(hg:g'≠g):(ceL (⟨g',args',H0,n0,v,H',n'⟩::l)).call g args H n=(ceL l).call g args H n:=by
 simp[ceL,r6,find?_cons,hg]
section
variable {H:Hp}{n:Nat}
theorem TP {x:AV}{new:List AV}{sz eT k:Nat}(hx:aS H sz x=some new)(hk:sliceLen x=some k)(hs:0<sz)(hk0:0<k)(hbig:k<=big)(hby:eT<=4096)(h1:aX new=true):
  fP sz eT n (.aI (.slice none 0 0)) x H=.new (.sl n 0 k sz) (.cells (k*sz) [] new .nil):=by
 unfold Go.Abs.fP;rw[hx,hk];dsimp only;unfold nP;simp only[lP,u5,rK,show ¬k=0 by omega,hs,hbig,hby,h1,decide_true,decide_false,Bool.and_self]
theorem ajh {x:AV}{new:List AV}{sz eT k b len u:Nat}{z bs:List AV}{t:Ov AV}(hb:H.get b=some (.cells u z bs t))(hu:len*sz<=u)(hx:aS H sz x=some new)(hk:sliceLen x=some k)(hs:0<sz)(hk0:0<k)(hbig:len+k<=big)(hby:eT<=4096)(h1:aX new=true):
  fP sz eT n (.sl b 0 len sz) x H=.mv (.sl n 0 (len+k) sz) b (.cells ((len+k)*sz) z bs (Ov.bW new (len*sz) t)):=by
 unfold Go.Abs.fP;rw[hx,hk];dsimp only;unfold nP LR;simp only[lP,u5,rK,show ¬k=0 by omega,hs,hbig,hby,h1,decide_true,decide_false,Bool.and_self,hb,hu,cX]
theorem bM {b sz:Nat}{l:List AV}(hb:H.get b=some (.cells sz [] l .nil)):aS H sz (.sl b 0 1 sz)=some l:=by
 simp only[aS,lP,decide_true,cond_true,hb,Nat.one_mul,wO]
end
theorem OwnB.app {u:Nat}{z bs l new:List AV}{t:Ov AV}(h:OwnB (.cells u z bs t) l) (hn:new≠[]):OwnB (.cells (u+new.length) z bs (Ov.bW new u t)) (l++new):=by
 obtain⟨u',z',bs',t',e,hu,hg,hi⟩:=h;injection e with e1 e2 e3 e4;subst e1 e2 e3 e4;refine⟨_,z,bs,_,rfl,by simp[hu],λ i=>?_,λ ht=>?_⟩
 ·rw[cQ,Ov.bR]
  by_cases hlt:i<u+new.length
  ·rw[ak hlt]
   by_cases eZ:u<=i/\i<u+new.length
   ·rw[ak eZ,getElem?_append_right (by omega),<-hu,dU (by omega)]
   rw[ae eZ,getElem?_append_left (by omega)];have:=hg i;rw[cQ,ak (by omega)]at this;exact this
  rw[ae hlt,getElem?_eq_none (by simp;omega)]
 exfalso
 cases new with
 |nil=>exact hn rfl
 |cons v r =>
  have:=Ov.bR (v::r) u t u;rw[ht,ak (by simp)]at this;simp at this
def blk (v:AV):Option Nat:=match v with
 |.sl b _ _ _=>some b
 |_=>none
@[simp] theorem aqG:blk (.aI (.slice none 0 0))=none:=rfl
@[simp] theorem TU (b o l s:Nat):blk (.sl b o l s)=some b:=rfl
theorem aC.frame {H H':Hp}{n n':Nat}{w:AV}{l:List AV}{len sz:Nat}(h:aC H n w l len sz)(hn:n<=n')(hk:∀c,blk w=some c->H'.get c=H.get c):aC H' n' w l len sz:=by
 obtain⟨h0,⟨rfl,h1⟩|⟨b,k,rfl,hb,hbk,ho⟩⟩:=h
 ·exact⟨h0,.inl ⟨rfl,h1⟩⟩
 exact⟨h0,.inr ⟨b,k,rfl,by omega,(hk b rfl).trans hbk,ho⟩⟩
theorem aC.PQ {H:Hp}{n:Nat}{ce:Ce}{Hs:List Hp}{F:Fr}{m:List Dm}{Q:QA}{v x:AV}{l new:List AV}{len sz eT k:Nat}{pd:Pd}{r:List (Option RO)}(h:aC H n v l len sz)(hx:aS H sz x=some new)(hk:sliceLen x=some k)(hn:new.length=k*sz)
  (hs:0<sz)(hk0:0<k)(hbig:len+k<=big)(hby:eT<=4096)(h1:aX new=true)
  (hgo:∀H',aC H' (n+1) (.sl n 0 (len+k) sz) (l++new) (len+k) sz->(∀c,c≠n->v≠.sl c 0 len sz->H'.get c=H.get c)->Ev ((iF r).f ce (pd.f (.sl n 0 (len+k) sz) F) H' (H'::Hs) (n+1) m) Q):Og (Go.Abs.fP sz eT n v x H) pd r ce F H Hs n m Q:=by
 obtain⟨H',e,h1,h2⟩:=h.fP hx hk hn hs hk0 hbig hby h1;unfold Og;rw[e];exact hgo H' h1 λ c hc=>h2 c hc
theorem aC.ba {H:Hp}{n:Nat}{w:AV}{l:List AV}{len sz c:Nat}(h:aC H n w l len sz)(hc:blk w=some c):c<n:=by
 obtain⟨_,⟨rfl,_⟩|⟨b,k,rfl,hb,_⟩⟩:=h
 ·cases hc
 simp at hc;omega
theorem aC.dI {H:Hp}{n:Nat}{v:AV}{l:List AV}{len sz:Nat}(h:aC H n v l len sz):v.one=true:=by
 obtain⟨_,⟨rfl,_⟩|⟨b,k,rfl,_⟩⟩:=h<;>simp
theorem OwnB.st {u:Nat}{z bs:List AV}{t:Ov AV}{l:List AV}(h:OwnB (.cells u z bs t) l){i:Nat}(hi:i<l.length) (v:AV):OwnB (nK u z bs t [v] i) (l.set i v):=by
 obtain⟨u',z',bs',t',e,hu,hg,hl⟩:=h;injection e with e1 e2 e3 e4;subst e1 e2 e3 e4
 have key:∀t2,(∀j,t2.get j=if i<=j/\j<i+1 then [v][j - i]? else t.get j)->t2≠.nil->OwnB (.cells u z bs t2) (l.set i v):=by
  intro t2 h2 hne;refine⟨u,z,bs,t2,rfl,by simp[hu],λ j=>?_,λ e=>aj e hne⟩;have hj:=hg j;rw[cQ]at hj ⊢;rw[getElem?_set,h2]
  by_cases e:i=j
  ·subst e;rw[ak (by omega),ak (by omega),ak rfl,ak hi];simp
  rw[ae e]
  by_cases hju:j<u
  ·rw[ak hju]at hj ⊢;rw[ae (by omega)];exact hj
  rw[ae hju]at hj ⊢;exact hj
 have hput:∀t:Ov AV,(Ov.bW [v] i t)≠.nil:=by
  intro t e;have:=Ov.bR [v] i t i;rw[e,ak (by simp)]at this;simp at this
 have wL:OwnB (.cells u z bs (Ov.bW [v] i t)) (l.set i v):=key _ (λ j=>Ov.bR [v] i t j) (hput t);unfold nK
 split
 ·split
  ·split
   ·split
    ·rename_i bs' hp;have hb:=hl rfl rfl;obtain⟨p1,_,p3⟩:=jB hp
     have:bs'=l.set i v:=by
      apply ext_getElem?;intro j;rw[p3,getElem?_set];have hj:=hg j;rw[k_]at hj
      by_cases e:i=j
      ·subst e;rw[ak (by simp),ak rfl,ak hi];simp
      rw[ae (by simp;omega),ae e];rw[<-hj]
      split
      ·rfl
      rw[getElem?_eq_none (by omega)]
     rw[this];exact .list (by simp[hu])
    exact wL
   exact wL
  exact wL
 ·exact wL
 exact wL
theorem Ri {H:Hp}{b i:Nat}{k:bz}{L:List AV}(hb:H.get b=some k)(ho:OwnB k L)(hi:i<L.length):eE (.ptr b i) H=.val L[i]:=by
 obtain⟨u,z,bs,t,rfl,h3,h4,_⟩:=ho;have:=h4 i;rw[dU hi]at this;simp[hb,this]
theorem bI (n:Nat):(jC n []=true)=True:=by simp[jC]
theorem br (n:Nat)(h:Hp)(l:List Hp):(jC n (h::l)=true)=(h.get n=none/\jC n l=true):=by
 cases e:h.get n<;>simp[jC,e]
end Go.Abs
namespace Go.Abs
open List
section
variable {P:Program}
end
end Go.Abs
namespace Go.Abs
open List
section
variable {P:Program}
def pick (H:Hp):List Nat->Hp
 |[]=>.nil
 |b::r=>(pick H r).put b (H.get b)
theorem kT (H:Hp)(L:List Nat)(c:Nat):(pick H L).get c=if c∈L then H.get c else none:=by
 induction L with
 |nil=>simp[pick]
 |cons b r ih =>
  simp only[pick,Tr.get_put,ih,mem_cons]
  by_cases h:c=b
  ·subst h;simp
  simp[h]
theorem lN {H:Hp}{L:List Nat}{c:Nat}(h:c∈L):(pick H L).get c=H.get c:=by rw[kT,ak h]
theorem mF {H:Hp}{L:List Nat}{n:Nat}(h:∀b∈L,b<n):gJ (pick H L) n:=by
 intro b hb;rw[kT,ae];intro hm;have:=h b hm;omega
theorem ar.okZ {g:FuncId}{args:List AV}{H H1:Hp}{n:Nat}{v0:AV}(L:List Nat) (ha:eg n args) (hL:∀b∈L,b<n) (hb:∀b∈L,∀k,H.get b=some k->yP n k) (hb1:∀b∈L,∀k,H1.get b=some k->yP n k)
  (h2:∀b,b∉L->H1.get b=H.get b)
  (h:ar P g args (pick H L) n (λ v K _=>fW (above n K) v v0/\∀b∈L,∀y,H1.get b=some y->∃y',K.get b=some y'/\BZ (above n K) y' y)):bO P g args H n v0 H1 n:=by
 refine⟨h.1,aM _,λ φ D w xs hrel hvs hf R hR=>?_⟩
 have hS:∀b,(pick H L).get b≠none->b∈L/\H.get b≠none:=λ b hb=>by
  rw[kT]at hb
  by_cases hm:b∈L
  ·rw[ak hm]at hb;exact⟨hm,hb⟩
  rw[ae hm]at hb;exact aj rfl hb
 have hr0:Rel (qd φ n) D (pick H L).get w:=by
  refine⟨λ b k hk=>?_,λ b c p q hb hc hp hq=>?_,λ b p hb hp=>?_,hrel.eQ⟩
  ·obtain⟨hm,_⟩:=hS b (by rw[hk];simp);rw[lN hm]at hk;obtain⟨p,hp,hl,hbk⟩:=hrel.blk b k hk;exact⟨p,(jP (hL b hm)).trans hp,hl,hbk.cut (hb b hm k hk)⟩
  ·exact hrel.inj b c p q (hS b hb).2 (hS c hc).2 (cG hp).2 (cG hq).2
  exact hrel.sep b p (hS b hb).2 (cG hp).2
 refine h.2 (qd φ n) D w xs hr0 (hvs.cut ha) (λ b hb=>?_) R λ v K k φ' D' w' x ⟨hz,hK⟩ e r hx=>?_
 ·unfold qd;rw[ae (by omega)]
 have hto:∀b p,b<n->φ' b=some p->φ b=some p:=by
  intro b p hlt hp
  cases hq:φ b with
  |none =>
   have:=e.new b ((jP hlt).trans hq) (by rw[hp];simp);omega
  |some q =>
   have:=e.phi b q ((jP hlt).trans hq);rw[hp]at this;exact this.symm
 have ES:∀b p,b<n->φ b=some p->φ' b=some p:=λ b p hlt hp=>e.phi b p ((jP hlt).trans hp);have hs:Rel φ' D' (above n K) w':=r.sub PV
 have hab:∀b,above n K b≠none->n<=b/\K.get b≠none:=λ b hb=>by
  unfold above at hb
  by_cases hm:n<=b
  ·rw[ak hm]at hb;exact⟨hm,hb⟩
  rw[ae hm]at hb;exact aj rfl hb
 have eZ:∀b,b∈L->H1.get b≠none->K.get b≠none:=λ b hm hb=>by
  cases hy:H1.get b with
  |none=>exact aj hy hb
  |some y=>obtain⟨y',h3,_⟩:=hK b hm y hy;rw[h3];simp
 have hold:∀b p,b∉L->H1.get b≠none->φ b=some p->p.1<w.heap.size/\(∀b0 p0,(pick H L).get b0≠none->φ b0=some p0->p0.1≠p.1):=by
  intro b p hm hb hp;rw[h2 b hm]at hb
  cases hy:H.get b with
  |none=>exact aj hy hb
  |some y =>
   refine⟨(hrel.block hy hp).1,λ b0 p0 h0 hp0 heq=>?_⟩;have:=hrel.inj b0 b p0 p (hS b0 h0).2 hb hp0 hp heq;subst this;exact hm (hS b0 h0).1
 have hlv:∀b p,K.get b≠none->φ' b=some p->w.heap.size<=p.1∨∃b0 p0,(pick H L).get b0≠none/\φ b0=some p0/\p0.1=p.1:=by
  intro b p hb hp
  rcases e.live b p hb hp with h4|⟨b0,p0,h5,h6,h7⟩
  ·exact .inl h4
  exact .inr ⟨b0,p0,h5,(cG h6).2,h7⟩
 refine hR φ (Go.Abs.shut φ' D' (above n K) w') w' x ⟨aM _,λ _ _ h=>h,λ _ a b=>aj a b,λ c x hc=>eV c x (e.eQ c x hc),e.size,λ c hc hk=>e.keep c hc λ b p hb hp=>hk b p (hS b hb).2 (cG hp).2,λ b p hb hp=>?_,λ c hc=>?_,λ b hb=>?_,e.os,e.out⟩
  ⟨λ b y hy=>?_,λ b c p q hb hc hp hq heq=>?_,λ b p hb hp=>?_,mA r.eQ⟩ ((hz.vr hs hx).mono (λ b p hb=>by simp[nR]at hb) (λ _ _ h=>h))
 ·by_cases hm:b∈L
  ·rcases hlv b p (eZ b hm hb) (ES b p (hL b hm) hp)with h4|⟨b0,p0,h5,h6,h7⟩
   ·exact .inl h4
   exact .inr ⟨b0,p0,(hS b0 h5).2,h6,h7⟩
  exact .inr ⟨b,p,by rw[<-h2 b hm];exact hb,hp,rfl⟩
 ·rcases vT hc with h3|⟨b,p,h3,h4,h5⟩
  ·rcases e.lj c h3 with h4|h4|⟨b0,p0,h5,h6,h7⟩
   ·exact .inl h4
   ·exact .inr (.inl h4)
   exact .inr (.inr ⟨b0,p0,(hS b0 h5).2,(cG h6).2,h7⟩)
  rcases hlv b p (hab b h3).2 h4 with h6|⟨b0,p0,h6,h7,h8⟩
  ·exact .inr (.inl (by omega))
  exact .inr (.inr ⟨b0,p0,(hS b0 h6).2,h7,h8.trans h5⟩)
 ·by_cases hm:b∈L
  ·rcases e.hid b (eZ b hm hb)with h4|h4
   ·exact .inl (hS b h4).2
   have:=hL b hm;omega
  exact .inl (by rw[<-h2 b hm];exact hb)
 ·by_cases hm:b∈L
  ·obtain⟨y',h3,h4⟩:=hK b hm y hy;obtain⟨p,hp,hl,hk⟩:=r.blk b y' h3;exact⟨p,hto b p (hL b hm) hp,hl,((h4.aco hs hk).cut (hb1 b hm y hy)).mono (λ c q hc=>hto c q (cG hc).1 (cG hc).2) (λ _ _ h=>h) rfl⟩
  rw[h2 b hm]at hy;obtain⟨p,hp,hl,hk⟩:=hrel.blk b y hy;have hh:=hold b p hm (by rw[h2 b hm,hy];simp) hp;exact⟨p,hp,Nat.lt_of_lt_of_le hl e.size,hk.mono (λ _ _ h=>h) (λ c x hc=>eV c x (e.eQ c x hc)) (e.keep p.1 hl λ b0 p0 hb0 hp0=>hh.2 b0 p0 hb0 (cG hp0).2)⟩
 ·have mixed:∀b c p q,b∈L->c∉L->H1.get b≠none->H1.get c≠none->φ b=some p->φ c=some q->p.1=q.1->False:=by
   intro b c p q hb hc hb1 hc1 hp hq heq;have hh:=hold c q hc hc1 hq
   rcases hlv b p (eZ b hb hb1) (ES b p (hL b hb) hp)with h4|⟨b0,p0,h5,h6,h7⟩
   ·omega
   exact hh.2 b0 p0 h5 h6 (h7.trans heq)
  by_cases hm:b∈L
  ·by_cases hm2:c∈L
   ·exact r.inj b c p q (eZ b hm hb) (eZ c hm2 hc) (ES b p (hL b hm) hp) (ES c q (hL c hm2) hq) heq
   exact(mixed b c p q hm hm2 hb hc hp hq heq).elim
  by_cases hm2:c∈L
  ·exact(mixed c b q p hm2 hm hc hb hq hp heq.symm).elim
  exact hrel.inj b c p q (by rw[<-h2 b hm];exact hb) (by rw[<-h2 c hm2];exact hc) hp hq heq
 by_cases hm:b∈L
 ·have hp':=ES b p (hL b hm) hp;refine o8 (r.sep b p (eZ b hm hb) hp') λ b' p' h3 h4 h5=>?_;have:=r.inj b' b p' p (hab b' h3).2 (eZ b hm hb) h4 hp' h5;have h6:=(hab b' h3).1;have h7:=hL b hm;omega
 have hh:=hold b p hm hb hp;refine o8 ?_ λ b' p' h3 h4 h5=>?_
 ·cases hd:D' p.1 with
  |none=>rfl
  |some y =>
   have hD:=hrel.sep b p (by rw[<-h2 b hm];exact hb) hp
   rcases e.lj p.1 (by rw[hd];simp)with h4|h4|⟨b0,p0,h6,h7,h8⟩
   ·exact aj hD h4
   ·omega
   exact aj h8 (hh.2 b0 p0 h6 (cG h7).2)
 rcases hlv b' p' (hab b' h3).2 h4 with h6|⟨b0,p0,h6,h7,h8⟩
 ·omega
 exact hh.2 b0 p0 h6 h7 (h8.trans h5)
theorem ar.okN {g:FuncId}{args:List AV}{H:Hp}{n:Nat}{v0:AV}(L:List Nat)(ha:eg n args)(hL:∀b∈L,b<n)(hb:∀b∈L,∀k,H.get b=some k->yP n k)
  (h:∀H0:Hp,gJ H0 n->(∀c∈L,H0.get c=H.get c)->ar P g args H0 n (λ v K _=>fW (above n K) v v0/\∀c,c<n->K.get c=H0.get c)):bO P g args H n v0 H n:=by
 refine ar.okZ L ha hL hb hb (λ _ _=>rfl) ((h (pick H L) (mF hL) λ c hc=>lN hc).mono λ v K k ⟨h1,h2⟩=>⟨h1,λ b hm y hy=>⟨y,?_,.inl rfl⟩⟩);rw[h2 b (hL b hm),lN hm];exact hy
end
end Go.Abs
