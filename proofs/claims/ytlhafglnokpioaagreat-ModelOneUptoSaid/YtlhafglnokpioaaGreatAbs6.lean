/- A part. -/
import Derived.Test.YtlhafglnokpioaaGreatAbs5
noncomputable section
namespace Go.Abs
open List
section
mutual
def jH (n:Nat):AV->Prop
 |.ptr b _=>b<n
 |.sl b _ _ _=>b<n
 |.map b=>b<n
 |.jv b=>b<n
 |.agg cs _=>cT n cs
 |.aX cs=>cT n cs
 |.kG _ v=>jH n v
 |.fn _ a b=>cT n a/\cT n b
 |.ds cs _ _=>cT n cs
 |.dp cs=>cT n cs
 |_=>True
def cT (n:Nat):List AV->Prop
 |[]=>True
 |v::r=>jH n v/\cT n r
end
variable {n:Nat}
@[simp] theorem aoY (k:IntKind)(i:Int):jH n (.int k i):=by simp only[jH]
@[simp] theorem ak4 (b:Bool):jH n (.bool b):=by simp only[jH]
@[simp] theorem aoX (l:List Nat):jH n (.str l):=by simp only[jH]
@[simp] theorem aoZ (v:Value):jH n (.al v):=by simp only[jH]
@[simp] theorem KB (b o:Nat):jH n (.ptr b o)=(b<n):=by simp only[jH]
@[simp] theorem af8 (b o l s:Nat):jH n (.sl b o l s)=(b<n):=by simp only[jH]
@[simp] theorem aaB (b:Nat):jH n (.map b)=(b<n):=by simp only[jH]
@[simp] theorem KD (cs:List AV)(k:Nat):jH n (.agg cs k)=cT n cs:=by simp only[jH]
@[simp] theorem KA (cs:List AV):jH n (.aX cs)=cT n cs:=by simp only[jH]
@[simp] theorem KC (t:TypeId)(v:AV):jH n (.kG t v)=jH n v:=by simp only[jH]
@[simp] theorem af9 (cs:List AV)(k s:Nat):jH n (.ds cs k s)=cT n cs:=by simp only[jH]
@[simp] theorem af_ (cs:List AV):jH n (.dp cs)=cT n cs:=by simp only[jH]
@[simp] theorem RQ:cT n []:=by simp only[cT]
@[simp] theorem gZ (v:AV)(r:List AV):cT n (v::r)=(jH n v/\cT n r):=by simp only[cT]
theorem cT.mem:∀ {l:List AV},cT n l->∀v∈l,jH n v
 |[],_,v,hv=>by simp at hv
 |a::r,h,v,hv=>by
  simp only[gZ]at h
  rcases mem_cons.1 hv with rfl|hv
  ·exact h.1
  exact cT.mem h.2 v hv
theorem cT.of:∀ {l:List AV},(∀v∈l,jH n v)->cT n l
 |[],_=>by simp
 |a::r,h=>by simp only[gZ];exact⟨h a (by simp),cT.of λ v hv=>h v (by simp[hv])⟩
mutual
theorem Flat.jI:∀ {v:AV},Flat v->jH n v
 |.int _ _,_=>by simp
 |.bool _,_=>by simp
 |.str _,_=>by simp
 |.al _,_=>by simp
 |.agg _ _,h=>by simp only[KD];exact fo.jI (by simpa only [Flat]using h)
 |.aX _,h=>by simp only[KA];exact fo.jI (by simpa only [Flat]using h)
 |.kG _ _,h=>by simp only[KC];exact Flat.jI (by simpa only [Flat]using h)
 |.ptr _ _,h=>by simp only[Flat]at h
 |.sl _ _ _ _,h=>by simp only[Flat]at h
 |.map _,h=>by simp only[Flat]at h
 |.jv _,h=>by simp only[Flat]at h
 |.fn _ _ _,h=>by simp only[Flat]at h
 |.ds _ _ _,h=>by simp only[Flat]at h
 |.dp _,h=>by simp only[Flat]at h
theorem fo.jI:∀ {vs:List AV},fo vs->cT n vs
 |[],_=>by simp
 |_::_,h=>by simp only[fo]at h;simp only[gZ];exact⟨Flat.jI h.1,fo.jI h.2⟩
end
def pT (φ:Ph)(n:Nat):Ph:=λ b=>if b<n then φ b else none
theorem jr {φ:Ph}{b:Nat}(h:b<n):pT φ n b=φ b:=by unfold pT;rw[ao h]
theorem bV {φ:Ph}{b:Nat} {p}(h:pT φ n b=some p):b<n/\φ b=some p:=by
 unfold pT at h
 split at h
 ·rename_i hb;exact⟨hb,h⟩
 cases h
mutual
theorem VR.cut {φ:Ph}{D:Da}:∀ {v:AV}{x:Value},jH n v->VR φ D v x->VR (pT φ n) D v x
 |_,_,_,.int _ _=>.int _ _
 |_,_,_,.bool _=>.bool _
 |_,_,_,.str _ _ h=>.str _ _ h
 |_,_,r,.ptr _ _ _ _ _ h=>.ptr _ _ _ _ _ ((jr (by simpa using r)).trans h)
 |_,_,r,.sl _ _ _ _ _ _ _ _ _ h a b=>.sl _ _ _ _ _ _ _ _ _ ((jr (by simpa using r)).trans h) a b
 |_,_,r,.agg _ _ _ h e=>.agg _ _ _ (bO.cut (by simpa using r) h) e
 |_,_,r,.aX _ _ h=>.aX _ _ (bO.cut (by simpa using r) h)
 |_,_,r,.kG _ _ _ h=>.kG _ _ _ (VR.cut (by simpa using r) h)
 |_,_,r,.fn _ _ _ _ _ h k=>.fn _ _ _ _ _ (bO.cut (by simp only[jH]at r;exact r.1) h) (bO.cut (by simp only[jH]at r;exact r.2) k)
 |_,_,r,.map _ _ _ _ h=>.map _ _ _ _ ((jr (by simpa using r)).trans h)
 |_,_,r,.ds _ _ _ _ _ _ _ _ h a b c d=>.ds _ _ _ _ _ _ _ _ h a b (bO.cut (by simpa using r) c) d
 |_,_,_,.nZ _ _ _=>.nZ _ _ _
 |_,_,_,.rH _=>.rH _
 |_,_,r,.dp _ _ _ _ _ h a b=>.dp _ _ _ _ _ h a (bO.cut (by simpa using r) b)
 |_,_,r,.jv _ _ _ _ h=>.jv _ _ _ _ ((jr (by simp only[jH]at r;exact r)).trans h)
 |_,_,_,.al _ h=>.al _ h
theorem bO.cut {φ:Ph}{D:Da}:∀ {v:List AV}{x:List Value},cT n v->bO φ D v x->bO (pT φ n) D v x
 |_,_,_,.nil=>.nil
 |_,_,r,.cons _ _ _ _ h k=>.cons _ _ _ _ (VR.cut (by simp only[gZ]at r;exact r.1) h) (bO.cut (by simp only[gZ]at r;exact r.2) k)
end
def tu (n:Nat):br->Prop
 |.cells u z bs t=>∀i v,gz u z bs t i=some v->jH n v
 |.map es _=>∀e∈es,jH n e.1/\jH n e.2.1
 |.jX=>True
 |_=>False
theorem bT {u:Nat}{l:List AV}(h:cT n l):tu n (.cells u [] l .nil):=by
 intro i v hv;rw[mG]at hv
 split at hv
 ·exact h.mem v (mem_of_getElem? hv)
 cases hv
theorem ve.cut {φ:Ph}{D:Da}:∀ {es l},(∀e∈es,jH n e.1/\jH n e.2.1)->ve φ D es l->ve (pT φ n) D es l
 |_,_,_,.nil=>.nil
 |_,_,r,.cons _ _ _ _ _ _ _ h k t=>.cons _ _ _ _ _ _ _ (h.cut (r _ (mem_cons_self ..)).1) (k.cut (r _ (mem_cons_self ..)).2) (ve.cut (λ e he=>r e (by simp[he])) t)
theorem iQ.cut {φ:Ph}{D:Da}{w:World} {p}{k:br}(r:tu n k)(h:iQ φ D w p k):iQ (pT φ n) D w p k:=by
 cases k with
 |cells u z bs t =>
  obtain⟨c,e,fr,h1,h2,h3,h4,h5⟩:=h;exact⟨c,e,fr,h1,h2,h3,λ i v hv=>let ⟨x,a,b⟩:=h4 i v hv;⟨x,a,b.cut (r i v hv)⟩,h5⟩
 |map es clk=>obtain⟨zF,h1,h2⟩:=h;exact⟨zF,h1,h2.cut r⟩
 |jX=>exact h
 |loop=>exact ai r id
 |iter=>exact ai r id
end
def QF (y' y:br):Prop:=∀(φ:Ph)(D:Da)(w:World)(p:Nat×Nat×Nat),iQ φ D w p y'->iQ φ D w p y
theorem QF.refl (y:br):QF y y:=λ _ _ _ _ h=>h
theorem OwnB.ble {y:br}{l:List AV}{u:Nat}(h:OwnB y l)(hu:u=l.length):QF y (.cells u [] l .nil):=by
 subst hu;obtain⟨u,z,bs,t,rfl,rfl,hg,hl⟩:=h;rintro φ D w p ⟨c,e,fr,h1,h2,h3,h4,h5,h6⟩;refine⟨c,e,fr,h1,h2,h3,λ i v hv=>h4 i v ?_,λ _ _=>rfl,h6⟩;rw[mG]at hv;rw[hg]
 split at hv
 ·exact hv
 cases hv
section
variable {P:Program}
theorem aj.okS {g:FuncId}{args:List AV}{S S' H H':Hp}{n n':Nat}{v0:AV}(h:aj P g args S n (λ v K k=>v=v0/\(∀b y,S'.get b=some y->∃y',K.get b=some y'/\QF y' y)/\k<=n')) (hle:n<=n')
  (ha:cT n args)(hs:∀b k,S.get b=some k->b<n/\tu n k)(hsub:∀b k,S.get b=some k->H.get b=some k)
  (h1:∀b,S.get b≠none∨(n<=b/\b<n')->H'.get b=S'.get b)(h2:∀b,S.get b=none->¬(n<=b/\b<n')->H'.get b=H.get b):bc P g args H n v0 H' n':=by
 refine⟨h.1,hle,λ φ D w xs hrel hvs hf R hR=>?_⟩
 have hne:∀b,S.get b≠none->H.get b≠none:=λ b hb=>by
  cases hx:S.get b with
  |none=>exact ai hx hb
  |some k=>rw[hsub b k hx];simp
 have hr0:Rel (pT φ n) D S.get w:=by
  refine⟨λ b k hb=>?_,λ b c p q hb hc hp hq=>?_,λ b p hb hp=>?_,hrel.ep⟩
  ·obtain⟨p,hp,hl,hk⟩:=hrel.blk b k (hsub b k hb);exact⟨p,(jr (hs b k hb).1).trans hp,hl,hk.cut (hs b k hb).2⟩
  ·exact hrel.inj b c p q (hne b hb) (hne c hc) (bV hp).2 (bV hq).2
  exact hrel.sep b p (hne b hb) (bV hp).2
 refine h.2 (pT φ n) D w xs hr0 (hvs.cut ha) (λ b hb=>?_) R λ v K k φ' D' w' x ⟨hv,hK,hk⟩ e r hx=>?_
 ·unfold pT;rw[ah (by omega)]
 subst hv
 have arJ:∀b p,φ' b=some p->(match φ b with|some p=>some p|none=>φ' b)=some p:=by
  intro b p hp
  cases hb:φ b with
  |none=>exact hp
  |some q =>
   dsimp only
   by_cases hlt:b<n
   ·have:=e.phi b q ((jr hlt).trans hb);rw[hp]at this;exact this.symm
   have h3:=e.new b (by unfold pT;rw[ah hlt]) (by rw[hp];simp);rw[hf b h3.1 (by omega)]at hb;cases hb
 generalize hφ2:(λ b=>match φ b with|some p=>some p|none=>φ' b:Ph)=φ2;have ahd:∀b,φ2 b=match φ b with|some p=>some p|none=>φ' b:=λ b=>by rw[<-hφ2]
 have hup:∀b p,φ' b=some p->φ2 b=some p:=λ b p hp=>by rw[ahd];exact arJ b p hp
 have tV:∀b p,φ b=some p->φ2 b=some p:=λ b p hp=>by rw[ahd,hp]
 have hcase:∀b,H'.get b≠none->(∃y y',H'.get b=some y/\K.get b=some y'/\QF y' y)∨(S.get b=none/\¬(n<=b/\b<n')/\H'.get b=H.get b):=by
  intro b hb
  by_cases hc:S.get b≠none∨(n<=b/\b<n')
  ·cases hy:H'.get b with
   |none=>exact ai hy hb
   |some y =>
    obtain⟨y',h3,h4⟩:=hK b y (by rw[<-h1 b hc,hy]);exact .inl ⟨y,y',rfl,h3,h4⟩
  have hc1:S.get b=none:=Decidable.byContradiction λ h=>hc (.inl h);have hc2:¬(n<=b/\b<n'):=λ h=>hc (.inr h);exact .inr ⟨hc1,hc2,h2 b hc1 hc2⟩
 have hold:∀b,S.get b=none->H'.get b=H.get b->H'.get b≠none->∃p,φ b=some p/\p.1<w.heap.size/\(∀y,H'.get b=some y->iQ φ D w p y)/\(∀b0 p0,S.get b0≠none->φ b0=some p0->p0.1≠p.1):=by
  intro b hb1 hb2 hb3
  cases hy:H.get b with
  |none=>rw[hb2,hy]at hb3;exact ai rfl hb3
  |some y =>
   obtain⟨p,hp,hlt,hk⟩:=hrel.blk b y hy;refine⟨p,hp,hlt,λ y' hy'=>?_,λ b0 p0 hb0 hp0 heq=>?_⟩
   ·rw[hb2,hy]at hy';injection hy' with hy';subst hy';exact hk
   have:=hrel.inj b0 b p0 p (hne b0 hb0) (by rw[hy];simp) hp0 hp heq;subst this;exact hb0 hb1
 have hnew:∀b p,K.get b≠none->φ2 b=some p->φ' b=some p:=by
  intro b p hb hp
  cases hy:K.get b with
  |none=>exact ai hy hb
  |some y =>
   obtain⟨q,hq,_⟩:=r.blk b y hy;have:=hup b q hq;rw[hp]at this;rw[hq,this]
 have hs':∀ {b:Nat} {y:br},K.get b=some y->K.get b≠none:=λ h=>by rw[h];simp
 refine hR φ2 D' w' x ⟨hle,tV,λ b hb hb2=>?_,e.ep,e.size,λ c hc hk=>e.keep c hc λ b p hb hp=>hk b p (hne b hb) (bV hp).2,λ b p hb hp=>?_,λ c hc=>?_,λ b hb=>?_,e.os,e.out⟩
  ⟨λ b y hy=>?_,λ b c p q hb hc hp hq heq=>?_,λ b p hb hp=>?_,r.ep⟩ (hx.mono hup λ _ _ h=>h)
 ·have h3:=e.new b (by
   cases hc:pT φ n b with
   |none=>rfl
   |some p=>rw[(bV hc).2]at hb;cases hb) (by rw[ahd,hb]at hb2;exact hb2)
  omega
 ·rcases hcase b hb with⟨_,_,_,h3,_⟩|⟨h3,_,h5⟩
  ·rcases e.live b p (hs' h3) (hnew b p (hs' h3) hp)with h4|⟨b0,p0,h5,h6,h7⟩
   ·exact .inl h4
   exact .inr ⟨b0,p0,hne b0 h5,(bV h6).2,h7⟩
  obtain⟨p1,hp1,hlt,_⟩:=hold b h3 h5 hb;have:=tV b p1 hp1;rw[hp]at this;injection this with this;subst this;exact .inr ⟨b,p,by rw[<-h5];exact hb,hp1,rfl⟩
 ·rcases e.jW c hc with h4|h4|⟨b0,p0,h5,h6,h7⟩
  ·exact .inl h4
  ·exact .inr (.inl h4)
  exact .inr (.inr ⟨b0,p0,hne b0 h5,(bV h6).2,h7⟩)
 ·rcases hcase b hb with⟨_,_,_,h3,_⟩|⟨_,_,h5⟩
  ·rcases e.hid b (hs' h3)with h4|h4
   ·exact .inl (hne b h4)
   exact .inr (by omega)
  exact .inl (by rw[<-h5];exact hb)
 ·have hb:H'.get b≠none:=by rw[hy];simp
  rcases hcase b hb with⟨y1,y',h2,h3,h4⟩|⟨h3,_,h5⟩
  ·rw[hy]at h2;injection h2 with h2;subst h2;obtain⟨p,hp,hl,hk⟩:=r.blk b y' h3;exact⟨p,hup b p hp,hl,(h4 _ _ _ _ hk).mono hup (λ _ _ h=>h) rfl⟩
  obtain⟨p,hp,hlt,hB,hx⟩:=hold b h3 h5 hb;exact⟨p,tV b p hp,Nat.lt_of_lt_of_le hlt e.size,(hB y hy).mono tV e.ep (e.keep p.1 hlt λ b0 p0 hb0 hp0=>hx b0 p0 hb0 (bV hp0).2)⟩
 ·have mixed:∀b c p q,K.get b≠none->S.get c=none->H'.get c=H.get c->H'.get c≠none->φ2 b=some p->φ2 c=some q->p.1=q.1->b=c:=by
   intro b c p q hb h4 h5 hc hp hq heq;obtain⟨q1,hq1,hlt,_,hx⟩:=hold c h4 h5 hc;have:=tV c q1 hq1;rw[hq]at this;injection this with this;subst this
   rcases e.live b p hb (hnew b p hb hp)with h6|⟨b0,p0,h5,h6,h7⟩
   ·omega
   exact ai (h7.trans heq) (hx b0 p0 h5 (bV h6).2)
  rcases hcase b hb with⟨_,_,_,h3,_⟩|⟨h3,_,h5⟩
  ·rcases hcase c hc with⟨_,_,_,h4,_⟩|⟨h4,_,h6⟩
   ·exact r.inj b c p q (hs' h3) (hs' h4) (hnew b p (hs' h3) hp) (hnew c q (hs' h4) hq) heq
   exact mixed b c p q (hs' h3) h4 h6 hc hp hq heq
  rcases hcase c hc with⟨_,_,_,h4,_⟩|⟨h4,_,h6⟩
  ·exact(mixed c b q p (hs' h4) h3 h5 hb hq hp heq.symm).symm
  obtain⟨p1,hp1,_⟩:=hold b h3 h5 hb;obtain⟨q1,hq1,_⟩:=hold c h4 h6 hc;have e1:=tV b p1 hp1;have e2:=tV c q1 hq1;rw[hp]at e1;rw[hq]at e2;injection e1 with e1;injection e2 with e2;subst e1 e2;exact hrel.inj b c p q (by rw[<-h5];exact hb) (by rw[<-h6];exact hc) hp1 hq1 heq
 rcases hcase b hb with⟨_,_,_,h3,_⟩|⟨h3,_,h5⟩
 ·exact r.sep b p (hs' h3) (hnew b p (hs' h3) hp)
 obtain⟨p1,hp1,hlt,_,hx⟩:=hold b h3 h5 hb;have e1:=tV b p1 hp1;rw[hp]at e1;injection e1 with e1;subst e1;have hD:=hrel.sep b p (by rw[<-h5];exact hb) hp1
 cases hd:D' p.1 with
 |none=>rfl
 |some y =>
  rcases e.jW p.1 (by rw[hd];simp)with h4|h4|⟨b0,p0,h6,h7,h8⟩
  ·exact ai hD h4
  ·omega
  exact ai h8 (hx b0 p0 h6 (bV h7).2)
end
end Go.Abs
namespace Go.Abs
open List
section
variable {F:Fr}{H:Hp}{Hs:List Hp}{n:Nat}{m:List Dm}{Q:QA}{ce:Ce}
def FnI (v:Option AV)(vs:Option (List AV))(pd:Pd)(r:List (Option RO))(ce:Ce)(F:Fr)(H:Hp)(Hs:List Hp)(n:Nat)(m:List Dm)(Q:QA):Prop:=match v,vs with
 |some (.fn (.func f) first cap),some vs=>GA (ce.call f (first++(vs++cap)) H n) pd r ce F Hs m Q
 |some (.jv q),some vs=>GA (DD ce q vs H n) pd r ce F Hs m Q
 |_,_=>False
@[simp] theorem amR (f:FuncId)(first cap vs:List AV)(pd:Pd)(r:List (Option RO)):FnI (some (.fn (.func f) first cap)) (some vs) pd r ce F H Hs n m Q=GA (ce.call f (first++(vs++cap)) H n) pd r ce F Hs m Q:=propext Iff.rfl
theorem E9 (rs:RS) (pd:Pd) (g:G) (as:List G) (next:List (Option RO)):Ev ((jE rs pd g as (fR next)).f ce F H Hs n m) Q=FnI (g.f (rs.f F)) (evs (rs.f F) as) pd next ce F H Hs n m Q:=by
 simp only[jE];unfold FnI
 cases g.f (rs.f F)with
 |none=>rfl
 |some v =>
  cases v with
  |fn x first cap =>
   cases x with
   |func f =>
    dsimp only
    cases evs (rs.f F) as with
    |none=>rfl
    |some vs =>
     dsimp only;unfold GA EvC
     cases ce.call f (first++(vs++cap)) H n<;>rfl
   |_=>rfl
  |jv q =>
   dsimp only
   cases evs (rs.f F) as with
   |none=>rfl
   |some vs =>
    dsimp only;unfold GA EvC
    cases DD ce q vs H n<;>rfl
  |_=>rfl
@[simp] theorem auQ (rs:List Nat)(pd:Pd)(g:G)(as:List G)(r:List (Option RO)):Ev ((fR (vI rs pd g as::r)).f ce F H Hs n m) Q=FnI (g.f ((cB rs).f F)) (evs ((cB rs).f F) as) pd r ce F H Hs n m Q:=E9 (cB rs) pd g as r
def gvI (rs:List Nat)(g:G)(b:Bool)(pd:Pd)(h:G)(as:List G):Option RO:=some ⟨cB rs,some (g,b),pd,.call h as,none⟩
def GvI (v:Option AV)(b:Bool)(F0:Fr)(pd:Pd)(h:G)(as:List G)(r:List (Option RO))(ce:Ce)(F:Fr)(H:Hp)(Hs:List Hp)(n:Nat)(m:List Dm)(Q:QA):Prop:=e_ v b (FnI (h.f F0) (evs F0 as) pd r ce F H Hs n m Q) (Ev ((fR r).f ce (pd.f (.aX []) F) H (H::Hs) n m) Q)
@[simp] theorem asA (rs:List Nat)(g:G)(b:Bool)(pd:Pd)(h:G)(as:List G)(r:List (Option RO)):Ev ((fR (gvI rs g b pd h as::r)).f ce F H Hs n m) Q=GvI (g.f ((cB rs).f F)) b ((cB rs).f F) pd h as r ce F H Hs n m Q:=by
 have h1:=pB (ce:=ce) (F:=F) (H:=H) (Hs:=Hs) (n:=n) (m:=m) (Q:=Q) (rs:=cB rs) (g:=g) (b:=b) (yes:=jE (cB rs) pd h as (fR r)) (no:=PH pd (fR r));rw[E9]at h1;exact h1
@[simp] theorem auz (F0:Fr)(pd:Pd)(h:G)(as:List G)(r:List (Option RO)):GvI (some (.bool true)) true F0 pd h as r ce F H Hs n m Q=FnI (h.f F0) (evs F0 as) pd r ce F H Hs n m Q:=propext Iff.rfl
@[simp] theorem auA (F0:Fr)(pd:Pd)(h:G)(as:List G)(r:List (Option RO)):GvI (some (.bool false)) true F0 pd h as r ce F H Hs n m Q=Ev ((fR r).f ce (pd.f (.aX []) F) H (H::Hs) n m) Q:=propext Iff.rfl
@[simp] theorem ar0 (F0:Fr)(pd:Pd)(h:G)(as:List G)(r:List (Option RO)):GvI (some (.bool true)) false F0 pd h as r ce F H Hs n m Q=Ev ((fR r).f ce (pd.f (.aX []) F) H (H::Hs) n m) Q:=propext Iff.rfl
@[simp] theorem ar1 (F0:Fr)(pd:Pd)(h:G)(as:List G)(r:List (Option RO)):GvI (some (.bool false)) false F0 pd h as r ce F H Hs n m Q=FnI (h.f F0) (evs F0 as) pd r ce F H Hs n m Q:=propext Iff.rfl
end
end Go.Abs
namespace Go.Abs
open List
set_option maxRecDepth 100000
mutual
theorem eY.mono {h h':Hf}(hh:∀b k,h b=some k->h' b=some k):∀ {v v'},eY h v v'->eY h' v v'
 |_,_,.pure _ k=>.pure _ k
 |_,_,.nil _=>.nil _
 |_,_,.sl _ _ _ _ _ _ _ _ _ _ a b k=>.sl _ _ _ _ _ _ _ _ _ _ (hh _ _ a) b (bh.mono hh k)
 |_,_,.ptr _ _ _ _ _ _ _ _ _ a b k=>.ptr _ _ _ _ _ _ _ _ _ (hh _ _ a) b (bh.mono hh k)
 |_,_,.agg _ _ _ k=>.agg _ _ _ (bh.mono hh k)
 |_,_,.aX _ _ k=>.aX _ _ (bh.mono hh k)
theorem bh.mono {h h':Hf}(hh:∀b k,h b=some k->h' b=some k):∀ {v v'},bh h v v'->bh h' v v'
 |_,_,.nil=>.nil
 |_,_,.cons _ _ _ _ a b=>.cons _ _ _ _ (eY.mono hh a) (bh.mono hh b)
end
theorem bh.append {h:Hf}:∀ {a a' b b'},bh h a a'->bh h b b'->bh h (a++b) (a'++b')
 |_,_,_,_,.nil,k=>k
 |_,_,_,_,.cons _ _ _ _ x y,k=>.cons _ _ _ _ x (bh.append y k)
def cA (H:Hp)(n:Nat):Prop:=∀b,n<=b->H.get b=none
def above (n:Nat)(H:Hp):Hf:=λ b=>if n<=b then H.get b else none
theorem Ge {n n':Nat}{H H':Hp}(h:∀b k,n<=b->H.get b=some k->n'<=b/\H'.get b=some k):∀b k,above n H b=some k->above n' H' b=some k:=by
 intro b k hb;unfold above at hb ⊢
 split at hb
 ·rename_i hle;obtain⟨h1,h2⟩:=h b k hle hb;rw[ao h1,h2]
 cases hb
theorem te {n:Nat}{H:Hp}:∀b k,above n H b=some k->H.get b=some k:=by
 intro b k hb;unfold above at hb
 split at hb
 ·exact hb
 cases hb
@[simp] theorem wr1:IntKind.i64.wrap 1=1:=by simp[IntKind.wrap,IntKind.signed,IntKind.bits]
@[simp] theorem wr2:IntKind.i64.wrap 2=2:=by simp[IntKind.wrap,IntKind.signed,IntKind.bits]
@[simp] theorem wr3:IntKind.i64.wrap 3=3:=by simp[IntKind.wrap,IntKind.signed,IntKind.bits]
@[simp] theorem nn2 (n:Nat):(n=n+1+1)=False:=by simp only[eq_iff_iff,iff_false];omega
@[simp] theorem nr2 (n:Nat):(n+1+1=n)=False:=by simp only[eq_iff_iff,iff_false];omega
@[simp] theorem nn3 (n:Nat):(n=n+1+1+1)=False:=by simp only[eq_iff_iff,iff_false];omega
@[simp] theorem nr3 (n:Nat):(n+1+1+1=n)=False:=by simp only[eq_iff_iff,iff_false];omega
@[simp] theorem nn4 (n:Nat):(n=n+1+1+1+1)=False:=by simp only[eq_iff_iff,iff_false];omega
@[simp] theorem nr4 (n:Nat):(n+1+1+1+1=n)=False:=by simp only[eq_iff_iff,iff_false];omega
@[simp] theorem nn5 (n:Nat):(n=n+1+1+1+1+1)=False:=by simp only[eq_iff_iff,iff_false];omega
@[simp] theorem nr5 (n:Nat):(n+1+1+1+1+1=n)=False:=by simp only[eq_iff_iff,iff_false];omega
@[simp] theorem nn6 (n:Nat):(n=n+1+1+1+1+1+1)=False:=by simp only[eq_iff_iff,iff_false];omega
@[simp] theorem nr6 (n:Nat):(n+1+1+1+1+1+1=n)=False:=by simp only[eq_iff_iff,iff_false];omega
@[simp] theorem nn7 (n:Nat):(n=n+1+1+1+1+1+1+1)=False:=by simp only[eq_iff_iff,iff_false];omega
@[simp] theorem nr7 (n:Nat):(n+1+1+1+1+1+1+1=n)=False:=by simp only[eq_iff_iff,iff_false];omega
@[simp] theorem nn8 (n:Nat):(n=n+1+1+1+1+1+1+1+1)=False:=by simp only[eq_iff_iff,iff_false];omega
@[simp] theorem nr8 (n:Nat):(n+1+1+1+1+1+1+1+1=n)=False:=by simp only[eq_iff_iff,iff_false];omega
@[simp] theorem nn9 (n:Nat):(n=n+1+1+1+1+1+1+1+1+1)=False:=by simp only[eq_iff_iff,iff_false];omega
@[simp] theorem nr9 (n:Nat):(n+1+1+1+1+1+1+1+1+1=n)=False:=by simp only[eq_iff_iff,iff_false];omega
@[simp] theorem nn10 (n:Nat):(n=n+1+1+1+1+1+1+1+1+1+1)=False:=by simp only[eq_iff_iff,iff_false];omega
@[simp] theorem nr10 (n:Nat):(n+1+1+1+1+1+1+1+1+1+1=n)=False:=by simp only[eq_iff_iff,iff_false];omega
@[simp] theorem nn11 (n:Nat):(n=n+1+1+1+1+1+1+1+1+1+1+1)=False:=by simp only[eq_iff_iff,iff_false];omega
@[simp] theorem nr11 (n:Nat):(n+1+1+1+1+1+1+1+1+1+1+1=n)=False:=by simp only[eq_iff_iff,iff_false];omega
@[simp] theorem nn12 (n:Nat):(n=n+1+1+1+1+1+1+1+1+1+1+1+1)=False:=by simp only[eq_iff_iff,iff_false];omega
@[simp] theorem nr12 (n:Nat):(n+1+1+1+1+1+1+1+1+1+1+1+1=n)=False:=by simp only[eq_iff_iff,iff_false];omega
theorem ga {b n:Nat}(h:b<n):(b=n)=False/\(b=n+1)=False/\(b=n+1+1)=False/\(b=n+1+1+1)=False/\(b=n+1+1+1+1)=False/\(b=n+1+1+1+1+1)=False/\(b=n+1+1+1+1+1+1)=False/\(b=n+1+1+1+1+1+1+1)=False/\(b=n+1+1+1+1+1+1+1+1)=False/\(b=n+1+1+1+1+1+1+1+1+1)=False/\(b=n+1+1+1+1+1+1+1+1+1+1)=False/\(b=n+1+1+1+1+1+1+1+1+1+1+1)=False/\(b=n+1+1+1+1+1+1+1+1+1+1+1+1)=False:=by
 refine⟨?_,?_,?_,?_,?_,?_,?_,?_,?_,?_,?_,?_,?_⟩<;>(simp only[eq_iff_iff,iff_false];omega)
theorem KT {b n:Nat}(h:b<n):(n=b)=False/\(n+1=b)=False/\(n+1+1=b)=False/\(n+1+1+1=b)=False/\(n+1+1+1+1=b)=False/\(n+1+1+1+1+1=b)=False/\(n+1+1+1+1+1+1=b)=False/\(n+1+1+1+1+1+1+1=b)=False/\(n+1+1+1+1+1+1+1+1=b)=False/\(n+1+1+1+1+1+1+1+1+1=b)=False/\(n+1+1+1+1+1+1+1+1+1+1=b)=False/\(n+1+1+1+1+1+1+1+1+1+1+1=b)=False/\(n+1+1+1+1+1+1+1+1+1+1+1+1=b)=False:=by
 refine⟨?_,?_,?_,?_,?_,?_,?_,?_,?_,?_,?_,?_,?_⟩<;>(simp only[eq_iff_iff,iff_false];omega)
theorem cA.lt {H:Hp}{n b:Nat}{k:br}(ht:cA H n)(h:H.get b=some k):b<n:=by
 rcases Nat.lt_or_ge b n with h' |h'
 ·exact h'
 rw[ht b h']at h;cases h
theorem cA.none {H:Hp}{n:Nat}(h:cA H n):H.get (n)=Option.none/\H.get (n+1)=Option.none/\H.get (n+1+1)=Option.none/\H.get (n+1+1+1)=Option.none/\H.get (n+1+1+1+1)=Option.none/\H.get (n+1+1+1+1+1)=Option.none/\H.get (n+1+1+1+1+1+1)=Option.none/\H.get (n+1+1+1+1+1+1+1)=Option.none/\H.get (n+1+1+1+1+1+1+1+1)=Option.none/\H.get (n+1+1+1+1+1+1+1+1+1)=Option.none/\H.get (n+1+1+1+1+1+1+1+1+1+1)=Option.none/\H.get (n+1+1+1+1+1+1+1+1+1+1+1)=Option.none/\H.get (n+1+1+1+1+1+1+1+1+1+1+1+1)=Option.none:=by
 refine⟨?_,?_,?_,?_,?_,?_,?_,?_,?_,?_,?_,?_,?_⟩<;>exact h _ (by omega)
structure Cl where
 g:FuncId
 args:List AV
 H:Hp
 n:Nat
 v:AV
 H':Hp
 n':Nat
open Classical in
def Z4 (l:List Cl):Ce:=yp λ g args H n=>match l.find? (λ x=>decide (x.g=g/\x.args=args/\x.H=H/\x.n=n))with
 |some x=>.mk x.v x.H' x.n'
 |none=>.fail
theorem xe {P:Program}{l:List Cl}(h:∀x∈l,bc P x.g x.args x.H x.n x.v x.H' x.n'):gX P (Z4 l):=by
 refine Bn λ g args H n v H' n' e=>?_
 split at e
 ·rename_i x hx;have h1:=find?_some hx;simp at h1;obtain⟨rfl,rfl,rfl,rfl⟩:=h1;injection e with e1 e2 e3;subst e1 e2 e3;exact h x (mem_of_find?_eq_some hx)
 cases e
theorem qT {g:FuncId}{args:List AV}{H:Hp}{n:Nat}{v:AV}{H':Hp}{n':Nat}{l:List Cl}:(Z4 (⟨g,args,H,n,v,H',n'⟩::l)).call g args H n=wo (.mk v H' n'):=by
 simp[Z4,yp]
theorem UK {g g':FuncId}{args args':List AV}{H H0:Hp}{n n0:Nat}{v:AV}{H':Hp}{n':Nat}{l:List Cl}(hg:g'≠g):(Z4 (⟨g',args',H0,n0,v,H',n'⟩::l)).call g args H n=(Z4 l).call g args H n:=by
 simp[Z4,yp,find?_cons,hg]
section
variable {H:Hp}{n:Nat}
theorem UQ {x:AV}{new:List AV}{sz fP k:Nat}(hx:aV H sz x=some new)(hk:sliceLen x=some k)(hs:0<sz)(hk0:0<k)(hbig:k<=big)(hby:fP<=4096)(h1:aY new=true):
  iM sz fP n (.al (.slice none 0 0)) x H=.new (.sl n 0 k sz) (.cells (k*sz) [] new .nil):=by
 unfold Go.Abs.iM;rw[hx,hk];dsimp only;unfold lW;simp only[kQ,uO,ry,show ¬k=0 by omega,hs,hbig,hby,h1,decide_true,decide_false,Bool.and_self]
theorem aim {x:AV}{new:List AV}{sz fP k b len u:Nat}{z bs:List AV}{t:Ov AV}(hb:H.get b=some (.cells u z bs t))(hu:len*sz<=u)(hx:aV H sz x=some new)(hk:sliceLen x=some k)(hs:0<sz)(hk0:0<k)(hbig:len+k<=big)(hby:fP<=4096)(h1:aY new=true):
  iM sz fP n (.sl b 0 len sz) x H=.mv (.sl n 0 (len+k) sz) b (.cells ((len+k)*sz) z bs (Ov.bD new (len*sz) t)):=by
 unfold Go.Abs.iM;rw[hx,hk];dsimp only;unfold lW FM;simp only[kQ,uO,ry,show ¬k=0 by omega,hs,hbig,hby,h1,decide_true,decide_false,Bool.and_self,hb,hu,cJ]
theorem aR {b sz:Nat}{l:List AV}(hb:H.get b=some (.cells sz [] l .nil)):aV H sz (.sl b 0 1 sz)=some l:=by
 simp only[aV,kQ,decide_true,cond_true,hb,Nat.one_mul,TR]
end
theorem OwnB.app {u:Nat}{z bs l new:List AV}{t:Ov AV}(h:OwnB (.cells u z bs t) l) (hn:new≠[]):OwnB (.cells (u+new.length) z bs (Ov.bD new u t)) (l++new):=by
 obtain⟨u',z',bs',t',e,hu,hg,hi⟩:=h;injection e with e1 e2 e3 e4;subst e1 e2 e3 e4;refine⟨_,z,bs,_,rfl,by simp[hu],λ i=>?_,λ ht=>?_⟩
 ·rw[bY,Ov.bw]
  by_cases hlt:i<u+new.length
  ·rw[ao hlt]
   by_cases ja:u<=i/\i<u+new.length
   ·rw[ao ja,getElem?_append_right (by omega),<-hu,cE (by omega)]
   rw[ah ja,getElem?_append_left (by omega)];have:=hg i;rw[bY,ao (by omega)]at this;exact this
  rw[ah hlt,getElem?_eq_none (by simp;omega)]
 exfalso
 cases new with
 |nil=>exact hn rfl
 |cons v r =>
  have:=Ov.bw (v::r) u t u;rw[ht,ao (by simp)]at this;simp at this
def blk (v:AV):Option Nat:=match v with
 |.sl b _ _ _=>some b
 |_=>none
@[simp] theorem aqn:blk (.al (.slice none 0 0))=none:=rfl
@[simp] theorem asZ (b o l s:Nat):blk (.sl b o l s)=some b:=rfl
theorem au.frame {H H':Hp}{n n':Nat}{w:AV}{l:List AV}{len sz:Nat}(h:au H n w l len sz)(hn:n<=n')(hk:∀c,blk w=some c->H'.get c=H.get c):au H' n' w l len sz:=by
 obtain⟨h0,⟨rfl,h1⟩|⟨b,k,rfl,hb,hbk,ho⟩⟩:=h
 ·exact⟨h0,.inl ⟨rfl,h1⟩⟩
 exact⟨h0,.inr ⟨b,k,rfl,by omega,(hk b rfl).trans hbk,ho⟩⟩
theorem au.Bv {H:Hp}{n:Nat}{ce:Ce}{Hs:List Hp}{F:Fr}{m:List Dm}{Q:QA}{v x:AV}{l new:List AV}{len sz fP k:Nat}{pd:Pd}{r:List (Option RO)}(h:au H n v l len sz)(hx:aV H sz x=some new)(hk:sliceLen x=some k)(hn:new.length=k*sz)
  (hs:0<sz)(hk0:0<k)(hbig:len+k<=big)(hby:fP<=4096)(h1:aY new=true)
  (hgo:∀H',au H' (n+1) (.sl n 0 (len+k) sz) (l++new) (len+k) sz->(∀c,c≠n->v≠.sl c 0 len sz->H'.get c=H.get c)->Ev ((fR r).f ce (pd.f (.sl n 0 (len+k) sz) F) H' (H'::Hs) (n+1) m) Q):ZV (Go.Abs.iM sz fP n v x H) pd r ce F H Hs n m Q:=by
 obtain⟨H',e,h1,h2⟩:=h.iM hx hk hn hs hk0 hbig hby h1;unfold ZV;rw[e];exact hgo H' h1 λ c hc=>h2 c hc
theorem au.bg {H:Hp}{n:Nat}{w:AV}{l:List AV}{len sz c:Nat}(h:au H n w l len sz)(hc:blk w=some c):c<n:=by
 obtain⟨_,⟨rfl,_⟩|⟨b,k,rfl,hb,_⟩⟩:=h
 ·cases hc
 simp at hc;omega
theorem au.cO {H:Hp}{n:Nat}{v:AV}{l:List AV}{len sz:Nat}(h:au H n v l len sz):v.one=true:=by
 obtain⟨_,⟨rfl,_⟩|⟨b,k,rfl,_⟩⟩:=h<;>simp
theorem OwnB.st {u:Nat}{z bs:List AV}{t:Ov AV}{l:List AV}(h:OwnB (.cells u z bs t) l){i:Nat}(hi:i<l.length) (v:AV):OwnB (ke u z bs t [v] i) (l.set i v):=by
 obtain⟨u',z',bs',t',e,hu,hg,hl⟩:=h;injection e with e1 e2 e3 e4;subst e1 e2 e3 e4
 have key:∀t2,(∀j,t2.get j=if i<=j/\j<i+1 then [v][j - i]? else t.get j)->t2≠.nil->OwnB (.cells u z bs t2) (l.set i v):=by
  intro t2 h2 hne;refine⟨u,z,bs,t2,rfl,by simp[hu],λ j=>?_,λ e=>ai e hne⟩;have hj:=hg j;rw[bY]at hj ⊢;rw[getElem?_set,h2]
  by_cases e:i=j
  ·subst e;rw[ao (by omega),ao (by omega),ao rfl,ao hi];simp
  rw[ah e]
  by_cases hju:j<u
  ·rw[ao hju]at hj ⊢;rw[ah (by omega)];exact hj
  rw[ah hju]at hj ⊢;exact hj
 have hput:∀t:Ov AV,(Ov.bD [v] i t)≠.nil:=by
  intro t e;have:=Ov.bw [v] i t i;rw[e,ao (by simp)]at this;simp at this
 have wF:OwnB (.cells u z bs (Ov.bD [v] i t)) (l.set i v):=key _ (λ j=>Ov.bw [v] i t j) (hput t);unfold ke
 split
 ·split
  ·split
   ·split
    ·rename_i bs' hp;have hb:=hl rfl rfl;obtain⟨p1,_,p3⟩:=iW hp
     have:bs'=l.set i v:=by
      apply ext_getElem?;intro j;rw[p3,getElem?_set];have hj:=hg j;rw[mG]at hj
      by_cases e:i=j
      ·subst e;rw[ao (by simp),ao rfl,ao hi];simp
      rw[ah (by simp;omega),ah e];rw[<-hj]
      split
      ·rfl
      rw[getElem?_eq_none (by omega)]
     rw[this];exact .list (by simp[hu])
    exact wF
   exact wF
  exact wF
 ·exact wF
 exact wF
theorem G7 {H:Hp}{b i:Nat}{k:br}{L:List AV}(hb:H.get b=some k)(ho:OwnB k L)(hi:i<L.length):dP (.ptr b i) H=.val L[i]:=by
 obtain⟨u,z,bs,t,rfl,h3,h4,_⟩:=ho;have:=h4 i;rw[cE hi]at this;simp[hb,this]
theorem Ss {H:Hp}{b i:Nat}{k:br}{L:List AV}(hb:H.get b=some k)(ho:OwnB k L)(hi:i<L.length)(a:Int):∃y,fZ 1 (.ptr b i) (.int .i64 a) H=.upd (.aX []) b y/\OwnB y (L.set i (.int .i64 a)):=by
 have ho':=ho;obtain⟨u,z,bs,t,rfl,h3,h4,_⟩:=ho;refine⟨ke u z bs t [.int .i64 a] i,?_,ho'.st hi _⟩;have hu:i+1<=u:=by omega
 simp[fZ,hb,hu,AV.len,AV.cells]
theorem dj (n:Nat):(iY n []=true)=True:=by simp[iY]
theorem cG (n:Nat)(h:Hp)(l:List Hp):(iY n (h::l)=true)=(h.get n=none/\iY n l=true):=by
 cases e:h.get n<;>simp[iY,e]
end Go.Abs
namespace Go.Abs
open List
section
variable {P:Program}
end
end Go.Abs
namespace Go.Abs
open List
section
variable {P:Program}
def pick (H:Hp):List Nat->Hp
 |[]=>.nil
 |b::r=>(pick H r).put b (H.get b)
theorem ew (H:Hp)(L:List Nat)(c:Nat):(pick H L).get c=if c∈L then H.get c else none:=by
 induction L with
 |nil=>simp[pick]
 |cons b r ih =>
  simp only[pick,Tr.get_put,ih,mem_cons]
  by_cases h:c=b
  ·subst h;simp
  simp[h]
theorem eF {H:Hp}{L:List Nat}{c:Nat}(h:c∈L):(pick H L).get c=H.get c:=by rw[ew,ao h]
theorem ku {H:Hp}{L:List Nat}{n:Nat}(h:∀b∈L,b<n):cA (pick H L) n:=by
 intro b hb;rw[ew,ah];intro hm;have:=h b hm;omega
theorem aj.okZ {g:FuncId}{args:List AV}{H H1:Hp}{n:Nat}{v0:AV}(L:List Nat) (ha:cT n args) (hL:∀b∈L,b<n) (hb:∀b∈L,∀k,H.get b=some k->tu n k) (hb1:∀b∈L,∀k,H1.get b=some k->tu n k)
  (h2:∀b,b∉L->H1.get b=H.get b)
  (h:aj P g args (pick H L) n (λ v K _=>eY (above n K) v v0/\∀b∈L,∀y,H1.get b=some y->∃y',K.get b=some y'/\BZ (above n K) y' y)):bc P g args H n v0 H1 n:=by
 refine⟨h.1,aP _,λ φ D w xs hrel hvs hf R hR=>?_⟩
 have hS:∀b,(pick H L).get b≠none->b∈L/\H.get b≠none:=λ b hb=>by
  rw[ew]at hb
  by_cases hm:b∈L
  ·rw[ao hm]at hb;exact⟨hm,hb⟩
  rw[ah hm]at hb;exact ai rfl hb
 have hr0:Rel (pT φ n) D (pick H L).get w:=by
  refine⟨λ b k hk=>?_,λ b c p q hb hc hp hq=>?_,λ b p hb hp=>?_,hrel.ep⟩
  ·obtain⟨hm,_⟩:=hS b (by rw[hk];simp);rw[eF hm]at hk;obtain⟨p,hp,hl,hbk⟩:=hrel.blk b k hk;exact⟨p,(jr (hL b hm)).trans hp,hl,hbk.cut (hb b hm k hk)⟩
  ·exact hrel.inj b c p q (hS b hb).2 (hS c hc).2 (bV hp).2 (bV hq).2
  exact hrel.sep b p (hS b hb).2 (bV hp).2
 refine h.2 (pT φ n) D w xs hr0 (hvs.cut ha) (λ b hb=>?_) R λ v K k φ' D' w' x ⟨hz,hK⟩ e r hx=>?_
 ·unfold pT;rw[ah (by omega)]
 have hto:∀b p,b<n->φ' b=some p->φ b=some p:=by
  intro b p hlt hp
  cases hq:φ b with
  |none =>
   have:=e.new b ((jr hlt).trans hq) (by rw[hp];simp);omega
  |some q =>
   have:=e.phi b q ((jr hlt).trans hq);rw[hp]at this;exact this.symm
 have EO:∀b p,b<n->φ b=some p->φ' b=some p:=λ b p hlt hp=>e.phi b p ((jr hlt).trans hp);have hs:Rel φ' D' (above n K) w':=r.sub te
 have hab:∀b,above n K b≠none->n<=b/\K.get b≠none:=λ b hb=>by
  unfold above at hb
  by_cases hm:n<=b
  ·rw[ao hm]at hb;exact⟨hm,hb⟩
  rw[ah hm]at hb;exact ai rfl hb
 have ja:∀b,b∈L->H1.get b≠none->K.get b≠none:=λ b hm hb=>by
  cases hy:H1.get b with
  |none=>exact ai hy hb
  |some y=>obtain⟨y',h3,_⟩:=hK b hm y hy;rw[h3];simp
 have hold:∀b p,b∉L->H1.get b≠none->φ b=some p->p.1<w.heap.size/\(∀b0 p0,(pick H L).get b0≠none->φ b0=some p0->p0.1≠p.1):=by
  intro b p hm hb hp;rw[h2 b hm]at hb
  cases hy:H.get b with
  |none=>exact ai hy hb
  |some y =>
   refine⟨(hrel.block hy hp).1,λ b0 p0 h0 hp0 heq=>?_⟩;have:=hrel.inj b0 b p0 p (hS b0 h0).2 hb hp0 hp heq;subst this;exact hm (hS b0 h0).1
 have hlv:∀b p,K.get b≠none->φ' b=some p->w.heap.size<=p.1∨∃b0 p0,(pick H L).get b0≠none/\φ b0=some p0/\p0.1=p.1:=by
  intro b p hb hp
  rcases e.live b p hb hp with h4|⟨b0,p0,h5,h6,h7⟩
  ·exact .inl h4
  exact .inr ⟨b0,p0,h5,(bV h6).2,h7⟩
 refine hR φ (Go.Abs.shut φ' D' (above n K) w') w' x ⟨aP _,λ _ _ h=>h,λ _ a b=>ai a b,λ c x hc=>eP c x (e.ep c x hc),e.size,λ c hc hk=>e.keep c hc λ b p hb hp=>hk b p (hS b hb).2 (bV hp).2,λ b p hb hp=>?_,λ c hc=>?_,λ b hb=>?_,e.os,e.out⟩
  ⟨λ b y hy=>?_,λ b c p q hb hc hp hq heq=>?_,λ b p hb hp=>?_,lI r.ep⟩ ((hz.vr hs hx).mono (λ b p hb=>by simp[lF]at hb) (λ _ _ h=>h))
 ·by_cases hm:b∈L
  ·rcases hlv b p (ja b hm hb) (EO b p (hL b hm) hp)with h4|⟨b0,p0,h5,h6,h7⟩
   ·exact .inl h4
   exact .inr ⟨b0,p0,(hS b0 h5).2,h6,h7⟩
  exact .inr ⟨b,p,by rw[<-h2 b hm];exact hb,hp,rfl⟩
 ·rcases vM hc with h3|⟨b,p,h3,h4,h5⟩
  ·rcases e.jW c h3 with h4|h4|⟨b0,p0,h5,h6,h7⟩
   ·exact .inl h4
   ·exact .inr (.inl h4)
   exact .inr (.inr ⟨b0,p0,(hS b0 h5).2,(bV h6).2,h7⟩)
  rcases hlv b p (hab b h3).2 h4 with h6|⟨b0,p0,h6,h7,h8⟩
  ·exact .inr (.inl (by omega))
  exact .inr (.inr ⟨b0,p0,(hS b0 h6).2,h7,h8.trans h5⟩)
 ·by_cases hm:b∈L
  ·rcases e.hid b (ja b hm hb)with h4|h4
   ·exact .inl (hS b h4).2
   have:=hL b hm;omega
  exact .inl (by rw[<-h2 b hm];exact hb)
 ·by_cases hm:b∈L
  ·obtain⟨y',h3,h4⟩:=hK b hm y hy;obtain⟨p,hp,hl,hk⟩:=r.blk b y' h3;exact⟨p,hto b p (hL b hm) hp,hl,((h4.acb hs hk).cut (hb1 b hm y hy)).mono (λ c q hc=>hto c q (bV hc).1 (bV hc).2) (λ _ _ h=>h) rfl⟩
  rw[h2 b hm]at hy;obtain⟨p,hp,hl,hk⟩:=hrel.blk b y hy;have hh:=hold b p hm (by rw[h2 b hm,hy];simp) hp;exact⟨p,hp,Nat.lt_of_lt_of_le hl e.size,hk.mono (λ _ _ h=>h) (λ c x hc=>eP c x (e.ep c x hc)) (e.keep p.1 hl λ b0 p0 hb0 hp0=>hh.2 b0 p0 hb0 (bV hp0).2)⟩
 ·have mixed:∀b c p q,b∈L->c∉L->H1.get b≠none->H1.get c≠none->φ b=some p->φ c=some q->p.1=q.1->False:=by
   intro b c p q hb hc hb1 hc1 hp hq heq;have hh:=hold c q hc hc1 hq
   rcases hlv b p (ja b hb hb1) (EO b p (hL b hb) hp)with h4|⟨b0,p0,h5,h6,h7⟩
   ·omega
   exact hh.2 b0 p0 h5 h6 (h7.trans heq)
  by_cases hm:b∈L
  ·by_cases hm2:c∈L
   ·exact r.inj b c p q (ja b hm hb) (ja c hm2 hc) (EO b p (hL b hm) hp) (EO c q (hL c hm2) hq) heq
   exact(mixed b c p q hm hm2 hb hc hp hq heq).elim
  by_cases hm2:c∈L
  ·exact(mixed c b q p hm2 hm hc hb hq hp heq.symm).elim
  exact hrel.inj b c p q (by rw[<-h2 b hm];exact hb) (by rw[<-h2 c hm2];exact hc) hp hq heq
 by_cases hm:b∈L
 ·have hp':=EO b p (hL b hm) hp;refine oR (r.sep b p (ja b hm hb) hp') λ b' p' h3 h4 h5=>?_;have:=r.inj b' b p' p (hab b' h3).2 (ja b hm hb) h4 hp' h5;have h6:=(hab b' h3).1;have h7:=hL b hm;omega
 have hh:=hold b p hm hb hp;refine oR ?_ λ b' p' h3 h4 h5=>?_
 ·cases hd:D' p.1 with
  |none=>rfl
  |some y =>
   have hD:=hrel.sep b p (by rw[<-h2 b hm];exact hb) hp
   rcases e.jW p.1 (by rw[hd];simp)with h4|h4|⟨b0,p0,h6,h7,h8⟩
   ·exact ai hD h4
   ·omega
   exact ai h8 (hh.2 b0 p0 h6 (bV h7).2)
 rcases hlv b' p' (hab b' h3).2 h4 with h6|⟨b0,p0,h6,h7,h8⟩
 ·omega
 exact hh.2 b0 p0 h6 h7 (h8.trans h5)
theorem aj.okB {g:FuncId}{args:List AV}{H:Hp}{n p:Nat}{v0:AV}{y1:br}(L:List Nat)(hp:p∈L)(ha:cT n args)(hL:∀b∈L,b<n)(hb:∀b∈L,∀k,H.get b=some k->tu n k)(hy:tu n y1)
  (h:∀H0:Hp,cA H0 n->(∀c∈L,H0.get c=H.get c)->aj P g args H0 n (λ v K _=>eY (above n K) v v0/\(∀c,c<n->c≠p->K.get c=H0.get c)/\∃y',K.get p=some y'/\BZ (above n K) y' y1)):bc P g args H n v0 (H.put p (some y1)) n:=by
 refine aj.okZ L ha hL hb (λ b hm k hk=>?_) (λ b hm=>?_) ((h (pick H L) (ku hL) λ c hc=>eF hc).mono λ v K k ⟨h1,h2,y',h3,h4⟩=>⟨h1,λ b hm y hy=>?_⟩)
 ·rw[Tr.get_put]at hk
  split at hk
  ·injection hk with hk;subst hk;exact hy
  exact hb b hm k hk
 ·rw[Tr.get_put,ah];rintro rfl;exact hm hp
 rw[Tr.get_put]at hy
 split at hy
 ·rename_i e;subst e;injection hy with hy;subst hy;exact⟨y',h3,h4⟩
 rename_i e;refine⟨y,?_,.inl rfl⟩;rw[h2 b (hL b hm) e,eF hm];exact hy
theorem aj.Dw {g:FuncId}{args:List AV}{H:Hp}{n:Nat}{v0:AV}(L:List Nat)(ha:cT n args)(hL:∀b∈L,b<n)(hb:∀b∈L,∀k,H.get b=some k->tu n k)
  (h:∀H0:Hp,cA H0 n->(∀c∈L,H0.get c=H.get c)->aj P g args H0 n (λ v K _=>eY (above n K) v v0/\∀c,c<n->K.get c=H0.get c)):bc P g args H n v0 H n:=by
 refine aj.okZ L ha hL hb hb (λ _ _=>rfl) ((h (pick H L) (ku hL) λ c hc=>eF hc).mono λ v K k ⟨h1,h2⟩=>⟨h1,λ b hm y hy=>⟨y,?_,.inl rfl⟩⟩);rw[h2 b (hL b hm),eF hm];exact hy
end
end Go.Abs
