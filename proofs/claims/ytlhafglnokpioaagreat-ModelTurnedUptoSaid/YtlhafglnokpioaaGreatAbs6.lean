/- A part. -/
import Derived.Test.YtlhafglnokpioaaGreatAbs5
noncomputable section
namespace Go.Abs
open List
section
mutual
def iK (n:Nat):AV->Prop
 |.ptr b _=>b<n
 |.sl b _ _ _=>b<n
 |.map b=>b<n
 |.jd b=>b<n
 |.agg cs _=>dJ n cs
 |.bo cs=>dJ n cs
 |.oO _ v=>iK n v
 |.fn _ a b=>dJ n a/\dJ n b
 |.ds cs _ _=>dJ n cs
 |.dp cs=>dJ n cs
 |_=>True
def dJ (n:Nat):List AV->Prop
 |[]=>True
 |v::r=>iK n v/\dJ n r
end
variable {n:Nat}
@[simp] theorem as0 (k:IntKind)(i:Int):iK n (.int k i):=by simp only[iK]
@[simp] theorem aoV (b:Bool):iK n (.bool b):=by simp only[iK]
@[simp] theorem asZ (l:List Nat):iK n (.str l):=by simp only[iK]
@[simp] theorem as1 (v:Value):iK n (.aV v):=by simp only[iK]
@[simp] theorem OA (b o:Nat):iK n (.ptr b o)=(b<n):=by simp only[iK]
@[simp] theorem ajS (b o l s:Nat):iK n (.sl b o l s)=(b<n):=by simp only[iK]
@[simp] theorem aeB (b:Nat):iK n (.map b)=(b<n):=by simp only[iK]
@[simp] theorem OC (cs:List AV)(k:Nat):iK n (.agg cs k)=dJ n cs:=by simp only[iK]
@[simp] theorem Oz (cs:List AV):iK n (.bo cs)=dJ n cs:=by simp only[iK]
@[simp] theorem OB (t:TypeId)(v:AV):iK n (.oO t v)=iK n v:=by simp only[iK]
@[simp] theorem ajT (cs:List AV)(k s:Nat):iK n (.ds cs k s)=dJ n cs:=by simp only[iK]
@[simp] theorem ajU (cs:List AV):iK n (.dp cs)=dJ n cs:=by simp only[iK]
@[simp] theorem WL:dJ n []:=by simp only[dJ]
@[simp] theorem iE (v:AV)(r:List AV):dJ n (v::r)=(iK n v/\dJ n r):=by simp only[dJ]
theorem dJ.mem:∀ {l:List AV},dJ n l->∀v∈l,iK n v
 |[],_,v,hv=>by simp at hv
 |a::r,h,v,hv=>by
  simp only[iE]at h
  rcases mem_cons.1 hv with rfl|hv
  ·exact h.1
  exact dJ.mem h.2 v hv
theorem dJ.of:∀ {l:List AV},(∀v∈l,iK n v)->dJ n l
 |[],_=>ah
 |a::r,h=>by simp only[iE];exact⟨h a ah,dJ.of λ v hv=>h v (by simp[hv])⟩
mutual
theorem Flat.jU:∀ {v:AV},Flat v->iK n v
 |.int _ _,_=>ah
 |.bool _,_=>ah
 |.str _,_=>ah
 |.aV _,_=>ah
 |.agg _ _,h=>by simp only[OC];exact fM.jU (by simpa only [Flat]using h)
 |.bo _,h=>by simp only[Oz];exact fM.jU (by simpa only [Flat]using h)
 |.oO _ _,h=>by simp only[OB];exact Flat.jU (by simpa only [Flat]using h)
 |.ptr _ _,h=>by simp only[Flat]at h
 |.sl _ _ _ _,h=>by simp only[Flat]at h
 |.map _,h=>by simp only[Flat]at h
 |.jd _,h=>by simp only[Flat]at h
 |.fn _ _ _,h=>by simp only[Flat]at h
 |.ds _ _ _,h=>by simp only[Flat]at h
 |.dp _,h=>by simp only[Flat]at h
theorem fM.jU:∀ {vs:List AV},fM vs->dJ n vs
 |[],_=>ah
 |_::_,h=>by simp only[fM]at h;simp only[iE];exact⟨Flat.jU h.1,fM.jU h.2⟩
end
def rm (φ:Ph)(n:Nat):Ph:=λ b=>if b<n then φ b else none
theorem jG {φ:Ph}{b:Nat}(h:b<n):rm φ n b=φ b:=by unfold rm;rw[aw h]
theorem bZ {φ:Ph}{b:Nat} {p}(h:rm φ n b=some p):b<n/\φ b=some p:=by
 unfold rm at h
 split at h
 ·rename_i hb;exact⟨hb,h⟩
 cases h
mutual
theorem VR.cut {φ:Ph}{D:Da}:∀ {v:AV}{x:Value},iK n v->VR φ D v x->VR (rm φ n) D v x
 |_,_,_,.int _ _=>.int _ _
 |_,_,_,.bool _=>.bool _
 |_,_,_,.str _ _ h=>.str _ _ h
 |_,_,r,.ptr _ _ _ _ _ h=>.ptr _ _ _ _ _ ((jG (by simpa using r)).trans h)
 |_,_,r,.sl _ _ _ _ _ _ _ _ _ h a b=>.sl _ _ _ _ _ _ _ _ _ ((jG (by simpa using r)).trans h) a b
 |_,_,r,.agg _ _ _ h e=>.agg _ _ _ (bW.cut (by simpa using r) h) e
 |_,_,r,.bo _ _ h=>.bo _ _ (bW.cut (by simpa using r) h)
 |_,_,r,.oO _ _ _ h=>.oO _ _ _ (VR.cut (by simpa using r) h)
 |_,_,r,.fn _ _ _ _ _ h k=>.fn _ _ _ _ _ (bW.cut (by simp only[iK]at r;exact r.1) h) (bW.cut (by simp only[iK]at r;exact r.2) k)
 |_,_,r,.map _ _ _ _ h=>.map _ _ _ _ ((jG (by simpa using r)).trans h)
 |_,_,r,.ds _ _ _ _ _ _ _ _ h a b c d=>.ds _ _ _ _ _ _ _ _ h a b (bW.cut (by simpa using r) c) d
 |_,_,_,.pW _ _ _=>.pW _ _ _
 |_,_,_,.tW _=>.tW _
 |_,_,r,.dp _ _ _ _ _ h a b=>.dp _ _ _ _ _ h a (bW.cut (by simpa using r) b)
 |_,_,r,.jd _ _ _ _ h=>.jd _ _ _ _ ((jG (by simp only[iK]at r;exact r)).trans h)
 |_,_,_,.aV _ h=>.aV _ h
theorem bW.cut {φ:Ph}{D:Da}:∀ {v:List AV}{x:List Value},dJ n v->bW φ D v x->bW (rm φ n) D v x
 |_,_,_,.nil=>.nil
 |_,_,r,.cons _ _ _ _ h k=>.cons _ _ _ _ (VR.cut (by simp only[iE]at r;exact r.1) h) (bW.cut (by simp only[iE]at r;exact r.2) k)
end
def wN (n:Nat):bG->Prop
 |.cells u z bs t=>∀i v,gZ u z bs t i=some v->iK n v
 |.map es _=>∀e∈es,iK n e.1/\iK n e.2.1
 |.jS=>True
 |_=>False
theorem bU {u:Nat}{l:List AV}(h:dJ n l):wN n (.cells u [] l .nil):=by
 intro i v hv;rw[nU]at hv
 split at hv
 ·exact h.mem v (mem_of_getElem? hv)
 cases hv
theorem xw.cut {φ:Ph}{D:Da}:∀ {es l},(∀e∈es,iK n e.1/\iK n e.2.1)->xw φ D es l->xw (rm φ n) D es l
 |_,_,_,.nil=>.nil
 |_,_,r,.cons _ _ _ _ _ _ _ h k t=>.cons _ _ _ _ _ _ _ (h.cut (r _ (mem_cons_self ..)).1) (k.cut (r _ (mem_cons_self ..)).2) (xw.cut (λ e he=>r e (by simp[he])) t)
theorem jc.cut {φ:Ph}{D:Da}{w:World} {p}{k:bG}(r:wN n k)(h:jc φ D w p k):jc (rm φ n) D w p k:=by
 cases k with
 |cells u z bs t =>
  obtain⟨c,e,fr,h1,h2,h3,h4,h5⟩:=h;exact⟨c,e,fr,h1,h2,h3,λ i v hv=>let ⟨x,a,b⟩:=h4 i v hv;⟨x,a,b.cut (r i v hv)⟩,h5⟩
 |map es clk=>obtain⟨BV,h1,h2⟩:=h;exact⟨BV,h1,h2.cut r⟩
 |jS=>exact h
 |loop=>exact ar r id
 |iter=>exact ar r id
end
def BLe (y' y:bG):Prop:=∀(φ:Ph)(D:Da)(w:World)(p:Nat×Nat×Nat),jc φ D w p y'->jc φ D w p y
theorem BLe.refl (y:bG):BLe y y:=λ _ _ _ _ h=>h
theorem OwnB.ble {y:bG}{l:List AV}{u:Nat}(h:OwnB y l)(hu:u=l.length):BLe y (.cells u [] l .nil):=by
 subst hu;obtain⟨u,z,bs,t,rfl,rfl,hg,hl⟩:=h;rintro φ D w p ⟨c,e,fr,h1,h2,h3,h4,h5,h6⟩;refine⟨c,e,fr,h1,h2,h3,λ i v hv=>h4 i v ?_,λ _ _=>rfl,h6⟩;rw[nU]at hv;rw[hg]
 split at hv
 ·exact hv
 cases hv
section
variable {P:Program}
theorem ak.okS {g:FuncId}{args:List AV}{S S' H H':Hp}{n n':Nat}{v0:AV}(h:ak P g args S n (λ v K k=>v=v0/\(∀b y,S'.get b=some y->∃y',K.get b=some y'/\BLe y' y)/\k<=n')) (hle:n<=n')
  (ha:dJ n args)(hs:∀b k,S.get b=some k->b<n/\wN n k)(hsub:∀b k,S.get b=some k->H.get b=some k)
  (h1:∀b,S.get b≠none∨(n<=b/\b<n')->H'.get b=S'.get b)(h2:∀b,S.get b=none->¬(n<=b/\b<n')->H'.get b=H.get b):bu P g args H n v0 H' n':=by
 refine⟨h.1,hle,λ φ D w xs hrel hvs hf R hR=>?_⟩
 have hne:∀b,S.get b≠none->H.get b≠none:=λ b hb=>by
  cases hx:S.get b with
  |none=>exact ar hx hb
  |some k=>rw[hsub b k hx];simp
 have hr0:Rel (rm φ n) D S.get w:=by
  refine⟨λ b k hb=>?_,λ b c p q hb hc hp hq=>?_,λ b p hb hp=>?_,hrel.eS⟩
  ·obtain⟨p,hp,hl,hk⟩:=hrel.blk b k (hsub b k hb);exact⟨p,(jG (hs b k hb).1).trans hp,hl,hk.cut (hs b k hb).2⟩
  ·exact hrel.inj b c p q (hne b hb) (hne c hc) (bZ hp).2 (bZ hq).2
  exact hrel.sep b p (hne b hb) (bZ hp).2
 refine h.2 (rm φ n) D w xs hr0 (hvs.cut ha) (λ b hb=>?_) R λ v K k φ' D' w' x ⟨hv,hK,hk⟩ e r hx=>?_
 ·unfold rm;rw[ai ae]
 subst hv
 have awc:∀b p,φ' b=some p->(match φ b with|some p=>some p|none=>φ' b)=some p:=by
  intro b p hp
  cases hb:φ b with
  |none=>exact hp
  |some q =>
   dsimp only
   by_cases hlt:b<n
   ·have:=e.phi b q ((jG hlt).trans hb);rw[hp]at this;exact this.symm
   have h3:=e.new b (by unfold rm;rw[ai hlt]) (by rw[hp];simp);rw[hf b h3.1 ae]at hb;cases hb
 generalize hφ2:(λ b=>match φ b with|some p=>some p|none=>φ' b:Ph)=φ2;have akY:∀b,φ2 b=match φ b with|some p=>some p|none=>φ' b:=λ b=>by rw[<-hφ2]
 have hup:∀b p,φ' b=some p->φ2 b=some p:=λ b p hp=>by rw[akY];exact awc b p hp
 have vQ:∀b p,φ b=some p->φ2 b=some p:=λ b p hp=>by rw[akY,hp]
 have hcase:∀b,H'.get b≠none->(∃y y',H'.get b=some y/\K.get b=some y'/\BLe y' y)∨(S.get b=none/\¬(n<=b/\b<n')/\H'.get b=H.get b):=by
  intro b hb
  by_cases hc:S.get b≠none∨(n<=b/\b<n')
  ·cases hy:H'.get b with
   |none=>exact ar hy hb
   |some y =>
    obtain⟨y',h3,h4⟩:=hK b y (by rw[<-h1 b hc,hy]);exact .inl ⟨y,y',rfl,h3,h4⟩
  have hc1:S.get b=none:=Decidable.byContradiction λ h=>hc (.inl h);have hc2:¬(n<=b/\b<n'):=λ h=>hc (.inr h);exact .inr ⟨hc1,hc2,h2 b hc1 hc2⟩
 have hold:∀b,S.get b=none->H'.get b=H.get b->H'.get b≠none->∃p,φ b=some p/\p.1<w.heap.size/\(∀y,H'.get b=some y->jc φ D w p y)/\(∀b0 p0,S.get b0≠none->φ b0=some p0->p0.1≠p.1):=by
  intro b hb1 hb2 hb3
  cases hy:H.get b with
  |none=>rw[hb2,hy]at hb3;exact ar rfl hb3
  |some y =>
   obtain⟨p,hp,hlt,hk⟩:=hrel.blk b y hy;refine⟨p,hp,hlt,λ y' hy'=>?_,λ b0 p0 hb0 hp0 heq=>?_⟩
   ·rw[hb2,hy]at hy';injection hy' with hy';subst hy';exact hk
   have:=hrel.inj b0 b p0 p (hne b0 hb0) (by rw[hy];simp) hp0 hp heq;subst this;exact hb0 hb1
 have hnew:∀b p,K.get b≠none->φ2 b=some p->φ' b=some p:=by
  intro b p hb hp
  cases hy:K.get b with
  |none=>exact ar hy hb
  |some y =>
   obtain⟨q,hq,_⟩:=r.blk b y hy;have:=hup b q hq;rw[hp]at this;rw[hq,this]
 have hs':∀ {b:Nat} {y:bG},K.get b=some y->K.get b≠none:=λ h=>by rw[h];simp
 refine hR φ2 D' w' x ⟨hle,vQ,λ b hb hb2=>?_,e.eS,e.size,λ c hc hk=>e.keep c hc λ b p hb hp=>hk b p (hne b hb) (bZ hp).2,λ b p hb hp=>?_,λ c hc=>?_,λ b hb=>?_,e.os,e.out⟩
  ⟨λ b y hy=>?_,λ b c p q hb hc hp hq heq=>?_,λ b p hb hp=>?_,r.eS⟩ (hx.mono hup λ _ _ h=>h)
 ·have h3:=e.new b (by
   cases hc:rm φ n b with
   |none=>rfl
   |some p=>rw[(bZ hc).2]at hb;cases hb) (by rw[akY,hb]at hb2;exact hb2)
  omega
 ·rcases hcase b hb with⟨_,_,_,h3,_⟩|⟨h3,_,h5⟩
  ·rcases e.live b p (hs' h3) (hnew b p (hs' h3) hp)with h4|⟨b0,p0,h5,h6,h7⟩
   ·exact .inl h4
   exact .inr ⟨b0,p0,hne b0 h5,(bZ h6).2,h7⟩
  obtain⟨p1,hp1,hlt,_⟩:=hold b h3 h5 hb;have:=vQ b p1 hp1;rw[hp]at this;injection this with this;subst this;exact .inr ⟨b,p,by rw[<-h5];exact hb,hp1,rfl⟩
 ·rcases e.kR c hc with h4|h4|⟨b0,p0,h5,h6,h7⟩
  ·exact .inl h4
  ·exact .inr (.inl h4)
  exact .inr (.inr ⟨b0,p0,hne b0 h5,(bZ h6).2,h7⟩)
 ·rcases hcase b hb with⟨_,_,_,h3,_⟩|⟨_,_,h5⟩
  ·rcases e.hid b (hs' h3)with h4|h4
   ·exact .inl (hne b h4)
   exact .inr ae
  exact .inl (by rw[<-h5];exact hb)
 ·have hb:H'.get b≠none:=by rw[hy];simp
  rcases hcase b hb with⟨y1,y',h2,h3,h4⟩|⟨h3,_,h5⟩
  ·rw[hy]at h2;injection h2 with h2;subst h2;obtain⟨p,hp,hl,hk⟩:=r.blk b y' h3;exact⟨p,hup b p hp,hl,(h4 _ _ _ _ hk).mono hup (λ _ _ h=>h) rfl⟩
  obtain⟨p,hp,hlt,hB,hx⟩:=hold b h3 h5 hb;exact⟨p,vQ b p hp,Nat.lt_of_lt_of_le hlt e.size,(hB y hy).mono vQ e.eS (e.keep p.1 hlt λ b0 p0 hb0 hp0=>hx b0 p0 hb0 (bZ hp0).2)⟩
 ·have mixed:∀b c p q,K.get b≠none->S.get c=none->H'.get c=H.get c->H'.get c≠none->φ2 b=some p->φ2 c=some q->p.1=q.1->b=c:=by
   intro b c p q hb h4 h5 hc hp hq heq;obtain⟨q1,hq1,hlt,_,hx⟩:=hold c h4 h5 hc;have:=vQ c q1 hq1;rw[hq]at this;injection this with this;subst this
   rcases e.live b p hb (hnew b p hb hp)with h6|⟨b0,p0,h5,h6,h7⟩
   ·omega
   exact ar (h7.trans heq) (hx b0 p0 h5 (bZ h6).2)
  rcases hcase b hb with⟨_,_,_,h3,_⟩|⟨h3,_,h5⟩
  ·rcases hcase c hc with⟨_,_,_,h4,_⟩|⟨h4,_,h6⟩
   ·exact r.inj b c p q (hs' h3) (hs' h4) (hnew b p (hs' h3) hp) (hnew c q (hs' h4) hq) heq
   exact mixed b c p q (hs' h3) h4 h6 hc hp hq heq
  rcases hcase c hc with⟨_,_,_,h4,_⟩|⟨h4,_,h6⟩
  ·exact(mixed c b q p (hs' h4) h3 h5 hb hq hp heq.symm).symm
  obtain⟨p1,hp1,_⟩:=hold b h3 h5 hb;obtain⟨q1,hq1,_⟩:=hold c h4 h6 hc;have e1:=vQ b p1 hp1;have e2:=vQ c q1 hq1;rw[hp]at e1;rw[hq]at e2;injection e1 with e1;injection e2 with e2;subst e1 e2;exact hrel.inj b c p q (by rw[<-h5];exact hb) (by rw[<-h6];exact hc) hp1 hq1 heq
 rcases hcase b hb with⟨_,_,_,h3,_⟩|⟨h3,_,h5⟩
 ·exact r.sep b p (hs' h3) (hnew b p (hs' h3) hp)
 obtain⟨p1,hp1,hlt,_,hx⟩:=hold b h3 h5 hb;have e1:=vQ b p1 hp1;rw[hp]at e1;injection e1 with e1;subst e1;have hD:=hrel.sep b p (by rw[<-h5];exact hb) hp1
 cases hd:D' p.1 with
 |none=>rfl
 |some y =>
  rcases e.kR p.1 (by rw[hd];simp)with h4|h4|⟨b0,p0,h6,h7,h8⟩
  ·exact ar hD h4
  ·omega
  exact ar h8 (hx b0 p0 h6 (bZ h7).2)
end
end Go.Abs
namespace Go.Abs
open List
section
variable {F:Fr}{H:Hp}{Hs:List Hp}{n:Nat}{m:List Dm}{Q:QA}{ce:Ce}
def FnI (v:Option AV)(vs:Option (List AV))(pd:Pd)(r:List (Option RO))(ce:Ce)(F:Fr)(H:Hp)(Hs:List Hp)(n:Nat)(m:List Dm)(Q:QA):Prop:=match v,vs with
 |some (.fn (.func f) first cap),some vs=>IW (ce.call f (first++(vs++cap)) H n) pd r ce F Hs m Q
 |some (.jd q),some vs=>IW (Gp ce q vs H n) pd r ce F Hs m Q
 |_,_=>False
@[simp] theorem aqN (f:FuncId)(first cap vs:List AV)(pd:Pd)(r:List (Option RO)):FnI (some (.fn (.func f) first cap)) (some vs) pd r ce F H Hs n m Q=IW (ce.call f (first++(vs++cap)) H n) pd r ce F Hs m Q:=propext Iff.rfl
theorem HS (rs:RS) (pd:Pd) (g:G) (as:List G) (next:List (Option RO)):Ev ((lK rs pd g as (fY next)).f ce F H Hs n m) Q=FnI (g.f (rs.f F)) (evs (rs.f F) as) pd next ce F H Hs n m Q:=by
 simp only[lK];unfold FnI
 cases g.f (rs.f F)with
 |none=>rfl
 |some v =>
  cases v with
  |fn x first cap =>
   cases x with
   |func f =>
    dsimp only
    cases evs (rs.f F) as with
    |none=>rfl
    |some vs =>
     dsimp only;unfold IW EvC
     cases ce.call f (first++(vs++cap)) H n<;>rfl
   |_=>rfl
  |jd q =>
   dsimp only
   cases evs (rs.f F) as with
   |none=>rfl
   |some vs =>
    dsimp only;unfold IW EvC
    cases Gp ce q vs H n<;>rfl
  |_=>rfl
@[simp] theorem azi (rs:List Nat)(pd:Pd)(g:G)(as:List G)(r:List (Option RO)):Ev ((fY (vI rs pd g as::r)).f ce F H Hs n m) Q=FnI (g.f ((cS rs).f F)) (evs ((cS rs).f F) as) pd r ce F H Hs n m Q:=HS (cS rs) pd g as r
def Yr (rs:List Nat)(g:G)(b:Bool)(pd:Pd)(h:G)(as:List G):Option RO:=some ⟨cS rs,some (g,b),pd,.call h as,none⟩
def GvI (v:Option AV)(b:Bool)(F0:Fr)(pd:Pd)(h:G)(as:List G)(r:List (Option RO))(ce:Ce)(F:Fr)(H:Hp)(Hs:List Hp)(n:Nat)(m:List Dm)(Q:QA):Prop:=fy v b (FnI (h.f F0) (evs F0 as) pd r ce F H Hs n m Q) (Ev ((fY r).f ce (pd.f (.bo []) F) H (H::Hs) n m) Q)
@[simp] theorem aw8 (rs:List Nat)(g:G)(b:Bool)(pd:Pd)(h:G)(as:List G)(r:List (Option RO)):Ev ((fY (Yr rs g b pd h as::r)).f ce F H Hs n m) Q=GvI (g.f ((cS rs).f F)) b ((cS rs).f F) pd h as r ce F H Hs n m Q:=by
 have h1:=qN (ce:=ce) (F:=F) (H:=H) (Hs:=Hs) (n:=n) (m:=m) (Q:=Q) (rs:=cS rs) (g:=g) (b:=b) (yes:=lK (cS rs) pd h as (fY r)) (no:=Uh pd (fY r));rw[HS]at h1;exact h1
@[simp] theorem ay6 (F0:Fr)(pd:Pd)(h:G)(as:List G)(r:List (Option RO)):GvI (some (.bool true)) true F0 pd h as r ce F H Hs n m Q=FnI (h.f F0) (evs F0 as) pd r ce F H Hs n m Q:=propext Iff.rfl
@[simp] theorem ay7 (F0:Fr)(pd:Pd)(h:G)(as:List G)(r:List (Option RO)):GvI (some (.bool false)) true F0 pd h as r ce F H Hs n m Q=Ev ((fY r).f ce (pd.f (.bo []) F) H (H::Hs) n m) Q:=propext Iff.rfl
@[simp] theorem awx (F0:Fr)(pd:Pd)(h:G)(as:List G)(r:List (Option RO)):GvI (some (.bool true)) false F0 pd h as r ce F H Hs n m Q=Ev ((fY r).f ce (pd.f (.bo []) F) H (H::Hs) n m) Q:=propext Iff.rfl
@[simp] theorem awy (F0:Fr)(pd:Pd)(h:G)(as:List G)(r:List (Option RO)):GvI (some (.bool false)) false F0 pd h as r ce F H Hs n m Q=FnI (h.f F0) (evs F0 as) pd r ce F H Hs n m Q:=propext Iff.rfl
end
end Go.Abs
namespace Go.Abs
open List
set_option maxRecDepth 100000
mutual
theorem e_.mono {h h':Hf}(hh:∀b k,h b=some k->h' b=some k):∀ {v v'},e_ h v v'->e_ h' v v'
 |_,_,.pure _ k=>.pure _ k
 |_,_,.nil _=>.nil _
 |_,_,.sl _ _ _ _ _ _ _ _ _ _ a b k=>.sl _ _ _ _ _ _ _ _ _ _ (hh _ _ a) b (bc.mono hh k)
 |_,_,.ptr _ _ _ _ _ _ _ _ _ a b k=>.ptr _ _ _ _ _ _ _ _ _ (hh _ _ a) b (bc.mono hh k)
 |_,_,.agg _ _ _ k=>.agg _ _ _ (bc.mono hh k)
 |_,_,.bo _ _ k=>.bo _ _ (bc.mono hh k)
theorem bc.mono {h h':Hf}(hh:∀b k,h b=some k->h' b=some k):∀ {v v'},bc h v v'->bc h' v v'
 |_,_,.nil=>.nil
 |_,_,.cons _ _ _ _ a b=>.cons _ _ _ _ (e_.mono hh a) (bc.mono hh b)
end
theorem bc.append {h:Hf}:∀ {a a' b b'},bc h a a'->bc h b b'->bc h (a++b) (a'++b')
 |_,_,_,_,.nil,k=>k
 |_,_,_,_,.cons _ _ _ _ x y,k=>.cons _ _ _ _ x (bc.append y k)
def dh (H:Hp)(n:Nat):Prop:=∀b,n<=b->H.get b=none
def above (n:Nat)(H:Hp):Hf:=λ b=>if n<=b then H.get b else none
theorem Iz {n n':Nat}{H H':Hp}(h:∀b k,n<=b->H.get b=some k->n'<=b/\H'.get b=some k):∀b k,above n H b=some k->above n' H' b=some k:=by
 intro b k hb;unfold above at hb ⊢
 split at hb
 ·rename_i hle;obtain⟨h1,h2⟩:=h b k hle hb;rw[aw h1,h2]
 cases hb
theorem CB {n:Nat}{H:Hp}:∀b k,above n H b=some k->H.get b=some k:=by
 intro b k hb;unfold above at hb
 split at hb
 ·exact hb
 cases hb
@[simp] theorem wr1:IntKind.i64.wrap 1=1:=by simp[IntKind.wrap,IntKind.signed,IntKind.bits]
@[simp] theorem wr2:IntKind.i64.wrap 2=2:=by simp[IntKind.wrap,IntKind.signed,IntKind.bits]
@[simp] theorem wr3:IntKind.i64.wrap 3=3:=by simp[IntKind.wrap,IntKind.signed,IntKind.bits]
@[simp] theorem nn2 (n:Nat):(n=n+1+1)=False:=by simp only[eq_iff_iff,iff_false];omega
@[simp] theorem nr2 (n:Nat):(n+1+1=n)=False:=by simp only[eq_iff_iff,iff_false];omega
@[simp] theorem nn3 (n:Nat):(n=n+1+1+1)=False:=by simp only[eq_iff_iff,iff_false];omega
@[simp] theorem nr3 (n:Nat):(n+1+1+1=n)=False:=by simp only[eq_iff_iff,iff_false];omega
@[simp] theorem nn4 (n:Nat):(n=n+1+1+1+1)=False:=by simp only[eq_iff_iff,iff_false];omega
@[simp] theorem nr4 (n:Nat):(n+1+1+1+1=n)=False:=by simp only[eq_iff_iff,iff_false];omega
@[simp] theorem nn5 (n:Nat):(n=n+1+1+1+1+1)=False:=by simp only[eq_iff_iff,iff_false];omega
@[simp] theorem nr5 (n:Nat):(n+1+1+1+1+1=n)=False:=by simp only[eq_iff_iff,iff_false];omega
@[simp] theorem nn6 (n:Nat):(n=n+1+1+1+1+1+1)=False:=by simp only[eq_iff_iff,iff_false];omega
@[simp] theorem nr6 (n:Nat):(n+1+1+1+1+1+1=n)=False:=by simp only[eq_iff_iff,iff_false];omega
@[simp] theorem nn7 (n:Nat):(n=n+1+1+1+1+1+1+1)=False:=by simp only[eq_iff_iff,iff_false];omega
@[simp] theorem nr7 (n:Nat):(n+1+1+1+1+1+1+1=n)=False:=by simp only[eq_iff_iff,iff_false];omega
@[simp] theorem nn8 (n:Nat):(n=n+1+1+1+1+1+1+1+1)=False:=by simp only[eq_iff_iff,iff_false];omega
@[simp] theorem nr8 (n:Nat):(n+1+1+1+1+1+1+1+1=n)=False:=by simp only[eq_iff_iff,iff_false];omega
@[simp] theorem nn9 (n:Nat):(n=n+1+1+1+1+1+1+1+1+1)=False:=by simp only[eq_iff_iff,iff_false];omega
@[simp] theorem nr9 (n:Nat):(n+1+1+1+1+1+1+1+1+1=n)=False:=by simp only[eq_iff_iff,iff_false];omega
@[simp] theorem nn10 (n:Nat):(n=n+1+1+1+1+1+1+1+1+1+1)=False:=by simp only[eq_iff_iff,iff_false];omega
@[simp] theorem nr10 (n:Nat):(n+1+1+1+1+1+1+1+1+1+1=n)=False:=by simp only[eq_iff_iff,iff_false];omega
@[simp] theorem nn11 (n:Nat):(n=n+1+1+1+1+1+1+1+1+1+1+1)=False:=by simp only[eq_iff_iff,iff_false];omega
@[simp] theorem nr11 (n:Nat):(n+1+1+1+1+1+1+1+1+1+1+1=n)=False:=by simp only[eq_iff_iff,iff_false];omega
@[simp] theorem nn12 (n:Nat):(n=n+1+1+1+1+1+1+1+1+1+1+1+1)=False:=by simp only[eq_iff_iff,iff_false];omega
@[simp] theorem nr12 (n:Nat):(n+1+1+1+1+1+1+1+1+1+1+1+1=n)=False:=by simp only[eq_iff_iff,iff_false];omega
theorem ky {b n:Nat}(h:b<n):(b=n)=False/\(b=n+1)=False/\(b=n+1+1)=False/\(b=n+1+1+1)=False/\(b=n+1+1+1+1)=False/\(b=n+1+1+1+1+1)=False/\(b=n+1+1+1+1+1+1)=False/\(b=n+1+1+1+1+1+1+1)=False/\(b=n+1+1+1+1+1+1+1+1)=False/\(b=n+1+1+1+1+1+1+1+1+1)=False/\(b=n+1+1+1+1+1+1+1+1+1+1)=False/\(b=n+1+1+1+1+1+1+1+1+1+1+1)=False/\(b=n+1+1+1+1+1+1+1+1+1+1+1+1)=False:=by
 refine⟨?_,?_,?_,?_,?_,?_,?_,?_,?_,?_,?_,?_,?_⟩<;>(simp only[eq_iff_iff,iff_false];omega)
theorem Vj {b n:Nat}(h:b<n):(n=b)=False/\(n+1=b)=False/\(n+1+1=b)=False/\(n+1+1+1=b)=False/\(n+1+1+1+1=b)=False/\(n+1+1+1+1+1=b)=False/\(n+1+1+1+1+1+1=b)=False/\(n+1+1+1+1+1+1+1=b)=False/\(n+1+1+1+1+1+1+1+1=b)=False/\(n+1+1+1+1+1+1+1+1+1=b)=False/\(n+1+1+1+1+1+1+1+1+1+1=b)=False/\(n+1+1+1+1+1+1+1+1+1+1+1=b)=False/\(n+1+1+1+1+1+1+1+1+1+1+1+1=b)=False:=by
 refine⟨?_,?_,?_,?_,?_,?_,?_,?_,?_,?_,?_,?_,?_⟩<;>(simp only[eq_iff_iff,iff_false];omega)
theorem dh.lt {H:Hp}{n b:Nat}{k:bG}(ht:dh H n)(h:H.get b=some k):b<n:=by
 rcases Nat.lt_or_ge b n with h' |h'
 ·exact h'
 rw[ht b h']at h;cases h
theorem dh.none {H:Hp}{n:Nat}(h:dh H n):H.get (n)=Option.none/\H.get (n+1)=Option.none/\H.get (n+1+1)=Option.none/\H.get (n+1+1+1)=Option.none/\H.get (n+1+1+1+1)=Option.none/\H.get (n+1+1+1+1+1)=Option.none/\H.get (n+1+1+1+1+1+1)=Option.none/\H.get (n+1+1+1+1+1+1+1)=Option.none/\H.get (n+1+1+1+1+1+1+1+1)=Option.none/\H.get (n+1+1+1+1+1+1+1+1+1)=Option.none/\H.get (n+1+1+1+1+1+1+1+1+1+1)=Option.none/\H.get (n+1+1+1+1+1+1+1+1+1+1+1)=Option.none/\H.get (n+1+1+1+1+1+1+1+1+1+1+1+1)=Option.none:=by
 refine⟨?_,?_,?_,?_,?_,?_,?_,?_,?_,?_,?_,?_,?_⟩<;>exact h _ ae
structure Cl where
 g:FuncId
 args:List AV
 H:Hp
 n:Nat
 v:AV
 H':Hp
 n':Nat
open Classical in
def ceL (l:List Cl):Ce:=Aj λ g args H n=>match l.find? (λ x=>decide (x.g=g/\x.args=args/\x.H=H/\x.n=n))with
 |some x=>.mk x.v x.H' x.n'
 |none=>.fail
theorem Kw {P:Program}{l:List Cl}(h:∀x∈l,bu P x.g x.args x.H x.n x.v x.H' x.n'):iI P (ceL l):=by
 refine D6 λ g args H n v H' n' e=>?_
 split at e
 ·rename_i x hx;have h1:=find?_some hx;simp at h1;obtain⟨rfl,rfl,rfl,rfl⟩:=h1;injection e with e1 e2 e3;subst e1 e2 e3;exact h x (mem_of_find?_eq_some hx)
 cases e
theorem zi {g:FuncId}{args:List AV}{H:Hp}{n:Nat}{v:AV}{H':Hp}{n':Nat}{l:List Cl}:(ceL (⟨g,args,H,n,v,H',n'⟩::l)).call g args H n=yC (.mk v H' n'):=by
 simp[ceL,Aj]
theorem al4 {g g':FuncId}{args args':List AV}{H H0:Hp}{n n0:Nat}{v:AV}{H':Hp}{n':Nat}{l:List Cl}(hg:g'≠g):(ceL (⟨g',args',H0,n0,v,H',n'⟩::l)).call g args H n=(ceL l).call g args H n:=by
 simp[ceL,Aj,find?_cons,hg]
section
variable {H:Hp}{n:Nat}
theorem Y7 {x:AV}{new:List AV}{sz gq k:Nat}(hx:aX H sz x=some new)(hk:sliceLen x=some k)(hs:0<sz)(hk0:0<k)(hbig:k<=big)(hby:gq<=4096)(h1:br new=true):
  jh sz gq n (.aV (.slice none 0 0)) x H=.new (.sl n 0 k sz) (.cells (k*sz) [] new .nil):=by
 unfold Go.Abs.jh;rw[hx,hk];dsimp only;unfold oR;simp only[lU,wT,tN,show ¬k=0 by omega,hs,hbig,hby,h1,decide_true,decide_false,Bool.and_self]
theorem al_ {x:AV}{new:List AV}{sz gq k b len u:Nat}{z bs:List AV}{t:Ov AV}(hb:H.get b=some (.cells u z bs t))(hu:len*sz<=u)(hx:aX H sz x=some new)(hk:sliceLen x=some k)(hs:0<sz)(hk0:0<k)(hbig:len+k<=big)(hby:gq<=4096)(h1:br new=true):
  jh sz gq n (.sl b 0 len sz) x H=.mv (.sl n 0 (len+k) sz) b (.cells ((len+k)*sz) z bs (Ov.bO new (len*sz) t)):=by
 unfold Go.Abs.jh;rw[hx,hk];dsimp only;unfold oR Ih;simp only[lU,wT,tN,show ¬k=0 by omega,hs,hbig,hby,h1,decide_true,decide_false,Bool.and_self,hb,hu,db]
theorem bD {b sz:Nat}{l:List AV}(hb:H.get b=some (.cells sz [] l .nil)):aX H sz (.sl b 0 1 sz)=some l:=by
 simp only[aX,lU,decide_true,cond_true,hb,Nat.one_mul,Ys]
end
theorem OwnB.app {u:Nat}{z bs l new:List AV}{t:Ov AV}(h:OwnB (.cells u z bs t) l) (hn:new≠[]):OwnB (.cells (u+new.length) z bs (Ov.bO new u t)) (l++new):=by
 obtain⟨u',z',bs',t',e,hu,hg,hi⟩:=h;injection e with e1 e2 e3 e4;subst e1 e2 e3 e4;refine⟨_,z,bs,_,rfl,by simp[hu],λ i=>?_,λ ht=>?_⟩
 ·rw[cD,Ov.bF]
  by_cases hlt:i<u+new.length
  ·rw[aw hlt]
   by_cases jm:u<=i/\i<u+new.length
   ·rw[aw jm,getElem?_append_right ae,<-hu,cX ae]
   rw[ai jm,getElem?_append_left ae];have:=hg i;rw[cD,aw ae]at this;exact this
  rw[ai hlt,getElem?_eq_none (by simp;omega)]
 exfalso
 cases new with
 |nil=>exact hn rfl
 |cons v r =>
  have:=Ov.bF (v::r) u t u;rw[ht,aw ah]at this;simp at this
def blk (v:AV):Option Nat:=match v with
 |.sl b _ _ _=>some b
 |_=>none
@[simp] theorem auM:blk (.aV (.slice none 0 0))=none:=rfl
@[simp] theorem axt (b o l s:Nat):blk (.sl b o l s)=some b:=rfl
theorem aC.frame {H H':Hp}{n n':Nat}{w:AV}{l:List AV}{len sz:Nat}(h:aC H n w l len sz)(hn:n<=n')(hk:∀c,blk w=some c->H'.get c=H.get c):aC H' n' w l len sz:=by
 obtain⟨h0,⟨rfl,h1⟩|⟨b,k,rfl,hb,hbk,ho⟩⟩:=h
 ·exact⟨h0,.inl ⟨rfl,h1⟩⟩
 exact⟨h0,.inr ⟨b,k,rfl,ae,(hk b rfl).trans hbk,ho⟩⟩
theorem aC.zr {H:Hp}{n:Nat}{ce:Ce}{Hs:List Hp}{F:Fr}{m:List Dm}{Q:QA}{v x:AV}{l new:List AV}{len sz gq k:Nat}{pd:Pd}{r:List (Option RO)}(h:aC H n v l len sz)(hx:aX H sz x=some new)(hk:sliceLen x=some k)(hn:new.length=k*sz)
  (hs:0<sz)(hk0:0<k)(hbig:len+k<=big)(hby:gq<=4096)(h1:br new=true)
  (hgo:∀H',aC H' (n+1) (.sl n 0 (len+k) sz) (l++new) (len+k) sz->(∀c,c≠n->v≠.sl c 0 len sz->H'.get c=H.get c)->Ev ((fY r).f ce (pd.f (.sl n 0 (len+k) sz) F) H' (H'::Hs) (n+1) m) Q):Vf (Go.Abs.jh sz gq n v x H) pd r ce F H Hs n m Q:=by
 obtain⟨H',e,h1,h2⟩:=h.jh hx hk hn hs hk0 hbig hby h1;unfold Vf;rw[e];exact hgo H' h1 λ c hc=>h2 c hc
theorem aC.df {H:Hp}{n:Nat}{w:AV}{l:List AV}{len sz c:Nat}(h:aC H n w l len sz)(hc:blk w=some c):c<n:=by
 obtain⟨_,⟨rfl,_⟩|⟨b,k,rfl,hb,_⟩⟩:=h
 ·cases hc
 simp at hc;omega
theorem aC.fS {H:Hp}{n:Nat}{v:AV}{l:List AV}{len sz:Nat}(h:aC H n v l len sz):v.one=true:=by
 obtain⟨_,⟨rfl,_⟩|⟨b,k,rfl,_⟩⟩:=h<;>simp
theorem OwnB.st {u:Nat}{z bs:List AV}{t:Ov AV}{l:List AV}(h:OwnB (.cells u z bs t) l){i:Nat}(hi:i<l.length) (v:AV):OwnB (mN u z bs t [v] i) (l.set i v):=by
 obtain⟨u',z',bs',t',e,hu,hg,hl⟩:=h;injection e with e1 e2 e3 e4;subst e1 e2 e3 e4
 have key:∀t2,(∀j,t2.get j=if i<=j/\j<i+1 then [v][j - i]? else t.get j)->t2≠.nil->OwnB (.cells u z bs t2) (l.set i v):=by
  intro t2 h2 hne;refine⟨u,z,bs,t2,rfl,by simp[hu],λ j=>?_,λ e=>ar e hne⟩;have hj:=hg j;rw[cD]at hj ⊢;rw[getElem?_set,h2]
  by_cases e:i=j
  ·subst e;rw[aw ae,aw ae,aw rfl,aw hi];simp
  rw[ai e]
  by_cases hju:j<u
  ·rw[aw hju]at hj ⊢;rw[ai ae];exact hj
  rw[ai hju]at hj ⊢;exact hj
 have hput:∀t:Ov AV,(Ov.bO [v] i t)≠.nil:=by
  intro t e;have:=Ov.bF [v] i t i;rw[e,aw ah]at this;simp at this
 have yM:OwnB (.cells u z bs (Ov.bO [v] i t)) (l.set i v):=key _ (λ j=>Ov.bF [v] i t j) (hput t);unfold mN
 split
 ·split
  ·split
   ·split
    ·rename_i bs' hp;have hb:=hl rfl rfl;obtain⟨p1,_,p3⟩:=jw hp
     have:bs'=l.set i v:=by
      apply ext_getElem?;intro j;rw[p3,getElem?_set];have hj:=hg j;rw[nU]at hj
      by_cases e:i=j
      ·subst e;rw[aw ah,aw rfl,aw hi];simp
      rw[ai (by simp;omega),ai e];rw[<-hj]
      split
      ·rfl
      rw[getElem?_eq_none ae]
     rw[this];exact .list (by simp[hu])
    exact yM
   exact yM
  exact yM
 ·exact yM
 exact yM
theorem nJ {H:Hp}{b i:Nat}{k:bG}{L:List AV}(hb:H.get b=some k)(ho:OwnB k L)(hi:i<L.length):cE (.ptr b i) H=.val L[i]:=by
 obtain⟨u,z,bs,t,rfl,h3,h4,_⟩:=ho;have:=h4 i;rw[cX hi]at this;simp[hb,this]
theorem dm (n:Nat):(jx n []=true)=True:=by simp[jx]
theorem cN (n:Nat)(h:Hp)(l:List Hp):(jx n (h::l)=true)=(h.get n=none/\jx n l=true):=by
 cases e:h.get n<;>simp[jx,e]
end Go.Abs
namespace Go.Abs
open List
section
variable {P:Program}
end
end Go.Abs
namespace Go.Abs
open List
section
variable {P:Program}
def pick (H:Hp):List Nat->Hp
 |[]=>.nil
 |b::r=>(pick H r).put b (H.get b)
theorem eP (H:Hp)(L:List Nat)(c:Nat):(pick H L).get c=if c∈L then H.get c else none:=by
 induction L with
 |nil=>simp[pick]
 |cons b r ih =>
  simp only[pick,Tr.get_put,ih,mem_cons]
  by_cases h:c=b
  ·subst h;simp
  simp[h]
theorem fH {H:Hp}{L:List Nat}{c:Nat}(h:c∈L):(pick H L).get c=H.get c:=by rw[eP,aw h]
theorem lx {H:Hp}{L:List Nat}{n:Nat}(h:∀b∈L,b<n):dh (pick H L) n:=by
 intro b hb;rw[eP,ai];intro hm;have:=h b hm;omega
theorem ak.okZ {g:FuncId}{args:List AV}{H H1:Hp}{n:Nat}{v0:AV}(L:List Nat) (ha:dJ n args) (hL:∀b∈L,b<n) (hb:∀b∈L,∀k,H.get b=some k->wN n k) (hb1:∀b∈L,∀k,H1.get b=some k->wN n k)
  (h2:∀b,b∉L->H1.get b=H.get b)
  (h:ak P g args (pick H L) n (λ v K _=>e_ (above n K) v v0/\∀b∈L,∀y,H1.get b=some y->∃y',K.get b=some y'/\BZ (above n K) y' y)):bu P g args H n v0 H1 n:=by
 refine⟨h.1,aK _,λ φ D w xs hrel hvs hf R hR=>?_⟩
 have hS:∀b,(pick H L).get b≠none->b∈L/\H.get b≠none:=λ b hb=>by
  rw[eP]at hb
  by_cases hm:b∈L
  ·rw[aw hm]at hb;exact⟨hm,hb⟩
  rw[ai hm]at hb;exact ar rfl hb
 have hr0:Rel (rm φ n) D (pick H L).get w:=by
  refine⟨λ b k hk=>?_,λ b c p q hb hc hp hq=>?_,λ b p hb hp=>?_,hrel.eS⟩
  ·obtain⟨hm,_⟩:=hS b (by rw[hk];simp);rw[fH hm]at hk;obtain⟨p,hp,hl,hbk⟩:=hrel.blk b k hk;exact⟨p,(jG (hL b hm)).trans hp,hl,hbk.cut (hb b hm k hk)⟩
  ·exact hrel.inj b c p q (hS b hb).2 (hS c hc).2 (bZ hp).2 (bZ hq).2
  exact hrel.sep b p (hS b hb).2 (bZ hp).2
 refine h.2 (rm φ n) D w xs hr0 (hvs.cut ha) (λ b hb=>?_) R λ v K k φ' D' w' x ⟨hz,hK⟩ e r hx=>?_
 ·unfold rm;rw[ai ae]
 have hto:∀b p,b<n->φ' b=some p->φ b=some p:=by
  intro b p hlt hp
  cases hq:φ b with
  |none =>
   have:=e.new b ((jG hlt).trans hq) (by rw[hp];simp);omega
  |some q =>
   have:=e.phi b q ((jG hlt).trans hq);rw[hp]at this;exact this.symm
 have Hz:∀b p,b<n->φ b=some p->φ' b=some p:=λ b p hlt hp=>e.phi b p ((jG hlt).trans hp);have hs:Rel φ' D' (above n K) w':=r.sub CB
 have hab:∀b,above n K b≠none->n<=b/\K.get b≠none:=λ b hb=>by
  unfold above at hb
  by_cases hm:n<=b
  ·rw[aw hm]at hb;exact⟨hm,hb⟩
  rw[ai hm]at hb;exact ar rfl hb
 have jm:∀b,b∈L->H1.get b≠none->K.get b≠none:=λ b hm hb=>by
  cases hy:H1.get b with
  |none=>exact ar hy hb
  |some y=>obtain⟨y',h3,_⟩:=hK b hm y hy;rw[h3];simp
 have hold:∀b p,b∉L->H1.get b≠none->φ b=some p->p.1<w.heap.size/\(∀b0 p0,(pick H L).get b0≠none->φ b0=some p0->p0.1≠p.1):=by
  intro b p hm hb hp;rw[h2 b hm]at hb
  cases hy:H.get b with
  |none=>exact ar hy hb
  |some y =>
   refine⟨(hrel.block hy hp).1,λ b0 p0 h0 hp0 heq=>?_⟩;have:=hrel.inj b0 b p0 p (hS b0 h0).2 hb hp0 hp heq;subst this;exact hm (hS b0 h0).1
 have hlv:∀b p,K.get b≠none->φ' b=some p->w.heap.size<=p.1∨∃b0 p0,(pick H L).get b0≠none/\φ b0=some p0/\p0.1=p.1:=by
  intro b p hb hp
  rcases e.live b p hb hp with h4|⟨b0,p0,h5,h6,h7⟩
  ·exact .inl h4
  exact .inr ⟨b0,p0,h5,(bZ h6).2,h7⟩
 refine hR φ (Go.Abs.shut φ' D' (above n K) w') w' x ⟨aK _,λ _ _ h=>h,λ _ a b=>ar a b,λ c x hc=>fj c x (e.eS c x hc),e.size,λ c hc hk=>e.keep c hc λ b p hb hp=>hk b p (hS b hb).2 (bZ hp).2,λ b p hb hp=>?_,λ c hc=>?_,λ b hb=>?_,e.os,e.out⟩
  ⟨λ b y hy=>?_,λ b c p q hb hc hp hq heq=>?_,λ b p hb hp=>?_,mQ r.eS⟩ ((hz.vr hs hx).mono (λ b p hb=>by simp[mJ]at hb) (λ _ _ h=>h))
 ·by_cases hm:b∈L
  ·rcases hlv b p (jm b hm hb) (Hz b p (hL b hm) hp)with h4|⟨b0,p0,h5,h6,h7⟩
   ·exact .inl h4
   exact .inr ⟨b0,p0,(hS b0 h5).2,h6,h7⟩
  exact .inr ⟨b,p,by rw[<-h2 b hm];exact hb,hp,rfl⟩
 ·rcases xQ hc with h3|⟨b,p,h3,h4,h5⟩
  ·rcases e.kR c h3 with h4|h4|⟨b0,p0,h5,h6,h7⟩
   ·exact .inl h4
   ·exact .inr (.inl h4)
   exact .inr (.inr ⟨b0,p0,(hS b0 h5).2,(bZ h6).2,h7⟩)
  rcases hlv b p (hab b h3).2 h4 with h6|⟨b0,p0,h6,h7,h8⟩
  ·exact .inr (.inl ae)
  exact .inr (.inr ⟨b0,p0,(hS b0 h6).2,h7,h8.trans h5⟩)
 ·by_cases hm:b∈L
  ·rcases e.hid b (jm b hm hb)with h4|h4
   ·exact .inl (hS b h4).2
   have:=hL b hm;omega
  exact .inl (by rw[<-h2 b hm];exact hb)
 ·by_cases hm:b∈L
  ·obtain⟨y',h3,h4⟩:=hK b hm y hy;obtain⟨p,hp,hl,hk⟩:=r.blk b y' h3;exact⟨p,hto b p (hL b hm) hp,hl,((h4.agd hs hk).cut (hb1 b hm y hy)).mono (λ c q hc=>hto c q (bZ hc).1 (bZ hc).2) (λ _ _ h=>h) rfl⟩
  rw[h2 b hm]at hy;obtain⟨p,hp,hl,hk⟩:=hrel.blk b y hy;have hh:=hold b p hm (by rw[h2 b hm,hy];simp) hp;exact⟨p,hp,Nat.lt_of_lt_of_le hl e.size,hk.mono (λ _ _ h=>h) (λ c x hc=>fj c x (e.eS c x hc)) (e.keep p.1 hl λ b0 p0 hb0 hp0=>hh.2 b0 p0 hb0 (bZ hp0).2)⟩
 ·have mixed:∀b c p q,b∈L->c∉L->H1.get b≠none->H1.get c≠none->φ b=some p->φ c=some q->p.1=q.1->False:=by
   intro b c p q hb hc hb1 hc1 hp hq heq;have hh:=hold c q hc hc1 hq
   rcases hlv b p (jm b hb hb1) (Hz b p (hL b hb) hp)with h4|⟨b0,p0,h5,h6,h7⟩
   ·omega
   exact hh.2 b0 p0 h5 h6 (h7.trans heq)
  by_cases hm:b∈L
  ·by_cases hm2:c∈L
   ·exact r.inj b c p q (jm b hm hb) (jm c hm2 hc) (Hz b p (hL b hm) hp) (Hz c q (hL c hm2) hq) heq
   exact(mixed b c p q hm hm2 hb hc hp hq heq).elim
  by_cases hm2:c∈L
  ·exact(mixed c b q p hm2 hm hc hb hq hp heq.symm).elim
  exact hrel.inj b c p q (by rw[<-h2 b hm];exact hb) (by rw[<-h2 c hm2];exact hc) hp hq heq
 by_cases hm:b∈L
 ·have hp':=Hz b p (hL b hm) hp;refine qw (r.sep b p (jm b hm hb) hp') λ b' p' h3 h4 h5=>?_;have:=r.inj b' b p' p (hab b' h3).2 (jm b hm hb) h4 hp' h5;have h6:=(hab b' h3).1;have h7:=hL b hm;omega
 have hh:=hold b p hm hb hp;refine qw ?_ λ b' p' h3 h4 h5=>?_
 ·cases hd:D' p.1 with
  |none=>rfl
  |some y =>
   have hD:=hrel.sep b p (by rw[<-h2 b hm];exact hb) hp
   rcases e.kR p.1 (by rw[hd];simp)with h4|h4|⟨b0,p0,h6,h7,h8⟩
   ·exact ar hD h4
   ·omega
   exact ar h8 (hh.2 b0 p0 h6 (bZ h7).2)
 rcases hlv b' p' (hab b' h3).2 h4 with h6|⟨b0,p0,h6,h7,h8⟩
 ·omega
 exact hh.2 b0 p0 h6 h7 (h8.trans h5)
theorem ak.okB {g:FuncId}{args:List AV}{H:Hp}{n p:Nat}{v0:AV}{y1:bG}(L:List Nat)(hp:p∈L)(ha:dJ n args)(hL:∀b∈L,b<n)(hb:∀b∈L,∀k,H.get b=some k->wN n k)(hy:wN n y1)
  (h:∀H0:Hp,dh H0 n->(∀c∈L,H0.get c=H.get c)->ak P g args H0 n (λ v K _=>e_ (above n K) v v0/\(∀c,c<n->c≠p->K.get c=H0.get c)/\∃y',K.get p=some y'/\BZ (above n K) y' y1)):bu P g args H n v0 (H.put p (some y1)) n:=by
 refine ak.okZ L ha hL hb (λ b hm k hk=>?_) (λ b hm=>?_) ((h (pick H L) (lx hL) λ c hc=>fH hc).mono λ v K k ⟨h1,h2,y',h3,h4⟩=>⟨h1,λ b hm y hy=>?_⟩)
 ·rw[Tr.get_put]at hk
  split at hk
  ·injection hk with hk;subst hk;exact hy
  exact hb b hm k hk
 ·rw[Tr.get_put,ai];rintro rfl;exact hm hp
 rw[Tr.get_put]at hy
 split at hy
 ·rename_i e;subst e;injection hy with hy;subst hy;exact⟨y',h3,h4⟩
 rename_i e;refine⟨y,?_,.inl rfl⟩;rw[h2 b (hL b hm) e,fH hm];exact hy
theorem ak.vL {g:FuncId}{args:List AV}{H:Hp}{n:Nat}{v0:AV}(L:List Nat)(ha:dJ n args)(hL:∀b∈L,b<n)(hb:∀b∈L,∀k,H.get b=some k->wN n k)
  (h:∀H0:Hp,dh H0 n->(∀c∈L,H0.get c=H.get c)->ak P g args H0 n (λ v K _=>e_ (above n K) v v0/\∀c,c<n->K.get c=H0.get c)):bu P g args H n v0 H n:=by
 refine ak.okZ L ha hL hb hb (λ _ _=>rfl) ((h (pick H L) (lx hL) λ c hc=>fH hc).mono λ v K k ⟨h1,h2⟩=>⟨h1,λ b hm y hy=>⟨y,?_,.inl rfl⟩⟩);rw[h2 b (hL b hm),fH hm];exact hy
end
end Go.Abs
