/- A part. -/
import Derived.Test.YtbdgioomddkglaaGreatAbs5
noncomputable section
namespace Go.Abs
open List
section
mutual
def RLt (n:Nat):AV->Prop
 | .ptr b _=>b<n
 | .sl b _ _ _=>b<n
 | .map b=>b<n
 | .yld b=>b<n
 | .agg cs _=>RLtL n cs
 | .tup cs=>RLtL n cs
 | .ifc _ v=>RLt n v
 | .fn _ a b=>RLtL n a/\RLtL n b
 | .ds cs _ _=>RLtL n cs
 | .dp cs=>RLtL n cs
 | _=>True
def RLtL (n:Nat):List AV->Prop
 | []=>True
 | v::r=>RLt n v/\RLtL n r
end
variable {n:Nat}
@[simp] theorem rLt_int (k:IntKind)(i:Int):RLt n (.int k i):=by simp only[RLt]
@[simp] theorem rLt_bool (b:Bool):RLt n (.bool b):=by simp only[RLt]
@[simp] theorem rLt_str (l:List Nat):RLt n (.str l):=by simp only[RLt]
@[simp] theorem rLt_cst (v:Value):RLt n (.cst v):=by simp only[RLt]
@[simp] theorem rLt_ptr (b o:Nat):RLt n (.ptr b o)=(b<n):=by simp only[RLt]
@[simp] theorem rLt_sl (b o l s:Nat):RLt n (.sl b o l s)=(b<n):=by simp only[RLt]
@[simp] theorem rLt_map (b:Nat):RLt n (.map b)=(b<n):=by simp only[RLt]
@[simp] theorem rLt_agg (cs:List AV)(k:Nat):RLt n (.agg cs k)=RLtL n cs:=by simp only[RLt]
@[simp] theorem rLt_tup (cs:List AV):RLt n (.tup cs)=RLtL n cs:=by simp only[RLt]
@[simp] theorem rLt_ifc (t:TypeId)(v:AV):RLt n (.ifc t v)=RLt n v:=by simp only[RLt]
@[simp] theorem rLt_ds (cs:List AV)(k s:Nat):RLt n (.ds cs k s)=RLtL n cs:=by simp only[RLt]
@[simp] theorem rLt_dp (cs:List AV):RLt n (.dp cs)=RLtL n cs:=by simp only[RLt]
@[simp] theorem rLtL_nil:RLtL n []:=by simp only[RLtL]
@[simp] theorem rLtL_cons (v:AV)(r:List AV):RLtL n (v::r)=(RLt n v/\RLtL n r):=by simp only[RLtL]
theorem RLtL.mem:∀ {l:List AV},RLtL n l->∀v∈l,RLt n v
 | [],_,v,hv=>by simp at hv
 | a::r,h,v,hv=>by
  simp only[rLtL_cons]at h
  rcases mem_cons.1 hv with rfl | hv
  ·exact h.1
  exact RLtL.mem h.2 v hv
theorem RLtL.of:∀ {l:List AV},(∀v∈l,RLt n v)->RLtL n l
 | [],_=>by simp
 | a::r,h=>by simp only[rLtL_cons];exact⟨h a (by simp),RLtL.of λ v hv=>h v (by simp[hv])⟩
mutual
theorem Flat.rlt:∀ {v:AV},Flat v->RLt n v
 | .int _ _,_=>by simp
 | .bool _,_=>by simp
 | .str _,_=>by simp
 | .cst _,_=>by simp
 | .agg _ _,h=>by simp only[rLt_agg];exact FlatL.rlt (by simpa only [Flat]using h)
 | .tup _,h=>by simp only[rLt_tup];exact FlatL.rlt (by simpa only [Flat]using h)
 | .ifc _ _,h=>by simp only[rLt_ifc];exact Flat.rlt (by simpa only [Flat]using h)
 | .ptr _ _,h=>by simp only[Flat]at h
 | .sl _ _ _ _,h=>by simp only[Flat]at h
 | .map _,h=>by simp only[Flat]at h
 | .yld _,h=>by simp only[Flat]at h
 | .fn _ _ _,h=>by simp only[Flat]at h
 | .ds _ _ _,h=>by simp only[Flat]at h
 | .dp _,h=>by simp only[Flat]at h
theorem FlatL.rlt:∀ {vs:List AV},FlatL vs->RLtL n vs
 | [],_=>by simp
 | _::_,h=>by simp only[FlatL]at h;simp only[rLtL_cons];exact⟨Flat.rlt h.1,FlatL.rlt h.2⟩
end
def cutP (φ:Ph)(n:Nat):Ph:=λ b=>if b<n then φ b else none
theorem cutP_lt {φ:Ph}{b:Nat}(h:b<n):cutP φ n b=φ b:=by unfold cutP;rw[if_pos h]
theorem cutP_some {φ:Ph}{b:Nat} {p}(h:cutP φ n b=some p):b<n/\φ b=some p:=by
 unfold cutP at h
 split at h
 ·rename_i hb;exact⟨hb,h⟩
 cases h
mutual
theorem VR.cut {φ:Ph}{D:Da}:∀ {v:AV}{x:Value},RLt n v->VR φ D v x->VR (cutP φ n) D v x
 | _,_,_,.int _ _=>.int _ _
 | _,_,_,.bool _=>.bool _
 | _,_,_,.str _ _ h=>.str _ _ h
 | _,_,r,.ptr _ _ _ _ _ h=>.ptr _ _ _ _ _ ((cutP_lt (by simpa using r)).trans h)
 | _,_,r,.sl _ _ _ _ _ _ _ _ _ h a b=>.sl _ _ _ _ _ _ _ _ _ ((cutP_lt (by simpa using r)).trans h) a b
 | _,_,r,.agg _ _ _ h e=>.agg _ _ _ (VRs.cut (by simpa using r) h) e
 | _,_,r,.tup _ _ h=>.tup _ _ (VRs.cut (by simpa using r) h)
 | _,_,r,.ifc _ _ _ h=>.ifc _ _ _ (VR.cut (by simpa using r) h)
 | _,_,r,.fn _ _ _ _ _ h k=>.fn _ _ _ _ _ (VRs.cut (by simp only[RLt]at r;exact r.1) h) (VRs.cut (by simp only[RLt]at r;exact r.2) k)
 | _,_,r,.map _ _ _ _ h=>.map _ _ _ _ ((cutP_lt (by simpa using r)).trans h)
 | _,_,r,.ds _ _ _ _ _ _ _ _ h a b c d=>.ds _ _ _ _ _ _ _ _ h a b (VRs.cut (by simpa using r) c) d
 | _,_,_,.ds0 _ _ _=>.ds0 _ _ _
 | _,_,_,.dsn _=>.dsn _
 | _,_,r,.dp _ _ _ _ _ h a b=>.dp _ _ _ _ _ h a (VRs.cut (by simpa using r) b)
 | _,_,r,.yld _ _ _ _ h=>.yld _ _ _ _ ((cutP_lt (by simp only[RLt]at r;exact r)).trans h)
 | _,_,_,.cst _ h=>.cst _ h
theorem VRs.cut {φ:Ph}{D:Da}:∀ {v:List AV}{x:List Value},RLtL n v->VRs φ D v x->VRs (cutP φ n) D v x
 | _,_,_,.nil=>.nil
 | _,_,r,.cons _ _ _ _ h k=>.cons _ _ _ _ (VR.cut (by simp only[rLtL_cons]at r;exact r.1) h) (VRs.cut (by simp only[rLtL_cons]at r;exact r.2) k)
end
def RLtB (n:Nat):ABlk->Prop
 | .cells u z bs t=>∀i v,getc u z bs t i=some v->RLt n v
 | .map es _=>∀e∈es,RLt n e.1/\RLt n e.2.1
 | .defd=>True
 | _=>False
theorem rLtB_list {u:Nat}{l:List AV}(h:RLtL n l):RLtB n (.cells u [] l .nil):=by
 intro i v hv;rw[getc_list']at hv
 split at hv
 ·exact h.mem v (mem_of_getElem? hv)
 cases hv
theorem EsR.cut {φ:Ph}{D:Da}:∀ {es l},(∀e∈es,RLt n e.1/\RLt n e.2.1)->EsR φ D es l->EsR (cutP φ n) D es l
 | _,_,_,.nil=>.nil
 | _,_,r,.cons _ _ _ _ _ _ _ h k t=>.cons _ _ _ _ _ _ _ (h.cut (r _ (mem_cons_self ..)).1) (k.cut (r _ (mem_cons_self ..)).2) (EsR.cut (λ e he=>r e (by simp[he])) t)
theorem BlkR.cut {φ:Ph}{D:Da}{w:World} {p}{k:ABlk}(r:RLtB n k)(h:BlkR φ D w p k):BlkR (cutP φ n) D w p k:=by
 cases k with
 | cells u z bs t =>
  obtain⟨c,e,fr,h1,h2,h3,h4,h5⟩:=h;exact⟨c,e,fr,h1,h2,h3,λ i v hv=>let ⟨x,a,b⟩:=h4 i v hv;⟨x,a,b.cut (r i v hv)⟩,h5⟩
 | map es clk=>obtain⟨ces,h1,h2⟩:=h;exact⟨ces,h1,h2.cut r⟩
 | defd=>exact h
 | loop=>exact absurd r id
 | iter=>exact absurd r id
end
def BLe (y' y:ABlk):Prop:=∀(φ:Ph)(D:Da)(w:World)(p:Nat×Nat×Nat),BlkR φ D w p y'->BlkR φ D w p y
theorem BLe.refl (y:ABlk):BLe y y:=λ _ _ _ _ h=>h
theorem OwnB.ble {y:ABlk}{l:List AV}{u:Nat}(h:OwnB y l)(hu:u=l.length):BLe y (.cells u [] l .nil):=by
 subst hu;obtain⟨u,z,bs,t,rfl,rfl,hg,hl⟩:=h;rintro φ D w p ⟨c,e,fr,h1,h2,h3,h4,h5,h6⟩;refine⟨c,e,fr,h1,h2,h3,λ i v hv=>h4 i v ?_,λ _ _=>rfl,h6⟩;rw[getc_list']at hv;rw[hg]
 split at hv
 ·exact hv
 cases hv
section
variable {P:Program}
theorem CallR.okS {g:FuncId}{args:List AV}{S S' H H':Hp}{n n':Nat}{v0:AV}(h:CallR P g args S n (λ v K k=>v=v0/\(∀b y,S'.get b=some y->∃y',K.get b=some y'/\BLe y' y)/\k<=n')) (hle:n<=n')
  (ha:RLtL n args)(hs:∀b k,S.get b=some k->b<n/\RLtB n k)(hsub:∀b k,S.get b=some k->H.get b=some k)
  (h1:∀b,S.get b≠none∨(n<=b/\b<n')->H'.get b=S'.get b)(h2:∀b,S.get b=none->¬(n<=b/\b<n')->H'.get b=H.get b):CallOk P g args H n v0 H' n':=by
 refine⟨h.1,hle,λ φ D w xs hrel hvs hf R hR=>?_⟩
 have hne:∀b,S.get b≠none->H.get b≠none:=λ b hb=>by
  cases hx:S.get b with
  | none=>exact absurd hx hb
  | some k=>rw[hsub b k hx];simp
 have hr0:Rel (cutP φ n) D S.get w:=by
  refine⟨λ b k hb=>?_,λ b c p q hb hc hp hq=>?_,λ b p hb hp=>?_,hrel.dat⟩
  ·obtain⟨p,hp,hl,hk⟩:=hrel.blk b k (hsub b k hb);exact⟨p,(cutP_lt (hs b k hb).1).trans hp,hl,hk.cut (hs b k hb).2⟩
  ·exact hrel.inj b c p q (hne b hb) (hne c hc) (cutP_some hp).2 (cutP_some hq).2
  exact hrel.sep b p (hne b hb) (cutP_some hp).2
 refine h.2 (cutP φ n) D w xs hr0 (hvs.cut ha) (λ b hb=>?_) R λ v K k φ' D' w' x ⟨hv,hK,hk⟩ e r hx=>?_
 ·unfold cutP;rw[if_neg (by omega)]
 subst hv
 have hphi:∀b p,φ' b=some p->(match φ b with | some p=>some p | none=>φ' b)=some p:=by
  intro b p hp
  cases hb:φ b with
  | none=>exact hp
  | some q =>
   dsimp only
   by_cases hlt:b<n
   ·have:=e.phi b q ((cutP_lt hlt).trans hb);rw[hp]at this;exact this.symm
   have h3:=e.new b (by unfold cutP;rw[if_neg hlt]) (by rw[hp];simp);rw[hf b h3.1 (by omega)]at hb;cases hb
 generalize hφ2:(λ b=>match φ b with | some p=>some p | none=>φ' b:Ph)=φ2;have hφ2':∀b,φ2 b=match φ b with | some p=>some p | none=>φ' b:=λ b=>by rw[<-hφ2]
 have hup:∀b p,φ' b=some p->φ2 b=some p:=λ b p hp=>by rw[hφ2'];exact hphi b p hp
 have hold2:∀b p,φ b=some p->φ2 b=some p:=λ b p hp=>by rw[hφ2',hp]
 have hcase:∀b,H'.get b≠none->(∃y y',H'.get b=some y/\K.get b=some y'/\BLe y' y)∨(S.get b=none/\¬(n<=b/\b<n')/\H'.get b=H.get b):=by
  intro b hb
  by_cases hc:S.get b≠none∨(n<=b/\b<n')
  ·cases hy:H'.get b with
   | none=>exact absurd hy hb
   | some y =>
    obtain⟨y',h3,h4⟩:=hK b y (by rw[<-h1 b hc,hy]);exact .inl ⟨y,y',rfl,h3,h4⟩
  have hc1:S.get b=none:=Decidable.byContradiction λ h=>hc (.inl h);have hc2:¬(n<=b/\b<n'):=λ h=>hc (.inr h);exact .inr ⟨hc1,hc2,h2 b hc1 hc2⟩
 have hold:∀b,S.get b=none->H'.get b=H.get b->H'.get b≠none->∃p,φ b=some p/\p.1<w.heap.size/\(∀y,H'.get b=some y->BlkR φ D w p y)/\(∀b0 p0,S.get b0≠none->φ b0=some p0->p0.1≠p.1):=by
  intro b hb1 hb2 hb3
  cases hy:H.get b with
  | none=>rw[hb2,hy]at hb3;exact absurd rfl hb3
  | some y =>
   obtain⟨p,hp,hlt,hk⟩:=hrel.blk b y hy;refine⟨p,hp,hlt,λ y' hy'=>?_,λ b0 p0 hb0 hp0 heq=>?_⟩
   ·rw[hb2,hy]at hy';injection hy' with hy';subst hy';exact hk
   have:=hrel.inj b0 b p0 p (hne b0 hb0) (by rw[hy];simp) hp0 hp heq;subst this;exact hb0 hb1
 have hnew:∀b p,K.get b≠none->φ2 b=some p->φ' b=some p:=by
  intro b p hb hp
  cases hy:K.get b with
  | none=>exact absurd hy hb
  | some y =>
   obtain⟨q,hq,_⟩:=r.blk b y hy;have:=hup b q hq;rw[hp]at this;rw[hq,this]
 have hs':∀ {b:Nat} {y:ABlk},K.get b=some y->K.get b≠none:=λ h=>by rw[h];simp
 refine hR φ2 D' w' x ⟨hle,hold2,λ b hb hb2=>?_,e.dat,e.size,λ c hc hk=>e.keep c hc λ b p hb hp=>hk b p (hne b hb) (cutP_some hp).2,λ b p hb hp=>?_,λ c hc=>?_,λ b hb=>?_,e.os,e.out⟩
  ⟨λ b y hy=>?_,λ b c p q hb hc hp hq heq=>?_,λ b p hb hp=>?_,r.dat⟩ (hx.mono hup λ _ _ h=>h)
 ·have h3:=e.new b (by
   cases hc:cutP φ n b with
   | none=>rfl
   | some p=>rw[(cutP_some hc).2]at hb;cases hb) (by rw[hφ2',hb]at hb2;exact hb2)
  omega
 ·rcases hcase b hb with⟨_,_,_,h3,_⟩ | ⟨h3,_,h5⟩
  ·rcases e.live b p (hs' h3) (hnew b p (hs' h3) hp)with h4 | ⟨b0,p0,h5,h6,h7⟩
   ·exact .inl h4
   exact .inr ⟨b0,p0,hne b0 h5,(cutP_some h6).2,h7⟩
  obtain⟨p1,hp1,hlt,_⟩:=hold b h3 h5 hb;have:=hold2 b p1 hp1;rw[hp]at this;injection this with this;subst this;exact .inr ⟨b,p,by rw[<-h5];exact hb,hp1,rfl⟩
 ·rcases e.dnew c hc with h4 | h4 | ⟨b0,p0,h5,h6,h7⟩
  ·exact .inl h4
  ·exact .inr (.inl h4)
  exact .inr (.inr ⟨b0,p0,hne b0 h5,(cutP_some h6).2,h7⟩)
 ·rcases hcase b hb with⟨_,_,_,h3,_⟩ | ⟨_,_,h5⟩
  ·rcases e.hid b (hs' h3)with h4 | h4
   ·exact .inl (hne b h4)
   exact .inr (by omega)
  exact .inl (by rw[<-h5];exact hb)
 ·have hb:H'.get b≠none:=by rw[hy];simp
  rcases hcase b hb with⟨y1,y',h2,h3,h4⟩ | ⟨h3,_,h5⟩
  ·rw[hy]at h2;injection h2 with h2;subst h2;obtain⟨p,hp,hl,hk⟩:=r.blk b y' h3;exact⟨p,hup b p hp,hl,(h4 _ _ _ _ hk).mono hup (λ _ _ h=>h) rfl⟩
  obtain⟨p,hp,hlt,hB,hx⟩:=hold b h3 h5 hb;exact⟨p,hold2 b p hp,Nat.lt_of_lt_of_le hlt e.size,(hB y hy).mono hold2 e.dat (e.keep p.1 hlt λ b0 p0 hb0 hp0=>hx b0 p0 hb0 (cutP_some hp0).2)⟩
 ·have mixed:∀b c p q,K.get b≠none->S.get c=none->H'.get c=H.get c->H'.get c≠none->φ2 b=some p->φ2 c=some q->p.1=q.1->b=c:=by
   intro b c p q hb h4 h5 hc hp hq heq;obtain⟨q1,hq1,hlt,_,hx⟩:=hold c h4 h5 hc;have:=hold2 c q1 hq1;rw[hq]at this;injection this with this;subst this
   rcases e.live b p hb (hnew b p hb hp)with h6 | ⟨b0,p0,h5,h6,h7⟩
   ·omega
   exact absurd (h7.trans heq) (hx b0 p0 h5 (cutP_some h6).2)
  rcases hcase b hb with⟨_,_,_,h3,_⟩ | ⟨h3,_,h5⟩
  ·rcases hcase c hc with⟨_,_,_,h4,_⟩ | ⟨h4,_,h6⟩
   ·exact r.inj b c p q (hs' h3) (hs' h4) (hnew b p (hs' h3) hp) (hnew c q (hs' h4) hq) heq
   exact mixed b c p q (hs' h3) h4 h6 hc hp hq heq
  rcases hcase c hc with⟨_,_,_,h4,_⟩ | ⟨h4,_,h6⟩
  ·exact(mixed c b q p (hs' h4) h3 h5 hb hq hp heq.symm).symm
  obtain⟨p1,hp1,_⟩:=hold b h3 h5 hb;obtain⟨q1,hq1,_⟩:=hold c h4 h6 hc;have e1:=hold2 b p1 hp1;have e2:=hold2 c q1 hq1;rw[hp]at e1;rw[hq]at e2;injection e1 with e1;injection e2 with e2;subst e1 e2;exact hrel.inj b c p q (by rw[<-h5];exact hb) (by rw[<-h6];exact hc) hp1 hq1 heq
 rcases hcase b hb with⟨_,_,_,h3,_⟩ | ⟨h3,_,h5⟩
 ·exact r.sep b p (hs' h3) (hnew b p (hs' h3) hp)
 obtain⟨p1,hp1,hlt,_,hx⟩:=hold b h3 h5 hb;have e1:=hold2 b p1 hp1;rw[hp]at e1;injection e1 with e1;subst e1;have hD:=hrel.sep b p (by rw[<-h5];exact hb) hp1
 cases hd:D' p.1 with
 | none=>rfl
 | some y =>
  rcases e.dnew p.1 (by rw[hd];simp)with h4 | h4 | ⟨b0,p0,h6,h7,h8⟩
  ·exact absurd hD h4
  ·omega
  exact absurd h8 (hx b0 p0 h6 (cutP_some h7).2)
end
end Go.Abs
namespace Go.Abs
open List
section
variable {F:Fr}{H:Hp}{Hs:List Hp}{n:Nat}{m:List Dm}{Q:QA}{ce:Ce}
def FnI (v:Option AV)(vs:Option (List AV))(pd:Pd)(r:List (Option RO))(ce:Ce)(F:Fr)(H:Hp)(Hs:List Hp)(n:Nat)(m:List Dm)(Q:QA):Prop:=match v,vs with
 | some (.fn (.func f) first cap),some vs=>CalI (ce.call f (first++(vs++cap)) H n) pd r ce F Hs m Q
 | some (.yld q),some vs=>CalI (yldC ce q vs H n) pd r ce F Hs m Q
 | _,_=>False
@[simp] theorem fnI_some (f:FuncId)(first cap vs:List AV)(pd:Pd)(r:List (Option RO)):FnI (some (.fn (.func f) first cap)) (some vs) pd r ce F H Hs n m Q=CalI (ce.call f (first++(vs++cap)) H n) pd r ce F Hs m Q:=propext Iff.rfl
theorem ev_callR (rs:RS) (pd:Pd) (g:G) (as:List G) (next:List (Option RO)):Ev ((callR rs pd g as (mkR next)).f ce F H Hs n m) Q=FnI (g.f (rs.f F)) (evs (rs.f F) as) pd next ce F H Hs n m Q:=by
 simp only[callR];unfold FnI
 cases g.f (rs.f F)with
 | none=>rfl
 | some v =>
  cases v with
  | fn x first cap =>
   cases x with
   | func f =>
    dsimp only
    cases evs (rs.f F) as with
    | none=>rfl
    | some vs =>
     dsimp only;unfold CalI EvC
     cases ce.call f (first++(vs++cap)) H n<;>rfl
   | _=>rfl
  | yld q =>
   dsimp only
   cases evs (rs.f F) as with
   | none=>rfl
   | some vs =>
    dsimp only;unfold CalI EvC
    cases yldC ce q vs H n<;>rfl
  | _=>rfl
@[simp] theorem ev_vI (rs:List Nat)(pd:Pd)(g:G)(as:List G)(r:List (Option RO)):Ev ((mkR (vI rs pd g as::r)).f ce F H Hs n m) Q=FnI (g.f ((rsOf rs).f F)) (evs ((rsOf rs).f F) as) pd r ce F H Hs n m Q:=ev_callR (rsOf rs) pd g as r
def gvI (rs:List Nat)(g:G)(b:Bool)(pd:Pd)(h:G)(as:List G):Option RO:=some ⟨rsOf rs,some (g,b),pd,.call h as,none⟩
def GvI (v:Option AV)(b:Bool)(F0:Fr)(pd:Pd)(h:G)(as:List G)(r:List (Option RO))(ce:Ce)(F:Fr)(H:Hp)(Hs:List Hp)(n:Nat)(m:List Dm)(Q:QA):Prop:=GrdE v b (FnI (h.f F0) (evs F0 as) pd r ce F H Hs n m Q) (Ev ((mkR r).f ce (pd.f (.tup []) F) H (H::Hs) n m) Q)
@[simp] theorem ev_gvI (rs:List Nat)(g:G)(b:Bool)(pd:Pd)(h:G)(as:List G)(r:List (Option RO)):Ev ((mkR (gvI rs g b pd h as::r)).f ce F H Hs n m) Q=GvI (g.f ((rsOf rs).f F)) b ((rsOf rs).f F) pd h as r ce F H Hs n m Q:=by
 have h1:=ev_guardR (ce:=ce) (F:=F) (H:=H) (Hs:=Hs) (n:=n) (m:=m) (Q:=Q) (rs:=rsOf rs) (g:=g) (b:=b) (yes:=callR (rsOf rs) pd h as (mkR r)) (no:=nopM pd (mkR r));rw[ev_callR]at h1;exact h1
@[simp] theorem gvI_t (F0:Fr)(pd:Pd)(h:G)(as:List G)(r:List (Option RO)):GvI (some (.bool true)) true F0 pd h as r ce F H Hs n m Q=FnI (h.f F0) (evs F0 as) pd r ce F H Hs n m Q:=propext Iff.rfl
@[simp] theorem gvI_f (F0:Fr)(pd:Pd)(h:G)(as:List G)(r:List (Option RO)):GvI (some (.bool false)) true F0 pd h as r ce F H Hs n m Q=Ev ((mkR r).f ce (pd.f (.tup []) F) H (H::Hs) n m) Q:=propext Iff.rfl
@[simp] theorem gvI_t' (F0:Fr)(pd:Pd)(h:G)(as:List G)(r:List (Option RO)):GvI (some (.bool true)) false F0 pd h as r ce F H Hs n m Q=Ev ((mkR r).f ce (pd.f (.tup []) F) H (H::Hs) n m) Q:=propext Iff.rfl
@[simp] theorem gvI_f' (F0:Fr)(pd:Pd)(h:G)(as:List G)(r:List (Option RO)):GvI (some (.bool false)) false F0 pd h as r ce F H Hs n m Q=FnI (h.f F0) (evs F0 as) pd r ce F H Hs n m Q:=propext Iff.rfl
end
end Go.Abs
namespace Go.Abs
open List
set_option maxRecDepth 100000
mutual
theorem Frz.mono {h h':Hf}(hh:∀b k,h b=some k->h' b=some k):∀ {v v'},Frz h v v'->Frz h' v v'
 | _,_,.pure _ k=>.pure _ k
 | _,_,.nil _=>.nil _
 | _,_,.sl _ _ _ _ _ _ _ _ _ _ a b k=>.sl _ _ _ _ _ _ _ _ _ _ (hh _ _ a) b (FrzL.mono hh k)
 | _,_,.ptr _ _ _ _ _ _ _ _ _ a b k=>.ptr _ _ _ _ _ _ _ _ _ (hh _ _ a) b (FrzL.mono hh k)
 | _,_,.agg _ _ _ k=>.agg _ _ _ (FrzL.mono hh k)
 | _,_,.tup _ _ k=>.tup _ _ (FrzL.mono hh k)
theorem FrzL.mono {h h':Hf}(hh:∀b k,h b=some k->h' b=some k):∀ {v v'},FrzL h v v'->FrzL h' v v'
 | _,_,.nil=>.nil
 | _,_,.cons _ _ _ _ a b=>.cons _ _ _ _ (Frz.mono hh a) (FrzL.mono hh b)
end
theorem FrzL.append {h:Hf}:∀ {a a' b b'},FrzL h a a'->FrzL h b b'->FrzL h (a++b) (a'++b')
 | _,_,_,_,.nil,k=>k
 | _,_,_,_,.cons _ _ _ _ x y,k=>.cons _ _ _ _ x (FrzL.append y k)
theorem FrzL.one {h:Hf}:∀ {a a'},FrzL h a a'->allOne a'=true->allOne a=true
 | _,_,.nil,_=>by simp
 | _,_,.cons v v' vs vs' x y,k=>by
  simp only[allOne_cons,Bool.and_eq_true]at k ⊢;refine⟨?_,FrzL.one y k.2⟩
  cases x with
  | pure _ _=>exact k.1
  | nil _=>rfl
  | sl=>rfl
  | ptr=>rfl
  | agg=>exact k.1
  | tup=>exact k.1
def Top (H:Hp)(n:Nat):Prop:=∀b,n<=b->H.get b=none
def Grow (H:Hp)(n:Nat)(H':Hp)(n':Nat):Prop:=n<=n'/\(∀b,b<n->H'.get b=H.get b)/\Top H' n'
theorem Grow.mono {H H':Hp}{n n':Nat}(h:Grow H n H' n')(ht:Top H n):∀b k,H.get b=some k->H'.get b=some k:=by
 intro b k hb
 by_cases hlt:b<n
 ·rw[h.2.1 b hlt,hb]
 rw[ht b (by omega)]at hb;cases hb
theorem Grow.trans {H H1 H2:Hp}{n n1 n2:Nat}(h:Grow H n H1 n1)(k:Grow H1 n1 H2 n2):Grow H n H2 n2:=
 ⟨Nat.le_trans h.1 k.1,λ b hb=>(k.2.1 b (Nat.lt_of_lt_of_le hb h.1)).trans (h.2.1 b hb),k.2.2⟩
def above (n:Nat)(H:Hp):Hf:=λ b=>if n<=b then H.get b else none
theorem above_get {n:Nat}{H:Hp}:∀b k,above n H b=some k->H.get b=some k:=by
 intro b k hb;unfold above at hb
 split at hb
 ·exact hb
 cases hb
theorem Grow.refl {H:Hp}{n:Nat}(ht:Top H n):Grow H n H n:=⟨Nat.le_refl _,λ _ _=>rfl,ht⟩
theorem Grow.new {H H':Hp}{n n':Nat}(h:Grow H n H' n')(k:ABlk):Grow H n (H'.put n' (some k)) (n'+1):=
 ⟨by have:=h.1;omega,λ b hb=>by
  have:¬b=n':=by have:=h.1;omega
  simp[this,h.2.1 b hb],λ b hb=>by
  have:¬b=n':=by omega
  simp[this,h.2.2 b (by omega)]⟩
theorem Grow.upd {H H':Hp}{n n':Nat}(h:Grow H n H' n'){c:Nat}(k:Option ABlk)(hc:n<=c)(hc':c<n'):Grow H n (H'.put c k) n':=
 ⟨h.1,λ b hb=>by
  have:¬b=c:=by omega
  simp[this,h.2.1 b hb],λ b hb=>by
  have:¬b=c:=by omega
  simp[this,h.2.2 b hb]⟩
theorem Grow.le {H H':Hp}{n n1 n':Nat}(h:Grow H n H' n1)(hle:n1<=n'):Grow H n H' n':=⟨Nat.le_trans h.1 hle,h.2.1,λ b hb=>h.2.2 b (Nat.le_trans hle hb)⟩
@[simp] theorem wr1:IntKind.i64.wrap 1=1:=by simp[IntKind.wrap,IntKind.signed,IntKind.bits]
@[simp] theorem wr2:IntKind.i64.wrap 2=2:=by simp[IntKind.wrap,IntKind.signed,IntKind.bits]
@[simp] theorem wr3:IntKind.i64.wrap 3=3:=by simp[IntKind.wrap,IntKind.signed,IntKind.bits]
@[simp] theorem nn2 (n:Nat):(n=n+1+1)=False:=by simp only[eq_iff_iff,iff_false];omega
@[simp] theorem nr2 (n:Nat):(n+1+1=n)=False:=by simp only[eq_iff_iff,iff_false];omega
@[simp] theorem nn3 (n:Nat):(n=n+1+1+1)=False:=by simp only[eq_iff_iff,iff_false];omega
@[simp] theorem nr3 (n:Nat):(n+1+1+1=n)=False:=by simp only[eq_iff_iff,iff_false];omega
@[simp] theorem nn4 (n:Nat):(n=n+1+1+1+1)=False:=by simp only[eq_iff_iff,iff_false];omega
@[simp] theorem nr4 (n:Nat):(n+1+1+1+1=n)=False:=by simp only[eq_iff_iff,iff_false];omega
@[simp] theorem nn5 (n:Nat):(n=n+1+1+1+1+1)=False:=by simp only[eq_iff_iff,iff_false];omega
@[simp] theorem nr5 (n:Nat):(n+1+1+1+1+1=n)=False:=by simp only[eq_iff_iff,iff_false];omega
@[simp] theorem nn6 (n:Nat):(n=n+1+1+1+1+1+1)=False:=by simp only[eq_iff_iff,iff_false];omega
@[simp] theorem nr6 (n:Nat):(n+1+1+1+1+1+1=n)=False:=by simp only[eq_iff_iff,iff_false];omega
@[simp] theorem nn7 (n:Nat):(n=n+1+1+1+1+1+1+1)=False:=by simp only[eq_iff_iff,iff_false];omega
@[simp] theorem nr7 (n:Nat):(n+1+1+1+1+1+1+1=n)=False:=by simp only[eq_iff_iff,iff_false];omega
@[simp] theorem nn8 (n:Nat):(n=n+1+1+1+1+1+1+1+1)=False:=by simp only[eq_iff_iff,iff_false];omega
@[simp] theorem nr8 (n:Nat):(n+1+1+1+1+1+1+1+1=n)=False:=by simp only[eq_iff_iff,iff_false];omega
@[simp] theorem nn9 (n:Nat):(n=n+1+1+1+1+1+1+1+1+1)=False:=by simp only[eq_iff_iff,iff_false];omega
@[simp] theorem nr9 (n:Nat):(n+1+1+1+1+1+1+1+1+1=n)=False:=by simp only[eq_iff_iff,iff_false];omega
@[simp] theorem nn10 (n:Nat):(n=n+1+1+1+1+1+1+1+1+1+1)=False:=by simp only[eq_iff_iff,iff_false];omega
@[simp] theorem nr10 (n:Nat):(n+1+1+1+1+1+1+1+1+1+1=n)=False:=by simp only[eq_iff_iff,iff_false];omega
@[simp] theorem nn11 (n:Nat):(n=n+1+1+1+1+1+1+1+1+1+1+1)=False:=by simp only[eq_iff_iff,iff_false];omega
@[simp] theorem nr11 (n:Nat):(n+1+1+1+1+1+1+1+1+1+1+1=n)=False:=by simp only[eq_iff_iff,iff_false];omega
@[simp] theorem nn12 (n:Nat):(n=n+1+1+1+1+1+1+1+1+1+1+1+1)=False:=by simp only[eq_iff_iff,iff_false];omega
@[simp] theorem nr12 (n:Nat):(n+1+1+1+1+1+1+1+1+1+1+1+1=n)=False:=by simp only[eq_iff_iff,iff_false];omega
theorem neC {b n:Nat}(h:b<n):(b=n)=False/\(b=n+1)=False/\(b=n+1+1)=False/\(b=n+1+1+1)=False/\(b=n+1+1+1+1)=False/\(b=n+1+1+1+1+1)=False/\(b=n+1+1+1+1+1+1)=False/\(b=n+1+1+1+1+1+1+1)=False/\(b=n+1+1+1+1+1+1+1+1)=False/\(b=n+1+1+1+1+1+1+1+1+1)=False/\(b=n+1+1+1+1+1+1+1+1+1+1)=False/\(b=n+1+1+1+1+1+1+1+1+1+1+1)=False/\(b=n+1+1+1+1+1+1+1+1+1+1+1+1)=False:=by
 refine⟨?_,?_,?_,?_,?_,?_,?_,?_,?_,?_,?_,?_,?_⟩<;>(simp only[eq_iff_iff,iff_false];omega)
theorem neD {b n:Nat}(h:b<n):(n=b)=False/\(n+1=b)=False/\(n+1+1=b)=False/\(n+1+1+1=b)=False/\(n+1+1+1+1=b)=False/\(n+1+1+1+1+1=b)=False/\(n+1+1+1+1+1+1=b)=False/\(n+1+1+1+1+1+1+1=b)=False/\(n+1+1+1+1+1+1+1+1=b)=False/\(n+1+1+1+1+1+1+1+1+1=b)=False/\(n+1+1+1+1+1+1+1+1+1+1=b)=False/\(n+1+1+1+1+1+1+1+1+1+1+1=b)=False/\(n+1+1+1+1+1+1+1+1+1+1+1+1=b)=False:=by
 refine⟨?_,?_,?_,?_,?_,?_,?_,?_,?_,?_,?_,?_,?_⟩<;>(simp only[eq_iff_iff,iff_false];omega)
theorem Top.lt {H:Hp}{n b:Nat}{k:ABlk}(ht:Top H n)(h:H.get b=some k):b<n:=by
 rcases Nat.lt_or_ge b n with h' | h'
 ·exact h'
 rw[ht b h']at h;cases h
theorem Top.none {H:Hp}{n:Nat}(h:Top H n):H.get (n)=Option.none/\H.get (n+1)=Option.none/\H.get (n+1+1)=Option.none/\H.get (n+1+1+1)=Option.none/\H.get (n+1+1+1+1)=Option.none/\H.get (n+1+1+1+1+1)=Option.none/\H.get (n+1+1+1+1+1+1)=Option.none/\H.get (n+1+1+1+1+1+1+1)=Option.none/\H.get (n+1+1+1+1+1+1+1+1)=Option.none/\H.get (n+1+1+1+1+1+1+1+1+1)=Option.none/\H.get (n+1+1+1+1+1+1+1+1+1+1)=Option.none/\H.get (n+1+1+1+1+1+1+1+1+1+1+1)=Option.none/\H.get (n+1+1+1+1+1+1+1+1+1+1+1+1)=Option.none:=by
 refine⟨?_,?_,?_,?_,?_,?_,?_,?_,?_,?_,?_,?_,?_⟩<;>exact h _ (by omega)
structure Cl where
 g:FuncId
 args:List AV
 H:Hp
 n:Nat
 v:AV
 H':Hp
 n':Nat
open Classical in
def ceL (l:List Cl):Ce:=ceOf λ g args H n=>match l.find? (λ x=>decide (x.g=g/\x.args=args/\x.H=H/\x.n=n))with
 | some x=>.mk x.v x.H' x.n'
 | none=>.fail
theorem ceL_ok {P:Program}{l:List Cl}(h:∀x∈l,CallOk P x.g x.args x.H x.n x.v x.H' x.n'):CeOk P (ceL l):=by
 refine ceOf_ok λ g args H n v H' n' e=>?_
 split at e
 ·rename_i x hx;have h1:=find?_some hx;simp at h1;obtain⟨rfl,rfl,rfl,rfl⟩:=h1;injection e with e1 e2 e3;subst e1 e2 e3;exact h x (mem_of_find?_eq_some hx)
 cases e
theorem ceL_hd {g:FuncId}{args:List AV}{H:Hp}{n:Nat}{v:AV}{H':Hp}{n':Nat}{l:List Cl}:(ceL (⟨g,args,H,n,v,H',n'⟩::l)).call g args H n=noPan (.mk v H' n'):=by
 simp[ceL,ceOf]
theorem ceL_tl {g g':FuncId}{args args':List AV}{H H0:Hp}{n n0:Nat}{v:AV}{H':Hp}{n':Nat}{l:List Cl}(hg:g'≠g):(ceL (⟨g',args',H0,n0,v,H',n'⟩::l)).call g args H n=(ceL l).call g args H n:=by
 simp[ceL,ceOf,find?_cons,hg]
section
variable {H:Hp}{n:Nat}
theorem cApp_n {x:AV}{new:List AV}{sz by_ k:Nat}(hx:sliceCells H sz x=some new)(hk:sliceLen x=some k)(hs:0<sz)(hk0:0<k)(hbig:k<=big)(hby:by_<=4096)(h1:allOne new=true):
  cApp sz by_ n (.cst (.slice none 0 0)) x H=.new (.sl n 0 k sz) (.cells (k*sz) [] new .nil):=by
 unfold Go.Abs.cApp;rw[hx,hk];dsimp only;unfold cApp1;simp only[nat_beq,nat_blt,nat_ble,show ¬k=0 by omega,hs,hbig,hby,h1,decide_true,decide_false,Bool.and_self]
theorem cApp_o {x:AV}{new:List AV}{sz by_ k b len u:Nat}{z bs:List AV}{t:Ov AV}(hb:H.get b=some (.cells u z bs t))(hu:len*sz<=u)(hx:sliceCells H sz x=some new)(hk:sliceLen x=some k)(hs:0<sz)(hk0:0<k)(hbig:len+k<=big)(hby:by_<=4096)(h1:allOne new=true):
  cApp sz by_ n (.sl b 0 len sz) x H=.mv (.sl n 0 (len+k) sz) b (.cells ((len+k)*sz) z bs (Ov.putAll new (len*sz) t)):=by
 unfold Go.Abs.cApp;rw[hx,hk];dsimp only;unfold cApp1 cApp2;simp only[nat_beq,nat_blt,nat_ble,show ¬k=0 by omega,hs,hbig,hby,h1,decide_true,decide_false,Bool.and_self,hb,hu,forceN_eq]
theorem sliceCells_one {b sz:Nat}{l:List AV}(hb:H.get b=some (.cells sz [] l .nil)):sliceCells H sz (.sl b 0 1 sz)=some l:=by
 simp only[sliceCells,nat_beq,decide_true,cond_true,hb,Nat.one_mul,grab_all]
end
theorem OwnB.app {u:Nat}{z bs l new:List AV}{t:Ov AV}(h:OwnB (.cells u z bs t) l) (hn:new≠[]):OwnB (.cells (u+new.length) z bs (Ov.putAll new u t)) (l++new):=by
 obtain⟨u',z',bs',t',e,hu,hg,hi⟩:=h;injection e with e1 e2 e3 e4;subst e1 e2 e3 e4;refine⟨_,z,bs,_,rfl,by simp[hu],λ i=>?_,λ ht=>?_⟩
 ·rw[getc_eq,Ov.get_putAll]
  by_cases hlt:i<u+new.length
  ·rw[if_pos hlt]
   by_cases hin:u<=i/\i<u+new.length
   ·rw[if_pos hin,getElem?_append_right (by omega),<-hu,getElem?_eq_getElem (by omega)]
   rw[if_neg hin,getElem?_append_left (by omega)];have:=hg i;rw[getc_eq,if_pos (by omega)]at this;exact this
  rw[if_neg hlt,getElem?_eq_none (by simp;omega)]
 exfalso
 cases new with
 | nil=>exact hn rfl
 | cons v r =>
  have:=Ov.get_putAll (v::r) u t u;rw[ht,if_pos (by simp)]at this;simp at this
def blk (v:AV):Option Nat:=match v with
 | .sl b _ _ _=>some b
 | _=>none
@[simp] theorem blk_nil:blk (.cst (.slice none 0 0))=none:=rfl
@[simp] theorem blk_sl (b o l s:Nat):blk (.sl b o l s)=some b:=rfl
theorem OwnB.uniq {u:Nat}{l l':List AV}(h:OwnB (.cells u [] l .nil) l')(hu:u=l.length):l'=l:=by
 obtain⟨u',z,bs,t,e,h1,h2,_⟩:=h;injection e with e1 e2 e3 e4;subst e1 e2 e3 e4;apply ext_getElem?;intro i;rw[<-h2 i,getc_list']
 split
 ·rfl
 rw[getElem?_eq_none (by omega)]
theorem OwnS.frame {H H':Hp}{n n':Nat}{w:AV}{l:List AV}{len sz:Nat}(h:OwnS H n w l len sz)(hn:n<=n')(hk:∀c,blk w=some c->H'.get c=H.get c):OwnS H' n' w l len sz:=by
 obtain⟨h0,⟨rfl,h1⟩ | ⟨b,k,rfl,hb,hbk,ho⟩⟩:=h
 ·exact⟨h0,.inl ⟨rfl,h1⟩⟩
 exact⟨h0,.inr ⟨b,k,rfl,by omega,(hk b rfl).trans hbk,ho⟩⟩
theorem OwnS.appK {H:Hp}{n:Nat}{ce:Ce}{Hs:List Hp}{F:Fr}{m:List Dm}{Q:QA}{v x:AV}{l new:List AV}{len sz by_ k:Nat}{pd:Pd}{r:List (Option RO)}(h:OwnS H n v l len sz)(hx:sliceCells H sz x=some new)(hk:sliceLen x=some k)(hn:new.length=k*sz)
  (hs:0<sz)(hk0:0<k)(hbig:len+k<=big)(hby:by_<=4096)(h1:allOne new=true)
  (hgo:∀H',OwnS H' (n+1) (.sl n 0 (len+k) sz) (l++new) (len+k) sz->(∀c,c≠n->v≠.sl c 0 len sz->H'.get c=H.get c)->Ev ((mkR r).f ce (pd.f (.sl n 0 (len+k) sz) F) H' (H'::Hs) (n+1) m) Q):EvI (Go.Abs.cApp sz by_ n v x H) pd r ce F H Hs n m Q:=by
 obtain⟨H',e,h1,h2⟩:=h.cApp hx hk hn hs hk0 hbig hby h1;unfold EvI;rw[e];exact hgo H' h1 λ c hc=>h2 c hc
theorem OwnS.blkLt {H:Hp}{n:Nat}{w:AV}{l:List AV}{len sz c:Nat}(h:OwnS H n w l len sz)(hc:blk w=some c):c<n:=by
 obtain⟨_,⟨rfl,_⟩ | ⟨b,k,rfl,hb,_⟩⟩:=h
 ·cases hc
 simp at hc;omega
theorem OwnS.isOne {H:Hp}{n:Nat}{v:AV}{l:List AV}{len sz:Nat}(h:OwnS H n v l len sz):v.one=true:=by
 obtain⟨_,⟨rfl,_⟩ | ⟨b,k,rfl,_⟩⟩:=h<;>simp
theorem OwnB.st {u:Nat}{z bs:List AV}{t:Ov AV}{l:List AV}(h:OwnB (.cells u z bs t) l){i:Nat}(hi:i<l.length) (v:AV):OwnB (stBlk u z bs t [v] i) (l.set i v):=by
 obtain⟨u',z',bs',t',e,hu,hg,hl⟩:=h;injection e with e1 e2 e3 e4;subst e1 e2 e3 e4
 have key:∀t2,(∀j,t2.get j=if i<=j/\j<i+1 then [v][j - i]? else t.get j)->t2≠.nil->OwnB (.cells u z bs t2) (l.set i v):=by
  intro t2 h2 hne;refine⟨u,z,bs,t2,rfl,by simp[hu],λ j=>?_,λ e=>absurd e hne⟩;have hj:=hg j;rw[getc_eq]at hj ⊢;rw[getElem?_set,h2]
  by_cases e:i=j
  ·subst e;rw[if_pos (by omega),if_pos (by omega),if_pos rfl,if_pos hi];simp
  rw[if_neg e]
  by_cases hju:j<u
  ·rw[if_pos hju]at hj ⊢;rw[if_neg (by omega)];exact hj
  rw[if_neg hju]at hj ⊢;exact hj
 have hput:∀t:Ov AV,(Ov.putAll [v] i t)≠.nil:=by
  intro t e;have:=Ov.get_putAll [v] i t i;rw[e,if_pos (by simp)]at this;simp at this
 have hgen:OwnB (.cells u z bs (Ov.putAll [v] i t)) (l.set i v):=key _ (λ j=>Ov.get_putAll [v] i t j) (hput t);unfold stBlk
 split
 ·split
  ·split
   ·split
    ·rename_i bs' hp;have hb:=hl rfl rfl;obtain⟨p1,_,p3⟩:=patch_spec hp
     have:bs'=l.set i v:=by
      apply ext_getElem?;intro j;rw[p3,getElem?_set];have hj:=hg j;rw[getc_list']at hj
      by_cases e:i=j
      ·subst e;rw[if_pos (by simp),if_pos rfl,if_pos hi];simp
      rw[if_neg (by simp;omega),if_neg e];rw[<-hj]
      split
      ·rfl
      rw[getElem?_eq_none (by omega)]
     rw[this];exact .list (by simp[hu])
    exact hgen
   exact hgen
  exact hgen
 ·exact hgen
 exact hgen
theorem own_ld {H:Hp}{b i:Nat}{k:ABlk}{L:List AV}(hb:H.get b=some k)(ho:OwnB k L)(hi:i<L.length):cLoad1 (.ptr b i) H=.val L[i]:=by
 obtain⟨u,z,bs,t,rfl,h3,h4,_⟩:=ho;have:=h4 i;rw[getElem?_eq_getElem hi]at this;simp[hb,this]
theorem noneAt_nil (n:Nat):(noneAt n []=true)=True:=by simp[noneAt]
theorem noneAt_cons (n:Nat)(h:Hp)(l:List Hp):(noneAt n (h::l)=true)=(h.get n=none/\noneAt n l=true):=by
 cases e:h.get n<;>simp[noneAt,e]
theorem CallR.shut {P:Program}{g:FuncId}{args args':List AV}{G:AV->Prop}{H:Hp}{n:Nat}(h:CallR P g args' .nil 0 (λ v1 H' _=>∃v,G v/\Frz H'.get v1 v)) (hz:FrzL H.get args args'):CallR P g args H n (λ u K k=>G u/\K=.nil/\k=n):=by
 refine⟨h.1,λ φ D w xs hr hv hf RR hR=>?_⟩;refine h.2 PhN (Go.Abs.shut φ D H.get w) w xs (rel_none (shut_dat hr.dat)) (hz.vrs hr hv) (λ _ _=>rfl) RR λ v1 H' n' φ' D' w' x ⟨v,hG,hfz⟩ e r hx=>?_;refine hR v .nil n φ (Go.Abs.shut φ' D' H'.get w') w' x ⟨hG,rfl,rfl⟩ ⟨Nat.le_refl _,λ _ _ h=>h,λ _ a b=>absurd a b,λ c x hc=>shut_le c x (e.dat c x (shut_le c x hc)),e.size,λ c hc _=>e.keep c hc λ b p hb=>by simp at hb,λ b p hb=>by simp at hb,λ c hc=>?_,λ b hb=>by simp at hb,e.os,e.out⟩ ⟨λ b k hb=>by simp at hb,λ b c p q hb=>by simp at hb,λ b p hb=>by simp at hb,shut_dat r.dat⟩ (hfz.isPure.out (hfz.vr r hx))
 have key:D' c≠none∨w.heap.size<=c:=by
  unfold Go.Abs.shut at hc
  split at hc
  ·rename_i y hy;exact .inl (by rw[hy];simp)
  split at hc
  ·rename_i hex;obtain⟨b,p,hb,hp,rfl⟩:=hex
   rcases e.live b p hb hp with h | ⟨b0,p0,hh,_⟩
   ·exact .inr h
   simp at hh
  exact absurd rfl hc
 rcases key with h1 | h1
 ·rcases e.dnew c h1 with h2 | h2 | ⟨b0,p0,hh,_⟩
  ·unfold Go.Abs.shut at h2
   split at h2
   ·rename_i y hy;exact .inl (by rw[hy];simp)
   split at h2
   ·rename_i hex;obtain⟨b,p,hb,hp,hp1⟩:=hex;exact .inr (.inr ⟨b,p,hb,hp,hp1⟩)
   exact absurd rfl h2
  ·exact .inr (.inl h2)
  simp at hh
 exact .inr (.inl h1)
end Go.Abs
namespace Go.Abs
open List
section
variable {P:Program}
end
end Go.Abs
namespace Go.Abs
open List
section
variable {P:Program}
def pick (H:Hp):List Nat->Hp
 | []=>.nil
 | b::r=>(pick H r).put b (H.get b)
theorem pick_get (H:Hp)(L:List Nat)(c:Nat):(pick H L).get c=if c∈L then H.get c else none:=by
 induction L with
 | nil=>simp[pick]
 | cons b r ih =>
  simp only[pick,Tr.get_put,ih,mem_cons]
  by_cases h:c=b
  ·subst h;simp
  simp[h]
theorem pick_in {H:Hp}{L:List Nat}{c:Nat}(h:c∈L):(pick H L).get c=H.get c:=by rw[pick_get,if_pos h]
theorem pick_top {H:Hp}{L:List Nat}{n:Nat}(h:∀b∈L,b<n):Top (pick H L) n:=by
 intro b hb;rw[pick_get,if_neg];intro hm;have:=h b hm;omega
theorem CallR.okZ {g:FuncId}{args:List AV}{H H1:Hp}{n:Nat}{v0:AV}(L:List Nat) (ha:RLtL n args) (hL:∀b∈L,b<n) (hb:∀b∈L,∀k,H.get b=some k->RLtB n k) (hb1:∀b∈L,∀k,H1.get b=some k->RLtB n k)
  (h2:∀b,b∉L->H1.get b=H.get b)
  (h:CallR P g args (pick H L) n (λ v K _=>Frz (above n K) v v0/\∀b∈L,∀y,H1.get b=some y->∃y',K.get b=some y'/\BZ (above n K) y' y)):CallOk P g args H n v0 H1 n:=by
 refine⟨h.1,Nat.le_refl _,λ φ D w xs hrel hvs hf R hR=>?_⟩
 have hS:∀b,(pick H L).get b≠none->b∈L/\H.get b≠none:=λ b hb=>by
  rw[pick_get]at hb
  by_cases hm:b∈L
  ·rw[if_pos hm]at hb;exact⟨hm,hb⟩
  rw[if_neg hm]at hb;exact absurd rfl hb
 have hr0:Rel (cutP φ n) D (pick H L).get w:=by
  refine⟨λ b k hk=>?_,λ b c p q hb hc hp hq=>?_,λ b p hb hp=>?_,hrel.dat⟩
  ·obtain⟨hm,_⟩:=hS b (by rw[hk];simp);rw[pick_in hm]at hk;obtain⟨p,hp,hl,hbk⟩:=hrel.blk b k hk;exact⟨p,(cutP_lt (hL b hm)).trans hp,hl,hbk.cut (hb b hm k hk)⟩
  ·exact hrel.inj b c p q (hS b hb).2 (hS c hc).2 (cutP_some hp).2 (cutP_some hq).2
  exact hrel.sep b p (hS b hb).2 (cutP_some hp).2
 refine h.2 (cutP φ n) D w xs hr0 (hvs.cut ha) (λ b hb=>?_) R λ v K k φ' D' w' x ⟨hz,hK⟩ e r hx=>?_
 ·unfold cutP;rw[if_neg (by omega)]
 have hto:∀b p,b<n->φ' b=some p->φ b=some p:=by
  intro b p hlt hp
  cases hq:φ b with
  | none =>
   have:=e.new b ((cutP_lt hlt).trans hq) (by rw[hp];simp);omega
  | some q =>
   have:=e.phi b q ((cutP_lt hlt).trans hq);rw[hp]at this;exact this.symm
 have hfrom:∀b p,b<n->φ b=some p->φ' b=some p:=λ b p hlt hp=>e.phi b p ((cutP_lt hlt).trans hp);have hs:Rel φ' D' (above n K) w':=r.sub above_get
 have hab:∀b,above n K b≠none->n<=b/\K.get b≠none:=λ b hb=>by
  unfold above at hb
  by_cases hm:n<=b
  ·rw[if_pos hm]at hb;exact⟨hm,hb⟩
  rw[if_neg hm]at hb;exact absurd rfl hb
 have hin:∀b,b∈L->H1.get b≠none->K.get b≠none:=λ b hm hb=>by
  cases hy:H1.get b with
  | none=>exact absurd hy hb
  | some y=>obtain⟨y',h3,_⟩:=hK b hm y hy;rw[h3];simp
 have hold:∀b p,b∉L->H1.get b≠none->φ b=some p->p.1<w.heap.size/\(∀b0 p0,(pick H L).get b0≠none->φ b0=some p0->p0.1≠p.1):=by
  intro b p hm hb hp;rw[h2 b hm]at hb
  cases hy:H.get b with
  | none=>exact absurd hy hb
  | some y =>
   refine⟨(hrel.block hy hp).1,λ b0 p0 h0 hp0 heq=>?_⟩;have:=hrel.inj b0 b p0 p (hS b0 h0).2 hb hp0 hp heq;subst this;exact hm (hS b0 h0).1
 have hlv:∀b p,K.get b≠none->φ' b=some p->w.heap.size<=p.1∨∃b0 p0,(pick H L).get b0≠none/\φ b0=some p0/\p0.1=p.1:=by
  intro b p hb hp
  rcases e.live b p hb hp with h4 | ⟨b0,p0,h5,h6,h7⟩
  ·exact .inl h4
  exact .inr ⟨b0,p0,h5,(cutP_some h6).2,h7⟩
 refine hR φ (Go.Abs.shut φ' D' (above n K) w') w' x ⟨Nat.le_refl _,λ _ _ h=>h,λ _ a b=>absurd a b,λ c x hc=>shut_le c x (e.dat c x hc),e.size,λ c hc hk=>e.keep c hc λ b p hb hp=>hk b p (hS b hb).2 (cutP_some hp).2,λ b p hb hp=>?_,λ c hc=>?_,λ b hb=>?_,e.os,e.out⟩
  ⟨λ b y hy=>?_,λ b c p q hb hc hp hq heq=>?_,λ b p hb hp=>?_,shut_dat r.dat⟩ ((hz.vr hs hx).mono (λ b p hb=>by simp[PhN]at hb) (λ _ _ h=>h))
 ·by_cases hm:b∈L
  ·rcases hlv b p (hin b hm hb) (hfrom b p (hL b hm) hp)with h4 | ⟨b0,p0,h5,h6,h7⟩
   ·exact .inl h4
   exact .inr ⟨b0,p0,(hS b0 h5).2,h6,h7⟩
  exact .inr ⟨b,p,by rw[<-h2 b hm];exact hb,hp,rfl⟩
 ·rcases shut_new hc with h3 | ⟨b,p,h3,h4,h5⟩
  ·rcases e.dnew c h3 with h4 | h4 | ⟨b0,p0,h5,h6,h7⟩
   ·exact .inl h4
   ·exact .inr (.inl h4)
   exact .inr (.inr ⟨b0,p0,(hS b0 h5).2,(cutP_some h6).2,h7⟩)
  rcases hlv b p (hab b h3).2 h4 with h6 | ⟨b0,p0,h6,h7,h8⟩
  ·exact .inr (.inl (by omega))
  exact .inr (.inr ⟨b0,p0,(hS b0 h6).2,h7,h8.trans h5⟩)
 ·by_cases hm:b∈L
  ·rcases e.hid b (hin b hm hb)with h4 | h4
   ·exact .inl (hS b h4).2
   have:=hL b hm;omega
  exact .inl (by rw[<-h2 b hm];exact hb)
 ·by_cases hm:b∈L
  ·obtain⟨y',h3,h4⟩:=hK b hm y hy;obtain⟨p,hp,hl,hk⟩:=r.blk b y' h3;exact⟨p,hto b p (hL b hm) hp,hl,((h4.blkR hs hk).cut (hb1 b hm y hy)).mono (λ c q hc=>hto c q (cutP_some hc).1 (cutP_some hc).2) (λ _ _ h=>h) rfl⟩
  rw[h2 b hm]at hy;obtain⟨p,hp,hl,hk⟩:=hrel.blk b y hy;have hh:=hold b p hm (by rw[h2 b hm,hy];simp) hp;exact⟨p,hp,Nat.lt_of_lt_of_le hl e.size,hk.mono (λ _ _ h=>h) (λ c x hc=>shut_le c x (e.dat c x hc)) (e.keep p.1 hl λ b0 p0 hb0 hp0=>hh.2 b0 p0 hb0 (cutP_some hp0).2)⟩
 ·have mixed:∀b c p q,b∈L->c∉L->H1.get b≠none->H1.get c≠none->φ b=some p->φ c=some q->p.1=q.1->False:=by
   intro b c p q hb hc hb1 hc1 hp hq heq;have hh:=hold c q hc hc1 hq
   rcases hlv b p (hin b hb hb1) (hfrom b p (hL b hb) hp)with h4 | ⟨b0,p0,h5,h6,h7⟩
   ·omega
   exact hh.2 b0 p0 h5 h6 (h7.trans heq)
  by_cases hm:b∈L
  ·by_cases hm2:c∈L
   ·exact r.inj b c p q (hin b hm hb) (hin c hm2 hc) (hfrom b p (hL b hm) hp) (hfrom c q (hL c hm2) hq) heq
   exact(mixed b c p q hm hm2 hb hc hp hq heq).elim
  by_cases hm2:c∈L
  ·exact(mixed c b q p hm2 hm hc hb hq hp heq.symm).elim
  exact hrel.inj b c p q (by rw[<-h2 b hm];exact hb) (by rw[<-h2 c hm2];exact hc) hp hq heq
 by_cases hm:b∈L
 ·have hp':=hfrom b p (hL b hm) hp;refine shut_none (r.sep b p (hin b hm hb) hp') λ b' p' h3 h4 h5=>?_;have:=r.inj b' b p' p (hab b' h3).2 (hin b hm hb) h4 hp' h5;have h6:=(hab b' h3).1;have h7:=hL b hm;omega
 have hh:=hold b p hm hb hp;refine shut_none ?_ λ b' p' h3 h4 h5=>?_
 ·cases hd:D' p.1 with
  | none=>rfl
  | some y =>
   have hD:=hrel.sep b p (by rw[<-h2 b hm];exact hb) hp
   rcases e.dnew p.1 (by rw[hd];simp)with h4 | h4 | ⟨b0,p0,h6,h7,h8⟩
   ·exact absurd hD h4
   ·omega
   exact absurd h8 (hh.2 b0 p0 h6 (cutP_some h7).2)
 rcases hlv b' p' (hab b' h3).2 h4 with h6 | ⟨b0,p0,h6,h7,h8⟩
 ·omega
 exact hh.2 b0 p0 h6 h7 (h8.trans h5)
theorem CallR.okN {g:FuncId}{args:List AV}{H:Hp}{n:Nat}{v0:AV}(L:List Nat)(ha:RLtL n args)(hL:∀b∈L,b<n)(hb:∀b∈L,∀k,H.get b=some k->RLtB n k)
  (h:∀H0:Hp,Top H0 n->(∀c∈L,H0.get c=H.get c)->CallR P g args H0 n (λ v K _=>Frz (above n K) v v0/\∀c,c<n->K.get c=H0.get c)):CallOk P g args H n v0 H n:=by
 refine CallR.okZ L ha hL hb hb (λ _ _=>rfl) ((h (pick H L) (pick_top hL) λ c hc=>pick_in hc).mono λ v K k ⟨h1,h2⟩=>⟨h1,λ b hm y hy=>⟨y,?_,.inl rfl⟩⟩);rw[h2 b (hL b hm),pick_in hm];exact hy
theorem BZ.refl (h:Hf)(y:ABlk):BZ h y y:=.inl rfl
end
end Go.Abs
