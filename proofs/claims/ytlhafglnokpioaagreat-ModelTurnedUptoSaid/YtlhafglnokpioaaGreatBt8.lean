/- A part. -/
import Derived.Test.YtlhafglnokpioaaGreatBt7
noncomputable section
namespace Go.Abs
open List
open Go.Proofs
open Classical
set_option maxRecDepth 100000
def holdL (row:List Val):List Ex->Bool×Int
 |[]=>(true,0)
 |e::r=>if (e.ev row).2≠0 then (false,(e.ev row).2)else if (e.ev row).1.kind≠0/\(e.ev row).1.kind≠3 then (false,30)else if (e.ev row).1≠gR true then (false,0)else holdL row r
def dX (row:List Val)(l:List Ex):Bool×Int:=if Ex.Bj (row.length:Int) l=true then (if row.all Val.may=true then holdL row l else (false,5))else (false,1)
def afJ (r:Bool×Int):AV:=.bo [.bool r.1,zI r.2]
theorem JJ {row:List Val}{l:List Ex}{i:Nat}(h:i<l.length):holdL row (l.drop i)=if (l[i].ev row).2≠0 then (false,(l[i].ev row).2)else if (l[i].ev row).1.kind≠0/\(l[i].ev row).1.kind≠3 then (false,30)else if (l[i].ev row).1≠gR true then (false,0)else holdL row (l.drop (i+1)):=by
 rw[ga h,holdL]
theorem YM (b:Bool)(v u:Val):og b [.i,.i,.s] (.agg [zI v.kind,zI v.num,.str v.s] 3) u.av=.val (.bool (b != decide (v=u))):=by
 have:=DT b v u
 by_cases h:v=u
 ·simp[h,Val.av]
 simpa[h,Val.av]using this
section
variable {rv:AV}{row:List Val}
theorem IU (hr:jD rv row) (l:List Ex) (hl:l.length<=aU) (hs:∀e∈l,e.sz<=aU):aj pG 150 [jg.ds l,rv] (afJ (dX row l)):=by
 have hw:=Gq hr;obtain⟨o1,o2⟩:=hr.one;have hlen:=hr.len;have hll:=jg.aM l;refine gW c150 (by simp[hr.pure]) (by simp[afJ]) (by simp[A150]) λ F hF=>?_;simp[A150,hF,hll];unfold dX;generalize row.all Val.may=z at hw ⊢;refine aE.of (λ t F K n ms=>∃i,t=l.length - i/\i<=l.length/\(∀j (h:j<l.length),j<i->l[j].vL (row.length:Int)=true)/\F.get 0=some (jg.ds l)/\F.get 1=some rv/\F.get 12=some (jg.ds l)/\F.get 13=some (zI (l.length:Int))/\F.get 14=some (zI (i:Int))/\ms=[]) l.length ⟨0,ae,ae,λ j _ h=>ae,by simp[hF],by simp[hF],ah,ah,ah,rfl⟩ ?_;rintro t F' K n ms ⟨i,rfl,hi,hok,f0,f1,f12,f13,f14,rfl⟩
 by_cases hlt:i<l.length
 ·have hx:=jg.ix (ik:=.i64) hlt;have hsx:=hs _ (dw hlt);have hrt:=GI l[i] row.length hsx;have hav:jg.av l[i]=l[i].av:=rfl;simp[NT,f14,f13,hlt,f12,hx,jg.pQ,hav,f1,hlen];refine aB.pure hrt ?_
  cases hk:l[i].vL (row.length:Int)with
  |false =>
   have:Ex.Bj (row.length:Int) l=false:=by
    cases hz:Ex.Bj (row.length:Int) l with
    |false=>rfl
    |true=>rw[Ex.Df hz _ (dw hlt)]at hk;cases hk
   simp[this,ac1];exact fp
  |true =>
   simp[ac0,f14,aD i (by unfold aU at *;omega)];refine⟨l.length - (i+1),ae,i+1,ae,ae,λ j h hj=>?_,by simp[f0],by simp[f1],by simp[f12],by simp[f13],ah⟩
   by_cases e:j=i
   ·subst e;exact hk
   exact hok j h ae
 have hall : Ex.Bj (row.length:Int) l=true:=by
  have:∀(l:List Ex),(∀e∈l,e.vL (row.length:Int)=true)->Ex.Bj (row.length:Int) l=true:=by
   intro l
   induction l with
   |nil=>intro _;rfl
   |cons e r ih=>intro h;simp[Ex.Bj,h e ah,ih λ x hx=>h x (by simp[hx])]
  refine this l λ e he=>?_;obtain⟨j,hj,rfl⟩:=getElem_of_mem he;exact hok j hj ae
 simp[NT,f14,f13,hlt,hall,acZ,f1];refine aB.pure hw ?_
 cases z with
 |false=>simp[acY];exact fp
 |true =>
  simp[acX,f0,hll];have hev:∀x∈l,aj pG 218 [x.av,rv] (cO (x.ev row)):=λ x hx=>Js hr aU x (hs x hx) (aK _) (Ex.Df hall x hx);refine aE.of (λ t F K n ms=>∃i,t=l.length - i/\i<=l.length/\holdL row l=holdL row (l.drop i)/\F.get 1=some rv/\F.get 27=some (jg.ds l)/\F.get 28=some (zI (l.length:Int))/\F.get 29=some (zI (i:Int))/\ms=[]) l.length ⟨0,ae,ae,rfl,by simp[f1],ah,ah,ah,rfl⟩ ?_;clear f0 f12 f13 f14 f1 hi hok hlt;rintro t F' K n ms ⟨i,rfl,hi,hd,f1,f27,f28,f29,rfl⟩
  by_cases hlt:i<l.length
  ·have hx := jg.ix (ik:=.i64) hlt;have hav:jg.av l[i]=l[i].av:=rfl;have hv:=hev _ (dw hlt);rw[hd,JJ hlt];generalize hre:l[i].ev row=re at hv ⊢;simp[NS,f29,f28,hlt,f27,hx,jg.pQ,hav,f1];refine aB.pure hv ?_;have ht:=xG true;simp[cO,Val.av,SD]
   by_cases he:re.2=0
   ·simp[he,SB]
    by_cases hk:re.1.kind=0∨re.1.kind=3
    ·have hkk:¬(re.1.kind≠0/\re.1.kind≠3):=ae;have ey:=YM true re.1 (gR true);have yv:(gR true).av=.agg [zI (gR true).kind,zI (gR true).num,.str (gR true).s] 3:=rfl;have cond:(if re.1.kind=0 then false else !decide (re.1.kind=3))=false:=by rcases hk with h|h<;>simp[h]
     rcases hk with h0|h3
     ·have hne:¬re.1=gR true:=by intro e;rw[e]at h0;simp[gR]at h0
      simp[h0,Fv];refine bC.of (eh (l:=[(219,[.bool true],λ H n=>.mk (gR true).av H n)]) ?_) ?_
      ·simp only[mi];rintro y rfl;exact cR ht
      rw[h0]at ey;simp[ab,bX,ey,hne,Ft];exact fp
     simp[h3,Fv];refine bC.of (eh (l:=[(219,[.bool true],λ H n=>.mk (gR true).av H n)]) ?_) ?_
     ·simp only[mi];rintro y rfl;exact cR ht
     rw[h3]at ey;simp[ab,bX,ey];refine zT.ofB (λ hz=>?_) (λ hz=>?_)
     ·have hne:¬re.1=gR true:=by simpa using hz
      simp[Ft,hne];exact fp
     have hne:re.1=gR true:=by simpa using hz
     simp[Sz,ab,f29,aD i (by unfold aU at *;omega)];exact⟨l.length - (i+1),ae,i+1,ae,ae,by rw[aw hne],by simp[f1],by simp[f27],by simp[f28],ah⟩
    have h1:¬re.1.kind=0:=λ e=>hk (.inl e);have h3:¬re.1.kind=3:=λ e=>hk (.inr e);simp[h1,h3,SA];exact fp
   simp[he,SC];exact fp
  obtain rfl:i=l.length:=ae;simp[NS,f29,f28,Su,hd,holdL];exact fp
end
end Go.Abs
namespace Go.Abs
open List
open Go.Proofs
open Classical
set_option maxRecDepth 100000
section
variable {P:Program}
theorem axU.of {g:FuncId}{args l:List AV}{T I:AV}{len sz:Nat}(hp:aP args) (hl:aP l) (hT:Pure T) (hI:Pure I) (h:ak P g args .nil 0 (λ v H' n'=>∃b k,v=.agg [T,I,.sl b 0 len sz] 3/\b<n'/\H'.get b=some k/\OwnB k l/\l.length=len*sz)):
  ∀(H:Hp) (n:Nat),bu P g args H n (.agg [T,I,.sl n 0 len sz] 3) (H.put n (some (.cells (len*sz) [] l .nil))) (n+1):=by
 intro H n;refine⟨h.1,Nat.le_succ n,λ φ D w xs hr hv hf R hR=>?_⟩;refine h.2 mJ D w xs (tC hr.eS) (hp.uy hv) (λ _ _=>rfl) R λ v H' n' φ' D' w' x ho e r hx=>?_;obtain⟨b,k,rfl,hb,hk,ho,hlen⟩:=ho
 cases hx with
 |agg _ _ _ hx _ =>
 cases hx with
 |cons _ y1 _ _ hT2 hx =>
 cases hx with
 |cons _ y2 _ _ hI2 hx =>
 cases hx with
 |cons _ x3 _ _ hx hn0 =>
 cases hn0
 cases hx with
 |sl _ _ _ _ cb co cz cap ad hp' hle had =>
 have hn:φ n=none:=hf n (aK _) ae;have hm:=Ph.gV (p:=(cb,co,cz)) hn;have hlive:=r.block hk hp'
 have hcb:w.heap.size<=cb:=by
  rcases e.live b _ (by rw[hk];simp) hp' with h|⟨b0,p0,hh,_⟩
  ·exact h
  simp at hh
 have hdn:∀c,D' c≠none->D c≠none∨w.heap.size<=c:=by
  intro c hc
  rcases e.kR c hc with h|h|⟨b0,p0,hh,_⟩
  ·exact .inl h
  ·exact .inr h
  simp at hh
 have hold:∀c p,H.get c≠none->φ c=some p->p.1<w.heap.size:=by
  intro c p hc hp
  cases hx:H.get c with
  |none=>exact ar hx hc
  |some k=>exact(hr.block hx hp).1
 have hhn:H.get n=none:=by
  cases hx:H.get n with
  |none=>rfl
  |some k=>obtain⟨p,hp,_⟩:=hr.blk n k hx;rw[hn]at hp;cases hp
 refine hR (φ.set n (cb,co,cz)) D' w' _ ⟨Nat.le_succ n,hm,?_,e.eS,e.size,λ c hc _=>e.keep c hc λ b p hb=>by simp at hb,?_,λ c hc=>(hdn c hc).elim .inl λ h=>.inr (.inl h),?_,e.os,e.out⟩ ⟨?_,?_,?_,r.eS⟩ ?_
 ·intro c h0 h1;unfold Ph.set at h1
  by_cases hc:c=n
  ·omega
  simp[hc,h0]at h1
 ·intro c p hc hp;rw[Tr.get_put]at hc;unfold Ph.set at hp
  by_cases hcn:c=n
  ·subst hcn;simp at hp;subst hp;exact .inl hcb
  simp[hcn]at hc hp;exact .inr ⟨c,p,hc,hp,rfl⟩
 ·intro c hc;rw[Tr.get_put]at hc
  by_cases hcn:c=n
  ·exact .inr ae
  simp[hcn]at hc;exact .inl hc
 ·intro c kk hc;rw[Tr.get_put]at hc
  by_cases hcn:c=n
  ·subst hcn;simp at hc;subst hc;refine⟨(cb,co,cz),by simp[Ph.set],hlive.1,?_⟩;obtain⟨u,z,bs,t,rfl,hu,hg,hi⟩:=ho;obtain⟨cc,ee,fr,q1,q2,q3,q4,q5,q6⟩:=hlive.2;refine⟨cc,ee,fr,q1,q2,q3,λ i v hv=>?_,λ _ _=>hlen,ae⟩;rw[jz]at hv
   split at hv
   ·have:=hg i;rw[hv]at this;obtain⟨y,hy,hvy⟩:=q4 i v this;exact⟨y,hy,(hl.mem v (mem_of_getElem? hv)).out hvy⟩
   cases hv
  rw[ai hcn]at hc;obtain⟨p,hp,hlt,hbk⟩:=hr.blk c kk hc;exact⟨p,hm _ _ hp,Nat.lt_of_lt_of_le hlt e.size,hbk.mono hm e.eS (e.keep _ hlt λ b p hb=>by simp at hb)⟩
 ·intro c d p q hc hd hp hq hpq;rw[Tr.get_put]at hc hd;unfold Ph.set at hp hq
  by_cases h1:c=n<;>by_cases h2:d=n<;>simp[h1,h2]at hc hd hp hq ⊢
  ·have:=hold d q hd hq;rw[<-hp]at hpq;simp at hpq;omega
  ·have:=hold c p hc hp;rw[<-hq]at hpq;simp at hpq;omega
  exact hr.inj c d p q hc hd hp hq hpq
 ·intro c p hc hp;rw[Tr.get_put]at hc;unfold Ph.set at hp
  by_cases h1:c=n
  ·subst h1;simp at hp;subst hp;exact r.sep b (cb,co,cz) (by rw[hk];simp) hp'
  simp[h1]at hc hp
  cases hD:D' p.1 with
  |none=>rfl
  |some x =>
   rcases hdn p.1 (by rw[hD];simp)with h|h
   ·exact ar (hr.sep c p hc hp) h
   have:=hold c p hc hp;omega
 exact .agg _ _ _ (.cons _ _ _ _ (hT.out hT2) (.cons _ _ _ _ (hI.out hI2) (.cons _ _ _ _ (.sl _ _ _ _ cb co cz cap ad (by simp[Ph.set]) hle had) .nil))) rfl
end
end Go.Abs
namespace Go.Abs
open List
open Go.Proofs
open Classical
set_option maxRecDepth 100000
def dN (L:List (List Val)):AV:=if L=[]then .ds [] 0 0 else .ds (aJ L) L.length 1
@[simp] theorem am7 (L:List (List Val)):Pure (dN L):=by
 unfold dN
 by_cases h:L=[]
 ·simp[h]
 simp[h]
def dM (L:List (List Val)):Prop:=L.Pairwise λ a b=>dK a b<=0
def oK (L:List (List Val)):List (List Val):=if h:∃L':List (List Val),L'.Perm L/\dM L' then Classical.choose h else L
theorem VJ {L L':List (List Val)}(hp:L'.Perm L)(hs:dM L'):(oK L).Perm L/\dM (oK L):=by
 have h:∃L':List (List Val),L'.Perm L/\dM L':=⟨L',hp,hs⟩;unfold oK;rw[dif_pos h];exact Classical.choose_spec h
theorem CV {L L':List (List Val)}(hm:∀r∈L,eI r)(hp:L'.Perm L)(hs:dM L'):L'=oK L:=by
 obtain⟨h1,h2⟩:=VJ hp hs;exact Ji (hp.trans h1.symm) (λ r hr=>hm r (hp.mem_iff.1 hr)) hs h2
theorem aoz (h:Hf)(b o sz:Nat):FJ h (.sl b o 0 sz) (.ds [] 0 0):=by
 intro φ D w x _ hx
 cases hx with
 |sl _ _ _ _ cb co cz cap ad=>exact .pW _ _ _
theorem Yb {r:List Val}(hr:eI r):∀ {L:List (List Val)},(∀x∈L,eI x)->dM L->∃M:List (List Val),M.Perm (r::L)/\dM M
 |[],_,_=>⟨[r],.refl _,by simp[dM]⟩
 |x :: L,hm,hs=>by
  have hx:=hm x ah;have hL:∀y∈L,eI y:=λ y hy=>hm y (by simp[hy]);simp only[dM,pairwise_cons]at hs
  by_cases h:dK r x<=0
  ·refine⟨r::x::L,.refl _,?_⟩;simp only[dM,pairwise_cons,mem_cons];refine⟨?_,hs⟩;rintro y (rfl|hy)
   ·exact h
   exact lg hr hx (hL y hy) h (hs.1 y hy)
  obtain⟨M,hp,hM⟩:=Yb hr hL hs.2;refine⟨x::M,(hp.cons x).trans (.swap _ _ _),?_⟩;simp only[dM,pairwise_cons];refine⟨λ y hy=>?_,hM⟩
  rcases mem_cons.1 (hp.mem_iff.1 hy)with rfl|hy
  ·have:=jI hr hx;omega
  exact hs.1 y hy
theorem Om:∀ {L:List (List Val)},(∀x∈L,eI x)->∃M:List (List Val),M.Perm L/\dM M
 |[],_=>⟨[],.refl _,by simp[dM]⟩
 |r::L,hm=>by
  obtain⟨M,hp,hs⟩:=Om (L:=L) λ x hx=>hm x (by simp[hx]);obtain⟨N,hq,ht⟩:=Yb (hm r ah) (λ x hx=>hm x (by simp[hp.mem_iff.1 hx])) hs;exact⟨N,hq.trans (hp.cons r),ht⟩
theorem ajH {L:List (List Val)}(hm:∀r∈L,eI r):(oK L).Perm L/\dM (oK L):=by
 obtain⟨M,hp,hs⟩:=Om hm;exact VJ hp hs
abbrev nS:AV:=.aV (.slice none 0 0)
structure OwF (w:pe)(F:Fr):Prop where
 f1:F.get 1=some (.ptr 0 0)
 f2:F.get 2=some (.ptr 1 0)
 f3:F.get 3=some (.ptr 2 0)
structure OwM (w:pe)(i j:Nat)(vt vi vr:AV)(K:Hp)(m:Nat):Prop where
 hm:3<=m
 tp:dh K m
 k0:K.get 0=aR 3 (oW.cells w)
 k1:K.get 1=aR 3 [nS,nS,nS]
 k2:K.get 2=aR 3 [vt,vi,vr]
 ot:aC K m vt (aH.l (w.aL.tables.take i)) i 4
 oi:aC K m vi (bp.l (w.aL.indexes.take j)) j 6
 ow:aC K m vr ((w.rows.take i).map dN) i 1
 dt:∀c,blk vt=some c->3<=c
 di:∀c,blk vi=some c->3<=c/\blk vt≠some c/\blk vr≠some c
 dr:∀c,blk vr=some c->3<=c/\blk vt≠some c
 wz:i=0->vr=nS
theorem aka (w:pe)(hs:w.aL.gG)(hl:w.rows.length=w.aL.tables.length)(hS:∀L∈w.rows,aj pG 58 [dx L] (dN L))(F:Fr)(K:Hp)(m:Nat)(Q:QA)(hF:OwF w F)(f10:F.get 10=some (aH.ds w.aL.tables))(f11:F.get 11=some (zI (w.aL.tables.length:Int)))(f12:F.get 12=some (zI 0))(M:OwM w 0 0 nS nS nS K m)
  (hQ:∀vt vr F K m,OwF w F->OwM w w.aL.tables.length 0 vt nS vr K m->Q .normal F K m []):aE S9 pG F K m [] (jE 0 Q):=by
 have ht:=hs.t;unfold aU at ht;refine aE.of (λ q F K m ms=>∃(i:Nat) (vt vr:AV),q=w.aL.tables.length - i/\i<=w.aL.tables.length/\OwF w F/\F.get 10=some (aH.ds w.aL.tables)/\F.get 11=some (zI (w.aL.tables.length:Int))/\F.get 12=some (zI (i:Int))/\OwM w i 0 vt nS vr K m/\ms=[]) w.aL.tables.length ⟨0,_,_,ah,ah,hF,f10,f11,f12,M,rfl⟩ ?_;clear hF f10 f11 f12 M F K m;rintro q1 F K m ms ⟨i,vt,vr,rfl,hi,⟨f1,f2,f3⟩,f10,f11,f12,M,rfl⟩;have k0:=M.k0;rw[uY]at k0
 by_cases hlt:i<w.aL.tables.length
 ·have hxx:=aH.ix (ik:=.i64) hlt;have hld:=λ H=>aH.pQ w.aL.tables[i] (aH.l (w.aL.tables.drop (i+1))) H;have htc:=hs.tc _ (dw hlt);unfold aU at htc;have hir:i<w.rows.length:=ae;have hxr:=iH.ix (ik:=.i64) hir;have hxs:=hS _ (dw hir);have hm:=M.hm;have tp:=M.tp;simp[S9,f10,f11,f12,hlt,hxx,hld,aZ.av];generalize hK1:Tr.put (Tr.put K m _) m _=K1;have g1:∀c,c<m->K1.get c=K.get c:=λ c hc=>by rw[<-hK1];simp[ky hc]
  have x1:K1.get m=aR 4 (aH.cells w.aL.tables[i]):=by rw[<-hK1];simp
  have t1:dh K1 (m+1):=λ c hc=>by
   have e1:¬c=m:=ae;rw[<-hK1];simp[e1,tp c ae]
  clear hK1;rw[eK]at x1;simp[aiO,x1];refine aB.pure (PO w.aL.tables[i].cols (by unfold aU;omega)) ?_;have k21:=(g1 2 ae).trans M.k2;have hto:=M.ot.fS;have hwo:=M.ow.fS;have hta:=λ c h=>M.ot.df (c:=c) h;have hwa:=λ c h=>M.ow.df (c:=c) h;simp[x1,aiN,f3,show ¬ 2=m by omega,k21];generalize hK3:Tr.put (Tr.put K1 m _) (m+1) _=K3;have g3:∀c,c<m->K3.get c=K1.get c:=λ c hc=>by rw[<-hK3];simp[ky hc]
  have x3:K3.get (m+1)=aR 4 (aH.cells w.aL.tables[i]):=by rw[<-hK3];simp[eK]
  have t3:dh K3 (m+1+1):=λ c hc=>by
   have e1:¬c=m:=ae;have e2:¬c=m+1:=ae;rw[<-hK3];simp[e1,e2,t1 c ae]
  clear hK3;have ot3:aC K3 (m+1+1) vt (aH.l (w.aL.tables.take i)) i 4:=M.ot.frame ae λ c hc=>(g3 c (hta c hc)).trans (g1 c (hta c hc));refine aC.U2 (k:=1) (new:=aH.cells w.aL.tables[i]) ot3 (bD x3) ah ah ae ae (by unfold big;omega) ae ah λ K4 o4 g4=>?_;have k24:=(g4 2 ae λ h=>by have:=M.dt 2 h;omega).trans ((g3 2 ae).trans k21);have k04:=(g4 0 ae λ h=>by have:=M.dt 0 h;omega).trans ((g3 0 ae).trans ((g1 0 ae).trans k0));simp[f3,k24,aiM];generalize hK5:Tr.put K4 2 _=K5;have g5:∀c,c≠2->K5.get c=K4.get c:=λ c hc=>by rw[<-hK5];simp[hc]
  have x5:K5.get 2=aR 3 [.sl (m+1+1) 0 (i+1) 4,nS,vr]:=by rw[<-hK5];simp
  clear hK5
  have t5:dh K5 (m+1+1+1):=λ c hc=>by
   rw[g5 c ae,g4 c ae (λ h=>by have:=hta c h;omega),t3 c ae]
  have k05:=(g5 0 ae).trans k04;have av4:cK 1 (iH.ds w.rows) (zI (i:Int))=.val (.dp (dx w.rows[i]::iH.l (w.rows.drop (i+1)))):=hxr;have a5:∀c,c<m->c≠2->blk vt≠some c->K5.get c=K.get c:=λ c h1 h2 h3=>(g5 c h2).trans ((g4 c ae h3).trans ((g3 c h1).trans (g1 c h1)));refine bC.of (eh (l:=[(58,[dx w.rows[i]],λ H n=>.mk (dN w.rows[i]) H n)]) ?_) ?_
  ·simp only[mi];rintro y rfl;exact cR hxs
  have tdl:(dx w.rows[i]).len=1/\(dx w.rows[i]).cells=[dx w.rows[i]]:=⟨rfl,rfl⟩
  have td:(dN w.rows[i]).len=1/\(dN w.rows[i]).cells=[dN w.rows[i]]/\(dN w.rows[i]).one=true:=by
   unfold dN;split<;>exact⟨rfl,rfl,rfl⟩
  have n5:=t5.none;have ow5:aC K5 (m+1+1+1) vr ((w.rows.take i).map dN) i 1:=M.ow.frame ae λ c hc=>a5 c (hwa c hc) (by have:=M.dr c hc;omega) (M.dr c hc).2;simp[ab,bX,f1,f3,k05,x5,av4,td.1,td.2.1,cN,dm,n5];generalize hK6:Tr.put K5 (m+1+1+1) _=K6;have g6:∀c,c<m+1+1+1->K6.get c=K5.get c:=λ c hc=>by rw[<-hK6];simp[ky hc]
  have x6:K6.get (m+1+1+1)=aR 1 [dN w.rows[i]]:=by rw[<-hK6];simp
  have t6:dh K6 (m+1+1+1+1):=λ c hc=>by
   have e1:¬c=m+1+1+1:=ae;rw[<-hK6];simp[e1,t5 c ae]
  clear hK6;have ow6:aC K6 (m+1+1+1+1) vr ((w.rows.take i).map dN) i 1:=ow5.frame ae λ c hc=>g6 c (ow5.df hc);refine aC.zr (k:=1) (new:=[dN w.rows[i]]) ow6 (bD x6) ah ah ae ae (by unfold big;omega) ae (by simp[td.2.2]) λ K7 o7 g7=>?_;have g7':∀c,c≠m+1+1+1+1->blk vr≠some c->K7.get c=K6.get c:=λ c h1 h2=>g7 c h1 λ e=>h2 (by rw[e];rfl);have nr:∀c,c<3->blk vr≠some c:=λ c h1 h2=>by have:=(M.dr c h2).1;omega
  have x7:=(g7' 2 ae (nr 2 ae)).trans ((g6 2 ae).trans x5)
  have t7:dh K7 (m+1+1+1+1+1):=λ c hc=>by
   rw[g7' c ae (λ h=>by have:=hwa c h;omega),t6 c ae]
  simp[ab,f3,x7,aiL,f12,aD i ae];have b7:∀c,c<m+1+1+1->blk vr≠some c->K7.get c=K5.get c:=λ c h1 h2=>(g7' c ae h2).trans (g6 c h1);have nt:∀c,c<3->blk vt≠some c:=λ c h1 h2=>by have:=M.dt c h2;omega
  refine⟨w.aL.tables.length - (i+1),ae,i+1,rfl,hlt,⟨by simp[ab,f1],by simp[ab,f2],by simp[ab,f3]⟩,by simp[f10],by simp[f11],ah,.sl (m+1+1) 0 (i+1) 4,.sl (m+1+1+1+1) 0 (i+1) 1,⟨ae,λ c hc=>?_,?_,?_,ah,?_,by simpa using aC.nil _ _ 6,?_,λ c hc=>by simp at hc;omega,ah,λ c hc=>by simp at hc;subst hc;simp,λ e=>ae⟩⟩
  ·rw[Tr.get_put,ai ae];exact t7 c hc
  ·rw[Tr.get_put,ai ae];exact(b7 0 ae (nr 0 ae)).trans k05
  ·rw[Tr.get_put,ai ae];exact(b7 1 ae (nr 1 ae)).trans ((a5 1 ae ae (nt 1 ae)).trans M.k1)
  ·rw[take_add_one,cX hlt,Option.toList,aZ.gX,aZ.Bt];refine o4.frame ae λ c hc=>?_;simp at hc;subst hc;rw[Tr.get_put,ai ae];exact(b7 _ ae (λ h=>by have:=hwa _ h;omega)).trans (g5 _ ae)
  rw[take_add_one,cX hir,Option.toList,map_append];refine o7.frame ae λ c hc=>?_;simp at hc;subst hc;rw[Tr.get_put,ai ae]
 obtain rfl:i=w.aL.tables.length:=ae;simp[S9,f11,f12];exact hQ vt vr _ K m ⟨by simp[f1],by simp[f2],by simp[f3]⟩ M
theorem aj' (w:pe)(hs:w.aL.gG)(vt vr:AV)(i:Nat)(F:Fr)(K:Hp)(m:Nat)(Q:QA)(hF:OwF w F)(f43:F.get 43=some (bp.ds w.aL.indexes))(f44:F.get 44=some (zI (w.aL.indexes.length:Int)))(f45:F.get 45=some (zI 0))(M:OwM w i 0 vt nS vr K m)
  (hQ:∀vi F K m,OwF w F->OwM w i w.aL.indexes.length vt vi vr K m->Q .normal F K m []):aE S8 pG F K m [] (jE 2 Q):=by
 have ht:=hs.i;unfold aU at ht;refine aE.of (λ q F K m ms=>∃(j:Nat) (vi:AV),q=w.aL.indexes.length - j/\j<=w.aL.indexes.length/\OwF w F/\F.get 43=some (bp.ds w.aL.indexes)/\F.get 44=some (zI (w.aL.indexes.length:Int))/\F.get 45=some (zI (j:Int))/\OwM w i j vt vi vr K m/\ms=[]) w.aL.indexes.length ⟨0,_,ah,ah,hF,f43,f44,f45,M,rfl⟩ ?_;clear hF f43 f44 f45 M F K m;rintro q1 F K m ms ⟨j,vi,rfl,hi,⟨f1,f2,f3⟩,f43,f44,f45,M,rfl⟩
 by_cases hlt:j<w.aL.indexes.length
 ·have hxx:=bp.ix (ik:=.i64) hlt;have hld:=λ H=>bp.pQ w.aL.indexes[j] (bp.l (w.aL.indexes.drop (j+1))) H;have htc:=hs.ic _ (dw hlt);unfold aU at htc;have hm:=M.hm;have tp:=M.tp;simp[S8,f43,f44,f45,hlt,hxx,hld,aZ.av];generalize hK1:Tr.put (Tr.put K m _) m _=K1;have g1:∀c,c<m->K1.get c=K.get c:=λ c hc=>by rw[<-hK1];simp[ky hc]
  have x1:K1.get m=aR 6 (bp.cells w.aL.indexes[j]):=by rw[<-hK1];simp
  have t1:dh K1 (m+1):=λ c hc=>by
   have e1:¬c=m:=ae;rw[<-hK1];simp[e1,tp c ae]
  clear hK1;rw[iT]at x1;simp[abX,x1];refine aB.pure (PN w.aL.indexes[j].cols (by unfold aU;omega)) ?_;have k21:=(g1 2 ae).trans M.k2;have hto:=M.ot.fS;have hio:=M.oi.fS;have hwo:=M.ow.fS;have hta:=λ c h=>M.ot.df (c:=c) h;have hia:=λ c h=>M.oi.df (c:=c) h;have hwa:=λ c h=>M.ow.df (c:=c) h;simp[x1,abW,f3,show ¬ 2=m by omega,k21];generalize hK3:Tr.put (Tr.put K1 m _) (m+1) _=K3;have g3:∀c,c<m->K3.get c=K1.get c:=λ c hc=>by rw[<-hK3];simp[ky hc]
  have x3:K3.get (m+1)=aR 6 (bp.cells w.aL.indexes[j]):=by rw[<-hK3];simp[iT]
  have t3:dh K3 (m+1+1):=λ c hc=>by
   have e1:¬c=m:=ae;have e2:¬c=m+1:=ae;rw[<-hK3];simp[e1,e2,t1 c ae]
  clear hK3;have ot3:aC K3 (m+1+1) vi (bp.l (w.aL.indexes.take j)) j 6:=M.oi.frame ae λ c hc=>(g3 c (hia c hc)).trans (g1 c (hia c hc));refine aC.U2 (k:=1) (new:=bp.cells w.aL.indexes[j]) ot3 (bD x3) ah ah ae ae (by unfold big;omega) ae ah λ K4 o4 g4=>?_;have ni:∀c,c<3->blk vi≠some c:=λ c h1 h2=>by have:=(M.di c h2).1;omega
  have k24:=(g4 2 ae (ni 2 ae)).trans ((g3 2 ae).trans k21);simp[f3,k24,abV,f45,aD j ae];have a4:∀c,c<m->blk vi≠some c->K4.get c=K.get c:=λ c h1 h3=>(g4 c ae h3).trans ((g3 c h1).trans (g1 c h1));refine⟨w.aL.indexes.length - (j+1),ae,j+1,rfl,hlt,⟨by simp[f1],by simp[f2],by simp[f3]⟩,by simp[f43],by simp[f44],ah,.sl (m+1+1) 0 (j+1) 6,⟨ae,λ c hc=>?_,?_,?_,ah,?_,?_,?_,M.dt,λ c hc=>?_,M.dr,M.wz⟩⟩
  ·rw[Tr.get_put,ai ae,g4 c ae (λ h=>by have:=hia c h;omega),t3 c ae]
  ·rw[Tr.get_put,ai ae,a4 0 ae (ni 0 ae)];exact M.k0
  ·rw[Tr.get_put,ai ae,a4 1 ae (ni 1 ae)];exact M.k1
  ·refine M.ot.frame ae λ c hc=>?_;have h1:=hta c hc;have h2:=M.dt c hc;rw[Tr.get_put,ai ae];exact a4 c h1 λ h=>(M.di c h).2.1 hc
  ·rw[take_add_one,cX hlt,Option.toList,aZ.gX,aZ.Bt];refine o4.frame ae λ c hc=>?_;simp at hc;subst hc;rw[Tr.get_put,ai ae]
  ·refine M.ow.frame ae λ c hc=>?_;have h1:=hwa c hc;have h2:=(M.dr c hc).1;rw[Tr.get_put,ai ae];exact a4 c h1 λ h=>(M.di c h).2.2 hc
  simp at hc;subst hc;exact⟨ae,λ h=>by have:=hta _ h;omega,λ h=>by have:=hwa _ h;omega⟩
 obtain rfl:j=w.aL.indexes.length:=ae;simp[S8,f44,f45];exact hQ vi _ K m ⟨by simp[f1],by simp[f2],by simp[f3]⟩ M
theorem FJ.agg {h:Hf}{l l':List AV}(n:Nat)(f:FJL h l l'):FJ h (.agg l n) (.agg l' n):=by
 intro φ D w x hr hx
 cases hx with
 |agg _ xs _ h1 h2 =>
  refine .agg _ _ _ ?_ (by rw[f.length];exact h2);clear h2
  induction f generalizing xs with
  |nil=>cases h1;exact .nil
  |cons v v' vs vs' a b ih =>
   cases h1 with
   |cons _ y _ ys h3 h4=>exact .cons _ _ _ _ (a φ D w y hr h3) (ih ys h4)
theorem Xo (w:pe)(hs:w.aL.gG)(hl:w.rows.length=w.aL.tables.length)(hS:∀L∈w.rows,aj pG 58 [dx L] (dN L)):
  ak pG 24 [oW.av w] .nil 0 (λ v K n=>∃vt vi vr,v=.agg [vt,vi,vr] 3/\aC K n vt (aH.l w.aL.tables) w.aL.tables.length 4/\aC K n vi (bp.l w.aL.indexes) w.aL.indexes.length 6/\aC K n vr (w.rows.map dN) w.rows.length 1/\(∀c,blk vr=some c->blk vt≠some c/\blk vi≠some c)/\(w.rows=[]->vr=nS)):=by
 refine ak.of c24 (by simp[A24]) λ F hF=>?_;simp[A24,hF,aZ.av,uY,aZ.aM];refine aka w hs hl hS _ _ _ _ ⟨ah,ah,ah⟩ ah ah ah ⟨ae,λ c hc=>by simp[show ¬c=0 by omega,show ¬c=1 by omega,show ¬c=2 by omega],by simp[uY],ah,ah,by simpa using aC.nil _ _ 4,by simpa using aC.nil _ _ 6,by simpa using aC.nil _ _ 1,ah,ah,ah,λ _=>rfl⟩ λ vt vr F K m ⟨f1,f2,f3⟩ M=>?_;have k0:=M.k0;rw[uY]at k0;simp[aiK,f1,k0,aZ.aM];refine aj' w hs vt vr _ _ _ _ _ ⟨by simp[f1],by simp[f2],by simp[f3]⟩ ah ah ah M λ vi F K m ⟨f1,f2,f3⟩ M=>?_;have k1:=M.k1;have k2:=M.k2;have h1:=M.ot.fS;have h2:=M.oi.fS;have h3:=M.ow.fS;simp[abU,f2,f3,k1,k2,h1,h2,h3];have ot:=M.ot;have oi:=M.oi;have ow:=M.ow;rw[take_length]at ot oi;rw[<-hl,take_length]at ow;refine⟨vt,vi,vr,⟨rfl,rfl,rfl⟩,ot.frame (aK _) λ c hc=>?_,oi.frame (aK _) λ c hc=>?_,ow.frame (aK _) λ c hc=>?_,λ c hc=>⟨(M.dr c hc).2,λ h=>(M.di c h).2.2 hc⟩,λ h=>M.wz (by rw[<-hl,h];rfl)⟩
 ·have:=M.dt c hc;simp[show ¬c=1 by omega]
 ·have:=(M.di c hc).1;simp[show ¬c=1 by omega]
 have:=(M.dr c hc).1;simp[show ¬c=1 by omega]
def tA (n:Nat)(L:List (List (List Val))):AV:=if L=[]then nS else .sl n 0 L.length 1
theorem apb (w:pe)(hs:w.aL.gG)(hl:w.rows.length=w.aL.tables.length)(h0:w.rows≠[])(hS:∀L∈w.rows,aj pG 58 [dx L] (dN L))(H:Hp)(n:Nat):
  bu pG 24 [oW.av w] H n (.agg [aH.ds w.aL.tables,bp.ds w.aL.indexes,.sl n 0 w.rows.length 1] 3) (H.put n (some (.cells (w.rows.length*1) [] (w.rows.map dN) .nil))) (n+1):=by
 refine axU.of ah (aP.rW λ v hv=>by obtain⟨L,_,rfl⟩:=mem_map.1 hv;simp) ah ah (((Xo w hs hl hS).zs (R2:=λ v K n=>∃b k,v=.agg [aH.ds w.aL.tables,bp.ds w.aL.indexes,.sl b 0 w.rows.length 1] 3/\b<n/\K.get b=some k/\OwnB k (w.rows.map dN)) λ v K n ⟨vt,vi,vr,hv,ot,oi,ow,hd,_⟩=>?_).mono λ v K n ⟨b,k,q1,q2,q3,q4⟩=>⟨b,k,q1,q2,q3,q4,ah⟩) H n;subst hv;obtain⟨h1,⟨_,h2⟩|⟨b,k,rfl,hb,hk,ho⟩⟩:=ow
 ·exact ar (length_eq_zero_iff.1 h2) h0
 have hdb:=hd b rfl;have fz:∀ {v:AV} {l:List AV} {len sz:Nat},aC K n v l len sz->blk v≠some b->aP l->0<sz->e_ (K.put b none).get v (.ds l len sz):=λ ov hb hp hz=>(ov.frame (H':=K.put b none) (aK _) λ c hc=>by rw[Tr.get_put,ai (λ e=>hb (by rw[<-e];exact hc))]).nV (bc.pure hp) hz;refine⟨(K.put b none).get,pick K [b],_,rq.some [b] (λ c y hc=>?_) (λ c hc=>?_),FJ.agg 3 (.cons _ _ _ _ (.nV (fz ot hdb.1 ah ae)) (.cons _ _ _ _ (.nV (fz oi hdb.2 ah ae)) (.cons _ _ _ _ (.refl _ _) .nil))),b,k,rfl,hb,by rw[fH ah];exact hk,ho⟩
 ·rw[Tr.get_put]at hc
  split at hc
  ·cases hc
  exact hc
 intro hm;simp at hm;subst hm;simp at hc
def xE:List (AV×AV×Nat):=[(zI 1,.fn (.func 60) [] [],0),(zI 2,.fn (.func 61) [] [],1),(zI 3,.fn (.func 62) [] [],2),(zI 4,.fn (.func 63) [] [],3),(zI 5,.fn (.func 64) [] [],4),(zI 6,.fn (.func 65) [] [],5),(zI 7,.fn (.func 66) [] [],6),(zI 8,.fn (.func 67) [] [],7)]
theorem ajt (H:Hp)(n:Nat):bu pG 25 [] H n (.map n) (H.put n (some (.map xE 8))) (n+1):=by
 have h:ak pG 25 [] .nil n (λ u K k=>u=.map n/\(∀b y,((Tr.nil:Hp).put n (some (.map xE 8))).get b=some y->∃y',K.get b=some y'/\BLe y' y)/\k<=n+1):=by
  refine ak.of c25 (by simp[A25]) λ F hF=>?_;simp[A25,lJ,rE,isKey,iM,dY];exact λ _ _ _ _ h=>h
 refine ak.okS h ae ah ah ah (λ b hb=>?_) (λ b _ hb=>?_)
 ·rcases hb with hb|hb
  ·simp at hb
  simp[show b=n by omega]
 rw[Tr.get_put,ai ae]
def N3 (k:Int):AV:=if 1<=k/\k<=8 then .fn (.func (59+k.toNat)) [] []else .aV .nilFunc
theorem ajv (k:Int)(H:Hp)(b:Nat)(hb:H.get b=some (.map xE 8)):fo .i (.aV .nilFunc) false (.map b) (zI k) H=.val (N3 k):=by
 unfold fo N3;simp only[hb,isKey]
 by_cases h:1<=k/\k<=8
 ·rw[aw h];have:k=1∨k=2∨k=3∨k=4∨k=5∨k=6∨k=7∨k=8:=ae
  rcases this with rfl|rfl|rfl|rfl|rfl|rfl|rfl|rfl<;>simp[xE,findKey,dY]
 rw[ai h];have e1:(k == 1)=false:=by simp;omega
 have e2:(k == 2)=false:=by simp;omega
 have e3:(k == 3)=false:=by simp;omega
 have e4:(k == 4)=false:=by simp;omega
 have e5:(k == 5)=false:=by simp;omega
 have e6:(k == 6)=false:=by simp;omega
 have e7:(k == 7)=false:=by simp;omega
 have e8:(k == 8)=false:=by simp;omega
 simp[xE,findKey,dY,e1,e2,e3,e4,e5,e6,e7,e8]
def eG (row:List Val)(l:List Ex):List Val:=l.map λ e=>(jo row e).1
def rj (row:List Val)(l:List Ex)(a:Int):Int:=l.foldl (λ a e=>gQ a (jo row e).2) a
theorem I7 (row:List Val){l:List Ex}{i:Nat}(h:i<l.length):eG row (l.take (i+1))=eG row (l.take i)++[(jo row l[i]).1]:=by
 unfold eG;rw[take_add_one,cX h,Option.toList,map_append];rfl
theorem UJ (row:List Val){l:List Ex}{i:Nat}(h:i<l.length)(a:Int):rj row (l.take (i+1)) a=gQ (rj row (l.take i) a) (jo row l[i]).2:=by
 unfold rj;rw[take_add_one,cX h,Option.toList,foldl_append];rfl
theorem Az (l m:List Val):cM (l++m)=cM l++cM m:=by
 rw[<-rH,<-rH,<-rH,flatMap_append]
theorem I5 {rv:AV}{row:List Val}(hr:jD rv row)(l:List Ex)(hl:l.length<=aU)(hs:∀e∈l,e.sz<=aU)(H:Hp)(n q:Nat)(acc:Int)(hq:H.get q=aR 1 [zI acc])(hqn:q<n)(ht:dh H n):
  ak pG 144 [jg.ds l,rv,.fn (.func 165) [] [.ptr q 0]] H n (λ u K k=>aC K k u (cM (eG row l)) l.length 3/\(∀c,blk u=some c->n<=c)/\K.get q=aR 1 [zI (rj row l acc)]/\(∀c,c<n->c≠q->K.get c=H.get c)/\n<=k/\dh K k):=by
 unfold aU at hl;obtain⟨o1,o2⟩:=hr.one;have hll:=jg.aM l;refine ak.of c144 (by simp[A144]) λ F hF=>?_;simp[A144,hF,hll]
 refine aE.of (λ t F K m ms=>∃(i:Nat) (v:AV),t=l.length - i/\i<=l.length/\F.get 1=some rv/\F.get 2=some (.fn (.func 165) [] [.ptr q 0])/\F.get 7=some v/\F.get 12=some (jg.ds l)/\F.get 13=some (zI (l.length:Int))/\F.get 14=some (zI (i:Int))/\n<=m/\aC K m v (cM (eG row (l.take i))) i 3/\(∀c,blk v=some c->n<=c)/\K.get q=aR 1 [zI (rj row (l.take i) acc)]/\(∀c,c<n->c≠q->K.get c=H.get c)/\dh K m/\ms=[]) l.length
  ⟨0,nS,ae,ae,by simp[hF],by simp[hF],ah,ah,ah,ah,ae,by simpa[eG,cM]using aC.nil _ _ 3,ah,by simpa[rj]using hq,λ _ _ _=>rfl,ht,rfl⟩ ?_
 rintro t F' K m ms ⟨i,v,rfl,hi,f1,f2,f7,f12,f13,f14,hm,ho,hb,kq,kf,tp,rfl⟩
 by_cases hlt:i<l.length
 ·have hx:=jg.ix (ik:=.i64) hlt;have hav:jg.av l[i]=l[i].av:=rfl;have hev:=agC hr l[i] (hs _ (dw hlt));have hone:=ho.fS;simp[NU,f14,f13,hlt,f12,hx,jg.pQ,hav,f1];refine aB.pure hev ?_;generalize hre:jo row l[i]=re;simp[cO,Val.av,ac8,f2];generalize hK1:Tr.put (Tr.put (Tr.put (Tr.put K m _) m _) (m+1) _) (m+1) _=K1;have g1:∀c,c<m->K1.get c=K.get c:=λ c hc=>by rw[<-hK1];simp[ky hc]
  have x1:K1.get (m+1)=aR 3 [zI re.1.kind,zI re.1.num,.str re.1.s]:=by rw[<-hK1];simp
  have t1:dh K1 (m+1+1):=λ c hc=>by
   have e1:¬c=m:=ae;have e2:¬c=m+1:=ae;rw[<-hK1];simp[e1,e2,tp c ae]
  clear hK1;refine aB.of (lH (rj row (l.take i) acc) re.2 ((g1 q ae).trans kq)) λ u K2 n2 ⟨hu,q2,hn2,k2⟩=>?_;subst hu hn2;have x2:=(k2 (m+1) ae).trans x1;simp[ac7,f7,x2];generalize hK3:Tr.put K2 (m+1+1) _=K3;have g3:∀c,c<m+1+1->K3.get c=K2.get c:=λ c hc=>by rw[<-hK3];simp[ky hc]
  have x3:K3.get (m+1+1)=aR 3 re.1.cells:=by rw[<-hK3];simp[Val.cells]
  have t3:dh K3 (m+1+1+1):=λ c hc=>by
   have e1:¬c=m+1+1:=ae;rw[<-hK3];simp[e1,k2 c ae,t1 c ae]
  clear hK3;have a3:∀c,c<m->c≠q->K3.get c=K.get c:=λ c h1 h2=>(g3 c ae).trans ((k2 c h2).trans (g1 c h1));have nq:blk v≠some q:=λ h=>by have:=hb q h;omega
  have o3:aC K3 (m+1+1+1) v (cM (eG row (l.take i))) i 3:=ho.frame ae λ c hc=>a3 c (ho.df hc) (λ e=>nq (by rw[<-e];exact hc));refine aC.U2 (k:=1) (new:=re.1.cells) o3 (bD x3) ah (by simp[Val.cells]) ae ae (by unfold big;omega) ae (by simp[Val.cells]) λ K4 o4 g4=>?_;simp[ac6,f14,aD i ae];have nb:∀c,c<n->blk v≠some c:=λ c h1 h2=>by have:=hb c h2;omega
  refine⟨l.length - (i+1),ae,i+1,ae,ae,by simp[f1],by simp[f2],by simp[f12],by simp[f13],ah,ae,?_,ae,?_,λ c h1 h2=>?_,λ c hc=>?_⟩
  ·rw[I7 row hlt,hre,Az];simpa[cM]using o4
  ·rw[UJ row hlt,hre];exact(g4 q ae nq).trans ((g3 q ae).trans q2)
  ·exact(g4 c ae (nb c h1)).trans ((a3 c ae h2).trans (kf c h1 h2))
  exact(g4 c ae (λ h=>by have:=ho.df h;omega)).trans (t3 c ae)
 obtain rfl:i=l.length:=ae;rw[take_length]at ho kq;have hone:=ho.fS;simp[NU,f14,f13,ac5,f7];exact⟨ho,hb,kq,kf,hm,tp⟩
theorem aC.awV {K:Hp}{k n:Nat}{u:AV}{l:List AV}{len sz:Nat}(h:aC K k u l len sz)(hb:∀c,blk u=some c->n<=c)(hp:aP l)(hz:0<sz):e_ (above n K) u (.ds l len sz):=by
 refine e_.mono (h:=(pick K (blk u).toList).get) (λ b y hy=>?_) ((h.frame (H':=pick K (blk u).toList) (aK _) λ c hc=>by rw[fH (by simp[hc])]).nV (bc.pure hp) hz);rw[eP]at hy
 split at hy
 ·rename_i hm;simp at hm;unfold above;rw[aw (hb b hm)];exact hy
 cases hy
theorem rq.cut (K:Hp)(n:Nat):rq (above n K) K (pick K (range n)):=
 rq.some _ CB λ b hb hm=>by
  have:b<n:=by simpa using hm
  unfold above at hb;rw[ai ae]at hb;exact hb rfl
theorem DU (K:Hp)(n:Nat):(∀c,c<n->(pick K (range n)).get c=K.get c)/\dh (pick K (range n)) n:=
 ⟨λ c hc=>fH (by simpa using hc),lx λ b hb=>by simpa using hb⟩
theorem vF (l:List Val):aP (cM l):=by simp
theorem Tv {rv:AV}{row:List Val}(hr:jD rv row)(l:List Ex)(hl:l.length<=aU)(hs:∀e∈l,e.sz<=aU)(H:Hp)(n q:Nat)(acc:Int)(hq:H.get q=aR 1 [zI acc])(hqn:q<n)(ht:dh H n):
  ak pG 144 [jg.ds l,rv,.fn (.func 165) [] [.ptr q 0]] H n (λ u K k=>u=ay (eG row l)/\K.get q=aR 1 [zI (rj row l acc)]/\(∀c,c<n->c≠q->K.get c=H.get c)/\n<=k/\dh K n):=by
 refine(I5 hr l hl hs H n q acc hq hqn ht).zs λ u K k ⟨h1,h2,h3,h4,h5,h6⟩=>⟨above n K,pick K (range n),ay (eG row l),rq.cut K n,.nV ?_,rfl,?_,λ c hc hcq=>?_,h5,(DU K n).2⟩
 ·have:=h1.awV h2 (vF _) ae;rw[show l.length=(eG row l).length by simp[eG]]at this;exact this
 ·rw[(DU K n).1 q hqn];exact h3
 rw[(DU K n).1 c hc];exact h4 c hc hcq
def dC (T I R:AV)(b:oH)(N C W:AV)(c:Int):List AV:=T::I::R::(b.cells++[N,C,W,zI c])
@[simp] theorem alH (T I R:AV)(b:oH)(N C W:AV)(c:Int):(dC T I R b N C W c).length=32:=rfl
def D9 (s:cn)(id:Int):Int:=kN (λ t:bK=>decide (t.id=id)) s.tables
theorem tH {H:Hp}{b i:Nat}{k:bG}{L:List AV}(hb:H.get b=some k)(ho:OwnB k L)(hi:i<L.length){v:AV}(h1:v.len=1/\v.cells=[v]/\v.one=true):∃y,mF 1 (.ptr b i) v H=.upd (.bo []) b y/\OwnB y (L.set i v):=by
 have ho':=ho;obtain⟨u,z,bs,t,rfl,h3,h4,_⟩:=ho;refine⟨mN u z bs t [v] i,?_,ho'.st hi _⟩;have hu:i+1<=u:=ae;simp[mF,hb,hu,h1.1,h1.2.1,h1.2.2]
end Go.Abs
namespace Go.Abs
open List
open Go.Proofs
open Classical
set_option maxRecDepth 100000
structure Cp (α:Type) where
 g:FuncId
 first:List AV
 cap:List AV
 av:α->AV
 c:α->α->Int
 El:α->Prop
 J:Hp->Prop
 bk:Nat
 lo:Nat
structure Cp.Ok {α:Type}(C:Cp α)(P:Program):Prop where
 call:∀x y,C.El x->C.El y->∀H n,C.J H->C.lo<n->bu P C.g (C.first++([C.av x,C.av y]++C.cap)) H n (zI (C.c x y)) H n
 stay:∀H K,C.J H->(∀b,b<=C.lo->b≠C.bk->K.get b=H.get b)->C.J K
 one:∀x,(C.av x).one=true
 bl:C.bk<=C.lo
 Iw:∀x y,C.El x->C.El y->(C.c x y<0↔0<C.c y x)
 trans:∀x y z,C.El x->C.El y->C.El z->C.c x y<=0->C.c y z<=0->C.c x z<=0
def Cp.fv {α:Type}(C:Cp α):AV:=.fn (.func C.g) C.first C.cap
variable {α:Type}{C:Cp α}{P:Program}
theorem Cp.Ok.le (ho:C.Ok P){x y:α}(hx:C.El x)(hy:C.El y)(h:¬C.c y x<0):C.c x y<=0:=by
 have:=ho.Iw y x hy hx;omega
def Cp.ce (C:Cp α)(x y:α):Ce:=ceT [(C.g,C.first++([C.av x,C.av y]++C.cap),λ H n=>if C.J H/\C.lo<n then .mk (zI (C.c x y)) H n else .fail)]
theorem Cp.iY (ho:C.Ok P){x y:α}(hx:C.El x)(hy:C.El y):iI P (C.ce x y):=by
 refine eh ?_;simp only[mi];rintro z rfl H n v H' n' h;dsimp only at h
 split at h
 ·rename_i hc;injection h with h1 h2 h3;subst h1 h2 h3;exact ho.call x y hx hy H n hc.1 hc.2
 cases h
theorem Cp.ed {x y:α}{H:Hp}{n:Nat}(h:C.J H)(hn:C.lo<n):(C.ce x y).call C.g (C.first++C.av x::C.av y::C.cap) H n=.mk (zI (C.c x y)) H n:=by
 show (C.ce x y).call C.g (C.first++([C.av x,C.av y]++C.cap)) H n=_;unfold Cp.ce;rw[bX];simp[h,hn]
def swp (d:Nat->α)(i j:Nat):Nat->α:=λ k=>if k=j then d i else if k=i then d j else d k
inductive PS (a b:Nat):(Nat->α)->(Nat->α)->Prop
 |refl (d:Nat->α):PS a b d d
 |sw {d e:Nat->α} (i j:Nat):PS a b d e->a<=i->i<b->a<=j->j<b->PS a b d (swp e i j)
variable {a b N:Nat}{d e f:Nat->α}
theorem PS.trans (h:PS a b d e)(k:PS a b e f):PS a b d f:=by
 induction k with
 |refl=>exact h
 |sw i j _ h1 h2 h3 h4 ih=>exact .sw i j ih h1 h2 h3 h4
theorem PS.one {i j:Nat}(h1:a<=i)(h2:i<b)(h3:a<=j)(h4:j<b):PS a b d (swp d i j):=.sw i j (.refl d) h1 h2 h3 h4
theorem PS.out (h:PS a b d e){k:Nat}(hk:k<a∨b<=k):e k=d k:=by
 induction h with
 |refl=>rfl
 |sw i j _ h1 h2 h3 h4 ih=>rw[<-ih];unfold swp;rw[ai ae,ai ae]
theorem PS.val (h:PS a b d e){k:Nat}(h1:a<=k)(h2:k<b):∃k',a<=k'/\k'<b/\e k=d k':=by
 induction h generalizing k with
 |refl=>exact⟨k,h1,h2,rfl⟩
 |sw i j _ g1 g2 g3 g4 ih =>
  unfold swp
  split
  ·exact ih g1 g2
  split
  ·exact ih g3 g4
  exact ih h1 h2
theorem PS.wide (h:PS a b d e){a' b':Nat}(ha:a'<=a)(hb:b<=b'):PS a' b' d e:=by
 induction h with
 |refl=>exact .refl _
 |sw i j _ h1 h2 h3 h4 ih=>exact .sw i j ih ae ae ae ae
theorem PS.all (h:PS a b d e)(hb:b<=N){E:α->Prop}(hE:∀k,k<N->E (d k)):∀k,k<N->E (e k):=λ k hk=>by
 by_cases h1:k<a∨b<=k
 ·rw[h.out h1];exact hE k hk
 obtain⟨k',_,h3,h4⟩:=h.val (k:=k) ae ae;rw[h4];exact hE k' ae
theorem Ol (i j:Nat){β:Type}(g:α->β):((range N).map λ k=>g (swp d i j k))=(((range N).map λ k=>g (d k)).set i (g (d j))).set j (g (d i)):=by
 refine ext_getElem ah λ k h1 h2=>?_;simp only[getElem_map,getElem_range,getElem_set,swp]
 by_cases e1:j=k
 ·subst e1;simp
 by_cases e2:i=k
 ·subst e2;simp[e1,Ne.symm e1]
 simp[e1,e2,Ne.symm e1,Ne.symm e2]
theorem W8 (X Y Z:List α)(x y:α):(X++y::(Y++x::Z)).Perm (X++x::(Y++y::Z)):=
 Perm.append_left X (((perm_middle.cons y).trans (.swap x y _)).trans ((perm_middle.symm).cons x))
theorem W9 {l:List α}{i j:Nat}(hij:i<j) (hj:j<l.length):((l.set i l[j]).set j l[i]).Perm l:=by
 obtain⟨X,hX⟩:∃X,X=l.take i:=⟨_,rfl⟩;obtain⟨Y,hY⟩:∃Y,Y=(l.drop (i+1)).take (j - i - 1):=⟨_,rfl⟩;obtain⟨Z,hZ⟩:∃Z,Z=l.drop (j+1):=⟨_,rfl⟩
 have e:l=X++l[i]::(Y++l[j]::Z):=by
  have h1:l.drop (i+1)=Y++l[j]::Z:=by
   rw[hY,hZ]
   have h2:(l.drop (i+1)).drop (j - i - 1)=l[j]::l.drop (j+1):=by
    rw[drop_drop,show i+1+(j - i - 1)=j by omega];exact ga hj
   rw[<-h2,take_append_drop]
  rw[<-h1,hX,<-ga ae,take_append_drop]
 have lX:X.length=i:=by rw[hX,length_take];omega
 have lY:j=X.length+1+Y.length:=by rw[hY,lX,length_take,length_drop];omega
 generalize l[i]=x at *;generalize l[j]=y at *;subst e;rw[<-lX,lY,aek];exact W8 X Y Z x y
theorem VF {i j:Nat}(hi:i<N)(hj:j<N):((range N).map (swp d i j)).Perm ((range N).map d):=by
 have key:∀ {i j:Nat} {d:Nat->α},i<j->j<N->((range N).map (swp d i j)).Perm ((range N).map d):=by
  intro i j d hij hj;have h1:=Ol (N:=N) (d:=d) i j (λ x=>x);have h2:=W9 (l:=(range N).map d) hij (by simpa using hj);simp only[getElem_map,getElem_range]at h2;have h3:(range N).map (swp d i j)=(((range N).map d).set i (d j)).set j (d i):=h1;rw[h3];exact h2
 rcases Nat.lt_trichotomy i j with h|h|h
 ·exact key h hj
 ·subst h;have:swp d i i=d:=by funext k;unfold swp;split<;>simp_all
  rw[this]
 have:swp d i j=swp d j i:=by funext k;unfold swp;by_cases h1:k=j<;>by_cases h2:k=i<;>simp_all
 rw[this];exact key h hi
theorem PS.perm (h:PS a b d e)(hb:b<=N):((range N).map e).Perm ((range N).map d):=by
 induction h with
 |refl=>exact .refl _
 |sw i j _ h1 h2 h3 h4 ih=>exact(VF ae ae).trans ih
def fc (C:Cp α)(H0:Hp)(n N:Nat)(d:Nat->α)(K:Hp):Prop:=(∃y,K.get C.bk=some y/\OwnB y ((range N).map λ k=>C.av (d k)))/\∀b,b≠C.bk->b<n->K.get b=H0.get b
variable {H0 K:Hp}{n:Nat}
theorem fc.ld (h:fc C H0 n N d K){i:Nat}(hi:i<N):cE (.ptr C.bk i) K=.val (C.av (d i)):=by
 obtain⟨⟨y,h1,h2⟩,_⟩:=h;rw[nJ h1 h2 (by simpa using hi)];simp
theorem fc.J (ho:C.Ok P)(h:fc C H0 n N d K)(hJ:C.J H0)(hn:C.lo<n):C.J K:=ho.stay _ _ hJ λ b h1 h2=>h.2 b h2 ae
theorem fc.two (ho:C.Ok P)(h:fc C H0 n N d K){i j:Nat}(hi:i<N)(hj:j<N):∃y1 y2,mF 1 (.ptr C.bk i) (C.av (d j)) K=.upd (.bo []) C.bk y1/\mF 1 (.ptr C.bk j) (C.av (d i)) (K.put C.bk (some y1))=.upd (.bo []) C.bk y2/\fc C H0 n N (swp d i j) ((K.put C.bk (some y1)).put C.bk (some y2)):=by
 obtain⟨⟨y,h1,h2⟩,h3⟩:=h;have hv:∀x,(C.av x).len=1/\(C.av x).cells=[C.av x]/\(C.av x).one=true:=λ x=>⟨(yy (ho.one x)).1,(yy (ho.one x)).2,ho.one x⟩;obtain⟨y1,s1,o1⟩:=tH h1 h2 (i:=i) (by simpa using hi) (hv (d j));obtain⟨y2,s2,o2⟩:=tH (H:=K.put C.bk (some y1)) (by rw[Tr.get_put,aw rfl]) o1 (i:=j) (by simpa using hj) (hv (d i));refine⟨y1,y2,s1,s2,⟨y2,by rw[Tr.get_put,aw rfl],?_⟩,λ b hb hn=>?_⟩
 ·rw[Ol];exact o2
 rw[Tr.get_put,ai hb,Tr.get_put,ai hb];exact h3 b hb hn
theorem fc.refl {H:Hp}(h:∃y,H.get C.bk=some y/\OwnB y ((range N).map λ k=>C.av (d k))):fc C H n N d H:=⟨h,λ _ _ _=>rfl⟩
end Go.Abs
namespace Go.Abs
open List
open Go.Proofs
open Classical
set_option maxRecDepth 100000
variable {α:Type}{C:Cp α}{P:Program}{a b N:Nat}{d e:Nat->α}
def ji (C:Cp α)(a b:Nat)(d:Nat->α):Prop:=∀p q,a<=p->p<q->q<b->C.c (d p) (d q)<=0
def zS (C:Cp α)(a i j:Nat)(d:Nat->α):Prop:=∀p q,a<=p->p<q->q<=i->q≠j->C.c (d p) (d q)<=0
theorem zS.of {i:Nat}(h:ji C a i d):zS C a i i d:=λ p q h1 h2 h3 h4=>h p q h1 h2 ae
theorem zS.step {i j:Nat}(h:zS C a i j d)(h1:a<j)(h2:j<=i)(hl:C.c (d j) (d (j - 1))<0):zS C a i (j - 1) (swp d j (j - 1)):=by
 intro p q g1 g2 g3 g4;unfold swp;rw[ai g4]
 by_cases e1:p=j - 1
 ·rw[aw e1]
  by_cases e2:q=j
  ·rw[aw e2];omega
  rw[ai e2];exact h j q ae ae g3 e2
 rw[ai e1]
 by_cases e2:q=j
 ·rw[aw e2,ai ae];exact h p (j - 1) g1 ae ae ae
 rw[ai e2]
 by_cases e3:p=j
 ·rw[aw e3];exact h (j - 1) q ae ae g3 e2
 rw[ai e3];exact h p q g1 g2 g3 e2
theorem zS.fin (ho:C.Ok P)(hE:∀k,k<N->C.El (d k)){i j:Nat}(h:zS C a i j d)(h1:a<=j)(h2:j<=i)(hi:i<N)(hl:a<j->¬C.c (d j) (d (j - 1))<0):ji C a (i+1) d:=by
 intro p q g1 g2 g3
 by_cases e:q=j
 ·subst e;have h3:=ho.le (hE (q - 1) ae) (hE q ae) (hl ae)
  by_cases e2:p=q - 1
  ·rw[e2];exact h3
  exact ho.trans _ (d (q - 1)) _ (hE _ ae) (hE _ ae) (hE _ ae) (h p (q - 1) g1 ae ae ae) h3
 exact h p q g1 g2 ae e
theorem akS (ho:C.Ok pG){H0 H:Hp}{n0 n:Nat}(hd:fc C H0 n0 N d H) (hJ:C.J H0) (hn0:C.lo<n0) (hn:n0<=n) (hE:∀k,k<N->C.El (d k)) (hab:a<=b) (hbN:b<=N) (hN:N<1000000):
  ak pG 265 [.sl C.bk 0 N 1,zI (a:Int),zI (b:Int),C.fv] H n (λ w K j=>w=.bo []/\(∃d',PS a b d d'/\ji C a b d'/\fc C H0 n0 N d' K)/\j=n):=by
 refine ak.of c265 (by simp[A265]) λ F hF=>?_;have w0:IntKind.i64.wrap ((a:Int)+1)=((a+1:Nat):Int):=by rw[aN _ ae ae];omega
 simp[A265,hF,w0];refine aE.of (λ t F' K n' ms=>∃i d',t=N+1 - i/\a+1<=i/\i<=N+1/\F'.get 0=some (.sl C.bk 0 N 1)/\F'.get 1=some (zI (a:Int))/\F'.get 2=some (zI (b:Int))/\F'.get 3=some C.fv/\F'.get 8=some (zI (i:Int))/\n=n'/\ms=[]/\PS a b d d'/\ji C a i d'/\fc C H0 n0 N d' K) (N+1 - (a+1)) ⟨a+1,d,rfl,ae,ae,by simp[hF],by simp[hF],by simp[hF],by simp[hF],ah,rfl,rfl,.refl d,λ p q h1 h2 h3=>ae,hd⟩ ?_;rintro t F1 K n' ms ⟨i,d1,rfl,hi1,hi2,f0,f1,f2,f3,f8,rfl,rfl,ps,so,hK⟩
 by_cases hlt:i<b
 ·have hlt':(i:Int)<(b:Int):=ae;simp[vz,f8,f2,hlt'];refine aE.of (λ t F' K' n' ms=>∃j d2,j=t/\a<=j/\j<=i/\F'.get 0=some (.sl C.bk 0 N 1)/\F'.get 1=some (zI (a:Int))/\F'.get 2=some (zI (b:Int))/\F'.get 3=some C.fv/\F'.get 8=some (zI (i:Int))/\F'.get 9=some (zI (j:Int))/\n=n'/\ms=[]/\PS a b d d2/\zS C a i j d2/\fc C H0 n0 N d2 K') i ⟨i,d1,rfl,ae,ae,by simp[f0],by simp[f1],by simp[f2],by simp[f3],by simp[f8],ah,rfl,rfl,ps,.of so,hK⟩ ?_;clear f0 f1 f2 f3 f8 hK so ps d1;rintro t F2 K' n' ms ⟨j,d2,rfl,hj1,hj2,f0,f1,f2,f3,f8,f9,rfl,rfl,ps,so,hK⟩;have hE2:=ps.all hbN hE;have w1:IntKind.i64.wrap ((i:Int)+1)=((i+1:Nat):Int):=by rw[aN _ ae ae];omega
  have done:(a<j->¬C.c (d2 j) (d2 (j - 1))<0)->ji C a (i+1) d2:=λ h=>so.fin ho hE2 hj1 hj2 ae h
  by_cases h0:j=a
  ·subst h0;simp[zM];refine bC.of (bh (P:=pG)) ?_;simp[ab,f1,f9,EC,f8,w1];exact⟨N+1 - (i+1),ae,i+1,rfl,ae,ae,f0,f2,f3,ah,d2,ps,done ae,hK⟩
  have hBa:(a:Int)<(j:Int):=ae;have w2:IntKind.i64.wrap ((j:Int) - 1)=((j - 1:Nat):Int):=by rw[aN _ ae ae];omega
  have x1:=bJ (bk:=C.bk) (N:=N) (i:=j) ae;have x2:=bJ (bk:=C.bk) (N:=N) (i:=j - 1) ae;have l1:=hK.ld (i:=j) ae;have l2:=hK.ld (i:=j - 1) ae;obtain⟨y1,y2,s1,s2,t2⟩:=hK.two ho (i:=j) (j:=j - 1) ae ae;have hJ':=hK.J ho hJ hn0;generalize hj':j - 1=j' at *;simp[zM];refine bC.of (C.iY ho (hE2 j ae) (hE2 j' ae)) ?_;simp[ab,f0,f1,f3,f9,hBa,Cp.fv,w2,x1,x2,l1,l2,Cp.ed hJ' (show C.lo<n by omega)]
  by_cases hlt0:C.c (d2 j) (d2 j')<0
  ·simp[hlt0,abT];refine bC.of (bh (P:=pG)) ?_;simp[ab,f0,f1,f2,f3,f8,f9,Cp.fv,w2,x1,x2,l1,l2,s1,s2,abS];refine⟨j',ae,ae,ae,rfl,swp d2 j j',.sw j j' ps ae ae ae ae,?_,by simpa using t2⟩;rw[<-hj']at hlt0 ⊢;exact so.step ae hj2 hlt0
  simp[ab,hlt0,EC,f0,f1,f2,f3,f8,w1,Cp.fv];exact⟨N+1 - (i+1),ae,i+1,rfl,ae,ae,ah,d2,ps,done λ _=>by simpa[hj']using hlt0,hK⟩
 have hlt':¬(i:Int)<(b:Int):=ae;simp[vz,f8,f2,hlt'];exact⟨d1,ps,λ p q h1 h2 h3=>so p q h1 h2 ae,hK⟩
end Go.Abs
namespace Go.Abs
open List
open Go.Proofs
open Classical
set_option maxRecDepth 100000
variable {α:Type}{C:Cp α}{P:Program}{a b N:Nat}{d e:Nat->α}
def nf (p:Prop):Prop:=p
theorem nf.in {p:Prop}(h:p):nf p:=h
def Fs (C:Cp α)(N a si sj i j:Nat)(F:Fr):Prop:=F.get 0=some (.sl C.bk 0 N 1)/\F.get 1=some (zI (a:Int))/\F.get 4=some C.fv/\F.get si=some (zI (i:Int))/\F.get sj=some (zI (j:Int))
theorem aep {Q:QA}(ho:C.Ok pG){H0 K:Hp}{n0 n:Nat}(hd:fc C H0 n0 N d K)(hJ:C.J H0)(hn0:C.lo<n0)(hn:n0<=n)(hE:∀k,k<N->C.El (d k))(haN:a<N)(hN:N<1000000){F:Fr}{i j:Nat}(hF:Fs C N a 12 13 i j F)(hj:j<N)(hi:i<=j+1)
  (hQ:∀F' i',Fs C N a 12 13 i' j F'->i<=i'->i'<=j+1->(∀k,i<=k->k<i'->C.c (d k) (d a)<0)->(i'<=j->0<=C.c (d i') (d a))->Q (.exit 0) F' K n []):aE FU pG F K n [] Q:=by
 refine aE.of (λ t F' K' n' ms=>nf (∃i',t=j+1 - i'/\i<=i'/\i'<=j+1/\Fs C N a 12 13 i' j F'/\K'=K/\n'=n/\ms=[]/\∀k,i<=k->k<i'->C.c (d k) (d a)<0)) (j+1 - i) (nf.in ⟨i,rfl,aK _,hi,hF,rfl,rfl,rfl,λ k h1 h2=>ae⟩) ?_;rintro t F' K' n' ms ⟨i',rfl,h1,h2,⟨f0,f1,f4,f12,f13⟩,rfl,rfl,rfl,h3⟩
 by_cases hlt:i'<=j
 ·have hlt':(i':Int)<=(j:Int):=ae;have x1:=bJ (bk:=C.bk) (N:=N) (i:=i') ae;have x2:=bJ (bk:=C.bk) (N:=N) (i:=a) haN;have l1:=hd.ld (i:=i') ae;have l2:=hd.ld (i:=a) haN;have hJ':=hd.J ho hJ hn0;simp[FU];refine bC.of (C.iY ho (hE i' ae) (hE a haN)) ?_;simp[ab,f0,f1,f4,f12,f13,hlt,Cp.fv,x1,x2,l1,l2,Cp.ed hJ' (show C.lo<n' by omega)]
  by_cases hc:C.c (d i') (d a)<0
  ·
   have w:IntKind.i64.wrap ((i':Int)+1)=((i'+1:Nat):Int):=by rw[aN _ ae ae];omega
   simp[hc,abw,ab,f12,w];refine⟨j+1 - (i'+1),ae,nf.in ⟨i'+1,rfl,ae,ae,⟨by simp[ab,f0],by simp[ab,f1],by simp[ab,f4],ah,by simp[ab,f13]⟩,λ k g1 g2=>?_⟩⟩
   by_cases e:k=i'
   ·rw[e];omega
   exact h3 k g1 ae
  
  simp[hc];exact hQ _ i' ⟨by simp[ab,f0],by simp[ab,f1],by simp[ab,f4],by simp[ab,f12],by simp[ab,f13]⟩ h1 h2 h3 λ _=>ae
 have hlt':¬(i':Int)<=(j:Int):=ae;simp[FU];refine bC.of (bh (P:=pG)) ?_;simp[ab,f12,f13,hlt];exact hQ _ i' ⟨by simp[ab,f0],by simp[ab,f1],by simp[ab,f4],by simp[ab,f12],by simp[ab,f13]⟩ h1 h2 h3 λ h=>ar h hlt
theorem aeo {Q:QA}(ho:C.Ok pG){H0 K:Hp}{n0 n:Nat}(hd:fc C H0 n0 N d K)(hJ:C.J H0)(hn0:C.lo<n0)(hn:n0<=n)(hE:∀k,k<N->C.El (d k))(haN:a<N)(hN:N<1000000){F:Fr}{i j:Nat}(hF:Fs C N a 12 13 i j F)(hj:j<N)(hi:i<=j+1)(hi0:0<i)
  (hQ:∀F' j',Fs C N a 12 13 i j' F'->j'<=j->i<=j'+1->(∀k,j'<k->k<=j->0<=C.c (d k) (d a))->(i<=j'->C.c (d j') (d a)<0)->Q (.exit 2) F' K n []):aE FT pG F K n [] Q:=by
 refine aE.of (λ t F' K' n' ms=>nf (∃j',j'=t/\j'<=j/\i<=j'+1/\Fs C N a 12 13 i j' F'/\K'=K/\n'=n/\ms=[]/\∀k,j'<k->k<=j->0<=C.c (d k) (d a))) j (nf.in ⟨j,rfl,aK _,hi,hF,rfl,rfl,rfl,λ k h1 h2=>ae⟩) ?_;rintro t F' K' n' ms ⟨j',rfl,h1,h2,⟨f0,f1,f4,f12,f13⟩,rfl,rfl,rfl,h3⟩
 by_cases hlt:i<=j'
 ·have hlt':(i:Int)<=(j':Int):=ae;have x1:=bJ (bk:=C.bk) (N:=N) (i:=j') ae;have x2:=bJ (bk:=C.bk) (N:=N) (i:=a) haN;have l1:=hd.ld (i:=j') ae;have l2:=hd.ld (i:=a) haN;have hJ':=hd.J ho hJ hn0;simp[FT];refine bC.of (C.iY ho (hE j' ae) (hE a haN)) ?_;simp[ab,f0,f1,f4,f12,f13,hlt,Cp.fv,x1,x2,l1,l2,Cp.ed hJ' (show C.lo<n' by omega)]
  by_cases hc:C.c (d j') (d a)<0
  ·
   simp[hc];exact hQ _ j' ⟨by simp[ab,f0],by simp[ab,f1],by simp[ab,f4],by simp[ab,f12],by simp[ab,f13]⟩ h1 h2 h3 λ _=>ae
  
  have w:IntKind.i64.wrap ((j':Int) - 1)=((j' - 1:Nat):Int):=by rw[aN _ ae ae];omega
  simp[hc,abv,ab,f13,w];refine⟨j' - 1,ae,nf.in ⟨ae,ae,⟨by simp[ab,f0],by simp[ab,f1],by simp[ab,f4],by simp[ab,f12],ah⟩,λ k g1 g2=>?_⟩⟩
  by_cases e:k=j'
  ·rw[e];omega
  exact h3 k ae g2
 have hlt':¬(i:Int)<=(j':Int):=ae;simp[FT];refine bC.of (bh (P:=pG)) ?_;simp[ab,f12,f13,hlt];exact hQ _ j' ⟨by simp[ab,f0],by simp[ab,f1],by simp[ab,f4],by simp[ab,f12],by simp[ab,f13]⟩ h1 h2 h3 λ h=>ar h hlt
theorem aen {Q:QA}(ho:C.Ok pG){H0 K:Hp}{n0 n:Nat}(hd:fc C H0 n0 N d K)(hJ:C.J H0)(hn0:C.lo<n0)(hn:n0<=n)(hE:∀k,k<N->C.El (d k))(haN:a<N)(hN:N<1000000){F:Fr}{i j:Nat}(hF:Fs C N a 12 13 i j F)(hj:j<N)(hi:i<=j+1)
  (hQ:∀F' i',Fs C N a 12 13 i' j F'->i<=i'->i'<=j+1->(∀k,i<=k->k<i'->C.c (d k) (d a)<0)->(i'<=j->0<=C.c (d i') (d a))->Q (.exit 6) F' K n []):aE FQ pG F K n [] Q:=by
 refine aE.of (λ t F' K' n' ms=>nf (∃i',t=j+1 - i'/\i<=i'/\i'<=j+1/\Fs C N a 12 13 i' j F'/\K'=K/\n'=n/\ms=[]/\∀k,i<=k->k<i'->C.c (d k) (d a)<0)) (j+1 - i) (nf.in ⟨i,rfl,aK _,hi,hF,rfl,rfl,rfl,λ k h1 h2=>ae⟩) ?_;rintro t F' K' n' ms ⟨i',rfl,h1,h2,⟨f0,f1,f4,f12,f13⟩,rfl,rfl,rfl,h3⟩
 by_cases hlt:i'<=j
 ·have hlt':(i':Int)<=(j:Int):=ae;have x1:=bJ (bk:=C.bk) (N:=N) (i:=i') ae;have x2:=bJ (bk:=C.bk) (N:=N) (i:=a) haN;have l1:=hd.ld (i:=i') ae;have l2:=hd.ld (i:=a) haN;have hJ':=hd.J ho hJ hn0;simp[FQ];refine bC.of (C.iY ho (hE i' ae) (hE a haN)) ?_;simp[ab,f0,f1,f4,f12,f13,hlt,Cp.fv,x1,x2,l1,l2,Cp.ed hJ' (show C.lo<n' by omega)]
  by_cases hc:C.c (d i') (d a)<0
  ·
   have w:IntKind.i64.wrap ((i':Int)+1)=((i'+1:Nat):Int):=by rw[aN _ ae ae];omega
   simp[hc,QI,ab,f12,w];refine⟨j+1 - (i'+1),ae,nf.in ⟨i'+1,rfl,ae,ae,⟨by simp[ab,f0],by simp[ab,f1],by simp[ab,f4],ah,by simp[ab,f13]⟩,λ k g1 g2=>?_⟩⟩
   by_cases e:k=i'
   ·rw[e];omega
   exact h3 k g1 ae
  
  simp[hc];exact hQ _ i' ⟨by simp[ab,f0],by simp[ab,f1],by simp[ab,f4],by simp[ab,f12],by simp[ab,f13]⟩ h1 h2 h3 λ _=>ae
 have hlt':¬(i':Int)<=(j:Int):=ae;simp[FQ];refine bC.of (bh (P:=pG)) ?_;simp[ab,f12,f13,hlt];exact hQ _ i' ⟨by simp[ab,f0],by simp[ab,f1],by simp[ab,f4],by simp[ab,f12],by simp[ab,f13]⟩ h1 h2 h3 λ h=>ar h hlt
theorem aem {Q:QA}(ho:C.Ok pG){H0 K:Hp}{n0 n:Nat}(hd:fc C H0 n0 N d K)(hJ:C.J H0)(hn0:C.lo<n0)(hn:n0<=n)(hE:∀k,k<N->C.El (d k))(haN:a<N)(hN:N<1000000){F:Fr}{i j:Nat}(hF:Fs C N a 12 13 i j F)(hj:j<N)(hi:i<=j+1)(hi0:0<i)
  (hQ:∀F' j',Fs C N a 12 13 i j' F'->j'<=j->i<=j'+1->(∀k,j'<k->k<=j->0<=C.c (d k) (d a))->(i<=j'->C.c (d j') (d a)<0)->Q (.exit 8) F' K n []):aE FP pG F K n [] Q:=by
 refine aE.of (λ t F' K' n' ms=>nf (∃j',j'=t/\j'<=j/\i<=j'+1/\Fs C N a 12 13 i j' F'/\K'=K/\n'=n/\ms=[]/\∀k,j'<k->k<=j->0<=C.c (d k) (d a))) j (nf.in ⟨j,rfl,aK _,hi,hF,rfl,rfl,rfl,λ k h1 h2=>ae⟩) ?_;rintro t F' K' n' ms ⟨j',rfl,h1,h2,⟨f0,f1,f4,f12,f13⟩,rfl,rfl,rfl,h3⟩
 by_cases hlt:i<=j'
 ·have hlt':(i:Int)<=(j':Int):=ae;have x1:=bJ (bk:=C.bk) (N:=N) (i:=j') ae;have x2:=bJ (bk:=C.bk) (N:=N) (i:=a) haN;have l1:=hd.ld (i:=j') ae;have l2:=hd.ld (i:=a) haN;have hJ':=hd.J ho hJ hn0;simp[FP];refine bC.of (C.iY ho (hE j' ae) (hE a haN)) ?_;simp[ab,f0,f1,f4,f12,f13,hlt,Cp.fv,x1,x2,l1,l2,Cp.ed hJ' (show C.lo<n' by omega)]
  by_cases hc:C.c (d j') (d a)<0
  ·
   simp[hc];exact hQ _ j' ⟨by simp[ab,f0],by simp[ab,f1],by simp[ab,f4],by simp[ab,f12],by simp[ab,f13]⟩ h1 h2 h3 λ _=>ae
  
  have w:IntKind.i64.wrap ((j':Int) - 1)=((j' - 1:Nat):Int):=by rw[aN _ ae ae];omega
  simp[hc,QH,ab,f13,w];refine⟨j' - 1,ae,nf.in ⟨ae,ae,⟨by simp[ab,f0],by simp[ab,f1],by simp[ab,f4],by simp[ab,f12],ah⟩,λ k g1 g2=>?_⟩⟩
  by_cases e:k=j'
  ·rw[e];omega
  exact h3 k ae g2
 have hlt':¬(i:Int)<=(j':Int):=ae;simp[FP];refine bC.of (bh (P:=pG)) ?_;simp[ab,f12,f13,hlt];exact hQ _ j' ⟨by simp[ab,f0],by simp[ab,f1],by simp[ab,f4],by simp[ab,f12],by simp[ab,f13]⟩ h1 h2 h3 λ h=>ar h hlt
theorem aer {Q:QA}(ho:C.Ok pG){H0 K:Hp}{n0 n:Nat}(hd:fc C H0 n0 N d K)(hJ:C.J H0)(hn0:C.lo<n0)(hn:n0<=n)(hE:∀k,k<N->C.El (d k))(haN:a<N)(hN:N<1000000){F:Fr}{i j:Nat}(hF:Fs C N a 11 12 i j F)(hj:j<N)(hi:i<=j+1)
  (hQ:∀F' i',Fs C N a 11 12 i' j F'->i<=i'->i'<=j+1->(∀k,i<=k->k<i'->0<=C.c (d a) (d k))->(i'<=j->C.c (d a) (d i')<0)->Q (.exit 2) F' K n []):aE FX pG F K n [] Q:=by
 refine aE.of (λ t F' K' n' ms=>nf (∃i',t=j+1 - i'/\i<=i'/\i'<=j+1/\Fs C N a 11 12 i' j F'/\K'=K/\n'=n/\ms=[]/\∀k,i<=k->k<i'->0<=C.c (d a) (d k))) (j+1 - i) (nf.in ⟨i,rfl,aK _,hi,hF,rfl,rfl,rfl,λ k h1 h2=>ae⟩) ?_;rintro t F' K' n' ms ⟨i',rfl,h1,h2,⟨f0,f1,f4,f12,f13⟩,rfl,rfl,rfl,h3⟩
 by_cases hlt:i'<=j
 ·have hlt':(i':Int)<=(j:Int):=ae;have x1:=bJ (bk:=C.bk) (N:=N) (i:=i') ae;have x2:=bJ (bk:=C.bk) (N:=N) (i:=a) haN;have l1:=hd.ld (i:=i') ae;have l2:=hd.ld (i:=a) haN;have hJ':=hd.J ho hJ hn0;simp[FX];refine bC.of (C.iY ho (hE a haN) (hE i' ae)) ?_;simp[ab,f0,f1,f4,f12,f13,hlt,Cp.fv,x1,x2,l1,l2,Cp.ed hJ' (show C.lo<n' by omega)]
  by_cases hc:C.c (d a) (d i')<0
  ·
   simp[hc];exact hQ _ i' ⟨by simp[ab,f0],by simp[ab,f1],by simp[ab,f4],by simp[ab,f12],by simp[ab,f13]⟩ h1 h2 h3 λ _=>ae
  
  have w:IntKind.i64.wrap ((i':Int)+1)=((i'+1:Nat):Int):=by rw[aN _ ae ae];omega
  simp[hc,abB,ab,f12,w];refine⟨j+1 - (i'+1),ae,nf.in ⟨i'+1,rfl,ae,ae,⟨by simp[ab,f0],by simp[ab,f1],by simp[ab,f4],ah,by simp[ab,f13]⟩,λ k g1 g2=>?_⟩⟩
  by_cases e:k=i'
  ·rw[e];omega
  exact h3 k g1 ae
 have hlt':¬(i':Int)<=(j:Int):=ae;simp[FX];refine bC.of (bh (P:=pG)) ?_;simp[ab,f12,f13,hlt];exact hQ _ i' ⟨by simp[ab,f0],by simp[ab,f1],by simp[ab,f4],by simp[ab,f12],by simp[ab,f13]⟩ h1 h2 h3 λ h=>ar h hlt
theorem aeq {Q:QA}(ho:C.Ok pG){H0 K:Hp}{n0 n:Nat}(hd:fc C H0 n0 N d K)(hJ:C.J H0)(hn0:C.lo<n0)(hn:n0<=n)(hE:∀k,k<N->C.El (d k))(haN:a<N)(hN:N<1000000){F:Fr}{i j:Nat}(hF:Fs C N a 11 12 i j F)(hj:j<N)(hi:i<=j+1)(hi0:0<i)
  (hQ:∀F' j',Fs C N a 11 12 i j' F'->j'<=j->i<=j'+1->(∀k,j'<k->k<=j->C.c (d a) (d k)<0)->(i<=j'->0<=C.c (d a) (d j'))->Q (.exit 4) F' K n []):aE FV pG F K n [] Q:=by
 refine aE.of (λ t F' K' n' ms=>nf (∃j',j'=t/\j'<=j/\i<=j'+1/\Fs C N a 11 12 i j' F'/\K'=K/\n'=n/\ms=[]/\∀k,j'<k->k<=j->C.c (d a) (d k)<0)) j (nf.in ⟨j,rfl,aK _,hi,hF,rfl,rfl,rfl,λ k h1 h2=>ae⟩) ?_;rintro t F' K' n' ms ⟨j',rfl,h1,h2,⟨f0,f1,f4,f12,f13⟩,rfl,rfl,rfl,h3⟩
 by_cases hlt:i<=j'
 ·have hlt':(i:Int)<=(j':Int):=ae;have x1:=bJ (bk:=C.bk) (N:=N) (i:=j') ae;have x2:=bJ (bk:=C.bk) (N:=N) (i:=a) haN;have l1:=hd.ld (i:=j') ae;have l2:=hd.ld (i:=a) haN;have hJ':=hd.J ho hJ hn0;simp[FV];refine bC.of (C.iY ho (hE a haN) (hE j' ae)) ?_;simp[ab,f0,f1,f4,f12,f13,hlt,Cp.fv,x1,x2,l1,l2,Cp.ed hJ' (show C.lo<n' by omega)]
  by_cases hc:C.c (d a) (d j')<0
  ·
   have w:IntKind.i64.wrap ((j':Int) - 1)=((j' - 1:Nat):Int):=by rw[aN _ ae ae];omega
   simp[hc,abA,ab,f13,w];refine⟨j' - 1,ae,nf.in ⟨ae,ae,⟨by simp[ab,f0],by simp[ab,f1],by simp[ab,f4],by simp[ab,f12],ah⟩,λ k g1 g2=>?_⟩⟩
   by_cases e:k=j'
   ·rw[e];omega
   exact h3 k ae g2
  
  simp[hc];exact hQ _ j' ⟨by simp[ab,f0],by simp[ab,f1],by simp[ab,f4],by simp[ab,f12],by simp[ab,f13]⟩ h1 h2 h3 λ _=>ae
 have hlt':¬(i:Int)<=(j':Int):=ae;simp[FV];refine bC.of (bh (P:=pG)) ?_;simp[ab,f12,f13,hlt];exact hQ _ j' ⟨by simp[ab,f0],by simp[ab,f1],by simp[ab,f4],by simp[ab,f12],by simp[ab,f13]⟩ h1 h2 h3 λ h=>ar h hlt
end Go.Abs
namespace Go.Abs
open List
open Go.Proofs
open Classical
set_option maxRecDepth 100000
variable {α:Type}{C:Cp α}{P:Program}{a b N:Nat}{d e:Nat->α}
theorem dj {i j k:Nat}(h1:k≠i)(h2:k≠j):swp d i j k=d k:=by unfold swp;rw[ai h2,ai h1]
@[simp] theorem AG {i j:Nat}:swp d i j j=d i:=by unfold swp;rw[aw rfl]
@[simp] theorem tu {i j:Nat}:swp d i j i=d j:=by
 unfold swp
 split
 ·rename_i h;rw[h]
 simp
theorem aeO (ho:C.Ok pG){H0 H:Hp}{n0 n:Nat}(hd:fc C H0 n0 N d H)(hJ:C.J H0)(hn0:C.lo<n0)(hn:n0<=n)(hE:∀k,k<N->C.El (d k)){pv:Nat}(hap:a<=pv)(hpb:pv<b)(hbN:b<=N)(hN:N<1000000):
  ak pG 280 [.sl C.bk 0 N 1,zI (a:Int),zI (b:Int),zI (pv:Int),C.fv] H n (λ w K j=>(∃(mid:Nat) (d':Nat->α),w=zI (mid:Int)/\a<mid/\mid<=b/\PS a b d d'/\d' a=d pv/\(∀k:Nat,a<k->k<mid->0<=C.c (d' a) (d' k))/\(∀k:Nat,mid<=k->k<b->C.c (d' a) (d' k)<0)/\fc C H0 n0 N d' K)/\j=n):=by
 refine ak.of c280 (by simp[A280]) λ F hF=>?_;have w1:IntKind.i64.wrap ((a:Int)+1)=((a+1:Nat):Int):=by rw[aN _ ae ae];omega
 have w2:IntKind.i64.wrap ((b:Int) - 1)=((b - 1:Nat):Int):=by rw[aN _ ae ae];omega
 have xa:=bJ (bk:=C.bk) (N:=N) (i:=a) ae;have xp:=bJ (bk:=C.bk) (N:=N) (i:=pv) ae;have la:=hd.ld (i:=a) ae;have lp:=hd.ld (i:=pv) ae;obtain⟨y1,y2,s1,s2,hK⟩:=hd.two ho (i:=a) (j:=pv) ae ae;have ps:PS a b d (swp d a pv):=.one ae ae ae ae;have hpv:swp d a pv a=d pv:=ah;simp[A280];refine bC.of (bh (P:=pG)) ?_;simp[ab,hF,xa,xp,la,lp,s1,s2,abC,w1,w2];generalize hK1:Tr.put _ C.bk (some y2)=K1
 replace hK:fc C H0 n0 N (swp d a pv) K1:=by rw[<-hK1];simpa using hK
 clear hK1 s1 s2 la lp xp;generalize swp d a pv=d1 at *;refine aE.of (λ t F' K n' ms=>∃i j d',t=j+1 - i/\Fs C N a 11 12 i j F'/\a+1<=i/\i<=j+1/\j<b/\n'=n/\ms=[]/\PS a b d d'/\d' a=d pv/\(∀k:Nat,a<k->k<i->0<=C.c (d' a) (d' k))/\(∀k:Nat,j<k->k<b->C.c (d' a) (d' k)<0)/\fc C H0 n0 N d' K) (b - 1+1 - (a+1)) ⟨a+1,b - 1,d1,rfl,⟨by simp[ab,hF],by simp[ab,hF],by simp[ab,hF],ah,ah⟩,ae,ae,ae,rfl,rfl,ps,hpv,λ k h1 h2=>ae,λ k h1 h2=>ae,hK⟩ ?_;clear hF ps hpv hK d1;rintro t F1 K n' ms ⟨i,j,d1,rfl,hF1,hi,hij,hjb,rfl,rfl,ps,hpv,hl,hr,hK⟩;have hE1:=ps.all hbN hE;simp[adE];refine aer ho hK hJ hn0 hn hE1 ae hN hF1 ae hij λ F2 i2 hF2 g1 g2 g3 g4=>?_;simp;refine aeq ho hK hJ hn0 hn hE1 ae hN hF2 ae g2 ae λ F3 j2 hF3 g5 g6 g7 g8=>?_;obtain⟨f0,f1,f4,f11,f12⟩:=hF3
 have hl2:∀k,a<k->k<i2->0<=C.c (d1 a) (d1 k):=λ k h1 h2=>by
  by_cases h:k<i
  ·exact hl k h1 h
  exact g3 k ae h2
 have hr2:∀k,j2<k->k<b->C.c (d1 a) (d1 k)<0:=λ k h1 h2=>by
  by_cases h:k<=j
  ·exact g7 k h1 h
  exact hr k ae h2
 by_cases hgt:j2<i2
 ·simp[LS,f11,f12,hgt,QM];exact⟨ae,ae,d1,ps,hpv,hl2,λ k h1 h2=>hr2 k ae h2,hK⟩
 have hc1:=g4 ae;have hc2:=g8 ae;have hne:i2≠j2:=by rintro rfl;omega
 have w3:IntKind.i64.wrap ((i2:Int)+1)=((i2+1:Nat):Int):=by rw[aN _ ae ae];omega
 have w4:IntKind.i64.wrap ((j2:Int) - 1)=((j2 - 1:Nat):Int):=by rw[aN _ ae ae];omega
 have x1:=bJ (bk:=C.bk) (N:=N) (i:=i2) ae;have x2:=bJ (bk:=C.bk) (N:=N) (i:=j2) ae;have l1:=hK.ld (i:=i2) ae;have l2:=hK.ld (i:=j2) ae;obtain⟨y1,y2,s1,s2,hK2⟩:=hK.two ho (i:=i2) (j:=j2) ae ae;simp[LS,f11,f12,hgt,abz];refine bC.of (bh (P:=pG)) ?_;simp[ab,f0,f11,f12,x1,x2,l1,l2,s1,s2,aby,QN,w3,w4];refine⟨j2 - 1+1 - (i2+1),ae,i2+1,j2 - 1,rfl,⟨by simp[ab,f0],by simp[ab,f1],by simp[ab,f4],ah,ah⟩,ae,ae,ae,swp d1 i2 j2,.sw i2 j2 ps ae ae ae ae,(dj ae ae).trans hpv,λ k h1 h2=>?_,λ k h1 h2=>?_,by simpa using hK2⟩
 ·rw[dj (k:=a) ae ae]
  by_cases e:k=i2
  ·rw[e,tu];exact hc2
  rw[dj e ae];exact hl2 k h1 ae
 rw[dj (k:=a) ae ae]
 by_cases e:k=j2
 ·rw[e,AG];exact hc1
 rw[dj ae e];exact hr2 k ae h2
end Go.Abs
