/- A part. -/
import Derived.Test.YtlhafglnokpioaaGreatAbs3
import Derived.Scope
import Derived.LoopNIn
noncomputable section
namespace Go.Abs
open List
theorem vg {T:Tr Nat}:∀(es:List Edge) (s p:Nat),tb (Ix T es s) p=true->tb s p=true∨∃e∈es,Region.binds .any e=true/\(p=e.on∨∃m,T.get e.on=some m/\tb m p=true)
 |[],s,p,h=>.inl h
 |e :: es,s,p,h=>by
  simp only[Ix]at h
  split at h
  ·rename_i hb
   rcases vg es _ p h with h1|⟨e',h1,h2⟩
   ·rw[uE,uE,xK]at h1;simp only[Bool.or_eq_true,decide_eq_true_eq]at h1
    rcases h1 with(h1|h1)|h1
    ·exact .inl h1
    ·exact .inr ⟨e,ah,hb,.inl h1.symm⟩
    cases hm:T.get e.on with
    |none=>rw[hm]at h1;simp[CP]at h1
    |some m=>rw[hm]at h1;exact .inr ⟨e,ah,hb,.inr ⟨m,hm,h1⟩⟩
   exact .inr ⟨e',by simp[h1],h2⟩
  rcases vg es _ p h with h1|⟨e',h1,h2⟩
  ·exact .inl h1
  exact .inr ⟨e',by simp[h1],h2⟩
theorem Cf:∀(l:List Oper) (i:Nat) (T:Tr Nat),(∀x,i<=x->T.get x=none)->(∀x,x<i->(mZ l i T).get x=T.get x) /\
  ∀k o,l[k]?=some o->∃T',(mZ l i T).get (i+k)=some (Ix T' o.after.toList 0)/\∀x m,T'.get x=some m->(mZ l i T).get x=some m
 |[],i,T,h=>⟨λ x _=>rfl,λ k o hk=>by simp at hk⟩
 |o :: l, i,T,h=>by
  have e0:mZ (o::l) i T=mZ l (i+1) (T.put i (some (Ix T o.after.toList 0))):=by simp only[mZ,db]
  rw[e0];obtain⟨h1,h2⟩:=Cf l (i+1) (T.put i (some (Ix T o.after.toList 0))) (λ x hx=>by rw[Tr.get_put,ai ae];exact h x ae);refine⟨λ x hx=>?_,λ k o' hk=>?_⟩
  ·rw[h1 x ae,Tr.get_put,ai ae]
  cases k with
  |zero =>
   simp at hk;subst hk;refine⟨T,?_,λ x m hm=>?_⟩
   ·rw[show i+0=i from rfl,h1 i ae,Tr.get_put,aw rfl]
   have hx:x<i:=by
    rcases Nat.lt_or_ge x i with hx|hx
    ·exact hx
    rw[h x hx]at hm;cases hm
   rw[h1 x ae,Tr.get_put,ai ae];exact hm
  |succ k =>
   obtain⟨T',h3,h4⟩:=h2 k o' (by simpa using hk);exact⟨T',by rw[show i+(k+1)=i+1+k by omega];exact h3,h4⟩
theorem Zm {ops:Array Oper}{i:Nat}{o:Oper}(ho:ops[i]?=some o){p:Nat}(h:tb (dP (mZ ops.toList 0 .nil) i) p=true):
  ∃e∈o.after,Region.binds .any e=true/\(p=e.on∨tb (dP (mZ ops.toList 0 .nil) e.on) p=true):=by
 obtain⟨_,h2⟩:=Cf ops.toList 0 .nil (λ x _=>rfl);obtain⟨T',h3,h4⟩:=h2 i o (by simpa using ho);rw[q7]at h3;unfold dP at h;rw[h3]at h
 rcases vg _ _ _ h with h5|⟨e,he,hb,h6⟩
 ·rw[CP]at h5;cases h5
 refine⟨e,by simpa using he,hb,?_⟩
 rcases h6 with h6|⟨m,h7,h8⟩
 ·exact .inl h6
 right;unfold dP;rw[h4 _ _ h7];exact h8
theorem u4:∀(l:List Oper) (i:Nat) (T D:Tr Nat),y8 l i T=some D->(∀t p,T.get t=some p->D.get t=some p)/\∀k o d,l[k]?=some o->o.dst=some d->D.get d=some (i+k)
 |[],i,T,D,h=>by
  simp only[y8]at h;injection h with h;subst h;exact⟨λ _ _ h=>h,λ k o d hk=>by simp at hk⟩
 |o :: l, i,T,D,h=>by
  simp only[y8]at h
  split at h
  ·rename_i hn;obtain⟨h1,h2⟩:=u4 l (i+1) T D h;refine⟨h1,λ k o' d hk hd=>?_⟩
   cases k with
   |zero=>simp at hk;subst hk;rw[hn]at hd;cases hd
   |succ k=>rw[h2 k o' d (by simpa using hk) hd];congr 1;omega
  rename_i d0 hn
  split at h
  ·rename_i hg;obtain⟨h1,h2⟩:=u4 l (i+1) _ D h;refine⟨λ t p hp=>h1 t p ?_,λ k o' d hk hd=>?_⟩
   ·rw[Tr.get_put]
    split
    ·rename_i e;subst e;rw[hg]at hp;cases hp
    exact hp
   cases k with
   |zero =>
    simp at hk;subst hk;rw[hn]at hd;injection hd with hd;subst hd;rw[h1 d0 i (by rw[Tr.get_put,aw rfl])];rfl
   |succ k=>rw[h2 k o' d (by simpa using hk) hd];congr 1;omega
  cases h
theorem alF {ops:Array Oper}{D:Tr Nat}(h:y8 ops.toList 0 .nil=some D):DOk D ops:=by
 intro i o d ho hd;obtain⟨_,h2⟩:=u4 _ _ _ _ h;rw[h2 i o d (by simpa using ho) hd];simp
theorem sX:∀(es:List Edge) (i:Nat),Im es i=true->∀e∈es,Region.binds .any e=true->e.on<i
 |[],i,_,e,he=>by cases he
 |x :: es,i,h,e,he=>by
  intro hb;simp only[Im]at h
  split at h
  ·cases hx:Nat.blt x.on i with
   |false=>rw[hx]at h;cases h
   |true =>
    rw[hx]at h
    rcases mem_cons.1 he with rfl|he
    ·exact eF hx
    exact sX es i h e he hb
  rename_i hx
  rcases mem_cons.1 he with rfl|he
  ·rw[hb]at hx;cases hx
  exact sX es i h e he hb
theorem zp:∀(l:List Oper)(i:Nat),P1 l i=true->∀k o,l[k]?=some o->∀e∈o.after,Region.binds .any e=true->e.on<i+k
 |[],i,_,k,o,hk=>by simp at hk
 |x::l,i,h,k,o,hk=>by
  intro e he hb;simp only[P1,dS]at h
  cases k with
  |zero=>simp at hk;subst hk;exact sX _ _ h.1 e (by simpa using he) hb
  |succ k=>have:=zp l (i+1) h.2 k o (by simpa using hk) e he hb;omega
theorem vK:∀(l:List fe) (s s':Nat),yz l s=some s'->(l.map idxOf).Nodup/\(∀x∈l,tb s (idxOf x)=false)/\∀p,tb s' p=true->tb s p=true∨p∈l.map idxOf
 |[],s,s',h=>by
  simp only[yz]at h;injection h with h;subst h;exact⟨ah,λ x hx=>(by cases hx),λ p hp=>.inl hp⟩
 |x :: l,s,s',h=>by
  simp only[yz]at h
  cases hx:tb s (idxOf x)with
  |true=>rw[hx]at h;cases h
  |false =>
   rw[hx]at h;obtain⟨h1,h2,h3⟩:=vK l _ s' h
   have h4:∀y∈l,tb s (idxOf y)=false/\idxOf x≠idxOf y:=by
    intro y hy;have:=h2 y hy;rw[uE,xK]at this;simp only[Bool.or_eq_false_iff,decide_eq_false_iff_not]at this;exact this
   refine⟨?_,?_,?_⟩
   ·rw[map_cons,nodup_cons];refine⟨λ hm=>?_,h1⟩;obtain⟨y,hy,e⟩:=mem_map.1 hm;exact(h4 y hy).2 e.symm
   ·intro y hy
    rcases mem_cons.1 hy with rfl|hy
    ·exact hx
    exact(h4 y hy).1
   intro p hp
   rcases h3 p hp with h5|h5
   ·rw[uE,xK]at h5;simp only[Bool.or_eq_true,decide_eq_true_eq]at h5
    rcases h5 with h5|h5
    ·exact .inl h5
    exact .inr (by rw[map_cons,h5];simp)
   exact .inr (by rw[map_cons];exact mem_cons_of_mem _ h5)
theorem ab:∀(l:List Nat)(F:Fr)(t:Nat),(iW l F).get t=if t∈l then none else F.get t
 |[],F,t=>by simp[iW]
 |s::l,F,t=>by
  simp only[iW];rw[ab l,Tr.jO _ _ _ _ _ (Nat.lt_succ_self s)]
  by_cases h:t=s
  ·subst h;simp
  simp[h]
theorem y7:∀(l:List Oper) (k:Nat) (o:Oper) (d:Nat),l[k]?=some o->Ht o.op=false->o.dst=some d->d∈iU l
 |[],k,o,d,h,_,_=>by simp at h
 |x :: l,k,o,d,h,hn,hd=>by
  simp only[iU]
  cases k with
  |zero=>simp at h;subst h;rw[hn,hd];simp
  |succ k =>
   have:=y7 l k o d (by simpa using h) hn hd
   split
   ·exact this
   split
   ·exact mem_cons_of_mem _ this
   exact this
theorem qU:∀(l:List Oper) (T:Tr Nat) (d:Nat),T.get d≠none->(Ao l T).get d≠none
 |[],T,d,h=>h
 |o :: l,T,d,h=>by
  simp only[Ao]
  split
  ·split
   ·refine qU l _ d ?_;rw[Tr.get_put]
    split
    ·simp
    exact h
   exact qU l T d h
  exact qU l T d h
theorem qT:∀(l:List Oper) (T:Tr Nat) (k:Nat) (o:Oper) (d:Nat),l[k]?=some o->Ht o.op=true->o.dst=some d->(Ao l T).get d≠none
 |[],T,k,o,d,h,_,_=>by simp at h
 |x :: l,T,k,o,d,h,ha,hd=>by
  cases k with
  |zero =>
   simp at h;subst h;simp only[Ao]
   split
   ·rw[hd];exact qU l _ d (by rw[Tr.get_put,aw rfl];simp)
   rename_i hn;exfalso;unfold Ht at ha
   split at ha
   ·rename_i y hy;exact hn y hy
   cases ha
  |succ k =>
   simp only[Ao]
   split
   ·split
    ·exact qT l _ k o d (by simpa using h) ha hd
    exact qT l _ k o d (by simpa using h) ha hd
   exact qT l _ k o d (by simpa using h) ha hd
theorem qO:∀(l:List Oper) (i:Nat) (T D:Tr Nat),y8 l i T=some D->∀t p,D.get t=some p->T.get t=some p∨∃k o,l[k]?=some o/\o.dst=some t/\p=i+k
 |[],i,T,D,h=>by
  simp only[y8]at h;injection h with h;subst h;exact λ t p hp=>.inl hp
 |o :: l, i,T,D,h=>by
  intro t p hp;simp only[y8]at h
  split at h
  ·rcases qO l (i+1) T D h t p hp with h1|⟨k,o',h1,h2,h3⟩
   ·exact .inl h1
   exact .inr ⟨k+1,o',by simpa using h1,h2,ae⟩
  rename_i d0 hn
  split at h
  ·rcases qO l (i+1) _ D h t p hp with h1|⟨k,o',h1,h2,h3⟩
   ·rw[Tr.get_put]at h1
    split at h1
    ·rename_i e;subst e;injection h1 with h1;exact .inr ⟨0,o,ah,hn,ae⟩
    exact .inl h1
   exact .inr ⟨k+1,o',by simpa using h1,h2,ae⟩
  cases h
theorem alx {ops:Array Oper}{D:Tr Nat}(h:y8 ops.toList 0 .nil=some D)(F:Fr):EOk D (Ao ops.toList .nil) (iW (iU ops.toList) F):=by
 intro t p hp hE
 rcases qO _ _ _ _ h t p hp with h1|⟨k,o,h1,h2,_⟩
 ·simp at h1
 cases ha:Ht o.op with
 |true=>exact ar hE (qT _ _ k o t h1 ha h2)
 |false=>rw[ab,aw (y7 _ k o t h1 ha h2)]
end Go.Abs
namespace Go.Abs
open List
section
variable {P:Program}{ce:Ce}{nt:Nat}{r:Option Nat}{ops:Array Oper}{T D:Tr Nat}{F0 F':Fr}{H':Hp}{n0 n':Nat}{A:Nat->Hp}{all:List Rec}{k:Nat}{bL grp bad:List Nat}{seen:Nat}
theorem Ext.wide {φ D h w n φ' D' h' w' n'}(e:Ext φ D h w n φ' D' h' w' n'){lo hi:Nat}(h1:lo<=n)(h2:n'<=hi):Ext φ D h w lo φ' D' h' w' hi:=
 ⟨by have:=e.le;omega,e.phi,λ b x y=>by have:=e.new b x y;omega,e.eS,e.size,e.keep,e.live,e.kR,λ b hb=>by rcases e.hid b hb with h|h;exact .inl h;exact .inr ae,e.os,e.out⟩
theorem Ext.join {φ D h w lo hi φ1 D1 h1 w1 φ2 D2 h2 w2}(a:Ext φ D h w lo φ1 D1 h1 w1 hi)(b:Ext φ1 D1 h1 w1 lo φ2 D2 h2 w2 hi):Ext φ D h w lo φ2 D2 h2 w2 hi where
 le:=a.le
 phi:=λ c x hx=>b.phi _ _ (a.phi _ _ hx)
 new:=λ c h0 h2=>by
  cases h1:φ1 c with
  |none=>exact b.new c h1 h2
  |some x=>exact a.new c h0 (by simp[h1])
 eS:=λ c x hx=>b.eS _ _ (a.eS _ _ hx)
 size:=wo a.size b.size
 keep:=λ c hc hn=>by
  have hc1:=Nat.lt_of_lt_of_le hc a.size;rw[b.keep c hc1 λ d p hd hp e=>?_,a.keep c hc hn]
  rcases a.live d p hd hp with h|⟨b0,p0,x,y,z⟩
  ·omega
  exact hn b0 p0 x y (z.trans e)
 live:=λ c p hc hp=>by
  have ha:=a.size
  rcases b.live c p hc hp with h|⟨b0,p0,x,y,z⟩
  ·exact .inl ae
  rcases a.live b0 p0 x y with h|⟨b1,p1,x1,y1,z1⟩
  ·exact .inl ae
  exact .inr ⟨b1,p1,x1,y1,z1.trans z⟩
 kR:=λ c hc=>by
  have ha:=a.size
  rcases b.kR c hc with h|h|⟨b0,p0,x,y,z⟩
  ·exact a.kR c h
  ·exact .inr (.inl ae)
  rcases a.live b0 p0 x y with h|⟨b1,p1,x1,y1,z1⟩
  ·exact .inr (.inl ae)
  exact .inr (.inr ⟨b1,p1,x1,y1,z1.trans z⟩)
 hid:=λ c hc=>by
  rcases b.hid c hc with h|h
  ·exact a.hid c h
  exact .inr h
 os:=b.os.trans a.os
 out:=b.out.trans a.out
theorem Ext.sub {φ D h w n φ' D' h' w' n' X}(e:Ext φ D h w n φ' D' h' w' n')(hs:Sub X h'):Ext φ D h w n φ' D' X w' n':=by
 have ne:∀b,X b≠none->h' b≠none:=λ b hb=>by
  cases e:X b with
  |none=>exact ar e hb
  |some k=>rw[hs b k e];simp
 exact⟨e.le,e.phi,e.new,e.eS,e.size,e.keep,λ b p hb=>e.live b p (ne b hb),e.kR,λ b hb=>e.hid b (ne b hb),e.os,e.out⟩
structure Facts (P:Program)(r:Option Nat)(nt:Nat)(ops:Array Oper)(T D:Tr Nat)(F0 F':Fr)(H':Hp)(n0 n':Nat)(A:Nat->Hp)(all:List Rec)(k:Nat)(bL grp bad:List Nat)(seen:Nat):Prop where
 good:Good P r nt ops T D F0 n0 A all k F' H' n' bL grp bad seen
 nodup:(all.map (·.i)).Nodup
 cover:∀i,i<ops.size->∃c∈all,c.i=i
 anc:∀(i:Nat) (o:Oper) (p:Nat),ops[i]?=some o->tb (dP T i) p=true->∃e∈o.after,Region.binds .any e=true/\(p=e.on∨tb (dP T e.on) p=true)
 back:∀(i:Nat) (o:Oper),ops[i]?=some o->∀e∈o.after,Region.binds .any e=true->e.on<i
 dok:DOk D ops
 arl:∀t p,D.get t=some p->∃o,ops[p]?=some o/\o.dst=some t
theorem Facts.same (f:Facts P r nt ops T D F0 F' H' n0 n' A all k bL grp bad seen){c s:Rec}(hc:c∈all)(hs:s∈all)(e:c.i=s.i):c=s:=by
 have:=f.nodup;clear f
 induction all with
 |nil=>cases hc
 |cons x l ih =>
  rw[map_cons,nodup_cons]at this
  rcases mem_cons.1 hc with e1|hc'<;>rcases mem_cons.1 hs with e2|hs'
  ·rw[e1,e2]
  ·exact ar (mem_map.2 ⟨s,hs',by rw[<-e1];exact e.symm⟩) this.1
  ·exact ar (mem_map.2 ⟨c,hc',by rw[<-e2];exact e⟩) this.1
  exact ih hc' hs' this.2
theorem Facts.apart (f:Facts P r nt ops T D F0 F' H' n0 n' A all k bL grp bad seen){c s:Rec}(hc:c∈all)(hs:s∈all)(e:c.i≠s.i):c.hi<=s.lo∨s.hi<=c.lo:=by
 have:=f.good.pw;clear f
 induction all with
 |nil=>cases hc
 |cons x l ih =>
  rw[pairwise_cons]at this
  rcases mem_cons.1 hc with e1|hc'<;>rcases mem_cons.1 hs with e2|hs'
  ·rw[e1,e2]at e;exact ar rfl e
  ·rw[e1];exact .inl (this.1 s hs')
  ·rw[e2];exact .inr (this.1 c hc')
  exact ih hc' hs' this.2
theorem Facts.axm (f:Facts P r nt ops T D F0 F' H' n0 n' A all k bL grp bad seen){c s:Rec}(hc:c∈all)(hs:s∈all){t:Tmp}(h1:c.dst=some t)(h2:s.dst=some t):c.i=s.i:=by
 obtain⟨o,ho,hd,_⟩:=f.good.op c hc;obtain⟨o',ho',hd',_⟩:=f.good.op s hs;have e1:=f.dok _ _ _ ho (by rw[<-hd];exact h1);have e2:=f.dok _ _ _ ho' (by rw[<-hd'];exact h2);rw[e1]at e2;injection e2
structure Inv (nt:Nat)(D:Tr Nat)(F0:Fr)(A:Nat->Hp)(all:List Rec)(k:Nat)(T:Tr Nat)(L:Nat->Prop)(m:List Dm)(φ0:Ph)(D0:Da)(h0:Hf)(w0:World)(n0 n':Nat)(φ:Ph)(Da:Da)(h:Hf)(jj:Nat)(a:Act)(w:World):Prop where
 ext:Ext φ0 D0 h0 w0 n0 φ Da h w n'
 rel:Rel φ Da h w
 sub:∀b kk,(A jj).get b=some kk->(∀s∈all,L s.i->∀x y,s.jA≠some (b,x,y))->h b=some kk
 YA:∀s∈all,L s.i->∀b x y,s.jA=some (b,x,y)->h b=some y
 blk:∀s∈all,L s.i->s.qG=false->jj<=s.ph->∀kk,s.blk=some kk->h s.lo=some kk
 fr0:∀t u,F0.get t=some u->(∀p,D.get t=some p->¬L p)->∃x,a.tmps[t]?=some x/\VR φ Da u x
 frp:∀s∈all,L s.i->∀t,s.dst=some t->∃x,a.tmps[t]?=some x/\VR φ Da s.v x
 sz:a.tmps.size=nt
 Bm:jb φ Da m a.defers
 phs:∀s∈all,s.qG=true->(L s.i↔s.ph<jj)
 fresh:∀s∈all,¬L s.i->cU φ s.lo s.hi
 dc:∀i p,L i->tb (dP T i) p=true->L p
 jk:jj<=k
theorem Ya (f:Facts P r nt ops T D F0 F' H' n0 n' A all k bL grp bad seen){L:Nat->Prop}{m:List Dm}{φ0:Ph}{D0:Da}{h0:Hf}{w0:World}{φ:Ph}{Dd:Da}{h:Hf}{jj:Nat}{a:Act}{w:World}
  (I:Inv nt D F0 A all k T L m φ0 D0 h0 w0 n0 n' φ Dd h jj a w){i:Nat}{o:Oper}(ho:ops[i]?=some o)(hL:¬L i)(hpre:∀e∈o.after,Region.binds .any e=true->L e.on)(K:Act->World->Prop)(Q:QT)
  (hK:∀ φ' Dd' h' jj' a' w',Inv nt D F0 A all k T (λ p=>p=i∨L p) m φ0 D0 h0 w0 n0 n' φ' Dd' h' jj' a' w'->K a' w'):wpOpIn (FW r) 0 P ops Q i K a w:=by
 have hi:i<ops.size:=(uJ.1 ho).1;obtain⟨c,hc,rfl⟩:=f.cover i hi;have g:=f.good
 have Yq:∀p,tb (dP T c.i) p=true->L p:=λ p hp=>by
  obtain⟨e,he,hb,h1⟩:=f.anc _ _ p ho hp
  rcases h1 with rfl|h1
  ·exact hpre e he hb
  exact I.dc _ _ (hpre e he hb) h1
 obtain⟨o',ho',hdst,hlt⟩:=g.op c hc;have:o'=o:=by rw[ho]at ho';injection ho' with h;exact h.symm
 subst this;obtain⟨r1,r2,r3⟩:=g.nD c hc
 have hFs:FR φ Dd c.Fs.get a.tmps:=by
  refine⟨λ t u hu=>?_,I.rel.eS.2⟩
  rcases g.fs c hc t u hu with⟨h1,h2⟩|⟨s,hs,h1,h2,h3⟩
  ·exact I.fr0 t u h1 λ p hp hl=>hL (I.dc _ _ hl (h2 p hp))
  subst h2;exact I.frp s hs (Yq _ h3) t h1
 have hfr:cU φ c.lo c.hi:=I.fresh c hc hL;have hphs:c.ph<=k:=g.ph c hc
 have afb:jj<k->∀s∈all,L s.i->s.jA=none:=by
  intro hk s hs hl
  cases hsf:s.jA with
  |none=>rfl
  |some t =>
   exfalso;obtain⟨b,x,y⟩:=t;obtain⟨e1,e2,_⟩:=g.ff s hs (by rw[hsf];simp);obtain⟨e3,_⟩:=(g.ok s hs).YA b x y hsf;obtain⟨u,hu,e4,e5,e6⟩:=g.ea s hs e3 (k - 1) ae;have:=(I.phs u hu e4).1 (I.dc _ _ hl e6);omega
 have next:∀ φ' Dd' w' cv h' jj',Ext φ Dd h w c.lo φ' Dd' h' w' c.hi->Rel φ' Dd' h' w'->VR φ' Dd' c.v cv->(∀b kk,(A jj').get b=some kk->(∀s∈all,(s.i=c.i∨L s.i)->∀x y,s.jA≠some (b,x,y))->h' b=some kk)->(∀s∈all,(s.i=c.i∨L s.i)->∀b x y,s.jA=some (b,x,y)->h' b=some y) ->
   (∀s∈all,(s.i=c.i∨L s.i)->s.qG=false->jj'<=s.ph->∀kk,s.blk=some kk->h' s.lo=some kk) ->
   (∀s∈all,s.qG=true->((s.i=c.i∨L s.i)↔s.ph<jj'))->jj'<=k->Inv nt D F0 A all k T (λ p=>p=c.i∨L p) m φ0 D0 h0 w0 n0 n' φ' Dd' h' jj' (a.put c.dst cv) w':=by
  intro φ' Dd' w' cv h' jj' bf hrel je hsub awl hblk hmod hjk
  have AW:∀t,c.dst≠some t->(a.put c.dst cv).tmps[t]?=a.tmps[t]?:=by
   intro t ht;unfold Act.put
   cases hd:c.dst with
   |none=>rfl
   |some d=>exact Array.getElem?_setIfInBounds_ne (λ e=>ht (by rw[hd,e]))
  refine⟨I.ext.join (bf.wide r1 r3),hrel,hsub,awl,hblk,?_,?_,?_,?_,hmod,?_,?_,hjk⟩
  ·intro t u hu hnl;obtain⟨x,hx,hv⟩:=I.fr0 t u hu λ p hp hl=>hnl p hp (.inr hl);refine⟨x,?_,hv.mono bf.phi bf.eS⟩;rw[AW t λ e=>?_];exact hx;exact hnl _ (f.dok _ _ t ho (by rw[<-hdst];exact e)) (.inl rfl)
  ·intro s hs hl t ht
   by_cases e:s.i=c.i
   ·have:=f.same hs hc e;subst this;refine⟨cv,?_,je⟩;have:=hlt t (by rw[<-hdst];exact ht);rw[ht];simp[Act.put,I.sz,this]
   obtain⟨x,hx,hv⟩:=I.frp s hs (hl.resolve_left e) t ht;refine⟨x,?_,hv.mono bf.phi bf.eS⟩;rw[AW t λ e'=>e (f.axm hs hc ht e')];exact hx
  ·have:=I.sz;unfold Act.put
   cases c.dst<;>simp[this]
  ·rw[put_defers];exact I.Bm.mono bf.phi bf.eS
  ·intro s hs hl b hb1 hb2;have hne:s.i≠c.i:=λ e=>hl (.inl e);have h1:=I.fresh s hs (λ e=>hl (.inr e)) b hb1 hb2
   cases hx:φ' b with
   |none=>rfl
   |some p =>
    have:=bf.new b h1 (by simp[hx])
    rcases f.apart hs hc hne with h2|h2<;>omega
  intro p q hp hq
  rcases hp with rfl|hp
  ·exact .inr (Yq q hq)
  exact .inr (I.dc p q hp hq)
 have hok:=g.ok c hc
 cases hm:c.qG with
 |false =>
  have hle:c.e<=jj:=by
   cases he:c.e with
   |zero=>exact Nat.zero_le _
   |succ q =>
    obtain⟨s,hs,h1,h2,h3⟩:=g.ea c hc hm q he;have:=(I.phs s hs h1).1 (Yq _ h3);omega
  have hge:jj<=c.ph:=by
   rcases Nat.lt_or_ge c.ph jj with hlt' |hge
   ·exfalso
    rcases Nat.lt_or_ge c.ph k with hk|hk
    ·obtain⟨s,hs,h1,h2,h3⟩:=(g.gr c hc hm).1 hk;exact hL (I.dc _ _ ((I.phs s hs h1).2 ae) h3)
    have:=I.jk;omega
   exact hge
  have hmo:∀s∈all,s.qG=true->((s.i=c.i∨L s.i)↔s.ph<jj):=by
   intro s hs hsm;rw[<-I.phs s hs hsm];exact⟨λ hx=>hx.resolve_left λ e=>(by have:=f.same hs hc e;subst this;rw[hm]at hsm;cases hsm),.inr⟩
  cases hfl:c.jA with
  |some t =>
   obtain⟨b,x,y⟩:=t;obtain⟨_,hb,h1,h2,hst⟩:=hok.YA b x y hfl;obtain⟨e1,e2,e3⟩:=g.ff c hc (by rw[hfl];simp);have hjj:jj=k:=ae;rw[h1]at hfr r3
   have hXh:Sub (wy.set b (some x)) h:=λ b' kk hb'=>by
    unfold Hf.set at hb'
    split at hb'
    ·rename_i e;subst e;injection hb' with hb';subst hb';refine I.sub _ _ (by rw[hjj,<-e1];exact h2) λ s hs hl x' y' hsf=>?_;have:=g.fd s hs c hc _ _ _ _ _ hsf hfl;subst this;exact hL hl
    cases hb'
   refine hst.2 φ Dd h a w I.rel hXh hFs hfr K Q λ φ' Dd' w' cv bf hrel je=>?_;have hov:∀b',b'≠b->over (wy.set b (some x)) (wy.set b (some y)) h b'=h b':=λ b' hb'=>uM (by simp[Hf.set,hb',wy]) (by simp[Hf.set,hb',wy]);refine hK φ' Dd' _ jj _ w' (next φ' Dd' w' cv _ jj (by rw[h1];exact bf) hrel je ?_ ?_ ?_ hmo I.jk)
   ·intro b' kb hbk hno;have:b'≠b:=λ e=>hno c hc (.inl rfl) x y (by rw[e];exact hfl);rw[hov b' this];exact I.sub b' kb hbk λ s hs hl=>hno s hs (.inr hl)
   ·intro s hs hl b' x' y' hsf
    by_cases e:s.i=c.i
    ·have:=f.same hs hc e;subst this;rw[hfl]at hsf;injection hsf with hsf;injection hsf with h4 h5;injection h5 with h5 h6;subst h4;subst h6;exact yu _ _ (by simp[Hf.set])
    have:b'≠b:=λ e'=>by
     subst e';have:=g.fd s hs c hc _ _ _ _ _ hsf hfl;subst this;exact e rfl
    rw[hov b' this];exact I.YA s hs (hl.resolve_left e) b' x' y' hsf
   intro s hs hl hsm hp ks hks;have e:s.i≠c.i:=λ e=>by have:=f.same hs hc e;subst this;rw[hb]at hks;cases hks
   obtain⟨_,_,h6⟩:=(g.ok s hs).new hsm ks hks
   have:s.lo≠b:=λ e'=>by
    have:=h6 c.ph ae;rw[e',h2]at this;cases this
   rw[hov s.lo this];exact I.blk s hs (hl.resolve_left e) hsm hp ks hks
  |none =>
  cases hb:c.blk with
  |none =>
   obtain⟨h1,h2⟩:=hok.val hm hb hfl;obtain⟨X,hhf,hX,hst⟩:=h2 jj hle hge;rw[h1]at hfr r3
   have hXh:Sub X h:=by
    cases hcf:c.hf with
    |true=>rw[hhf hcf];intro b kk hb;cases hb
    |false =>
     intro b kk hb';refine I.sub b kk (hX b kk hb') λ s hs hl x y hsf=>?_;obtain⟨e1,e2,e3⟩:=g.ff s hs (by rw[hsf];simp)
     rcases Nat.lt_or_ge jj k with h3|h3
     ·rw[afb h3 s hs hl]at hsf;cases hsf
     rcases g.nh c hc hm hb hfl ae with h4|h4
     ·rw[e3]at h4;cases h4
     rw[hcf]at h4;cases h4
   refine hst.2 φ Dd h a w I.rel hXh hFs hfr K Q λ φ' Dd' w' cv bf hrel je=>?_;rw[Bd hXh]at bf hrel;refine hK φ' Dd' h jj _ w' (next φ' Dd' w' cv h jj (by rw[h1];exact bf) hrel je (λ b kk hb hno=>I.sub b kk hb λ s hs hl=>hno s hs (.inr hl)) ?_ ?_ hmo I.jk)
   ·intro s hs hl b x y hsf
    rcases hl with e|hl
    ·have:=f.same hs hc e;subst this;rw[hfl]at hsf;cases hsf
    exact I.YA s hs hl b x y hsf
   intro s hs hl hsm hp kk hkk
   rcases hl with e|hl
   ·have:=f.same hs hc e;subst this;rw[hb]at hkk;cases hkk
   exact I.blk s hs hl hsm hp kk hkk
  |some kk =>
   obtain⟨h1,hst,h2⟩:=hok.new hm kk hb;have hXh:Sub wy h:=λ b kk hb=>by cases hb
   rw[h1]at hfr;refine hst.2 φ Dd h a w I.rel hXh hFs hfr K Q λ φ' Dd' w' cv bf hrel je=>?_;have hov:∀b,b≠c.lo->over wy (wy.set c.lo (some kk)) h b=h b:=λ b hb=>uM rfl (by simp[Hf.set,hb,wy]);refine hK φ' Dd' _ jj _ w' (next φ' Dd' w' cv _ jj (by rw[h1];exact bf) hrel je ?_ ?_ ?_ hmo I.jk)
   ·intro b kb hbk hno;have:b≠c.lo:=λ e=>by subst e;rw[h2 jj hge]at hbk;cases hbk
    rw[hov b this];exact I.sub b kb hbk λ s hs hl=>hno s hs (.inr hl)
   ·intro s hs hl b x y hsf
    rcases hl with e|hl
    ·have:=f.same hs hc e;subst this;rw[hfl]at hsf;cases hsf
    obtain⟨e1,e2,e3⟩:=g.ff s hs (by rw[hsf];simp)
    have hjj:jj=k:=by
     rcases Nat.lt_or_ge jj k with h3|h3
     ·rw[afb h3 s hs hl]at hsf;cases hsf
     have:=I.jk;omega
    obtain⟨_,_,_,h4,_⟩:=(g.ok s hs).YA b x y hsf;have:b≠c.lo:=λ e=>by subst e;rw[h2 s.ph ae]at h4;cases h4
    rw[hov b this];exact I.YA s hs hl b x y hsf
   intro s hs hl hsm hp ks hks
   by_cases e:s.i=c.i
   ·have:=f.same hs hc e;subst this;rw[hb]at hks;injection hks with hks;subst hks;exact yu _ _ (by simp[Hf.set])
   obtain⟨h3,_⟩:=(g.ok s hs).new hsm ks hks;rw[hov s.lo (by rcases f.apart hs hc e with h4|h4<;>omega)];exact I.blk s hs (hl.resolve_left e) hsm hp ks hks
 |true =>
  obtain⟨hb,hck,hst⟩:=hok.mod hm
  have hge:jj<=c.ph:=by
   rcases Nat.lt_or_ge c.ph jj with h1|h1
   ·exact ar ((I.phs c hc hm).2 h1) hL
   exact h1
  have hle:c.ph<=jj:=by
   cases hp:c.ph with
   |zero=>exact Nat.zero_le _
   |succ q =>
    obtain⟨s,hs,h1,h2,h3⟩:=g.ch c hc hm q hp;have:=(I.phs s hs h1).1 (Yq _ h3);omega
  have hjj:c.ph=jj:=ae;subst hjj
  have hXh:Sub c.X h:=λ b kb hbk=>by
   rcases g.mx c hc hm b kb hbk with h1|⟨s,hs,h1,h2,h3,h4,h5⟩
   ·exact I.sub b kb h1 λ s hs hl x y=>by rw[afb hck s hs hl];simp
   subst h3;exact I.blk s hs (Yq _ h5) h1 ae kb h2
  refine hst.2 φ Dd h a w I.rel hXh hFs hfr K Q λ φ' Dd' w' cv bf hrel je=>?_;refine hK φ' Dd' _ (c.ph+1) _ w' (next φ' Dd' w' cv _ (c.ph+1) bf hrel je (λ b kk hb _=>yu b kk hb) ?_ ?_ ?_ hck)
  ·intro s hs hl b x y hsf
   rcases hl with e|hl
   ·have:=f.same hs hc e;subst this;obtain⟨e3,_⟩:=(g.ok s hs).YA b x y hsf;rw[e3]at hm;cases hm
   rw[afb hck s hs hl]at hsf;cases hsf
  ·intro s hs hl hsm hp ks hks;have e:s.i≠c.i:=λ e=>by have:=f.same hs hc e;subst this;rw[hm]at hsm;cases hsm
   obtain⟨h3,_,h6⟩:=(g.ok s hs).new hsm ks hks;rw[uM ?_ (h6 (c.ph+1) hp)]
   ·exact I.blk s hs (hl.resolve_left e) hsm ae ks hks
   cases hx:c.X s.lo with
   |none=>rfl
   |some kx =>
    exfalso
    rcases g.mx c hc hm s.lo kx hx with h7|⟨u,hu,h7,h8,h9,h10,_⟩
    ·rw[h6 c.ph ae]at h7;cases h7
    obtain⟨h11,_⟩:=(g.ok u hu).new h7 kx h8;have:u.i≠s.i:=λ e=>by have:=f.same hu hs e;subst this;omega
    rcases f.apart hu hs this with h12|h12<;>omega
  intro s hs hsm
  by_cases e:s.i=c.i
  ·have:=f.same hs hc e;subst this;exact⟨λ _=>Nat.lt_succ_self _,λ _=>.inl rfl⟩
  have h1:=I.phs s hs hsm;have h2:s.ph≠c.ph:=λ e'=>e (by rw[g.uq s hs c hc hsm hm e']);constructor
  ·intro hx;have:=h1.1 (hx.resolve_left e);omega
  intro hx;exact .inr (h1.2 ae)
end
end Go.Abs
namespace Go.Abs
open List
section
variable {P:Program}{ce:Ce}{nt:Nat}{r:Option Nat}{ops:Array Oper}{T D:Tr Nat}{F0 F':Fr}{H':Hp}{n0 n':Nat}{A:Nat->Hp}{all:List Rec}{k:Nat}{bL grp bad:List Nat}{seen:Nat}
def I2 (listed:Array Bool)(p:Nat):Prop:=listed.getD p false=true
def left (n:Nat)(listed:Array Bool):Nat:=((range n).filter λ i=>!listed.getD i false).length
theorem Dk {listed:Array Bool}{i:Nat}(hi:i<listed.size):I2 (listed.setIfInBounds i true)=λ p=>p=i∨I2 listed p:=by
 funext p
 apply propext;unfold I2;simp only[Array.getD_eq_getD_getElem?,Array.getElem?_setIfInBounds]
 by_cases e:i=p
 ·subst e;simp[hi]
 simp[e,Ne.symm e]
theorem HQ {l:List Nat}{p q:Nat->Bool}(h:∀x,x∈l->q x=true->p x=true):(l.filter q).length<=(l.filter p).length/\((∃x∈l,p x=true/\q x=false)->(l.filter q).length<(l.filter p).length):=by
 induction l with
 |nil=>simp
 |cons a l ih =>
  obtain⟨i1,i2⟩:=ih λ x hx=>h x (mem_cons_of_mem _ hx);have ha:=h a ah;simp only[filter_cons]
  cases hq:q a with
  |true =>
   rw[ha hq];simp only[if_true,length_cons];refine⟨ae,?_⟩;rintro⟨x,hx,h1,h2⟩
   rcases mem_cons.1 hx with rfl|hx
   ·rw[hq]at h2;cases h2
   have:=i2 ⟨x,hx,h1,h2⟩;omega
  |false =>
   cases hp:p a with
   |true=>simp only[Bool.false_eq_true,if_false,if_true,length_cons];exact⟨ae,λ _=>ae⟩
   |false =>
    simp only[Bool.false_eq_true,if_false];refine⟨i1,?_⟩;rintro⟨x,hx,h1,h2⟩
    rcases mem_cons.1 hx with rfl|hx
    ·rw[hp]at h1;cases h1
    exact i2 ⟨x,hx,h1,h2⟩
theorem XX {n:Nat}{listed:Array Bool}{i:Nat}(hn:i<n)(hi:i<listed.size)(hu:listed.getD i false=false):left n (listed.setIfInBounds i true)<left n listed:=by
 unfold left;refine(HQ (p:=λ i=>!listed.getD i false) (q:=λ x=>!(listed.setIfInBounds i true).getD x false) λ x _ hx=>?_).2 ⟨i,by simpa using hn,by simp[hu],?_⟩
 ·cases h:listed.getD x false with
  |false=>rfl
  |true =>
   have:I2 (listed.setIfInBounds i true) x:=by rw[Dk hi];exact .inr h
   unfold I2 at this;rw[this]at hx;cases hx
 have:I2 (listed.setIfInBounds i true) i:=by rw[Dk hi];exact .inl rfl
 unfold I2 at this;simp[this]
theorem Uo {n:Nat}{listed:Array Bool}(h:left n listed=0):∀i,i<n->I2 listed i:=by
 intro i hi;unfold left at h;have:=eq_nil_of_length_eq_zero h;rw[filter_eq_nil_iff]at this;have:=this i (by simpa using hi);unfold I2;simpa using this
theorem O7 (f:Facts P r nt ops T D F0 F' H' n0 n' A all k bL grp bad seen){L:Nat->Prop}{m:List Dm}{φ0:Ph}{D0:Da}{h0:Hf}{w0:World}{φ:Ph}{Dd:Da}{h:Hf}{jj:Nat}{a:Act}{w:World}
  (I:Inv nt D F0 A all k T L m φ0 D0 h0 w0 n0 n' φ Dd h jj a w)(hall:∀i,i<ops.size->L i):Ext φ0 D0 h0 w0 n0 φ Dd H'.get w n'/\St nt φ Dd F' H' m a w:=by
 have g:=f.good
 have hL:∀s∈all,L s.i:=λ s hs=>by
  obtain⟨o,ho,_⟩:=g.op s hs;exact hall _ (uJ.1 ho).1
 have hjk:jj=k:=by
  rcases Nat.lt_or_ge jj k with h1|h1
  ·exfalso;have hml:=g.ml;obtain⟨s,hs,h2,h3,_⟩:=g.md (k - 1 - jj) (bL[k - 1 - jj]'ae) (cX ae);have:=(I.phs s hs h2).1 (hL s hs);omega
  have:=I.jk;omega
 subst hjk
 have hsub:Sub H'.get h:=λ b kb hb=>by
  rcases g.hg b kb hb with h1|⟨s,hs,h1,h2,h3,h4⟩|⟨s,hs,x,h1⟩
  ·exact I.sub b kb h1.1 λ s hs _=>h1.2 s hs
  ·subst h3;exact I.blk s hs (hL s hs) h1 ae kb h2
  exact I.YA s hs (hL s hs) b x kb h1
 refine⟨I.ext.sub hsub,tB I.rel hsub,⟨λ t u hu=>?_,I.rel.eS.2⟩,I.sz,I.Bm⟩
 rcases g.ft t u hu with⟨h1,h2⟩|⟨s,hs,h1,h2⟩
 ·refine I.fr0 t u h1 λ p hp=>?_;obtain⟨o,ho,hd⟩:=f.arl t p hp;obtain⟨s,hs,h3⟩:=f.cover p (uJ.1 ho).1;obtain⟨o',ho',hd',_⟩:=g.op s hs;rw[h3,ho]at ho';injection ho' with ho';subst ho';exact ar (hd'.trans hd) (h2 s hs)
 subst h2;exact I.frp s hs (hL s hs) t h1
theorem U3 (f:Facts P r nt ops T D F0 F' H' n0 n' A all k bL grp bad seen){m:List Dm}{φ0:Ph}{D0:Da}{h0:Hf}{w0:World}(Q:QT)
  (hQ:∀ φ' D' a' w',Ext φ0 D0 h0 w0 n0 φ' D' H'.get w' n'->St nt φ' D' F' H' m a' w'->Q .normal a' w'):
  ∀(fuel:Nat) (listed:Array Bool) (a:Act) (w:World) (φ:Ph) (Dd:Da) (h:Hf) (jj:Nat),Inv nt D F0 A all k T (I2 listed) m φ0 D0 h0 w0 n0 n' φ Dd h jj a w->listed.size=ops.size->left ops.size listed<=fuel ->
   wpAnyIn (FW r) 0 P .any ops Q fuel listed a w:=by
 have ready_nil:∀listed:Array Bool,listed.size=ops.size->Region.ready .any ops listed=[]->∀i,i<ops.size->I2 listed i:=by
  intro listed hsz hr i
  induction i using Nat.strongRecOn with
  |_ i ih =>
   intro hi
   cases hl:listed.getD i false with
   |true=>exact hl
   |false =>
    exfalso
    have:i∈Region.ready .any ops listed:=by
     rw[mem_ready];refine⟨?_,ops[i],by simp[hi],λ e he hb=>?_⟩
     ·have hi':i<listed.size:=ae;simp only[Array.getD_eq_getD_getElem?,Array.getElem?_eq_getElem hi',Option.getD_some]at hl ⊢;exact hl
     have hlt:=f.back i ops[i] (by simp[hi]) e he hb;exact ih _ hlt ae
    rw[hr]at this;cases this
 intro fuel
 induction fuel with
 |zero =>
  intro listed a w φ Dd h jj I hsz hleft;have hall:=Uo (by omega:left ops.size listed=0);obtain⟨h1,h2⟩:=O7 f I hall;refine⟨?_,hQ _ _ _ _ h1 h2⟩
  cases hr:Region.ready .any ops listed with
  |nil=>rfl
  |cons x l =>
   exfalso;have hx:x∈Region.ready .any ops listed:=by rw[hr];simp
   rw[mem_ready]at hx;obtain⟨h3,o,ho,_⟩:=hx;have hi:=(uJ.1 ho).1;have h4:=hall x hi;unfold I2 at h4;have hi':x<listed.size:=ae;simp only[Array.getD_eq_getD_getElem?,Array.getElem?_eq_getElem hi',Option.getD_some]at h3 h4;rw[h3]at h4;cases h4
 |succ fuel ih =>
  intro listed a w φ Dd h jj I hsz hleft;refine⟨λ hr=>?_,λ i hi=>?_⟩
  ·obtain⟨h1,h2⟩:=O7 f I (ready_nil listed hsz hr);exact hQ _ _ _ _ h1 h2
  rw[mem_ready]at hi;obtain⟨h3,o,ho,hpre⟩:=hi;have hio:=(uJ.1 ho).1;have hi':i<listed.size:=ae
  have hu:listed.getD i false=false:=by
   simp only[Array.getD_eq_getD_getElem?,Array.getElem?_eq_getElem hi',Option.getD_some]at h3 ⊢;exact h3
  refine Ya f I ho (by unfold I2;rw[hu];simp) (λ e he hb=>hpre e he hb) _ Q λ φ' Dd' h' jj' a' w' I'=>?_;rw[<-Dk hi']at I';exact ih _ a' w' φ' Dd' h' jj' I' (by simpa using hsz) (by have:=XX hio hi' hu;omega)
theorem TQ {φ:Ph}{D:Da}{h:Hf}{w:World}(hr:Rel φ D h w)(d:Nat):Rel φ D h {w with drawn:=d}:=
 ⟨λ b k hb=>let ⟨p,h1,h2,h3⟩:=hr.blk b k hb;⟨p,h1,h2,h3.mono (λ _ _ h=>h) (λ _ _ h=>h) rfl⟩,hr.inj,hr.sep,hr.eS⟩
theorem HY {id:Nat}(DD:P.follows .mixedOrders=true) (hce:iI P ce):Sound nt (λ Q a w=>(Code.region id ops true).wpIn (FW r) 0 P Q a w) ((PI P nt ops (mZ ops.toList 0 .nil)).f ce):=by
 intro F H n m ou F' H' n' m' hk;unfold PI at hk;generalize hpl:T9 (mZ ops.toList 0 .nil) ops.toList=pl at hk;unfold aez at hk
 split at hk
 ·rename_i hok;unfold wR at hok;simp only[dS]at hok;obtain⟨⟨hb,hd⟩,ho⟩:=hok
  split at hd
  ·rename_i D hD
   split at ho
   ·rename_i s hs;have aqh:=alF hD;have hsN:=cT ho;obtain⟨o1,_,o3⟩:=vK _ _ _ hs
    have g0:Good P r nt ops (mZ ops.toList 0 .nil) D (iW (iU ops.toList) F) n (λ _=>H) [] 0 (iW (iU ops.toList) F) H n [] [] [] 0:=by
     refine⟨aK _,?_,?_,.nil,?_,?_,λ t u hu=>.inl ⟨hu,λ s hs=>by cases hs⟩,λ b k hb=>.inl ⟨hb,λ s hs=>by cases hs⟩,?_,?_,?_,?_,?_,rfl,?_,?_,?_,?_,?_,?_⟩<;>first|(intro c hc;cases hc;done)|skip;intro q x hx;simp at hx
    obtain⟨A,all,j',iP,jX,bad',seen',g,rfl,rfl,hidx,hA0⟩:=l9 (r:=r) (n0:=n) (F0:=iW (iU ops.toList) F) hce aqh (alx hD F) pl 0 [] [] [] 0 hd (λ _=>H) [] (iW (iU ops.toList) F) H [H] n m ou F' H' n' m' g0 (λ s hs=>by cases hs) rfl hk;rw[map_nil,nil_append]at hidx;refine⟨g.nle,λ φ Dd a w st hf Q hQ=>wpIn_region_any DD ?_⟩
    have facts:Facts P r nt ops (mZ ops.toList 0 .nil) D (iW (iU ops.toList) F) F' H' n n' A all j' iP jX bad' seen':=by
     refine⟨g,by rw[hidx];exact o1,λ i hi=>?_,λ i o p h1 h2=>Zm h1 h2,λ i o h1 e he hb'=>?_,aqh,λ t p hp=>?_⟩
     ·have h1:tb s i=true:=by rw[hsN,ajE,bM];simpa using hi
      rcases o3 i h1 with h2|h2
      ·rw[CP]at h2;cases h2
      rw[<-hidx]at h2;obtain⟨c,hc,h3⟩:=mem_map.1 h2;exact⟨c,hc,h3⟩
     ·have:=zp _ _ hb i o (by simpa using h1) e he hb';omega
     rcases qO _ _ _ _ hD t p hp with h1|⟨k,o,h1,h2,h3⟩
     ·simp at h1
     exact⟨o,by rw[h3,q7];simpa using h1,h2⟩
    have I0:Inv nt D (iW (iU ops.toList) F) A all j' (mZ ops.toList 0 .nil) (I2 (Array.replicate ops.size false)) m' φ Dd H.get w n n' φ Dd H.get 0 a {w with drawn:=w.drawn+1}:=by
     have no:∀i,¬I2 (Array.replicate ops.size false) i:=by
      intro i h;unfold I2 at h;rw[Array.getD_eq_getD_getElem?,Array.getElem?_replicate]at h
      split at h<;>simp at h
     refine⟨?_,TQ st.rel _,λ b k hb _=>by rw[hA0]at hb;exact hb,λ s _ h=>ar h (no _),λ s _ h=>ar h (no _),λ t u hu _=>?_,λ s _ h=>ar h (no _),st.sz,st.Bm,λ s _ _=>⟨λ h=>ar h (no _),λ h=>ae⟩,λ s hs _=>?_,λ i p h=>ar h (no _),Nat.zero_le _⟩
     ·exact⟨g.nle,λ _ _ h=>h,λ _ h k=>ar h k,λ _ _ h=>h,aK _,λ _ _ _=>rfl,λ _ _ a b=>.inr ⟨_,_,a,b,rfl⟩,λ _ h=>.inl h,λ _ h=>.inl h,rfl,rfl⟩
     ·rw[ab]at hu
      split at hu
      ·cases hu
      exact st.fr.1 t u hu
     obtain⟨h1,h2,h3⟩:=g.nD s hs;exact λ b x y=>hf b ae ae
    refine U3 facts Q (λ φ' D' a' w' h1 h2=>hQ φ' D' a' w' undef h1 h2 trivial) ops.size _ a _ φ Dd H.get 0 I0 ah ?_;unfold left;exact wo (length_filter_le _ _) ah
   cases ho
  cases hd
 cases hk
end
end Go.Abs
namespace Go.Abs
open List
section
variable {P:Program}{ce:Ce}{nt:Nat}{r:Option Nat}{ops:Array Oper}{rest:List Nat}
theorem DX {o:Oper}{pd:Pd}{next:K}(hnd:r.isSome=true->Dw o.op=false) (hce:iI P ce) (oQ:FM nt o.dst pd) (hnext:Sound nt (λ Q a w=>wpOpsIn (FW r) 0 P ops Q rest a w) (next.f ce)):
  Sound nt (λ Q a w=>o.wpIn (FW r) 0 P a w (wpOpsIn (FW r) 0 P ops Q rest) Q) ((u5 P pd o next).f ce):=by
 unfold u5
 split
 ·rename_i f args tys ho
  split
  ·rename_i e he;exact Bf (iO he) (dZ he) oQ hnext
  split
  ·rename_i g as hg has;exact Ie ho (.value rfl hg) has hce oQ hnext
  intro F H n m ou F' H' n' m' hk;cases hk
 split
 ·rename_i e he;exact Bf (iO he) (dZ he) oQ hnext
 intro F H n m ou F' H' n' m' hk;cases hk
theorem Ju {o:Oper}{pd:Pd}{next:K}(oQ:FM nt o.dst pd)(hnext:Sound nt (λ Q a w=>wpOpsIn (FW r) 0 P ops Q rest a w) (next.f ce)):
  Sound nt (λ Q a w=>wpOpsIn (FW r) 0 P ops Q rest (a.put o.dst undef) w) ((XE pd next).f ce):=by
 intro F H n m ou F' H' n' m' hk;obtain⟨hn,hs⟩:=hnext _ _ _ _ _ _ _ _ _ hk;refine⟨hn,λ φ D a w st hf Q hQ=>?_⟩;have hfr:=oQ (.bo []) F φ D a undef st.fr st.sz (.bo _ _ .nil);exact hs φ D (a.put o.dst undef) w ⟨st.rel,hfr.1,hfr.2,by rw[put_defers];exact st.Bm⟩ hf Q hQ
theorem Ai {i:Nat}{o:Oper}{next:K}(hnd:r.isSome=true->Dw o.op=false) (ho:ops[i]?=some o) (hce:iI P ce) (hnext:Sound nt (λ Q a w=>wpOpsIn (FW r) 0 P ops Q rest a w) (next.f ce)):
  Sound nt (λ Q a w=>wpOpsIn (FW r) 0 P ops Q (i::rest) a w) ((tY P nt ops o next).f ce):=by
 unfold tY
 split
 ·intro F H n m ou F' H' n' m' hk;cases hk
 rename_i pd oQ;have oQ:=BP oQ;have h1:=DX (r:=r) (ops:=ops) (rest:=rest) hnd hce oQ hnext;have h2:=Ju (r:=r) (ops:=ops) (rest:=rest) oQ hnext
 split
 ·rename_i hgd;intro F H n m ou F' H' n' m' hk;obtain⟨hn,hs⟩:=h1 _ _ _ _ _ _ _ _ _ hk;refine⟨hn,λ φ D a w st hf Q hQ=>?_⟩;simp only[wpOpsIn,ho,Region.wanted,hgd,if_true];exact hs φ D a w st hf Q hQ
 rename_i j b hgd
 split
 ·rename_i d hd;intro F H n m ou F' H' n' m' hk;unfold su at hk;dsimp only at hk
  have tell:∀ φ D (a:Act),FR φ D F.get a.tmps->∀v,(aA d).f F=some v->(∀c,v=.bool c->yielded ops a.tmps j=some c)/\((∀c,v≠.bool c)->yielded ops a.tmps j=none):=by
   intro φ D a hF v hv;rw[gU]at hv;obtain⟨x,hx,yK⟩:=hF.1 d v hv;unfold yielded;rw[hd];simp only[Option.bind_some,hx];refine⟨λ c hc=>?_,λ hc=>?_⟩
   ·subst hc;cases yK;rfl
   cases x<;>first|rfl|exact ar (CN yK) (hc _)
  split at hk
  ·rename_i c hv
   cases hcb:c == b with
   |true =>
    rw[hcb]at hk;obtain⟨hn,hs⟩:=h1 _ _ _ _ _ _ _ _ _ hk;refine⟨hn,λ φ D a w st hf Q hQ=>?_⟩;have hy:=(tell φ D a st.fr _ hv).1 c rfl;simp only[wpOpsIn,ho,Region.wanted,hgd,hy];rw[aw (by simpa using hcb)];exact hs φ D a w st hf Q hQ
   |false =>
    rw[hcb]at hk;obtain⟨hn,hs⟩:=h2 _ _ _ _ _ _ _ _ _ hk;refine⟨hn,λ φ D a w st hf Q hQ=>?_⟩;have hy:=(tell φ D a st.fr _ hv).1 c rfl;simp only[wpOpsIn,ho,Region.wanted,hgd,hy];rw[ai (by simpa using hcb)];exact⟨λ _ _=>trivial,hs φ D a w st hf Q hQ⟩
  ·rename_i v hnb hv;obtain⟨hn,hs⟩:=h2 _ _ _ _ _ _ _ _ _ hk;refine⟨hn,λ φ D a w st hf Q hQ=>?_⟩;have hy:=(tell φ D a st.fr _ hv).2 (λ c hc=>hnb c hc);simp only[wpOpsIn,ho,Region.wanted,hgd,hy];rw[ai ah];exact⟨λ _ _=>trivial,hs φ D a w st hf Q hQ⟩
  cases hk
 intro F H n m ou F' H' n' m' hk;cases hk
theorem sR {run:QT->Act->World->Prop}(hrun:∀Q a w,Q .normal a w->run Q a w):Sound nt run (HU.f ce):=by
 intro F H n m ou F' H' n' m' hk;cases hk;exact⟨aK _,λ φ D a w st hf Q hQ=>hrun Q a w (hQ φ D a w undef (Ext.refl ..) st trivial)⟩
theorem rD (hce:iI P ce):∀(l:List Oper)(i:Nat),(r.isSome=true->eE l=false)->ops.toList.drop i=l->Sound nt (λ Q a w=>wpOpsIn (FW r) 0 P ops Q (range' i l.length) a w) ((tX P nt ops l).f ce)
 |[],i,_,_=>sR λ Q a w h=>h
 |o :: l,i,hnd,h=>by
  have hi:ops.toList[i]?=some o:=by
   have:=congrArg (λ(x:List Oper)=>x[0]?) h;simpa[lj]using this
  have hl:ops.toList.drop (i+1)=l:=by
   have:=congrArg (λ(x:List Oper)=>x.drop 1) h;simpa[drop_drop]using this
  exact Ai (λ h=>by have:=hnd h;simp only[eE,Bool.or_eq_false_iff]at this;exact this.1) (by simpa using hi) hce (rD hce l (i+1) (λ h=>by have:=hnd h;simp only[eE,Bool.or_eq_false_iff]at this;exact this.2) hl)
theorem vN {b:K}{c:Code}(ib:Sound nt (λ Q a w=>c.wpIn (FW r) 0 P Q a w) (b.f ce)):∀k,Sound nt (λ Q a w=>Code.roundsIn (FW r) 0 P c Q k a w) (XU b ce k)
 |0=>by intro F H n m ou F' H' n' m' hk;cases hk
 |k + 1=>by
  have ih:=vN ib k;intro F H n m ou F' H' n' m' hk
  replace hk:(match b.f ce F H n m with
   |.mk .normal F' H' n' m'=>XU b ce k F' H' n' m'
   |r=>r)=P9.mk ou F' H' n' m':=hk
  split at hk
  ·rename_i F1 H1 n1 m1 hx;obtain⟨hn1,hs1⟩:=ib _ _ _ _ _ _ _ _ _ hx;obtain⟨hn2,hs2⟩:=ih _ _ _ _ _ _ _ _ _ hk;refine⟨ae,λ φ D a w st hf Q hQ=>?_⟩;show Code.roundsIn (FW r) 0 P c Q (k+1) a w;rw[roundsIn_succ];refine hs1 φ D a w st (hf.left hn2) _ λ φ1 D1 a1 w1 px bf st1 pp=>?_;exact hs2 φ1 D1 a1 w1 st1 (hf.step bf) Q λ φ2 D2 a2 w2 px hx2 st2 pp=>hQ φ2 D2 a2 w2 px (bf.trans hx2) st2 pp
  rename_i hne;obtain⟨hn1,hs1⟩:=ib _ _ _ _ _ _ _ _ _ hk;refine⟨hn1,λ φ D a w st hf Q hQ=>?_⟩;show Code.roundsIn (FW r) 0 P c Q (k+1) a w;rw[roundsIn_succ];refine hs1 φ D a w st hf _ λ φ1 D1 a1 w1 px bf st1 pp=>?_;have:=hQ φ1 D1 a1 w1 px bf st1 pp
  cases ou with
  |panic v=>exact this
  |normal=>exact ar hk (hne _ _ _ _)
  |exit i=>exact this
  |ret=>exact this
theorem rel_drop {φ D h w n b p}(hr:Rel φ D h w)(hb:h b≠none)(hp:φ b=some p)(w':World)
  (hw:∀c,c≠p.1->w'.heap[c]?=w.heap[c]?)(hs:w'.heap.size=w.heap.size)(hos:w'.os=w.os)(hout:w'.output=w.output):
  Rel φ D (h.set b none) w'/\Ext φ D h w n φ D (h.set b none) w' n:=by
 have hl:∀c,(h.set b none) c≠none->c≠b/\h c≠none:=by
  intro c;unfold Hf.set;by_cases e:c=b<;>simp[e]
 refine⟨⟨?_,λ c d q r hc hd=>hr.inj c d q r (hl c hc).2 (hl d hd).2,λ c q hc=>hr.sep c q (hl c hc).2,?_⟩,
  ⟨aK _,λ _ _ h=>h,λ _ a c=>ar a c,λ _ _ h=>h,ae,?_,λ c q hc hq=>.inr ⟨c,q,(hl c hc).2,hq,rfl⟩,λ _ h=>.inl h,λ c hc=>.inl (hl c hc).2,hos,hout⟩⟩
 ·intro c k hc;have hcb:=(hl c (by rw[hc];simp)).1;have hc':h c=some k:=by unfold Hf.set at hc;rw[ai hcb]at hc;exact hc
  obtain⟨q,hq,hlt,hk⟩:=hr.blk c k hc';exact⟨q,hq,ae,hk.mono (λ _ _ h=>h) (λ _ _ h=>h) (hw _ λ e'=>hcb (hr.inj c b q p (by simp[hc']) hb hq hp e'))⟩
 ·refine⟨λ c x hx=>?_,hr.eS.2⟩;obtain⟨e,fr,hh⟩:=hr.eS.1 c x hx;refine⟨e,fr,(hw c λ e'=>?_).trans hh⟩;have:=hr.sep b p hb hp;rw[<-e',hx]at this;cases this
 intro c _ hn;exact hw c λ e=>hn b p hb hp e.symm
theorem World.nL (w:World)(o:Obj):(World.newObj w o).heap[w.heap.size]?=some o:=by
 show (w.heap.push o)[w.heap.size]?=some o;simp
theorem C3 {g : Operand}{x:G}{ps:Array Tmp}{ca cb:Code}(hce:iI P ce) (hg:dD g=some x):Sound nt (λ Q a w=>(Code.rangeFunc g ps ca cb).wpIn (FW none) 0 P Q a w) ((C4 nt x ps.toList ca cb).f ce):=by
 intro F H n m ou F' H' n' m' hk;unfold C4 at hk;dsimp only at hk
 split at hk
 ·rename_i f first cap hx
  split at hk
  ·rename_i v H1 n1 hcall;obtain⟨⟨fn,b,hfn,hb,hname⟩,hn1,hcs⟩:=hce.call _ _ _ _ _ _ _ hcall;have hn1:n+2<=n1:=hn1
   have fin:∀(st:LoopState) (j:lO) IY G3 vJ a3 b3,H1.get n=some (.loop st j IY G3 vJ a3 b3)->st≠.busy->(∀v,j≠.panic v)->P9.mk j F (H1.put n none) n1 (.cG (Nat.succ n)::m)=.mk ou F' H' n' m' ->
     n<=n'/\∀ φ D a w,St nt φ D F H m a w->cU φ n n'->∀Q:QT,(∀ φ' D' a' w' px,Ext φ D H.get w n φ' D' H'.get w' n'->St nt φ' D' F' H' m' a' w'->IJ φ' D' px ou->Q (j7 px ou) a' w')->(Code.rangeFunc g ps ca cb).wpIn (FW none) 0 P Q a w:=by
    intro st j IY G3 vJ a3 b3 hq hst hnp he;cases he;refine⟨ae,λ φ D a w CU hf Q hQ=>wpIn_rangeFunc λ fid _=>?_⟩;have hgr:=aW hg F φ D a CU.fr _ hx
    cases hxv:a.eval g with
    |func ff fx cx =>
     rw[hxv]at hgr
     cases hgr with
     |fn _ _ _ fl cl h1 h2 =>
     obtain⟨r1,e1⟩:=nF (n:=n+1) CU.rel (λ b hb1 hb2=>hf b ae ae) (.deferred (some [])) 0 .jS (World.nL w _);rw[lD]at r1 e1;let w1:=World.newObj w (.deferred (some []));let φ1:=Ph.set φ (n+1) (w.heap.size,0,0)
     have hf1:cU φ1 n (n+1):=by
      intro b hb1 hb2;have:b≠n+1:=ae;simp only[φ1,Ph.set,this,if_false];exact hf b ae ae
     obtain⟨r2,e2⟩:=nF (n:=n) r1 hf1 (.loop {state:=.ready,pending:=none,fn:=fid,tmps:=a.tmps,params:=ps,assign:=ca,body:=cb,defers:=w.heap.size}) 0 (.loop .ready .normal nt F ps.toList ca cb)
      ⟨_,World.nL w1 _,rfl,rfl,CU.sz,(CU.fr.mono e1.phi (λ _ _ h=>h)).mono (Ph.gV (hf1 n (aK _) ae)) (λ _ _ h=>h),rfl,rfl,rfl⟩
     rw[lD]at r2 e2;let w2:=World.newObj w1 (.loop {state:=.ready,pending:=none,fn:=fid,tmps:=a.tmps,params:=ps,assign:=ca,body:=cb,defers:=w.heap.size});let φ2:=Ph.set φ1 n (w1.heap.size,0,0)
     have e12:Ext φ D H.get w n φ2 D ((H.put (n+1) (some .jS)).put n (some (.loop .ready .normal nt F ps.toList ca cb))).get w2 (n+2):=
      (e1.wide (Nat.le_succ n) (aK _)).join (e2.wide (aK _) ae)
     have hsz1:w1.heap.size=w.heap.size+1:=by simp[w1,World.newObj]
     have hφn:φ2 n=some (w.heap.size+1,0,0):=by simp only[φ2,Ph.set,if_true,hsz1]
     have hφm:φ2 (n+1)=some (w.heap.size,0,0):=e2.phi _ _ (by simp[Ph.set]);refine⟨w.heap.size+1,[{target:=.collected w.heap.size,args:=#[]}],w2,{target:=.fn (.func f) ⟨cl⟩,args:=⟨fl⟩++#[.func (.yield (w.heap.size+1)) #[] #[]]},w2,f,⟨fl++(.func (.yield (w.heap.size+1)) #[] #[]::cl)⟩,w2,run_enterLoop_outer ..,?_,λ _ _=>trivial,?_,λ h=>by simp[FW]at h,?_⟩
     ·simp only[resolve,hxv,Deferred.ofValue,dB];simp[Act.eval]
     ·have harr:(⟨fl⟩:Array Value)++#[Value.func (.yield (w.heap.size+1)) #[] #[]]++⟨cl⟩=⟨fl++(.func (.yield (w.heap.size+1)) #[] #[]::cl)⟩:=by apply Array.ext';simp
      simp only[invoke,callFunc,cL,run_program,cy,hfn,hname,hb,harr];simp
     refine jB (hcs φ2 D w2 _ r2 ((h1.mono e12.phi (λ _ _ h=>h)).append (.cons _ _ _ _ (.jd _ _ _ _ hφn) (h2.mono e12.phi (λ _ _ h=>h)))) (hf.step e12) _ λ φ3 D3 w3 cv e3 hr3 _=>?_);obtain⟨hlt,rr,q1,q2,q3,q4,q5,q6⟩:=hr3.block hq (e3.phi _ _ hφn);have q1:w3.heap[w.heap.size+1]?=some (.loop rr):=q1;have hend:=run_endLoop (P:=P) q1 (by rw[q2];exact hst);obtain⟨k1,k2⟩:=rel_drop (n:=n') hr3 (b:=n) (by rw[hq];simp) (e3.phi _ _ hφn) (Go.World.putObj w3 (w.heap.size+1) (.loop {rr with state:=.exhausted})) (λ c hc=>Go.World.putObj_heap_other hc) Go.World.putObj_size rfl rfl;rw[lD]at k1 k2;have uX:=(e12.trans e3).trans k2
     have hst':St nt φ3 D3 F (H1.put n none) (.cG (Nat.succ n)::m) {a with defers:=[{target:=.collected w.heap.size,args:=#[]}]++a.defers} (Go.World.putObj w3 (w.heap.size+1) (.loop {rr with state:=.exhausted})):=
      ⟨k1,CU.fr.mono uX.phi uX.eS,CU.sz,⟨_,_,_,_,e3.phi _ _ hφm,rfl,CU.Bm.mono uX.phi uX.eS⟩⟩
     refine⟨_,_,hend,?_⟩;have:=hQ φ3 D3 _ _ undef uX hst';rw[q3]at this ⊢
     cases ou with
     |panic v=>exact ar rfl (hnp v)
     |normal=>exact this trivial
     |exit i=>exact wpIn_exit (this trivial)
     |ret=>exact wpIn_ret (this trivial)
    |_=>rw[hxv]at hgr;cases hgr
   split at hk
   ·cases hk
   ·cases hk
   ·rename_i st j IY G3 vJ a3 b3 hnb hnp hq;exact fin st j IY G3 vJ a3 b3 hq (λ e=>hnb e) (λ v e=>hnp v e) hk
   cases hk
  cases hk
 cases hk
section
variable {x:Operand}{g:G}{d:Tmp}{os:List Oper}{o:Oper}{pd:Pd}{rid:Nat}{rest':Code}{agV:K}
theorem JA {a':Code}(hnd:r.isSome=true->eE os=false)(hce:iI P ce)(hm:Bn a'=some (x,d,ops,os))(ayP:Sound nt (λ Q a w=>rest'.wpIn (FW r) 0 P Q a w) (agV.f ce)):
  Sound nt (λ Q a w=>(Code.loop (.seq a' rest')).wpIn (FW r) 0 P Q a w) ((afl P nt x d ops os agV).f ce):=by
 intro F H n m ou F' H' n' m' hk;cases hk
end
theorem iD {P:Program}{b:Frame}{a:Act}{k:List Item}{cs:List Frame}{w:World}{c:Code}:step P (lone (b.atR a (.code (.scope c)::k)) cs w)=.next (lone (b.atR a (.code c::.inScope c::k)) cs w):=
 step_lone_go (by simp[stepG,stepG.exec,Frame.atR])
theorem zZ {P:Program}{b:Frame}{a:Act}{k:List Item}{cs:List Frame}{w:World}{c:Code}:step P (lone (b.atR a (.inScope c::k)) cs w)=.next (lone (b.atR a k) cs w):=
 step_lone_go (by simp[stepG,stepG.exec,Frame.atR])
theorem xC {F:Fence}{n:Nat}{P:Program}{Q:Exit->Act->World->Prop}{a:Act}{w:World}{c:Code}(h:c.wpIn F n P (Exit.noGoto Q) a w):(Code.scope c).wpIn F n P Q a w:=by
 intro b k cs hro hb hr;have h0:(lone (b.atR a (.code (.scope c)::k)) cs w).fenced P F:=fenced_calm hb hr rfl;obtain⟨e,a₁,w₁,hq,harr⟩:=h b (.inScope c::k) cs hro hb hr
 cases e with
 |normal=>exact⟨.normal,a₁,w₁,hq,.head h0 iD (StepsIn.trans harr (.one (fenced_calm hb hr rfl) zZ))⟩
 |exit id' =>
  have hx:exitTo id' (.inScope c::k)=exitTo id' k:=by simp[exitTo]
  exact⟨.exit id',a₁,w₁,hq,λ k' hk=>.head h0 iD (harr.1 k' (by rw[hx];exact hk)),
   λ hr' hk=>let ⟨k₁,h1,h2⟩:=harr.2 hr' (by rw[hx];exact hk);⟨k₁,h1,.head h0 iD h2⟩⟩
 |goto l=>exact hq.elim
 |ret=>exact⟨.ret,a₁,w₁,hq,.of_steps (.one h0 iD) harr⟩
 |panic ch=>exact⟨.panic ch,a₁,w₁,hq,.of_steps (.one h0 iD) harr⟩
 |outgrown=>exact⟨.outgrown,a₁,w₁,hq,.of_steps (.one h0 iD) harr⟩
theorem dH (hce:iI P ce):∀(c:Code),Sound nt (λ Q a w=>c.wpIn (FW r) 0 P Q a w) ((comp P nt r.isSome c).f ce)
 |.skip=>sR λ Q a w h=>wpIn_skip h
 |.region id ops d=>by
  cases d with
  |true =>
   intro F H n m ou F' H' n' m' hk;simp only[comp,cond_true]at hk
   cases DD:P.follows .mixedOrders with
   |false=>rw[DD]at hk;cases hk
   |true=>rw[DD]at hk;exact HY DD hce _ _ _ _ _ _ _ _ _ hk
  |false =>
   intro F H n m ou F' H' n' m' hk;simp only[comp,cond_false]at hk
   cases hnd:(r.isSome&&eE ops.toList)with
   |true=>rw[hnd]at hk;cases hk
   |false =>
   rw[hnd]at hk;obtain⟨hn,hs⟩:=rD (r:=r) (nt:=nt) (ops:=ops) hce ops.toList 0 (λ h=>by rw[h]at hnd;simpa using hnd) rfl _ _ _ _ _ _ _ _ _ hk;refine⟨hn,λ φ D a w st hf Q hQ=>wpIn_region ?_⟩;rw[range_eq_range'];exact hs φ D a w st hf Q hQ
 |.seq x y=>by
  intro F H n m ou F' H' n' m' hk;simp only[comp,Jk]at hk;have ix:=dH hce x;have iy:=dH hce y
  split at hk
  ·rename_i F1 H1 n1 m1 hx;obtain⟨hn1,hs1⟩:=ix _ _ _ _ _ _ _ _ _ hx;obtain⟨hn2,hs2⟩:=iy _ _ _ _ _ _ _ _ _ hk;refine⟨ae,λ φ D a w st hf Q hQ=>wpIn_seq (hs1 φ D a w st (hf.left hn2) _ λ φ1 D1 a1 w1 px bf st1 pp=>?_)⟩;exact hs2 φ1 D1 a1 w1 st1 (hf.step bf) Q λ φ2 D2 a2 w2 px hx2 st2 pp=>hQ φ2 D2 a2 w2 px (bf.trans hx2) st2 pp
  rename_i hne;obtain⟨hn1,hs1⟩:=ix _ _ _ _ _ _ _ _ _ hk;refine⟨hn1,λ φ D a w st hf Q hQ=>wpIn_seq (hs1 φ D a w st hf _ λ φ1 D1 a1 w1 px bf st1 pp=>?_)⟩;have:=hQ φ1 D1 a1 w1 px bf st1 pp
  cases ou with
  |panic v=>exact this
  |normal=>exact ar hk (hne _ _ _ _)
  |exit i=>exact this
  |ret=>exact this
 |.cond c x y=>by
  intro F H n m ou F' H' n' m' hk;simp only[comp]at hk
  cases hc:dD c with
  |none=>rw[hc]at hk;cases hk
  |some g =>
   rw[hc]at hk;simp only[BN]at hk
   split at hk
   ·rename_i hg;obtain⟨hn,hs⟩:=dH hce x _ _ _ _ _ _ _ _ _ hk;refine⟨hn,λ φ D a w st hf Q hQ=>wpIn_cond (t:=true) ?_ (hs φ D a w st hf Q hQ)⟩;have:=aW hc F φ D a st.fr _ hg;generalize a.eval c=z at this ⊢;cases this;rfl
   ·rename_i hg;obtain⟨hn,hs⟩:=dH hce y _ _ _ _ _ _ _ _ _ hk;refine⟨hn,λ φ D a w st hf Q hQ=>wpIn_cond (t:=false) ?_ (hs φ D a w st hf Q hQ)⟩;have:=aW hc F φ D a st.fr _ hg;generalize a.eval c=z at this ⊢;cases this;rfl
   cases hk
 |.scope b=>by
  intro F H n m ou F' H' n' m' hk;simp only[comp]at hk;obtain⟨hn,hs⟩:=dH hce b _ _ _ _ _ _ _ _ _ hk;refine⟨hn,λ φ D a w st hf Q hQ=>xC (hs φ D a w st hf _ λ φ1 D1 a1 w1 px bf st1 pp=>?_)⟩;have:=hQ φ1 D1 a1 w1 px bf st1 pp
  cases ou<;>exact this
 |.label l=>sR λ Q a w h=>wpIn_label h
 |.block id b=>by
  intro F H n m ou F' H' n' m' hk;simp only[comp,ve]at hk;have ib:=dH hce b
  split at hk
  ·rename_i j F1 H1 n1 m1 hb
   cases hij:Nat.beq id j with
   |true =>
    rw[hij]at hk;cases hk;obtain⟨hn,hs⟩:=ib _ _ _ _ _ _ _ _ _ hb;refine⟨hn,λ φ D a w st hf Q hQ=>wpIn_block (hs φ D a w st hf _ λ φ1 D1 a1 w1 px bf st1 pp=>?_)⟩;have:=cT hij;simp only[j7,Exit.inBlock,<-this,if_true];exact hQ φ1 D1 a1 w1 px bf st1 pp
   |false =>
    rw[hij]at hk;cases hk;obtain⟨hn,hs⟩:=ib _ _ _ _ _ _ _ _ _ hb;refine⟨hn,λ φ D a w st hf Q hQ=>wpIn_block (hs φ D a w st hf _ λ φ1 D1 a1 w1 px bf st1 pp=>?_)⟩;have hne:¬j=id:=λ e=>by rw[e]at hij;simp at hij
    simp only[j7,Exit.inBlock,hne,if_false];exact hQ φ1 D1 a1 w1 px bf st1 pp
  rename_i hne;obtain⟨hn,hs⟩:=ib _ _ _ _ _ _ _ _ _ hk;refine⟨hn,λ φ D a w st hf Q hQ=>wpIn_block (hs φ D a w st hf _ λ φ1 D1 a1 w1 px bf st1 pp=>?_)⟩;have:=hQ φ1 D1 a1 w1 px bf st1 pp
  cases ou with
  |panic v=>exact this
  |normal=>exact this
  |exit i=>exact ar hk (hne _ _ _ _ _)
  |ret=>exact this
 |.loop b=>by
  have ib:=dH hce b
  have plain:Sound nt (λ Q a w=>(Code.loop b).wpIn (FW r) 0 P Q a w) ((Hk (comp P nt r.isSome b)).f ce):=by
   intro F H n m ou F' H' n' m' hk;obtain⟨hn,hs⟩:=vN ib big _ _ _ _ _ _ _ _ _ hk;exact⟨hn,λ φ D a w st hf Q hQ=>wpIn_loop_rounds big (hs φ D a w st hf Q hQ)⟩
  cases b with
  |seq a rest =>
   have ir:=dH hce rest;simp only[comp]
   cases hm:Bn a with
   |none=>simpa only [comp]using plain
   |some y =>
    obtain⟨x,d,ops,os⟩:=y
    cases hnd:(r.isSome&&eE os)with
    |true=>intro F H n m ou F' H' n' m' hk;simp only[hnd,cond_true]at hk;cases hk
    |false =>
     simp only[hnd,cond_false];exact JA (λ h=>by rw[h]at hnd;simpa using hnd) hce hm ir
  |_=>simpa only [comp]using plain
 |.exit id=>by
  intro F H n m ou F' H' n' m' hk;cases hk;exact⟨aK _,λ φ D a w st hf Q hQ=>wpIn_exit (hQ φ D a w undef (Ext.refl ..) st trivial)⟩
 |.ret=>by
  intro F H n m ou F' H' n' m' hk;cases hk;exact⟨aK _,λ φ D a w st hf Q hQ=>wpIn_ret (hQ φ D a w undef (Ext.refl ..) st trivial)⟩
 |.rangeFunc g ps ca cb=>by
  intro F H n m ou F' H' n' m' hk;simp only[comp]at hk
  cases hc:dD g with
  |none=>rw[hc]at hk;cases hk
  |some x =>
   rw[hc]at hk
   cases r with
   |some l=>cases hk
   |none=>exact C3 hce hc _ _ _ _ _ _ _ _ _ hk
 |.goto _=>by intro F H n m ou F' H' n' m' hk;cases hk
 |.refuse _=>by intro F H n m ou F' H' n' m' hk;cases hk
end
end Go.Abs
namespace Go.Abs
open List
section
variable {P:Program}
def AP (tmps:Array Value):ResultVar->Sem Value
 |.tmp t=>pure (tmps.getD t undef)
 |.cell a t=>do loadVar t (<-asAddr (tmps.getD a undef))
theorem yE {φ:Ph}{D:Da}{t:TypeId}{v:AV}{x cv:Value}{w:World}(hv:VR φ D v x)(hp:(∃b o,v=.ptr b o)∨∃cs,v=.dp cs)(h:(Instr.loadAt t x).run P w=.ok cv w):
  (do loadVar t (<-asAddr x):Sem Value).run P w=.ok cv w:=by
 rcases hp with⟨b,o,rfl⟩|⟨cs,rfl⟩
 ·cases hv;simpa[Instr.loadAt,Instr.sureAddr,asAddr]using h
 cases hv;simpa[Instr.loadAt,Instr.sureAddr,asAddr]using h
theorem KA {v u:AV}{H:Hp}(h:cE v H=.val u):(∃b o,v=.ptr b o)∨∃cs,v=.dp cs:=by
 unfold cE at h
 split at h
 ·exact .inl ⟨_,_,rfl⟩
 ·exact .inr ⟨_,rfl⟩
 cases h
theorem Kz {k:Nat}{v u:AV}{H:Hp}(h:eD k v H=.val u):(∃b o,v=.ptr b o)∨∃cs,v=.dp cs:=by
 unfold eD at h
 split at h
 ·exact .inl ⟨_,_,rfl⟩
 ·exact .inr ⟨_,rfl⟩
 cases h
theorem kP {F : Fr}{H:Hp}{φ:Ph}{D:Da}{tmps:Array Value}{w:World}(hr:Rel φ D H.get w) (hF:FR φ D F.get tmps):∀(l:List ResultVar) (gs:List (Fr->Hp->Option AV)) (vs:List AV),lF P l=some gs->Ah F H gs=some vs ->
  ∃xs,(l.mapM (AP tmps)).run P w=.ok xs w/\bW φ D vs xs
 |[],gs,vs,h,he=>by
  simp only[lF]at h;injection h with h;subst h;simp only[Ah]at he;injection he with he;subst he;exact⟨[],ah,.nil⟩
 |.tmp t::l,gs,vs,h,he=>by
  simp only[lF,Option.map_eq_some_iff]at h;obtain⟨gs',hg,rfl⟩:=h;simp only[Ah]at he
  split at he
  ·rename_i v hv
   split at he
   ·rename_i vs' hvs;injection he with he;subst he;obtain⟨xs,hx,hxs⟩:=kP hr hF l gs' vs' hg hvs;rw[gU]at hv;obtain⟨x,hx0,yK⟩:=hF.1 t v hv;exact⟨x::xs,by simp[mapM_cons,AP,Array.getD_eq_getD_getElem?,hx0,hx],.cons _ _ _ _ yK hxs⟩
   cases he
  cases he
 |.cell a t :: l,gs,vs,h,he=>by
  simp only[lF]at h
  split at h
  ·rename_i gs' k hg ha hk;injection h with h;subst h;simp only[Ah]at he
   split at he
   ·rename_i v hv
    split at he
    ·rename_i vs' hvs;injection he with he;subst he;obtain⟨xs,hx,hxs⟩:=kP hr hF l gs' vs' hg hvs
     split at hv
     ·rename_i p hp
      split at hv
      ·rename_i u hu;injection hv with hv;subst hv;rw[gU]at hp;obtain⟨y,hy,hpy⟩:=hF.1 a p hp;obtain⟨cv,h1,h2⟩:=Bh (P:=P) hr hpy ha hk H (λ _=>rfl) hu;have h3:=yE hpy (Kz hu) h1;refine⟨cv::xs,?_,.cons _ _ _ _ h2 hxs⟩;rw[mapM_cons];simp only[AP,Array.getD_eq_getD_getElem?,hy,Option.getD_some,cL]at h3 ⊢;simp only[h3,cy,hx,dB]
      cases hv
     cases hv
    cases he
   cases he
  ·rename_i gs' k hg ha hk;injection h with h;subst h;simp only[Ah]at he
   split at he
   ·rename_i v hv
    split at he
    ·rename_i vs' hvs;injection he with he;subst he;obtain⟨xs,hx,hxs⟩:=kP hr hF l gs' vs' hg hvs
     split at hv
     ·rename_i p hp
      split at hv
      ·rename_i u hu;injection hv with hv;subst hv;rw[gU]at hp;obtain⟨y,hy,hpy⟩:=hF.1 a p hp;obtain⟨cv,h1,h2⟩:=Bi (P:=P) hr hpy ha H (λ _=>rfl) hu;have h3:=yE hpy (KA hu) h1;refine⟨cv::xs,?_,.cons _ _ _ _ h2 hxs⟩;rw[mapM_cons];simp only[AP,Array.getD_eq_getD_getElem?,hy,Option.getD_some,cL]at h3 ⊢;simp only[h3,cy,hx,dB]
      cases hv
     cases hv
    cases he
   cases he
  cases h
theorem aev {φ:Ph}{D:Da}{vs:List AV}{xs:List Value}(h:bW φ D vs xs):VR φ D (wh vs) (if h:(⟨xs⟩:Array Value).size=1 then (⟨xs⟩:Array Value)[0]else .tuple ⟨xs⟩):=by
 cases h with
 |nil=>exact .bo _ _ .nil
 |cons v x vs xs h1 h2=>cases h2 with
  |nil=>exact h1
  |cons u y us ys h3 h4 =>
   rw[dif_neg ah];exact .bo _ _ (.cons _ _ _ _ h1 (.cons _ _ _ _ h3 h4))
theorem xZ {F:Fr}{H:Hp}{φ:Ph}{D:Da}{tmps:Array Value}{w:World}{fn:Func}(hr:Rel φ D H.get w)(hF:FR φ D F.get tmps){gs:List (Fr->Hp->Option AV)}{vs:List AV}(h:lF P fn.results.toList=some gs)(he:Ah F H gs=some vs):
  ∃x,(results fn tmps).run P w=.ok x w/\VR φ D (wh vs) x:=by
 obtain⟨xs,h1,h2⟩:=kP (P:=P) hr hF fn.results.toList gs vs h he;refine⟨_,?_,aev h2⟩
 have hm:(fn.results.mapM (AP tmps)).run P w=.ok ⟨xs⟩ w:=by
  rw[Array.mapM_eq_mapM_toList];simp[h1]
 have:results fn tmps=(do let vs <-fn.results.mapM (AP tmps);pure (if h:vs.size=1 then vs[0]else .tuple vs)):=by
  unfold results
  congr 2
 rw[this];simp only[cL,hm,cy,dB]
theorem Br {fn:Func}{F:Fr}{H':Hp}{gs:List (Fr->Hp->Option AV)}{vs:List AV}(hg:lF P fn.results.toList=some gs)(he:Ah F H' gs=some vs):∀(m:List Dm)(H:Hp)(ds:List Deferred)(tmps:Array Value)(φ:Ph)(D:Da)(w:World)(n:Nat)(R:Ending->World->Prop),
  dF m H=some H'->Rel φ D H.get w->FR φ D F.get tmps->jb φ D m ds ->
  (∀ φ' D' w' x,Ext φ D H.get w n φ' D' H'.get w' n->Rel φ' D' H'.get w'->VR φ' D' (wh vs) x->R (.returned x) w')->LeavesInM Fence.wide 0 P fn tmps R ds .returning w
 |[],H,ds,tmps,φ,D,w,n,R,hu,hr,hF,hm,hR=>by
  simp only[dF]at hu;injection hu with hu;subst hu;simp only[jb]at hm;subst hm;obtain⟨x,h1,h2⟩:=xZ (P:=P) (fn:=fn) hr hF hg he;exact⟨x,h1,hR φ D w x (Ext.refl ..) hr h2⟩
 |.fn _ _::m,H,ds,tmps,φ,D,w,n,R,hu,hr,hF,hm,hR=>by simp[dF]at hu
 |.cG k::m,H,ds,tmps,φ,D,w,n,R,hu,hr,hF,hm,hR=>by
  obtain⟨cb,co,cz,ds',hp,rfl,hm'⟩:=hm;simp only[dF]at hu
  split at hu
  ·rename_i hk;obtain⟨hlt,hb⟩:=hr.block hk hp;have hb:w.heap[cb]?=some (.deferred (some [])):=hb;have htake:=run_takeDeferred (P:=P) hb;obtain⟨hr',bf⟩:=rel_drop (n:=n) hr (b:=k) (p:=(cb,co,cz)) (by rw[hk];simp) hp (Go.World.putObj w cb (.deferred none)) (λ c hc=>Go.World.putObj_heap_other hc) (Go.World.putObj_size) rfl rfl;have hH:Hf.set H.get k none=(H.put k none).get:=by funext c;simp only[Hf.set,Tr.get_put]
   rw[hH]at hr' bf;refine⟨ah,.inl ⟨cb,_,rfl,htake,?_⟩⟩;exact Br hg he m (H.put k none) ds' tmps φ D _ n R hu hr' hF hm' λ φ' D' w' x h1 h2 h3=>hR φ' D' w' x (bf.trans h1) h2 h3
  cases hu
theorem HI {φ:Ph}{D:Da}{args:List AV}{xs:List Value}(hG:GB D)(h:bW φ D args xs)(k:Nat):FR φ D (Tr.bO args 0 .nil:Fr).get ((⟨xs⟩:Array Value)++Array.replicate k undef):=by
 refine⟨λ t v hv=>?_,hG⟩;rw[Tr.bF]at hv
 split at hv
 ·obtain⟨x,hx,yK⟩:=h.get hv;refine⟨x,?_,yK⟩;have hlt:=(nH.1 hx).1;rw[Array.getElem?_append_left (by simpa using hlt)];simpa using hx
 simp at hv
theorem TI {φ:Ph}{D:Da}{u:UM}{mo:FrameMode}(h:we φ D u mo):we φ D (Oo u) (settle mo):=by
 cases u with
 |ret=>have h:mo=.returning:=h;subst h;rfl
 |wu v b =>
  obtain⟨x,hv,rfl⟩:=h
  cases b with
  |false=>exact⟨x,hv,rfl⟩
  |true=>rfl
theorem He {φ:Ph}{D:Da}{u:UM}{mo:FrameMode}(h:we φ D u mo):mo≠.run:=by
 cases u with
 |ret=>have h:mo=.returning:=h;subst h;simp
 |wu v b=>obtain⟨x,hv,rfl⟩:=h;simp
theorem xW {ce:Ce}(hce:iI P ce):∀(m:List Dm) (u u':UM) (H H':Hp) (n n':Nat),k_ ce m u H n=.mk u' H' n'->n<=n' /\
  ∀(fn:Func) (ds:List Deferred) (tmps:Array Value) (φ:Ph) (D:Da) (w:World) (mo:FrameMode) (R:Ending->World->Prop),Rel φ D H.get w->jb φ D m ds->we φ D u mo->cU φ n n' ->
   (∀ φ' D' w' Vk,Ext φ D H.get w n φ' D' H'.get w' n'->Rel φ' D' H'.get w'->we φ' D' u' Vk->LeavesInM Fence.wide 0 P fn tmps R [] Vk w')->LeavesInM Fence.wide 0 P fn tmps R ds mo w
 |[],u,u',H,H',n,n',h=>by
  simp only[k_]at h;injection h with e1 e2 e3;subst e1 e2 e3;refine⟨aK _,λ fn ds tmps φ D w mo R hr hm hmo hf hR=>?_⟩;have hm:ds=[]:=hm;subst hm;exact hR φ D w mo (Ext.refl ..) hr hmo
 |.cG k::m,u,u',H,H',n,n',h=>by
  simp only[k_]at h
  split at h
  ·rename_i hk;obtain⟨hn,ih⟩:=xW hce m _ _ _ _ _ _ h;refine⟨hn,λ fn ds tmps φ D w mo R hr hm hmo hf hR=>?_⟩;obtain⟨cb,co,cz,ds',hp,rfl,hm'⟩:=hm;obtain⟨hlt,hb⟩:=hr.block hk hp;have hb:w.heap[cb]?=some (.deferred (some [])):=hb;have htake:=run_takeDeferred (P:=P) hb;obtain⟨hr',bf⟩:=rel_drop (n:=n) hr (b:=k) (p:=(cb,co,cz)) (by rw[hk];simp) hp (Go.World.putObj w cb (.deferred none)) (λ c hc=>Go.World.putObj_heap_other hc) (Go.World.putObj_size) rfl rfl;have hH:Hf.set H.get k none=(H.put k none).get:=by funext c;simp only[Hf.set,Tr.get_put]
   rw[hH]at hr' bf;refine⟨He hmo,.inl ⟨cb,_,rfl,htake,?_⟩⟩;exact ih fn ds' tmps φ D _ mo R hr' hm' hmo hf λ φ' D' w' Vk e1 h2 h3=>hR φ' D' w' Vk (bf.trans e1) h2 h3
  cases h
 |.fn f args::m,u,u',H,H',n,n',h=>by
  simp only[k_]at h
  split at h
  ·rename_i u1 H1 n1 hd;obtain⟨⟨gn,gb,hfn,hb,hname⟩,hn1,hs⟩:=hce.dcall _ _ _ _ _ _ _ _ hd;obtain⟨hn2,ih⟩:=xW hce m _ _ _ _ _ _ h;refine⟨ae,λ fn ds tmps φ D w mo R hr hm hmo hf hR=>?_⟩;obtain⟨fl,cl,ds',hv,rfl,hm'⟩:=hm;refine⟨He hmo,.inr ⟨λ h=>by simp[Fence.wide]at h,.func f,⟨cl⟩,f,⟨fl++cl⟩,rfl,?_,λ _ _=>trivial,?_⟩⟩
   ·have harr:(⟨fl⟩:Array Value)++⟨cl⟩=⟨fl++cl⟩:=by apply Array.ext';simp
    simp only[invoke,callFunc,cL,run_program,cy,hfn,hname,hb,harr];simp
   refine hs φ D w _ mo hr hv hmo (hf.left hn2) _ λ φ1 D1 w1 x mo1 e1 r1 h1=>?_;exact ih fn ds' tmps φ1 D1 w1 _ R r1 (hm'.mono e1.phi e1.eS) (TI h1) (hf.step e1) λ φ' D' w' Vk e2 h2 h3=>hR φ' D' w' Vk (e1.trans e2) h2 h3
  cases h
inductive agE:iC->AV->Hp->Nat->(Value->Ending)->Prop
 |ret (v H n):agE (.mk v H n) v H n .returned
 |wu (v H n):agE (.wu v H n) v H n (λ x=>.panicked [{v:=x,recovered:=false}])
theorem Up {ce:Ce}(hce:iI P ce){fn:Func}{gs:List (Fr->Hp->Option AV)}(hgs:lF P fn.results.toList=some gs){ou:lO}{F1:Fr}{H1:Hp}{n1:Nat}{m1:List Dm}{c:iC}{v:AV}{H':Hp}{n':Nat}{e:Value->Ending}
  (hl:yF ce gs (.mk ou F1 H1 n1 m1)=c)(hc:agE c v H' n' e):n1<=n'/\∀(φ:Ph)(D:Da)(a:Act)(w:World)(px:Value)(R:Ending->World->Prop),Rel φ D H1.get w->FR φ D F1.get a.tmps->jb φ D m1 a.defers->IJ φ D px ou->cU φ n1 n' ->
   (∀ φ' D' w' x,Ext φ D H1.get w n1 φ' D' H'.get w' n'->Rel φ' D' H'.get w'->VR φ' D' v x->R (e x) w')->bodyPostM Fence.wide 0 P fn R (j7 px ou) a w:=by
 have go : ∀(u:UM),mr gs F1 (k_ ce m1 u H1 n1)=c->n1<=n'/\∀(φ:Ph) (D:Da) (a:Act) (w:World) (mo:FrameMode) (R:Ending->World->Prop),Rel φ D H1.get w->FR φ D F1.get a.tmps->jb φ D m1 a.defers->we φ D u mo->cU φ n1 n' ->
   (∀ φ' D' w' x,Ext φ D H1.get w n1 φ' D' H'.get w' n'->Rel φ' D' H'.get w'->VR φ' D' v x->R (e x) w')->LeavesInM Fence.wide 0 P fn a.tmps R a.defers mo w:=by
  intro u h
  cases hd:k_ ce m1 u H1 n1 with
  |fail=>rw[hd]at h;simp only[mr]at h;subst h;cases hc
  |mk u2 H2 n2 =>
   rw[hd]at h;obtain⟨hn,hs⟩:=xW hce m1 _ _ _ _ _ _ hd
   cases u2 with
   |ret =>
    simp only[mr]at h
    split at h
    ·rename_i vs hev;subst h;cases hc;refine⟨hn,λ φ D a w mo R hr hF hm hmo hf hR=>hs fn a.defers a.tmps φ D w mo R hr hm hmo hf λ φ' D' w' Vk e1 r1 h1=>?_⟩;have h1:Vk=.returning:=h1;subst h1;obtain⟨x,k1,k2⟩:=xZ (P:=P) (fn:=fn) r1 (hF.mono e1.phi e1.eS) hgs hev;exact⟨x,k1,hR φ' D' w' x e1 r1 k2⟩
    subst h;cases hc
   |wu v2 b =>
    cases b with
    |false =>
     simp only[mr]at h;subst h;cases hc;refine⟨hn,λ φ D a w mo R hr hF hm hmo hf hR=>hs fn a.defers a.tmps φ D w mo R hr hm hmo hf λ φ' D' w' Vk e1 r1 h1=>?_⟩;obtain⟨x,k1,rfl⟩:=h1;exact hR φ' D' w' x e1 r1 k1
    |true=>simp only[mr]at h;subst h;cases hc
 cases ou with
 |normal =>
  obtain⟨h1,h2⟩:=go .ret hl;exact⟨h1,λ φ D a w px R hr hF hm _ hf hR=>h2 φ D a w .returning R hr hF hm rfl hf hR⟩
 |ret =>
  obtain⟨h1,h2⟩:=go .ret hl;exact⟨h1,λ φ D a w px R hr hF hm _ hf hR=>h2 φ D a w .returning R hr hF hm rfl hf hR⟩
 |panic v0 =>
  obtain⟨h1,h2⟩:=go (.wu v0 false) hl;exact⟨h1,λ φ D a w px R hr hF hm hp hf hR=>h2 φ D a w (.panicking [{v:=px,recovered:=false}]) R hr hF hm ⟨px,hp,rfl⟩ hf hR⟩
 |exit i=>simp only[yF]at hl;subst hl;cases hc
def my (P:Program) (ce:Ce) (g:FuncId) (args:List AV) (H:Hp) (n:Nat):iC:=match PK P g with
 |some af=>match Nat.ble (eC args 0) af.nt with
  |true=>yF ce af.res (af.code.f ce (Tr.bO args 0 .nil) H n [])
  |false=>.fail
 |none=>.fail
theorem sH {ce:Ce}(hce:iI P ce){g:FuncId}{args:List AV}{H:Hp}{n:Nat}{c:iC}{v:AV}{H':Hp}{n':Nat}{e:Value->Ending}(h:my P ce g args H n=c) (hcr:agE c v H' n' e):
  (∃ fn b, P.funcs[g]? = some fn ∧ fn.body = some b ∧ (fn.name == "runtime.NumGoroutine") = false) ∧ n ≤ n' ∧
  ∀ φ D w xs,Rel φ D H.get w->bW φ D args xs->cU φ n n'->∀R:Ending->World->Prop,
   (∀ φ' D' w' x,Ext φ D H.get w n φ' D' H'.get w' n'->Rel φ' D' H'.get w'->VR φ' D' v x->R (e x) w')->CallsIn Fence.wide 0 P g ⟨xs⟩ w R:=by
 unfold my at h
 split at h
 ·rename_i af Vl
  split at h
  ·rename_i hle;have hle:=eF hle;unfold PK at Vl
   split at Vl
   ·rename_i fn hfn
    split at Vl
    ·rename_i b hb
     split at Vl
     ·cases Vl
     rename_i hname
     split at Vl
     ·rename_i gs hgs;injection Vl with Vl;subst Vl;dsimp only at h hle;have hc:=dH (P:=P) (nt:=fn.ntmps) (r:=none) hce b
      cases hres:(comp P fn.ntmps false b).f ce (Tr.bO args 0 .nil) H n []with
      |fail=>rw[hres]at h;simp only[yF]at h;subst h;cases hcr
      |mk ou F1 H1 n1 m1 =>
       rw[hres]at h;obtain⟨hn1,hs⟩:=hc _ _ _ _ _ _ _ _ _ hres;obtain⟨hn2,hl⟩:=Up hce hgs h hcr;refine⟨⟨fn,b,hfn,hb,by simpa using hname⟩,ae,λ φ D w xs hrel hvs hf R hR=>?_⟩;refine callsIn_of_wp_marks hfn hb trivial ?_
       have hsz:((⟨xs⟩:Array Value)++Array.replicate (fn.ntmps - (⟨xs⟩:Array Value).size) undef).size=fn.ntmps:=by
        have:=hvs.length;rw[bM]at hle;simp;omega
       refine hs φ D {tmps:=(⟨xs⟩:Array Value)++Array.replicate (fn.ntmps - (⟨xs⟩:Array Value).size) undef,defers:=[]} w ⟨hrel,HI hrel.eS.2 hvs _,hsz,rfl⟩ (hf.left hn2) _ λ φ1 D1 a1 w1 px bf st1 pp=>?_;exact hl φ1 D1 a1 w1 px R st1.rel st1.fr st1.Bm pp (hf.step bf) λ φ2 D2 w2 x h1 h2 h3=>hR φ2 D2 w2 x (bf.trans h1) h2 h3
     cases Vl
    cases Vl
   cases Vl
  subst h;cases hcr
 subst h;cases hcr
theorem V3:∀k,iI P (run P k)
 |0=>⟨λ _ _ _ _ _ _ _ h=>by(simp only[run]at h;cases h),λ _ _ _ _ _ _ _ h=>by(simp only[run]at h;cases h),λ _ _ _ _ _ _ _ _ _ _ h=>by(simp only[run]at h;cases h),λ _ _ _ _ _ _ _ _ h=>by(simp only[run]at h;cases h)⟩
 |k + 1=>by
  have ih:=V3 k;refine⟨λ g args H n v H' n' h=>?_,λ g args H n v H' n' h=>?_,λ nt c F H n o F' H' n' m' h=>?_,λ g args u H n u' H' n' h=>?_⟩
  ·exact sH (ce:=run P k) ih (c:=.mk v H' n') h (.ret ..)
  ·exact sH (ce:=run P k) ih (c:=.wu v H' n') h (.wu ..)
  ·simp only[run]at h;obtain⟨hn,_⟩:=dH (P:=P) (nt:=nt) (r:=some 0) ih c _ _ _ _ _ _ _ _ _ h;refine⟨hn,λ l=>?_⟩;exact(dH (P:=P) (nt:=nt) (r:=some l) ih c _ _ _ _ _ _ _ _ _ h).2
  simp only[run]at h;cases h
end
end Go.Abs
