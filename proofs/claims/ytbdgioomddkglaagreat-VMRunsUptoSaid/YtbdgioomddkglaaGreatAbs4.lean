/- A part. -/
import Derived.Test.YtbdgioomddkglaaGreatAbs3
import Derived.Scope
import Derived.LoopNIn
noncomputable section
namespace Go.Abs
open List
theorem tA {T:Tr Nat}:∀(es:List Edge) (s p:Nat),tb (FT T es s) p=true->tb s p=true∨∃e∈es,Region.binds .any e=true/\(p=e.on∨∃m,T.get e.on=some m/\tb m p=true)
 |[],s,p,h=>.inl h
 |e :: es,s,p,h=>by
  simp only[FT]at h
  split at h
  ·rename_i hb
   rcases tA es _ p h with h1|⟨e',h1,h2⟩
   ·rw[sF,sF,vN]at h1;simp only[Bool.or_eq_true,decide_eq_true_eq]at h1
    rcases h1 with(h1|h1)|h1
    ·exact .inl h1
    ·exact .inr ⟨e,by simp,hb,.inl h1.symm⟩
    cases hm:T.get e.on with
    |none=>rw[hm]at h1;simp[AA]at h1
    |some m=>rw[hm]at h1;exact .inr ⟨e,by simp,hb,.inr ⟨m,hm,h1⟩⟩
   exact .inr ⟨e',by simp[h1],h2⟩
  rcases tA es _ p h with h1|⟨e',h1,h2⟩
  ·exact .inl h1
  exact .inr ⟨e',by simp[h1],h2⟩
theorem Ai:∀(l:List Oper) (i:Nat) (T:Tr Nat),(∀x,i<=x->T.get x=none)->(∀x,x<i->(mU l i T).get x=T.get x) /\
  ∀k o,l[k]?=some o->∃T',(mU l i T).get (i+k)=some (FT T' o.after.toList 0)/\∀x m,T'.get x=some m->(mU l i T).get x=some m
 |[],i,T,h=>⟨λ x _=>rfl,λ k o hk=>by simp at hk⟩
 |o :: l, i,T,h=>by
  have e0:mU (o::l) i T=mU l (i+1) (T.put i (some (FT T o.after.toList 0))):=by simp only[mU,cX]
  rw[e0];obtain⟨h1,h2⟩:=Ai l (i+1) (T.put i (some (FT T o.after.toList 0))) (λ x hx=>by rw[Tr.get_put,ae (by omega)];exact h x (by omega));refine⟨λ x hx=>?_,λ k o' hk=>?_⟩
  ·rw[h1 x (by omega),Tr.get_put,ae (by omega)]
  cases k with
  |zero =>
   simp at hk;subst hk;refine⟨T,?_,λ x m hm=>?_⟩
   ·rw[show i+0=i from rfl,h1 i (by omega),Tr.get_put,ak rfl]
   have hx:x<i:=by
    rcases Nat.lt_or_ge x i with hx|hx
    ·exact hx
    rw[h x hx]at hm;cases hm
   rw[h1 x (by omega),Tr.get_put,ae (by omega)];exact hm
  |succ k =>
   obtain⟨T',h3,h4⟩:=h2 k o' (by simpa using hk);exact⟨T',by rw[show i+(k+1)=i+1+k by omega];exact h3,h4⟩
theorem T9 {ops:Array Oper}{i:Nat}{o:Oper}(ho:ops[i]?=some o){p:Nat}(h:tb (dK (mU ops.toList 0 .nil) i) p=true):
  ∃e∈o.after,Region.binds .any e=true/\(p=e.on∨tb (dK (mU ops.toList 0 .nil) e.on) p=true):=by
 obtain⟨_,h2⟩:=Ai ops.toList 0 .nil (λ x _=>rfl);obtain⟨T',h3,h4⟩:=h2 i o (by simpa using ho);rw[gz]at h3;unfold dK at h;rw[h3]at h
 rcases tA _ _ _ h with h5|⟨e,he,hb,h6⟩
 ·rw[AA]at h5;cases h5
 refine⟨e,by simpa using he,hb,?_⟩
 rcases h6 with h6|⟨m,h7,h8⟩
 ·exact .inl h6
 right;unfold dK;rw[h4 _ _ h7];exact h8
theorem s8:∀(l:List Oper) (i:Nat) (T D:Tr Nat),xe l i T=some D->(∀t p,T.get t=some p->D.get t=some p)/\∀k o d,l[k]?=some o->o.dst=some d->D.get d=some (i+k)
 |[],i,T,D,h=>by
  simp only[xe]at h;injection h with h;subst h;exact⟨λ _ _ h=>h,λ k o d hk=>by simp at hk⟩
 |o :: l, i,T,D,h=>by
  simp only[xe]at h
  split at h
  ·rename_i hn;obtain⟨h1,h2⟩:=s8 l (i+1) T D h;refine⟨h1,λ k o' d hk hd=>?_⟩
   cases k with
   |zero=>simp at hk;subst hk;rw[hn]at hd;cases hd
   |succ k=>rw[h2 k o' d (by simpa using hk) hd];congr 1;omega
  rename_i d0 hn
  split at h
  ·rename_i hg;obtain⟨h1,h2⟩:=s8 l (i+1) _ D h;refine⟨λ t p hp=>h1 t p ?_,λ k o' d hk hd=>?_⟩
   ·rw[Tr.get_put]
    split
    ·rename_i e;subst e;rw[hg]at hp;cases hp
    exact hp
   cases k with
   |zero =>
    simp at hk;subst hk;rw[hn]at hd;injection hd with hd;subst hd;rw[h1 d0 i (by rw[Tr.get_put,ak rfl])];rfl
   |succ k=>rw[h2 k o' d (by simpa using hk) hd];congr 1;omega
  cases h
theorem aiQ {ops:Array Oper}{D:Tr Nat}(h:xe ops.toList 0 .nil=some D):DOk D ops:=by
 intro i o d ho hd;obtain⟨_,h2⟩:=s8 _ _ _ _ h;rw[h2 i o d (by simpa using ho) hd];simp
theorem qX:∀(es:List Edge) (i:Nat),FM es i=true->∀e∈es,Region.binds .any e=true->e.on<i
 |[],i,_,e,he=>by cases he
 |x :: es,i,h,e,he=>by
  intro hb;simp only[FM]at h
  split at h
  ·cases hx:Nat.blt x.on i with
   |false=>rw[hx]at h;cases h
   |true =>
    rw[hx]at h
    rcases mem_cons.1 he with rfl|he
    ·exact dR hx
    exact qX es i h e he hb
  rename_i hx
  rcases mem_cons.1 he with rfl|he
  ·rw[hb]at hx;cases hx
  exact qX es i h e he hb
theorem xA:∀(l:List Oper)(i:Nat),LV l i=true->∀k o,l[k]?=some o->∀e∈o.after,Region.binds .any e=true->e.on<i+k
 |[],i,_,k,o,hk=>by simp at hk
 |x::l,i,h,k,o,hk=>by
  intro e he hb;simp only[LV,fz]at h
  cases k with
  |zero=>simp at hk;subst hk;exact qX _ _ h.1 e (by simpa using he) hb
  |succ k=>have:=xA l (i+1) h.2 k o (by simpa using hk) e he hb;omega
theorem tX:∀(l:List fg) (s s':Nat),wm l s=some s'->(l.map idxOf).Nodup/\(∀x∈l,tb s (idxOf x)=false)/\∀p,tb s' p=true->tb s p=true∨p∈l.map idxOf
 |[],s,s',h=>by
  simp only[wm]at h;injection h with h;subst h;exact⟨by simp,λ x hx=>(by cases hx),λ p hp=>.inl hp⟩
 |x :: l,s,s',h=>by
  simp only[wm]at h
  cases hx:tb s (idxOf x)with
  |true=>rw[hx]at h;cases h
  |false =>
   rw[hx]at h;obtain⟨h1,h2,h3⟩:=tX l _ s' h
   have h4:∀y∈l,tb s (idxOf y)=false/\idxOf x≠idxOf y:=by
    intro y hy;have:=h2 y hy;rw[sF,vN]at this;simp only[Bool.or_eq_false_iff,decide_eq_false_iff_not]at this;exact this
   refine⟨?_,?_,?_⟩
   ·rw[map_cons,nodup_cons];refine⟨λ hm=>?_,h1⟩;obtain⟨y,hy,e⟩:=mem_map.1 hm;exact(h4 y hy).2 e.symm
   ·intro y hy
    rcases mem_cons.1 hy with rfl|hy
    ·exact hx
    exact(h4 y hy).1
   intro p hp
   rcases h3 p hp with h5|h5
   ·rw[sF,vN]at h5;simp only[Bool.or_eq_true,decide_eq_true_eq]at h5
    rcases h5 with h5|h5
    ·exact .inl h5
    exact .inr (by rw[map_cons,h5];simp)
   exact .inr (by rw[map_cons];exact mem_cons_of_mem _ h5)
theorem ab:∀(l:List Nat)(F:Fr)(t:Nat),(ji l F).get t=if t∈l then none else F.get t
 |[],F,t=>by simp[ji]
 |s::l,F,t=>by
  simp only[ji];rw[ab l,Tr.jV _ _ _ _ _ (Nat.lt_succ_self s)]
  by_cases h:t=s
  ·subst h;simp
  simp[h]
theorem xd:∀(l:List Oper) (k:Nat) (o:Oper) (d:Nat),l[k]?=some o->EL o.op=false->o.dst=some d->d∈jh l
 |[],k,o,d,h,_,_=>by simp at h
 |x :: l,k,o,d,h,hn,hd=>by
  simp only[jh]
  cases k with
  |zero=>simp at h;subst h;rw[hn,hd];simp
  |succ k =>
   have:=xd l k o d (by simpa using h) hn hd
   split
   ·exact this
   split
   ·exact mem_cons_of_mem _ this
   exact this
theorem pP:∀(l:List Oper) (T:Tr Nat) (d:Nat),T.get d≠none->(yL l T).get d≠none
 |[],T,d,h=>h
 |o :: l,T,d,h=>by
  simp only[yL]
  split
  ·split
   ·refine pP l _ d ?_;rw[Tr.get_put]
    split
    ·simp
    exact h
   exact pP l T d h
  exact pP l T d h
theorem pO:∀(l:List Oper) (T:Tr Nat) (k:Nat) (o:Oper) (d:Nat),l[k]?=some o->EL o.op=true->o.dst=some d->(yL l T).get d≠none
 |[],T,k,o,d,h,_,_=>by simp at h
 |x :: l,T,k,o,d,h,ha,hd=>by
  cases k with
  |zero =>
   simp at h;subst h;simp only[yL]
   split
   ·rw[hd];exact pP l _ d (by rw[Tr.get_put,ak rfl];simp)
   rename_i hn;exfalso;unfold EL at ha
   split at ha
   ·rename_i y hy;exact hn y hy
   cases ha
  |succ k =>
   simp only[yL]
   split
   ·split
    ·exact pO l _ k o d (by simpa using h) ha hd
    exact pO l _ k o d (by simpa using h) ha hd
   exact pO l _ k o d (by simpa using h) ha hd
theorem pJ:∀(l:List Oper) (i:Nat) (T D:Tr Nat),xe l i T=some D->∀t p,D.get t=some p->T.get t=some p∨∃k o,l[k]?=some o/\o.dst=some t/\p=i+k
 |[],i,T,D,h=>by
  simp only[xe]at h;injection h with h;subst h;exact λ t p hp=>.inl hp
 |o :: l, i,T,D,h=>by
  intro t p hp;simp only[xe]at h
  split at h
  ·rcases pJ l (i+1) T D h t p hp with h1|⟨k,o',h1,h2,h3⟩
   ·exact .inl h1
   exact .inr ⟨k+1,o',by simpa using h1,h2,by omega⟩
  rename_i d0 hn
  split at h
  ·rcases pJ l (i+1) _ D h t p hp with h1|⟨k,o',h1,h2,h3⟩
   ·rw[Tr.get_put]at h1
    split at h1
    ·rename_i e;subst e;injection h1 with h1;exact .inr ⟨0,o,by simp,hn,by omega⟩
    exact .inl h1
   exact .inr ⟨k+1,o',by simpa using h1,h2,by omega⟩
  cases h
theorem aiF {ops:Array Oper}{D:Tr Nat}(h:xe ops.toList 0 .nil=some D)(F:Fr):EOk D (yL ops.toList .nil) (ji (jh ops.toList) F):=by
 intro t p hp hE
 rcases pJ _ _ _ _ h t p hp with h1|⟨k,o,h1,h2,_⟩
 ·simp at h1
 cases ha:EL o.op with
 |true=>exact aj hE (pO _ _ k o t h1 ha h2)
 |false=>rw[ab,ak (xd _ k o t h1 ha h2)]
end Go.Abs
namespace Go.Abs
open List
section
variable {P:Program}{ce:Ce}{nt:Nat}{r:Option Nat}{ops:Array Oper}{T D:Tr Nat}{F0 F':Fr}{H':Hp}{n0 n':Nat}{A:Nat->Hp}{all:List Rec}{k:Nat}{bY grp bad:List Nat}{seen:Nat}
theorem Ext.wide {φ D h w n φ' D' h' w' n'}(e:Ext φ D h w n φ' D' h' w' n'){lo hi:Nat}(h1:lo<=n)(h2:n'<=hi):Ext φ D h w lo φ' D' h' w' hi:=
 ⟨by have:=e.le;omega,e.phi,λ b x y=>by have:=e.new b x y;omega,e.eQ,e.size,e.keep,e.live,e.lj,λ b hb=>by rcases e.hid b hb with h|h;exact .inl h;exact .inr (by omega),e.os,e.out⟩
theorem Ext.join {φ D h w lo hi φ1 D1 h1 w1 φ2 D2 h2 w2}(a:Ext φ D h w lo φ1 D1 h1 w1 hi)(b:Ext φ1 D1 h1 w1 lo φ2 D2 h2 w2 hi):Ext φ D h w lo φ2 D2 h2 w2 hi where
 le:=a.le
 phi:=λ c x hx=>b.phi _ _ (a.phi _ _ hx)
 new:=λ c h0 h2=>by
  cases h1:φ1 c with
  |none=>exact b.new c h1 h2
  |some x=>exact a.new c h0 (by simp[h1])
 eQ:=λ c x hx=>b.eQ _ _ (a.eQ _ _ hx)
 size:=rC a.size b.size
 keep:=λ c hc hn=>by
  have hc1:=Nat.lt_of_lt_of_le hc a.size;rw[b.keep c hc1 λ d p hd hp e=>?_,a.keep c hc hn]
  rcases a.live d p hd hp with h|⟨b0,p0,x,y,z⟩
  ·omega
  exact hn b0 p0 x y (z.trans e)
 live:=λ c p hc hp=>by
  have ha:=a.size
  rcases b.live c p hc hp with h|⟨b0,p0,x,y,z⟩
  ·exact .inl (by omega)
  rcases a.live b0 p0 x y with h|⟨b1,p1,x1,y1,z1⟩
  ·exact .inl (by omega)
  exact .inr ⟨b1,p1,x1,y1,z1.trans z⟩
 lj:=λ c hc=>by
  have ha:=a.size
  rcases b.lj c hc with h|h|⟨b0,p0,x,y,z⟩
  ·exact a.lj c h
  ·exact .inr (.inl (by omega))
  rcases a.live b0 p0 x y with h|⟨b1,p1,x1,y1,z1⟩
  ·exact .inr (.inl (by omega))
  exact .inr (.inr ⟨b1,p1,x1,y1,z1.trans z⟩)
 hid:=λ c hc=>by
  rcases b.hid c hc with h|h
  ·exact a.hid c h
  exact .inr h
 os:=b.os.trans a.os
 out:=b.out.trans a.out
theorem Ext.sub {φ D h w n φ' D' h' w' n' X}(e:Ext φ D h w n φ' D' h' w' n')(hs:Sub X h'):Ext φ D h w n φ' D' X w' n':=by
 have ne:∀b,X b≠none->h' b≠none:=λ b hb=>by
  cases e:X b with
  |none=>exact aj e hb
  |some k=>rw[hs b k e];simp
 exact⟨e.le,e.phi,e.new,e.eQ,e.size,e.keep,λ b p hb=>e.live b p (ne b hb),e.lj,λ b hb=>e.hid b (ne b hb),e.os,e.out⟩
structure Facts (P:Program)(r:Option Nat)(nt:Nat)(ops:Array Oper)(T D:Tr Nat)(F0 F':Fr)(H':Hp)(n0 n':Nat)(A:Nat->Hp)(all:List Rec)(k:Nat)(bY grp bad:List Nat)(seen:Nat):Prop where
 good:Good P r nt ops T D F0 n0 A all k F' H' n' bY grp bad seen
 nodup:(all.map (·.i)).Nodup
 cover:∀i,i<ops.size->∃c∈all,c.i=i
 anc:∀(i:Nat) (o:Oper) (p:Nat),ops[i]?=some o->tb (dK T i) p=true->∃e∈o.after,Region.binds .any e=true/\(p=e.on∨tb (dK T e.on) p=true)
 back:∀(i:Nat) (o:Oper),ops[i]?=some o->∀e∈o.after,Region.binds .any e=true->e.on<i
 dok:DOk D ops
 an0:∀t p,D.get t=some p->∃o,ops[p]?=some o/\o.dst=some t
theorem Facts.same (f:Facts P r nt ops T D F0 F' H' n0 n' A all k bY grp bad seen){c s:Rec}(hc:c∈all)(hs:s∈all)(e:c.i=s.i):c=s:=by
 have:=f.nodup;clear f
 induction all with
 |nil=>cases hc
 |cons x l ih =>
  rw[map_cons,nodup_cons]at this
  rcases mem_cons.1 hc with e1|hc'<;>rcases mem_cons.1 hs with e2|hs'
  ·rw[e1,e2]
  ·exact aj (mem_map.2 ⟨s,hs',by rw[<-e1];exact e.symm⟩) this.1
  ·exact aj (mem_map.2 ⟨c,hc',by rw[<-e2];exact e⟩) this.1
  exact ih hc' hs' this.2
theorem Facts.apart (f:Facts P r nt ops T D F0 F' H' n0 n' A all k bY grp bad seen){c s:Rec}(hc:c∈all)(hs:s∈all)(e:c.i≠s.i):c.hi<=s.lo∨s.hi<=c.lo:=by
 have:=f.good.pw;clear f
 induction all with
 |nil=>cases hc
 |cons x l ih =>
  rw[pairwise_cons]at this
  rcases mem_cons.1 hc with e1|hc'<;>rcases mem_cons.1 hs with e2|hs'
  ·rw[e1,e2]at e;exact aj rfl e
  ·rw[e1];exact .inl (this.1 s hs')
  ·rw[e2];exact .inr (this.1 c hc')
  exact ih hc' hs' this.2
theorem Facts.atf (f:Facts P r nt ops T D F0 F' H' n0 n' A all k bY grp bad seen){c s:Rec}(hc:c∈all)(hs:s∈all){t:Tmp}(h1:c.dst=some t)(h2:s.dst=some t):c.i=s.i:=by
 obtain⟨o,ho,hd,_⟩:=f.good.op c hc;obtain⟨o',ho',hd',_⟩:=f.good.op s hs;have e1:=f.dok _ _ _ ho (by rw[<-hd];exact h1);have e2:=f.dok _ _ _ ho' (by rw[<-hd'];exact h2);rw[e1]at e2;injection e2
structure Inv (nt:Nat)(D:Tr Nat)(F0:Fr)(A:Nat->Hp)(all:List Rec)(k:Nat)(T:Tr Nat)(L:Nat->Prop)(m:List Dm)(φ0:Ph)(D0:Da)(h0:Hf)(w0:World)(n0 n':Nat)(φ:Ph)(Da:Da)(h:Hf)(jj:Nat)(a:Act)(w:World):Prop where
 ext:Ext φ0 D0 h0 w0 n0 φ Da h w n'
 rel:Rel φ Da h w
 sub:∀b kk,(A jj).get b=some kk->(∀s∈all,L s.i->∀x y,s.jH≠some (b,x,y))->h b=some kk
 SU:∀s∈all,L s.i->∀b x y,s.jH=some (b,x,y)->h b=some y
 blk:∀s∈all,L s.i->s.pB=false->jj<=s.ph->∀kk,s.blk=some kk->h s.lo=some kk
 fr0:∀t u,F0.get t=some u->(∀p,D.get t=some p->¬L p)->∃x,a.tmps[t]?=some x/\VR φ Da u x
 frp:∀s∈all,L s.i->∀t,s.dst=some t->∃x,a.tmps[t]?=some x/\VR φ Da s.v x
 sz:a.tmps.size=nt
 uM:jo φ Da m a.defers
 phs:∀s∈all,s.pB=true->(L s.i↔s.ph<jj)
 fresh:∀s∈all,¬L s.i->cK φ s.lo s.hi
 dc:∀i p,L i->tb (dK T i) p=true->L p
 jk:jj<=k
theorem RU (f:Facts P r nt ops T D F0 F' H' n0 n' A all k bY grp bad seen){L:Nat->Prop}{m:List Dm}{φ0:Ph}{D0:Da}{h0:Hf}{w0:World}{φ:Ph}{Dd:Da}{h:Hf}{jj:Nat}{a:Act}{w:World}
  (I:Inv nt D F0 A all k T L m φ0 D0 h0 w0 n0 n' φ Dd h jj a w){i:Nat}{o:Oper}(ho:ops[i]?=some o)(hL:¬L i)(hpre:∀e∈o.after,Region.binds .any e=true->L e.on)(K:Act->World->Prop)(Q:QT)
  (hK:∀ φ' Dd' h' jj' a' w',Inv nt D F0 A all k T (λ p=>p=i∨L p) m φ0 D0 h0 w0 n0 n' φ' Dd' h' jj' a' w'->K a' w'):wpOpIn (FW r) 0 P ops Q i K a w:=by
 have hi:i<ops.size:=(oe.1 ho).1;obtain⟨c,hc,rfl⟩:=f.cover i hi;have g:=f.good
 have SB:∀p,tb (dK T c.i) p=true->L p:=λ p hp=>by
  obtain⟨e,he,hb,h1⟩:=f.anc _ _ p ho hp
  rcases h1 with rfl|h1
  ·exact hpre e he hb
  exact I.dc _ _ (hpre e he hb) h1
 obtain⟨o',ho',hdst,hlt⟩:=g.op c hc;have:o'=o:=by rw[ho]at ho';injection ho' with h;exact h.symm
 subst this;obtain⟨r1,r2,r3⟩:=g.jA c hc
 have hFs:FR φ Dd c.Fs.get a.tmps:=by
  refine⟨λ t u hu=>?_,I.rel.eQ.2⟩
  rcases g.fs c hc t u hu with⟨h1,h2⟩|⟨s,hs,h1,h2,h3⟩
  ·exact I.fr0 t u h1 λ p hp hl=>hL (I.dc _ _ hl (h2 p hp))
  subst h2;exact I.frp s hs (SB _ h3) t h1
 have hfr:cK φ c.lo c.hi:=I.fresh c hc hL;have hphs:c.ph<=k:=g.ph c hc
 have abl:jj<k->∀s∈all,L s.i->s.jH=none:=by
  intro hk s hs hl
  cases hsf:s.jH with
  |none=>rfl
  |some t =>
   exfalso;obtain⟨b,x,y⟩:=t;obtain⟨e1,e2,_⟩:=g.ff s hs (by rw[hsf];simp);obtain⟨e3,_⟩:=(g.ok s hs).SU b x y hsf;obtain⟨u,hu,e4,e5,e6⟩:=g.ea s hs e3 (k - 1) (by omega);have:=(I.phs u hu e4).1 (I.dc _ _ hl e6);omega
 have next:∀ φ' Dd' w' cv h' jj',Ext φ Dd h w c.lo φ' Dd' h' w' c.hi->Rel φ' Dd' h' w'->VR φ' Dd' c.v cv->(∀b kk,(A jj').get b=some kk->(∀s∈all,(s.i=c.i∨L s.i)->∀x y,s.jH≠some (b,x,y))->h' b=some kk)->(∀s∈all,(s.i=c.i∨L s.i)->∀b x y,s.jH=some (b,x,y)->h' b=some y) ->
   (∀s∈all,(s.i=c.i∨L s.i)->s.pB=false->jj'<=s.ph->∀kk,s.blk=some kk->h' s.lo=some kk) ->
   (∀s∈all,s.pB=true->((s.i=c.i∨L s.i)↔s.ph<jj'))->jj'<=k->Inv nt D F0 A all k T (λ p=>p=c.i∨L p) m φ0 D0 h0 w0 n0 n' φ' Dd' h' jj' (a.put c.dst cv) w':=by
  intro φ' Dd' w' cv h' jj' aP hrel fU hsub asn hblk hmod hjk
  have zf:∀t,c.dst≠some t->(a.put c.dst cv).tmps[t]?=a.tmps[t]?:=by
   intro t ht;unfold Act.put
   cases hd:c.dst with
   |none=>rfl
   |some d=>exact Array.getElem?_setIfInBounds_ne (λ e=>ht (by rw[hd,e]))
  refine⟨I.ext.join (aP.wide r1 r3),hrel,hsub,asn,hblk,?_,?_,?_,?_,hmod,?_,?_,hjk⟩
  ·intro t u hu hnl;obtain⟨x,hx,hv⟩:=I.fr0 t u hu λ p hp hl=>hnl p hp (.inr hl);refine⟨x,?_,hv.mono aP.phi aP.eQ⟩;rw[zf t λ e=>?_];exact hx;exact hnl _ (f.dok _ _ t ho (by rw[<-hdst];exact e)) (.inl rfl)
  ·intro s hs hl t ht
   by_cases e:s.i=c.i
   ·have:=f.same hs hc e;subst this;refine⟨cv,?_,fU⟩;have:=hlt t (by rw[<-hdst];exact ht);rw[ht];simp[Act.put,I.sz,this]
   obtain⟨x,hx,hv⟩:=I.frp s hs (hl.resolve_left e) t ht;refine⟨x,?_,hv.mono aP.phi aP.eQ⟩;rw[zf t λ e'=>e (f.atf hs hc ht e')];exact hx
  ·have:=I.sz;unfold Act.put
   cases c.dst<;>simp[this]
  ·rw[put_defers];exact I.uM.mono aP.phi aP.eQ
  ·intro s hs hl b hb1 hb2;have hne:s.i≠c.i:=λ e=>hl (.inl e);have h1:=I.fresh s hs (λ e=>hl (.inr e)) b hb1 hb2
   cases hx:φ' b with
   |none=>rfl
   |some p =>
    have:=aP.new b h1 (by simp[hx])
    rcases f.apart hs hc hne with h2|h2<;>omega
  intro p q hp hq
  rcases hp with rfl|hp
  ·exact .inr (SB q hq)
  exact .inr (I.dc p q hp hq)
 have hok:=g.ok c hc
 cases hm:c.pB with
 |false =>
  have hle:c.e<=jj:=by
   cases he:c.e with
   |zero=>exact Nat.zero_le _
   |succ q =>
    obtain⟨s,hs,h1,h2,h3⟩:=g.ea c hc hm q he;have:=(I.phs s hs h1).1 (SB _ h3);omega
  have hge:jj<=c.ph:=by
   rcases Nat.lt_or_ge c.ph jj with hlt' |hge
   ·exfalso
    rcases Nat.lt_or_ge c.ph k with hk|hk
    ·obtain⟨s,hs,h1,h2,h3⟩:=(g.gr c hc hm).1 hk;exact hL (I.dc _ _ ((I.phs s hs h1).2 (by omega)) h3)
    have:=I.jk;omega
   exact hge
  have hmo:∀s∈all,s.pB=true->((s.i=c.i∨L s.i)↔s.ph<jj):=by
   intro s hs hsm;rw[<-I.phs s hs hsm];exact⟨λ hx=>hx.resolve_left λ e=>(by have:=f.same hs hc e;subst this;rw[hm]at hsm;cases hsm),.inr⟩
  cases hfl:c.jH with
  |some t =>
   obtain⟨b,x,y⟩:=t;obtain⟨_,hb,h1,h2,hst⟩:=hok.SU b x y hfl;obtain⟨e1,e2,e3⟩:=g.ff c hc (by rw[hfl];simp);have hjj:jj=k:=by omega
   rw[h1]at hfr r3
   have hXh:Sub (uJ.set b (some x)) h:=λ b' kk hb'=>by
    unfold Hf.set at hb'
    split at hb'
    ·rename_i e;subst e;injection hb' with hb';subst hb';refine I.sub _ _ (by rw[hjj,<-e1];exact h2) λ s hs hl x' y' hsf=>?_;have:=g.fd s hs c hc _ _ _ _ _ hsf hfl;subst this;exact hL hl
    cases hb'
   refine hst.2 φ Dd h a w I.rel hXh hFs hfr K Q λ φ' Dd' w' cv aP hrel fU=>?_;have hov:∀b',b'≠b->over (uJ.set b (some x)) (uJ.set b (some y)) h b'=h b':=λ b' hb'=>sJ (by simp[Hf.set,hb',uJ]) (by simp[Hf.set,hb',uJ]);refine hK φ' Dd' _ jj _ w' (next φ' Dd' w' cv _ jj (by rw[h1];exact aP) hrel fU ?_ ?_ ?_ hmo I.jk)
   ·intro b' kb hbk hno;have:b'≠b:=λ e=>hno c hc (.inl rfl) x y (by rw[e];exact hfl);rw[hov b' this];exact I.sub b' kb hbk λ s hs hl=>hno s hs (.inr hl)
   ·intro s hs hl b' x' y' hsf
    by_cases e:s.i=c.i
    ·have:=f.same hs hc e;subst this;rw[hfl]at hsf;injection hsf with hsf;injection hsf with h4 h5;injection h5 with h5 h6;subst h4;subst h6;exact wh _ _ (by simp[Hf.set])
    have:b'≠b:=λ e'=>by
     subst e';have:=g.fd s hs c hc _ _ _ _ _ hsf hfl;subst this;exact e rfl
    rw[hov b' this];exact I.SU s hs (hl.resolve_left e) b' x' y' hsf
   intro s hs hl hsm hp ks hks;have e:s.i≠c.i:=λ e=>by have:=f.same hs hc e;subst this;rw[hb]at hks;cases hks
   obtain⟨_,_,h6⟩:=(g.ok s hs).new hsm ks hks
   have:s.lo≠b:=λ e'=>by
    have:=h6 c.ph (by omega);rw[e',h2]at this;cases this
   rw[hov s.lo this];exact I.blk s hs (hl.resolve_left e) hsm hp ks hks
  |none =>
  cases hb:c.blk with
  |none =>
   obtain⟨h1,h2⟩:=hok.val hm hb hfl;obtain⟨X,hhf,hX,hst⟩:=h2 jj hle hge;rw[h1]at hfr r3
   have hXh:Sub X h:=by
    cases hcf:c.hf with
    |true=>rw[hhf hcf];intro b kk hb;cases hb
    |false =>
     intro b kk hb';refine I.sub b kk (hX b kk hb') λ s hs hl x y hsf=>?_;obtain⟨e1,e2,e3⟩:=g.ff s hs (by rw[hsf];simp)
     rcases Nat.lt_or_ge jj k with h3|h3
     ·rw[abl h3 s hs hl]at hsf;cases hsf
     rcases g.nh c hc hm hb hfl (by omega)with h4|h4
     ·rw[e3]at h4;cases h4
     rw[hcf]at h4;cases h4
   refine hst.2 φ Dd h a w I.rel hXh hFs hfr K Q λ φ' Dd' w' cv aP hrel fU=>?_;rw[zl hXh]at aP hrel;refine hK φ' Dd' h jj _ w' (next φ' Dd' w' cv h jj (by rw[h1];exact aP) hrel fU (λ b kk hb hno=>I.sub b kk hb λ s hs hl=>hno s hs (.inr hl)) ?_ ?_ hmo I.jk)
   ·intro s hs hl b x y hsf
    rcases hl with e|hl
    ·have:=f.same hs hc e;subst this;rw[hfl]at hsf;cases hsf
    exact I.SU s hs hl b x y hsf
   intro s hs hl hsm hp kk hkk
   rcases hl with e|hl
   ·have:=f.same hs hc e;subst this;rw[hb]at hkk;cases hkk
   exact I.blk s hs hl hsm hp kk hkk
  |some kk =>
   obtain⟨h1,hst,h2⟩:=hok.new hm kk hb;have hXh:Sub uJ h:=λ b kk hb=>by cases hb
   rw[h1]at hfr;refine hst.2 φ Dd h a w I.rel hXh hFs hfr K Q λ φ' Dd' w' cv aP hrel fU=>?_;have hov:∀b,b≠c.lo->over uJ (uJ.set c.lo (some kk)) h b=h b:=λ b hb=>sJ rfl (by simp[Hf.set,hb,uJ]);refine hK φ' Dd' _ jj _ w' (next φ' Dd' w' cv _ jj (by rw[h1];exact aP) hrel fU ?_ ?_ ?_ hmo I.jk)
   ·intro b kb hbk hno;have:b≠c.lo:=λ e=>by subst e;rw[h2 jj hge]at hbk;cases hbk
    rw[hov b this];exact I.sub b kb hbk λ s hs hl=>hno s hs (.inr hl)
   ·intro s hs hl b x y hsf
    rcases hl with e|hl
    ·have:=f.same hs hc e;subst this;rw[hfl]at hsf;cases hsf
    obtain⟨e1,e2,e3⟩:=g.ff s hs (by rw[hsf];simp)
    have hjj:jj=k:=by
     rcases Nat.lt_or_ge jj k with h3|h3
     ·rw[abl h3 s hs hl]at hsf;cases hsf
     have:=I.jk;omega
    obtain⟨_,_,_,h4,_⟩:=(g.ok s hs).SU b x y hsf;have:b≠c.lo:=λ e=>by subst e;rw[h2 s.ph (by omega)]at h4;cases h4
    rw[hov b this];exact I.SU s hs hl b x y hsf
   intro s hs hl hsm hp ks hks
   by_cases e:s.i=c.i
   ·have:=f.same hs hc e;subst this;rw[hb]at hks;injection hks with hks;subst hks;exact wh _ _ (by simp[Hf.set])
   obtain⟨h3,_⟩:=(g.ok s hs).new hsm ks hks;rw[hov s.lo (by rcases f.apart hs hc e with h4|h4<;>omega)];exact I.blk s hs (hl.resolve_left e) hsm hp ks hks
 |true =>
  obtain⟨hb,hck,hst⟩:=hok.mod hm
  have hge:jj<=c.ph:=by
   rcases Nat.lt_or_ge c.ph jj with h1|h1
   ·exact aj ((I.phs c hc hm).2 h1) hL
   exact h1
  have hle:c.ph<=jj:=by
   cases hp:c.ph with
   |zero=>exact Nat.zero_le _
   |succ q =>
    obtain⟨s,hs,h1,h2,h3⟩:=g.ch c hc hm q hp;have:=(I.phs s hs h1).1 (SB _ h3);omega
  have hjj:c.ph=jj:=by omega
  subst hjj
  have hXh:Sub c.X h:=λ b kb hbk=>by
   rcases g.mx c hc hm b kb hbk with h1|⟨s,hs,h1,h2,h3,h4,h5⟩
   ·exact I.sub b kb h1 λ s hs hl x y=>by rw[abl hck s hs hl];simp
   subst h3;exact I.blk s hs (SB _ h5) h1 (by omega) kb h2
  refine hst.2 φ Dd h a w I.rel hXh hFs hfr K Q λ φ' Dd' w' cv aP hrel fU=>?_;refine hK φ' Dd' _ (c.ph+1) _ w' (next φ' Dd' w' cv _ (c.ph+1) aP hrel fU (λ b kk hb _=>wh b kk hb) ?_ ?_ ?_ hck)
  ·intro s hs hl b x y hsf
   rcases hl with e|hl
   ·have:=f.same hs hc e;subst this;obtain⟨e3,_⟩:=(g.ok s hs).SU b x y hsf;rw[e3]at hm;cases hm
   rw[abl hck s hs hl]at hsf;cases hsf
  ·intro s hs hl hsm hp ks hks;have e:s.i≠c.i:=λ e=>by have:=f.same hs hc e;subst this;rw[hm]at hsm;cases hsm
   obtain⟨h3,_,h6⟩:=(g.ok s hs).new hsm ks hks;rw[sJ ?_ (h6 (c.ph+1) hp)]
   ·exact I.blk s hs (hl.resolve_left e) hsm (by omega) ks hks
   cases hx:c.X s.lo with
   |none=>rfl
   |some kx =>
    exfalso
    rcases g.mx c hc hm s.lo kx hx with h7|⟨u,hu,h7,h8,h9,h10,_⟩
    ·rw[h6 c.ph (by omega)]at h7;cases h7
    obtain⟨h11,_⟩:=(g.ok u hu).new h7 kx h8;have:u.i≠s.i:=λ e=>by have:=f.same hu hs e;subst this;omega
    rcases f.apart hu hs this with h12|h12<;>omega
  intro s hs hsm
  by_cases e:s.i=c.i
  ·have:=f.same hs hc e;subst this;exact⟨λ _=>Nat.lt_succ_self _,λ _=>.inl rfl⟩
  have h1:=I.phs s hs hsm;have h2:s.ph≠c.ph:=λ e'=>e (by rw[g.uq s hs c hc hsm hm e']);constructor
  ·intro hx;have:=h1.1 (hx.resolve_left e);omega
  intro hx;exact .inr (h1.2 (by omega))
end
end Go.Abs
namespace Go.Abs
open List
section
variable {P:Program}{ce:Ce}{nt:Nat}{r:Option Nat}{ops:Array Oper}{T D:Tr Nat}{F0 F':Fr}{H':Hp}{n0 n':Nat}{A:Nat->Hp}{all:List Rec}{k:Nat}{bY grp bad:List Nat}{seen:Nat}
def GQ (listed:Array Bool)(p:Nat):Prop:=listed.getD p false=true
def left (n:Nat)(listed:Array Bool):Nat:=((List.range n).filter λ i=>!listed.getD i false).length
theorem Bh {listed:Array Bool}{i:Nat}(hi:i<listed.size):GQ (listed.setIfInBounds i true)=λ p=>p=i∨GQ listed p:=by
 funext p
 apply propext;unfold GQ;simp only[Array.getD_eq_getD_getElem?,Array.getElem?_setIfInBounds]
 by_cases e:i=p
 ·subst e;simp[hi]
 simp[e,Ne.symm e]
theorem E7 {l:List Nat}{p q:Nat->Bool}(h:∀x,x∈l->q x=true->p x=true):(l.filter q).length<=(l.filter p).length/\((∃x∈l,p x=true/\q x=false)->(l.filter q).length<(l.filter p).length):=by
 induction l with
 |nil=>simp
 |cons a l ih =>
  obtain⟨i1,i2⟩:=ih λ x hx=>h x (mem_cons_of_mem _ hx);have ha:=h a (by simp);simp only[filter_cons]
  cases hq:q a with
  |true =>
   rw[ha hq];simp only[if_true,length_cons];refine⟨by omega,?_⟩;rintro⟨x,hx,h1,h2⟩
   rcases mem_cons.1 hx with rfl|hx
   ·rw[hq]at h2;cases h2
   have:=i2 ⟨x,hx,h1,h2⟩;omega
  |false =>
   cases hp:p a with
   |true=>simp only[Bool.false_eq_true,if_false,if_true,length_cons];exact⟨by omega,λ _=>by omega⟩
   |false =>
    simp only[Bool.false_eq_true,if_false];refine⟨i1,?_⟩;rintro⟨x,hx,h1,h2⟩
    rcases mem_cons.1 hx with rfl|hx
    ·rw[hp]at h1;cases h1
    exact i2 ⟨x,hx,h1,h2⟩
theorem RL {n:Nat}{listed:Array Bool}{i:Nat}(hn:i<n)(hi:i<listed.size)(hu:listed.getD i false=false):left n (listed.setIfInBounds i true)<left n listed:=by
 unfold left;refine(E7 (p:=λ i=>!listed.getD i false) (q:=λ x=>!(listed.setIfInBounds i true).getD x false) λ x _ hx=>?_).2 ⟨i,by simpa using hn,by simp[hu],?_⟩
 ·cases h:listed.getD x false with
  |false=>rfl
  |true =>
   have:GQ (listed.setIfInBounds i true) x:=by rw[Bh hi];exact .inr h
   unfold GQ at this;rw[this]at hx;cases hx
 have:GQ (listed.setIfInBounds i true) i:=by rw[Bh hi];exact .inl rfl
 unfold GQ at this;simp[this]
theorem O7 {n:Nat}{listed:Array Bool}(h:left n listed=0):∀i,i<n->GQ listed i:=by
 intro i hi;unfold left at h;have:=eq_nil_of_length_eq_zero h;rw[filter_eq_nil_iff]at this;have:=this i (by simpa using hi);unfold GQ;simpa using this
theorem Lu (f:Facts P r nt ops T D F0 F' H' n0 n' A all k bY grp bad seen){L:Nat->Prop}{m:List Dm}{φ0:Ph}{D0:Da}{h0:Hf}{w0:World}{φ:Ph}{Dd:Da}{h:Hf}{jj:Nat}{a:Act}{w:World}
  (I:Inv nt D F0 A all k T L m φ0 D0 h0 w0 n0 n' φ Dd h jj a w)(hall:∀i,i<ops.size->L i):Ext φ0 D0 h0 w0 n0 φ Dd H'.get w n'/\St nt φ Dd F' H' m a w:=by
 have g:=f.good
 have hL:∀s∈all,L s.i:=λ s hs=>by
  obtain⟨o,ho,_⟩:=g.op s hs;exact hall _ (oe.1 ho).1
 have hjk:jj=k:=by
  rcases Nat.lt_or_ge jj k with h1|h1
  ·exfalso;have hml:=g.ml;obtain⟨s,hs,h2,h3,_⟩:=g.md (k - 1 - jj) (bY[k - 1 - jj]'(by omega)) (dU (by omega));have:=(I.phs s hs h2).1 (hL s hs);omega
  have:=I.jk;omega
 subst hjk
 have hsub:Sub H'.get h:=λ b kb hb=>by
  rcases g.hg b kb hb with h1|⟨s,hs,h1,h2,h3,h4⟩|⟨s,hs,x,h1⟩
  ·exact I.sub b kb h1.1 λ s hs _=>h1.2 s hs
  ·subst h3;exact I.blk s hs (hL s hs) h1 (by omega) kb h2
  exact I.SU s hs (hL s hs) b x kb h1
 refine⟨I.ext.sub hsub,uZ I.rel hsub,⟨λ t u hu=>?_,I.rel.eQ.2⟩,I.sz,I.uM⟩
 rcases g.ft t u hu with⟨h1,h2⟩|⟨s,hs,h1,h2⟩
 ·refine I.fr0 t u h1 λ p hp=>?_;obtain⟨o,ho,hd⟩:=f.an0 t p hp;obtain⟨s,hs,h3⟩:=f.cover p (oe.1 ho).1;obtain⟨o',ho',hd',_⟩:=g.op s hs;rw[h3,ho]at ho';injection ho' with ho';subst ho';exact aj (hd'.trans hd) (h2 s hs)
 subst h2;exact I.frp s hs (hL s hs) t h1
theorem PS (f:Facts P r nt ops T D F0 F' H' n0 n' A all k bY grp bad seen){m:List Dm}{φ0:Ph}{D0:Da}{h0:Hf}{w0:World}(Q:QT)
  (hQ:∀ φ' D' a' w',Ext φ0 D0 h0 w0 n0 φ' D' H'.get w' n'->St nt φ' D' F' H' m a' w'->Q .normal a' w'):
  ∀(fuel:Nat) (listed:Array Bool) (a:Act) (w:World) (φ:Ph) (Dd:Da) (h:Hf) (jj:Nat),Inv nt D F0 A all k T (GQ listed) m φ0 D0 h0 w0 n0 n' φ Dd h jj a w->listed.size=ops.size->left ops.size listed<=fuel ->
   wpAnyIn (FW r) 0 P .any ops Q fuel listed a w:=by
 have ready_nil:∀listed:Array Bool,listed.size=ops.size->Region.ready .any ops listed=[]->∀i,i<ops.size->GQ listed i:=by
  intro listed hsz hr i
  induction i using Nat.strongRecOn with
  |_ i ih =>
   intro hi
   cases hl:listed.getD i false with
   |true=>exact hl
   |false =>
    exfalso
    have:i∈Region.ready .any ops listed:=by
     rw[mem_ready];refine⟨?_,ops[i],by simp[hi],λ e he hb=>?_⟩
     ·have hi':i<listed.size:=by omega
      simp only[Array.getD_eq_getD_getElem?,Array.getElem?_eq_getElem hi',Option.getD_some]at hl ⊢;exact hl
     have hlt:=f.back i ops[i] (by simp[hi]) e he hb;exact ih _ hlt (by omega)
    rw[hr]at this;cases this
 intro fuel
 induction fuel with
 |zero =>
  intro listed a w φ Dd h jj I hsz hleft;have hall:=O7 (by omega:left ops.size listed=0);obtain⟨h1,h2⟩:=Lu f I hall;refine⟨?_,hQ _ _ _ _ h1 h2⟩
  cases hr:Region.ready .any ops listed with
  |nil=>rfl
  |cons x l =>
   exfalso;have hx:x∈Region.ready .any ops listed:=by rw[hr];simp
   rw[mem_ready]at hx;obtain⟨h3,o,ho,_⟩:=hx;have hi:=(oe.1 ho).1;have h4:=hall x hi;unfold GQ at h4;have hi':x<listed.size:=by omega
   simp only[Array.getD_eq_getD_getElem?,Array.getElem?_eq_getElem hi',Option.getD_some]at h3 h4;rw[h3]at h4;cases h4
 |succ fuel ih =>
  intro listed a w φ Dd h jj I hsz hleft;refine⟨λ hr=>?_,λ i hi=>?_⟩
  ·obtain⟨h1,h2⟩:=Lu f I (ready_nil listed hsz hr);exact hQ _ _ _ _ h1 h2
  rw[mem_ready]at hi;obtain⟨h3,o,ho,hpre⟩:=hi;have hio:=(oe.1 ho).1;have hi':i<listed.size:=by omega
  have hu:listed.getD i false=false:=by
   simp only[Array.getD_eq_getD_getElem?,Array.getElem?_eq_getElem hi',Option.getD_some]at h3 ⊢;exact h3
  refine RU f I ho (by unfold GQ;rw[hu];simp) (λ e he hb=>hpre e he hb) _ Q λ φ' Dd' h' jj' a' w' I'=>?_;rw[<-Bh hi']at I';exact ih _ a' w' φ' Dd' h' jj' I' (by simpa using hsz) (by have:=RL hio hi' hu;omega)
theorem Oz {φ:Ph}{D:Da}{h:Hf}{w:World}(hr:Rel φ D h w)(d:Nat):Rel φ D h {w with drawn:=d}:=
 ⟨λ b k hb=>let ⟨p,h1,h2,h3⟩:=hr.blk b k hb;⟨p,h1,h2,h3.mono (λ _ _ h=>h) (λ _ _ h=>h) rfl⟩,hr.inj,hr.sep,hr.eQ⟩
theorem Fa {id:Nat}(Bt:P.follows .mixedOrders=true) (hce:iQ P ce):Sound nt (λ Q a w=>(Code.region id ops true).wpIn (FW r) 0 P Q a w) ((LL P nt ops (mU ops.toList 0 .nil)).f ce):=by
 intro F H n m ou F' H' n' m' hk;unfold LL at hk;generalize hpl:OM (mU ops.toList 0 .nil) ops.toList=pl at hk;unfold aaI at hk
 split at hk
 ·rename_i hok;unfold u3 at hok;simp only[fz]at hok;obtain⟨⟨hb,hd⟩,ho⟩:=hok
  split at hd
  ·rename_i D hD
   split at ho
   ·rename_i s hs;have amX:=aiQ hD;have hsN:=cR ho;obtain⟨o1,_,o3⟩:=tX _ _ _ hs
    have g0:Good P r nt ops (mU ops.toList 0 .nil) D (ji (jh ops.toList) F) n (λ _=>H) [] 0 (ji (jh ops.toList) F) H n [] [] [] 0:=by
     refine⟨aM _,?_,?_,.nil,?_,?_,λ t u hu=>.inl ⟨hu,λ s hs=>by cases hs⟩,λ b k hb=>.inl ⟨hb,λ s hs=>by cases hs⟩,?_,?_,?_,?_,?_,rfl,?_,?_,?_,?_,?_,?_⟩<;>first|(intro c hc;cases hc;done)|skip;intro q x hx;simp at hx
    obtain⟨A,all,j',ja,kg,bad',seen',g,rfl,rfl,hidx,hA0⟩:=lT (r:=r) (n0:=n) (F0:=ji (jh ops.toList) F) hce amX (aiF hD F) pl 0 [] [] [] 0 hd (λ _=>H) [] (ji (jh ops.toList) F) H [H] n m ou F' H' n' m' g0 (λ s hs=>by cases hs) rfl hk;rw[map_nil,nil_append]at hidx;refine⟨g.nle,λ φ Dd a w st hf Q hQ=>wpIn_region_any Bt ?_⟩
    have facts:Facts P r nt ops (mU ops.toList 0 .nil) D (ji (jh ops.toList) F) F' H' n n' A all j' ja kg bad' seen':=by
     refine⟨g,by rw[hidx];exact o1,λ i hi=>?_,λ i o p h1 h2=>T9 h1 h2,λ i o h1 e he hb'=>?_,amX,λ t p hp=>?_⟩
     ·have h1:tb s i=true:=by rw[hsN,agG,bN];simpa using hi
      rcases o3 i h1 with h2|h2
      ·rw[AA]at h2;cases h2
      rw[<-hidx]at h2;obtain⟨c,hc,h3⟩:=mem_map.1 h2;exact⟨c,hc,h3⟩
     ·have:=xA _ _ hb i o (by simpa using h1) e he hb';omega
     rcases pJ _ _ _ _ hD t p hp with h1|⟨k,o,h1,h2,h3⟩
     ·simp at h1
     exact⟨o,by rw[h3,gz];simpa using h1,h2⟩
    have I0:Inv nt D (ji (jh ops.toList) F) A all j' (mU ops.toList 0 .nil) (GQ (Array.replicate ops.size false)) m' φ Dd H.get w n n' φ Dd H.get 0 a {w with drawn:=w.drawn+1}:=by
     have no:∀i,¬GQ (Array.replicate ops.size false) i:=by
      intro i h;unfold GQ at h;rw[Array.getD_eq_getD_getElem?,Array.getElem?_replicate]at h
      split at h<;>simp at h
     refine⟨?_,Oz st.rel _,λ b k hb _=>by rw[hA0]at hb;exact hb,λ s _ h=>aj h (no _),λ s _ h=>aj h (no _),λ t u hu _=>?_,λ s _ h=>aj h (no _),st.sz,st.uM,λ s _ _=>⟨λ h=>aj h (no _),λ h=>by omega⟩,λ s hs _=>?_,λ i p h=>aj h (no _),Nat.zero_le _⟩
     ·exact⟨g.nle,λ _ _ h=>h,λ _ h k=>aj h k,λ _ _ h=>h,aM _,λ _ _ _=>rfl,λ _ _ a b=>.inr ⟨_,_,a,b,rfl⟩,λ _ h=>.inl h,λ _ h=>.inl h,rfl,rfl⟩
     ·rw[ab]at hu
      split at hu
      ·cases hu
      exact st.fr.1 t u hu
     obtain⟨h1,h2,h3⟩:=g.jA s hs;exact λ b x y=>hf b (by omega) (by omega)
    refine PS facts Q (λ φ' D' a' w' h1 h2=>hQ φ' D' a' w' undef h1 h2 trivial) ops.size _ a _ φ Dd H.get 0 I0 (by simp) ?_;unfold left;exact rC (length_filter_le _ _) (by simp)
   cases ho
  cases hd
 cases hk
end
end Go.Abs
namespace Go.Abs
open List
section
variable {P:Program}{ce:Ce}{nt:Nat}{r:Option Nat}{ops:Array Oper}{rest:List Nat}
theorem BF {o:Oper}{pd:Pd}{next:K}(hnd:r.isSome=true->Bo o.op=false) (hce:iQ P ce) (kO:yQ nt o.dst pd) (hnext:Sound nt (λ Q a w=>wpOpsIn (FW r) 0 P ops Q rest a w) (next.f ce)):
  Sound nt (λ Q a w=>o.wpIn (FW r) 0 P a w (wpOpsIn (FW r) 0 P ops Q rest) Q) ((tf P pd o next).f ce):=by
 unfold tf
 split
 ·rename_i f args tys ho
  split
  ·rename_i e he;exact zm (gW he) (dX he) kO hnext
  split
  ·rename_i g as hg has;exact uy ho (.value rfl hg) has hce kO hnext
  intro F H n m ou F' H' n' m' hk;cases hk
 ·rename_i x name args tys ho
  split
  ·rename_i g as hg has;exact uy ho (.invoke rfl hg) has hce kO hnext
  intro F H n m ou F' H' n' m' hk;cases hk
 ·rename_i x ho
  split
  ·rename_i g hg;exact AY ho hg
  intro F H n m ou F' H' n' m' hk;cases hk
 ·rename_i f args tys ho
  split
  ·rename_i g as hg has
   have hr:r=none:=by
    cases hrr:r with
    |none=>rfl
    |some l=>have:=hnd (by rw[hrr];rfl);rw[ho]at this;cases this
   exact BC hr ho hg has kO hnext
  intro F H n m ou F' H' n' m' hk;cases hk
 split
 ·rename_i e he;exact zm (gW he) (dX he) kO hnext
 intro F H n m ou F' H' n' m' hk;cases hk
theorem Hn {o:Oper}{pd:Pd}{next:K}(kO:yQ nt o.dst pd)(hnext:Sound nt (λ Q a w=>wpOpsIn (FW r) 0 P ops Q rest a w) (next.f ce)):
  Sound nt (λ Q a w=>wpOpsIn (FW r) 0 P ops Q rest (a.put o.dst undef) w) ((ahB pd next).f ce):=by
 intro F H n m ou F' H' n' m' hk;obtain⟨hn,hs⟩:=hnext _ _ _ _ _ _ _ _ _ hk;refine⟨hn,λ φ D a w st hf Q hQ=>?_⟩;have hfr:=kO (.aW []) F φ D a undef st.fr st.sz (.aW _ _ .nil);exact hs φ D (a.put o.dst undef) w ⟨st.rel,hfr.1,hfr.2,by rw[put_defers];exact st.uM⟩ hf Q hQ
theorem yI {i:Nat}{o:Oper}{next:K}(hnd:r.isSome=true->Bo o.op=false) (ho:ops[i]?=some o) (hce:iQ P ce) (hnext:Sound nt (λ Q a w=>wpOpsIn (FW r) 0 P ops Q rest a w) (next.f ce)):
  Sound nt (λ Q a w=>wpOpsIn (FW r) 0 P ops Q (i::rest) a w) ((rV P nt ops o next).f ce):=by
 unfold rV
 split
 ·intro F H n m ou F' H' n' m' hk;cases hk
 rename_i pd kO;have kO:=te kO;have h1:=BF (r:=r) (ops:=ops) (rest:=rest) hnd hce kO hnext;have h2:=Hn (r:=r) (ops:=ops) (rest:=rest) kO hnext
 split
 ·rename_i hgd;intro F H n m ou F' H' n' m' hk;obtain⟨hn,hs⟩:=h1 _ _ _ _ _ _ _ _ _ hk;refine⟨hn,λ φ D a w st hf Q hQ=>?_⟩;simp only[wpOpsIn,ho,Region.wanted,hgd,if_true];exact hs φ D a w st hf Q hQ
 rename_i j b hgd
 split
 ·rename_i d hd;intro F H n m ou F' H' n' m' hk;unfold HH at hk;dsimp only at hk
  have tell:∀ φ D (a:Act),FR φ D F.get a.tmps->∀v,(ao d).f F=some v->(∀c,v=.bool c->yielded ops a.tmps j=some c)/\((∀c,v≠.bool c)->yielded ops a.tmps j=none):=by
   intro φ D a hF v hv;rw[gV]at hv;obtain⟨x,hx,wJ⟩:=hF.1 d v hv;unfold yielded;rw[hd];simp only[Option.bind_some,hx];refine⟨λ c hc=>?_,λ hc=>?_⟩
   ·subst hc;cases wJ;rfl
   cases x<;>first|rfl|exact aj (Aw wJ) (hc _)
  split at hk
  ·rename_i c hv
   cases hcb:c == b with
   |true =>
    rw[hcb]at hk;obtain⟨hn,hs⟩:=h1 _ _ _ _ _ _ _ _ _ hk;refine⟨hn,λ φ D a w st hf Q hQ=>?_⟩;have hy:=(tell φ D a st.fr _ hv).1 c rfl;simp only[wpOpsIn,ho,Region.wanted,hgd,hy];rw[ak (by simpa using hcb)];exact hs φ D a w st hf Q hQ
   |false =>
    rw[hcb]at hk;obtain⟨hn,hs⟩:=h2 _ _ _ _ _ _ _ _ _ hk;refine⟨hn,λ φ D a w st hf Q hQ=>?_⟩;have hy:=(tell φ D a st.fr _ hv).1 c rfl;simp only[wpOpsIn,ho,Region.wanted,hgd,hy];rw[ae (by simpa using hcb)];exact⟨λ _ _=>trivial,hs φ D a w st hf Q hQ⟩
  ·rename_i v hnb hv;obtain⟨hn,hs⟩:=h2 _ _ _ _ _ _ _ _ _ hk;refine⟨hn,λ φ D a w st hf Q hQ=>?_⟩;have hy:=(tell φ D a st.fr _ hv).2 (λ c hc=>hnb c hc);simp only[wpOpsIn,ho,Region.wanted,hgd,hy];rw[ae (by simp)];exact⟨λ _ _=>trivial,hs φ D a w st hf Q hQ⟩
  cases hk
 intro F H n m ou F' H' n' m' hk;cases hk
theorem qR {run:QT->Act->World->Prop}(hrun:∀Q a w,Q .normal a w->run Q a w):Sound nt run (HQ.f ce):=by
 intro F H n m ou F' H' n' m' hk;cases hk;exact⟨aM _,λ φ D a w st hf Q hQ=>hrun Q a w (hQ φ D a w undef (Ext.refl ..) st trivial)⟩
theorem qt (hce:iQ P ce):∀(l:List Oper)(i:Nat),(r.isSome=true->eo l=false)->ops.toList.drop i=l->Sound nt (λ Q a w=>wpOpsIn (FW r) 0 P ops Q (range' i l.length) a w) ((rU P nt ops l).f ce)
 |[],i,_,_=>qR λ Q a w h=>h
 |o :: l,i,hnd,h=>by
  have hi:ops.toList[i]?=some o:=by
   have:=congrArg (λ(x:List Oper)=>x[0]?) h;simpa[js]using this
  have hl:ops.toList.drop (i+1)=l:=by
   have:=congrArg (λ(x:List Oper)=>x.drop 1) h;simpa[drop_drop]using this
  exact yI (λ h=>by have:=hnd h;simp only[eo,Bool.or_eq_false_iff]at this;exact this.1) (by simpa using hi) hce (qt hce l (i+1) (λ h=>by have:=hnd h;simp only[eo,Bool.or_eq_false_iff]at this;exact this.2) hl)
theorem t_ {b:K}{c:Code}(ib:Sound nt (λ Q a w=>c.wpIn (FW r) 0 P Q a w) (b.f ce)):∀k,Sound nt (λ Q a w=>Code.roundsIn (FW r) 0 P c Q k a w) (RI b ce k)
 |0=>by intro F H n m ou F' H' n' m' hk;cases hk
 |k + 1=>by
  have ih:=t_ ib k;intro F H n m ou F' H' n' m' hk
  replace hk:(match b.f ce F H n m with
   |.mk .normal F' H' n' m'=>RI b ce k F' H' n' m'
   |r=>r)=LZ.mk ou F' H' n' m':=hk
  split at hk
  ·rename_i F1 H1 n1 m1 hx;obtain⟨hn1,hs1⟩:=ib _ _ _ _ _ _ _ _ _ hx;obtain⟨hn2,hs2⟩:=ih _ _ _ _ _ _ _ _ _ hk;refine⟨by omega,λ φ D a w st hf Q hQ=>?_⟩;show Code.roundsIn (FW r) 0 P c Q (k+1) a w;rw[roundsIn_succ];refine hs1 φ D a w st (hf.left hn2) _ λ φ1 D1 a1 w1 px aP st1 pp=>?_;exact hs2 φ1 D1 a1 w1 st1 (hf.step aP) Q λ φ2 D2 a2 w2 px hx2 st2 pp=>hQ φ2 D2 a2 w2 px (aP.trans hx2) st2 pp
  rename_i hne;obtain⟨hn1,hs1⟩:=ib _ _ _ _ _ _ _ _ _ hk;refine⟨hn1,λ φ D a w st hf Q hQ=>?_⟩;show Code.roundsIn (FW r) 0 P c Q (k+1) a w;rw[roundsIn_succ];refine hs1 φ D a w st hf _ λ φ1 D1 a1 w1 px aP st1 pp=>?_;have:=hQ φ1 D1 a1 w1 px aP st1 pp
  cases ou with
  |panic v=>exact this
  |normal=>exact aj hk (hne _ _ _ _)
  |exit i=>exact this
  |ret=>exact this
theorem rel_drop {φ D h w n b p}(hr:Rel φ D h w)(hb:h b≠none)(hp:φ b=some p)(w':World)
  (hw:∀c,c≠p.1->w'.heap[c]?=w.heap[c]?)(hs:w'.heap.size=w.heap.size)(hos:w'.os=w.os)(hout:w'.output=w.output):
  Rel φ D (h.set b none) w'/\Ext φ D h w n φ D (h.set b none) w' n:=by
 have hl:∀c,(h.set b none) c≠none->c≠b/\h c≠none:=by
  intro c;unfold Hf.set;by_cases e:c=b<;>simp[e]
 refine⟨⟨?_,λ c d q r hc hd=>hr.inj c d q r (hl c hc).2 (hl d hd).2,λ c q hc=>hr.sep c q (hl c hc).2,?_⟩,
  ⟨aM _,λ _ _ h=>h,λ _ a c=>aj a c,λ _ _ h=>h,by omega,?_,λ c q hc hq=>.inr ⟨c,q,(hl c hc).2,hq,rfl⟩,λ _ h=>.inl h,λ c hc=>.inl (hl c hc).2,hos,hout⟩⟩
 ·intro c k hc;have hcb:=(hl c (by rw[hc];simp)).1;have hc':h c=some k:=by unfold Hf.set at hc;rw[ae hcb]at hc;exact hc
  obtain⟨q,hq,hlt,hk⟩:=hr.blk c k hc';exact⟨q,hq,by omega,hk.mono (λ _ _ h=>h) (λ _ _ h=>h) (hw _ λ e'=>hcb (hr.inj c b q p (by simp[hc']) hb hq hp e'))⟩
 ·refine⟨λ c x hx=>?_,hr.eQ.2⟩;obtain⟨e,fr,hh⟩:=hr.eQ.1 c x hx;refine⟨e,fr,(hw c λ e'=>?_).trans hh⟩;have:=hr.sep b p hb hp;rw[<-e',hx]at this;cases this
 intro c _ hn;exact hw c λ e=>hn b p hb hp e.symm
theorem World.ni (w:World)(o:Obj):(World.newObj w o).heap[w.heap.size]?=some o:=by
 show (w.heap.push o)[w.heap.size]?=some o;simp
theorem AO {g : Operand}{x:G}{ps:Array Tmp}{ca cb:Code}(hce:iQ P ce) (hg:cA g=some x):Sound nt (λ Q a w=>(Code.rangeFunc g ps ca cb).wpIn (FW none) 0 P Q a w) ((AP nt x ps.toList ca cb).f ce):=by
 intro F H n m ou F' H' n' m' hk;unfold AP at hk;dsimp only at hk
 split at hk
 ·rename_i f first cap hx
  split at hk
  ·rename_i v H1 n1 hcall;obtain⟨⟨fn,b,hfn,hb,hname⟩,hn1,hcs⟩:=hce.call _ _ _ _ _ _ _ hcall;have hn1:n+2<=n1:=hn1
   have fin:∀(st:LoopState) (j:nI) GL G3 GK a3 b3,H1.get n=some (.loop st j GL G3 GK a3 b3)->st≠.busy->(∀v,j≠.panic v)->LZ.mk j F (H1.put n none) n1 (.qw (Nat.succ n)::m)=.mk ou F' H' n' m' ->
     n<=n'/\∀ φ D a w,St nt φ D F H m a w->cK φ n n'->∀Q:QT,(∀ φ' D' a' w' px,Ext φ D H.get w n φ' D' H'.get w' n'->St nt φ' D' F' H' m' a' w'->yR φ' D' px ou->Q (jd px ou) a' w')->(Code.rangeFunc g ps ca cb).wpIn (FW none) 0 P Q a w:=by
    intro st j GL G3 GK a3 b3 hq hst ER he;cases he;refine⟨by omega,λ φ D a w D4 hf Q hQ=>wpIn_rangeFunc λ fid _=>?_⟩;have hgr:=aJ hg F φ D a D4.fr _ hx
    cases hxv:a.eval g with
    |func ff fx cx =>
     rw[hxv]at hgr
     cases hgr with
     |fn _ _ _ fl cl h1 h2 =>
     obtain⟨r1,e1⟩:=m0 (n:=n+1) D4.rel (λ b hb1 hb2=>hf b (by omega) (by omega)) (.deferred (some [])) 0 .mR (World.ni w _);rw[k9]at r1 e1;let w1:=World.newObj w (.deferred (some []));let φ1:=Ph.set φ (n+1) (w.heap.size,0,0)
     have hf1:cK φ1 n (n+1):=by
      intro b hb1 hb2;have:b≠n+1:=by omega
      simp only[φ1,Ph.set,this,if_false];exact hf b (by omega) (by omega)
     obtain⟨r2,e2⟩:=m0 (n:=n) r1 hf1 (.loop {state:=.ready,pending:=none,fn:=fid,tmps:=a.tmps,params:=ps,assign:=ca,body:=cb,defers:=w.heap.size}) 0 (.loop .ready .normal nt F ps.toList ca cb)
      ⟨_,World.ni w1 _,rfl,rfl,D4.sz,(D4.fr.mono e1.phi (λ _ _ h=>h)).mono (Ph.iT (hf1 n (aM _) (by omega))) (λ _ _ h=>h),rfl,rfl,rfl⟩
     rw[k9]at r2 e2;let w2:=World.newObj w1 (.loop {state:=.ready,pending:=none,fn:=fid,tmps:=a.tmps,params:=ps,assign:=ca,body:=cb,defers:=w.heap.size});let φ2:=Ph.set φ1 n (w1.heap.size,0,0)
     have e12:Ext φ D H.get w n φ2 D ((H.put (n+1) (some .mR)).put n (some (.loop .ready .normal nt F ps.toList ca cb))).get w2 (n+2):=
      (e1.wide (Nat.le_succ n) (aM _)).join (e2.wide (aM _) (by omega))
     have hsz1:w1.heap.size=w.heap.size+1:=by simp[w1,World.newObj]
     have hφn:φ2 n=some (w.heap.size+1,0,0):=by simp only[φ2,Ph.set,if_true,hsz1]
     have hφm:φ2 (n+1)=some (w.heap.size,0,0):=e2.phi _ _ (by simp[Ph.set]);refine⟨w.heap.size+1,[{target:=.collected w.heap.size,args:=#[]}],w2,{target:=.fn (.func f) ⟨cl⟩,args:=⟨fl⟩++#[.func (.yield (w.heap.size+1)) #[] #[]]},w2,f,⟨fl++(.func (.yield (w.heap.size+1)) #[] #[]::cl)⟩,w2,run_enterLoop_outer ..,?_,λ _ _=>trivial,?_,λ h=>by simp[FW]at h,?_⟩
     ·simp only[resolve,hxv,Deferred.ofValue,cS];simp[Act.eval]
     ·have harr:(⟨fl⟩:Array Value)++#[Value.func (.yield (w.heap.size+1)) #[] #[]]++⟨cl⟩=⟨fl++(.func (.yield (w.heap.size+1)) #[] #[]::cl)⟩:=by apply Array.ext';simp
      simp only[invoke,callFunc,bZ,run_program,bX,hfn,hname,hb,harr];simp
     refine jK (hcs φ2 D w2 _ r2 ((h1.mono e12.phi (λ _ _ h=>h)).append (.cons _ _ _ _ (.j9 _ _ _ _ hφn) (h2.mono e12.phi (λ _ _ h=>h)))) (hf.step e12) _ λ φ3 D3 w3 cv e3 hr3 _=>?_);obtain⟨hlt,rr,q1,q2,q3,q4,q5,q6⟩:=hr3.block hq (e3.phi _ _ hφn);have q1:w3.heap[w.heap.size+1]?=some (.loop rr):=q1;have hend:=run_endLoop (P:=P) q1 (by rw[q2];exact hst);obtain⟨k1,k2⟩:=rel_drop (n:=n') hr3 (b:=n) (by rw[hq];simp) (e3.phi _ _ hφn) (Go.World.putObj w3 (w.heap.size+1) (.loop {rr with state:=.exhausted})) (λ c hc=>Go.World.putObj_heap_other hc) Go.World.putObj_size rfl rfl;rw[k9]at k1 k2;have sX:=(e12.trans e3).trans k2
     have hst':St nt φ3 D3 F (H1.put n none) (.qw (Nat.succ n)::m) {a with defers:=[{target:=.collected w.heap.size,args:=#[]}]++a.defers} (Go.World.putObj w3 (w.heap.size+1) (.loop {rr with state:=.exhausted})):=
      ⟨k1,D4.fr.mono sX.phi sX.eQ,D4.sz,⟨_,_,_,_,e3.phi _ _ hφm,rfl,D4.uM.mono sX.phi sX.eQ⟩⟩
     refine⟨_,_,hend,?_⟩;have:=hQ φ3 D3 _ _ undef sX hst';rw[q3]at this ⊢
     cases ou with
     |panic v=>exact aj rfl (ER v)
     |normal=>exact this trivial
     |exit i=>exact wpIn_exit (this trivial)
     |ret=>exact wpIn_ret (this trivial)
    |_=>rw[hxv]at hgr;cases hgr
   split at hk
   ·cases hk
   ·cases hk
   ·rename_i st j GL G3 GK a3 b3 hnb ER hq;exact fin st j GL G3 GK a3 b3 hq (λ e=>hnb e) (λ v e=>ER v e) hk
   cases hk
  cases hk
 cases hk
section
variable {x:Operand}{g:G}{d:Tmp}{os:List Oper}{o:Oper}{pd:Pd}{rid:Nat}{rest':Code}{ada:K}
theorem Hw {a':Code}(hnd:r.isSome=true->eo os=false)(hce:iQ P ce)(hm:zw a'=some (x,d,ops,os))(auo:Sound nt (λ Q a w=>rest'.wpIn (FW r) 0 P Q a w) (ada.f ce)):
  Sound nt (λ Q a w=>(Code.loop (.seq a' rest')).wpIn (FW r) 0 P Q a w) ((abv P nt x d ops os ada).f ce):=by
 intro F H n m ou F' H' n' m' hk;cases hk
end
theorem iC {P:Program}{b:Frame}{a:Act}{k:List Item}{cs:List Frame}{w:World}{c:Code}:step P (lone (b.atR a (.code (.scope c)::k)) cs w)=.next (lone (b.atR a (.code c::.inScope c::k)) cs w):=
 step_lone_go (by simp[stepG,stepG.exec,Frame.atR])
theorem yA {P:Program}{b:Frame}{a:Act}{k:List Item}{cs:List Frame}{w:World}{c:Code}:step P (lone (b.atR a (.inScope c::k)) cs w)=.next (lone (b.atR a k) cs w):=
 step_lone_go (by simp[stepG,stepG.exec,Frame.atR])
theorem vD {F:Fence}{n:Nat}{P:Program}{Q:Exit->Act->World->Prop}{a:Act}{w:World}{c:Code}(h:c.wpIn F n P (Exit.noGoto Q) a w):(Code.scope c).wpIn F n P Q a w:=by
 intro b k cs hro hb hr;have h0:(lone (b.atR a (.code (.scope c)::k)) cs w).fenced P F:=fenced_calm hb hr rfl;obtain⟨e,a₁,w₁,hq,harr⟩:=h b (.inScope c::k) cs hro hb hr
 cases e with
 |normal=>exact⟨.normal,a₁,w₁,hq,.head h0 iC (StepsIn.trans harr (.one (fenced_calm hb hr rfl) yA))⟩
 |exit id' =>
  have hx:exitTo id' (.inScope c::k)=exitTo id' k:=by simp[exitTo]
  exact⟨.exit id',a₁,w₁,hq,λ k' hk=>.head h0 iC (harr.1 k' (by rw[hx];exact hk)),
   λ hr' hk=>let ⟨k₁,h1,h2⟩:=harr.2 hr' (by rw[hx];exact hk);⟨k₁,h1,.head h0 iC h2⟩⟩
 |goto l=>exact hq.elim
 |ret=>exact⟨.ret,a₁,w₁,hq,.of_steps (.one h0 iC) harr⟩
 |panic ch=>exact⟨.panic ch,a₁,w₁,hq,.of_steps (.one h0 iC) harr⟩
 |outgrown=>exact⟨.outgrown,a₁,w₁,hq,.of_steps (.one h0 iC) harr⟩
theorem bp (hce:iQ P ce):∀(c:Code),Sound nt (λ Q a w=>c.wpIn (FW r) 0 P Q a w) ((comp P nt r.isSome c).f ce)
 |.skip=>qR λ Q a w h=>wpIn_skip h
 |.region id ops d=>by
  cases d with
  |true =>
   intro F H n m ou F' H' n' m' hk;simp only[comp,cond_true]at hk
   cases Bt:P.follows .mixedOrders with
   |false=>rw[Bt]at hk;cases hk
   |true=>rw[Bt]at hk;exact Fa Bt hce _ _ _ _ _ _ _ _ _ hk
  |false =>
   intro F H n m ou F' H' n' m' hk;simp only[comp,cond_false]at hk
   cases hnd:(r.isSome&&eo ops.toList)with
   |true=>rw[hnd]at hk;cases hk
   |false =>
   rw[hnd]at hk;obtain⟨hn,hs⟩:=qt (r:=r) (nt:=nt) (ops:=ops) hce ops.toList 0 (λ h=>by rw[h]at hnd;simpa using hnd) rfl _ _ _ _ _ _ _ _ _ hk;refine⟨hn,λ φ D a w st hf Q hQ=>wpIn_region ?_⟩;rw[range_eq_range'];exact hs φ D a w st hf Q hQ
 |.seq x y=>by
  intro F H n m ou F' H' n' m' hk;simp only[comp,Oq]at hk;have ix:=bp hce x;have iy:=bp hce y
  split at hk
  ·rename_i F1 H1 n1 m1 hx;obtain⟨hn1,hs1⟩:=ix _ _ _ _ _ _ _ _ _ hx;obtain⟨hn2,hs2⟩:=iy _ _ _ _ _ _ _ _ _ hk;refine⟨by omega,λ φ D a w st hf Q hQ=>wpIn_seq (hs1 φ D a w st (hf.left hn2) _ λ φ1 D1 a1 w1 px aP st1 pp=>?_)⟩;exact hs2 φ1 D1 a1 w1 st1 (hf.step aP) Q λ φ2 D2 a2 w2 px hx2 st2 pp=>hQ φ2 D2 a2 w2 px (aP.trans hx2) st2 pp
  rename_i hne;obtain⟨hn1,hs1⟩:=ix _ _ _ _ _ _ _ _ _ hk;refine⟨hn1,λ φ D a w st hf Q hQ=>wpIn_seq (hs1 φ D a w st hf _ λ φ1 D1 a1 w1 px aP st1 pp=>?_)⟩;have:=hQ φ1 D1 a1 w1 px aP st1 pp
  cases ou with
  |panic v=>exact this
  |normal=>exact aj hk (hne _ _ _ _)
  |exit i=>exact this
  |ret=>exact this
 |.cond c x y=>by
  intro F H n m ou F' H' n' m' hk;simp only[comp]at hk
  cases hc:cA c with
  |none=>rw[hc]at hk;cases hk
  |some g =>
   rw[hc]at hk;simp only[Fh]at hk
   split at hk
   ·rename_i hg;obtain⟨hn,hs⟩:=bp hce x _ _ _ _ _ _ _ _ _ hk;refine⟨hn,λ φ D a w st hf Q hQ=>wpIn_cond (t:=true) ?_ (hs φ D a w st hf Q hQ)⟩;have:=aJ hc F φ D a st.fr _ hg;generalize a.eval c=z at this ⊢;cases this;rfl
   ·rename_i hg;obtain⟨hn,hs⟩:=bp hce y _ _ _ _ _ _ _ _ _ hk;refine⟨hn,λ φ D a w st hf Q hQ=>wpIn_cond (t:=false) ?_ (hs φ D a w st hf Q hQ)⟩;have:=aJ hc F φ D a st.fr _ hg;generalize a.eval c=z at this ⊢;cases this;rfl
   cases hk
 |.scope b=>by
  intro F H n m ou F' H' n' m' hk;simp only[comp]at hk;obtain⟨hn,hs⟩:=bp hce b _ _ _ _ _ _ _ _ _ hk;refine⟨hn,λ φ D a w st hf Q hQ=>vD (hs φ D a w st hf _ λ φ1 D1 a1 w1 px aP st1 pp=>?_)⟩;have:=hQ φ1 D1 a1 w1 px aP st1 pp
  cases ou<;>exact this
 |.label l=>qR λ Q a w h=>wpIn_label h
 |.block id b=>by
  intro F H n m ou F' H' n' m' hk;simp only[comp,Ig]at hk;have ib:=bp hce b
  split at hk
  ·rename_i j F1 H1 n1 m1 hb
   cases hij:Nat.beq id j with
   |true =>
    rw[hij]at hk;cases hk;obtain⟨hn,hs⟩:=ib _ _ _ _ _ _ _ _ _ hb;refine⟨hn,λ φ D a w st hf Q hQ=>wpIn_block (hs φ D a w st hf _ λ φ1 D1 a1 w1 px aP st1 pp=>?_)⟩;have:=cR hij;simp only[jd,Exit.inBlock,<-this,if_true];exact hQ φ1 D1 a1 w1 px aP st1 pp
   |false =>
    rw[hij]at hk;cases hk;obtain⟨hn,hs⟩:=ib _ _ _ _ _ _ _ _ _ hb;refine⟨hn,λ φ D a w st hf Q hQ=>wpIn_block (hs φ D a w st hf _ λ φ1 D1 a1 w1 px aP st1 pp=>?_)⟩;have hne:¬j=id:=λ e=>by rw[e]at hij;simp at hij
    simp only[jd,Exit.inBlock,hne,if_false];exact hQ φ1 D1 a1 w1 px aP st1 pp
  rename_i hne;obtain⟨hn,hs⟩:=ib _ _ _ _ _ _ _ _ _ hk;refine⟨hn,λ φ D a w st hf Q hQ=>wpIn_block (hs φ D a w st hf _ λ φ1 D1 a1 w1 px aP st1 pp=>?_)⟩;have:=hQ φ1 D1 a1 w1 px aP st1 pp
  cases ou with
  |panic v=>exact this
  |normal=>exact this
  |exit i=>exact aj hk (hne _ _ _ _ _)
  |ret=>exact this
 |.loop b=>by
  have ib:=bp hce b
  have plain:Sound nt (λ Q a w=>(Code.loop b).wpIn (FW r) 0 P Q a w) ((Lp (comp P nt r.isSome b)).f ce):=by
   intro F H n m ou F' H' n' m' hk;obtain⟨hn,hs⟩:=t_ ib big _ _ _ _ _ _ _ _ _ hk;exact⟨hn,λ φ D a w st hf Q hQ=>wpIn_loop_rounds big (hs φ D a w st hf Q hQ)⟩
  cases b with
  |seq a rest =>
   have ir:=bp hce rest;simp only[comp]
   cases hm:zw a with
   |none=>simpa only [comp]using plain
   |some y =>
    obtain⟨x,d,ops,os⟩:=y
    cases hnd:(r.isSome&&eo os)with
    |true=>intro F H n m ou F' H' n' m' hk;simp only[hnd,cond_true]at hk;cases hk
    |false =>
     simp only[hnd,cond_false];exact Hw (λ h=>by rw[h]at hnd;simpa using hnd) hce hm ir
  |_=>simpa only [comp]using plain
 |.exit id=>by
  intro F H n m ou F' H' n' m' hk;cases hk;exact⟨aM _,λ φ D a w st hf Q hQ=>wpIn_exit (hQ φ D a w undef (Ext.refl ..) st trivial)⟩
 |.ret=>by
  intro F H n m ou F' H' n' m' hk;cases hk;exact⟨aM _,λ φ D a w st hf Q hQ=>wpIn_ret (hQ φ D a w undef (Ext.refl ..) st trivial)⟩
 |.rangeFunc g ps ca cb=>by
  intro F H n m ou F' H' n' m' hk;simp only[comp]at hk
  cases hc:cA g with
  |none=>rw[hc]at hk;cases hk
  |some x =>
   rw[hc]at hk
   cases r with
   |some l=>cases hk
   |none=>exact AO hce hc _ _ _ _ _ _ _ _ _ hk
 |.goto _=>by intro F H n m ou F' H' n' m' hk;cases hk
 |.refuse _=>by intro F H n m ou F' H' n' m' hk;cases hk
end
end Go.Abs
namespace Go.Abs
open List
section
variable {P:Program}
def ze (tmps:Array Value):ResultVar->Sem Value
 |.tmp t=>pure (tmps.getD t undef)
 |.cell a t=>do loadVar t (<-asAddr (tmps.getD a undef))
theorem wx {φ:Ph}{D:Da}{t:TypeId}{v:AV}{x cv:Value}{w:World}(hv:VR φ D v x)(hp:(∃b o,v=.ptr b o)∨∃cs,v=.dp cs)(h:(Instr.loadAt t x).run P w=.ok cv w):
  (do loadVar t (<-asAddr x):Sem Value).run P w=.ok cv w:=by
 rcases hp with⟨b,o,rfl⟩|⟨cs,rfl⟩
 ·cases hv;simpa[Instr.loadAt,Instr.sureAddr,asAddr]using h
 cases hv;simpa[Instr.loadAt,Instr.sureAddr,asAddr]using h
theorem Ia {v u:AV}{H:Hp}(h:eE v H=.val u):(∃b o,v=.ptr b o)∨∃cs,v=.dp cs:=by
 unfold eE at h
 split at h
 ·exact .inl ⟨_,_,rfl⟩
 ·exact .inr ⟨_,rfl⟩
 cases h
theorem H9 {k:Nat}{v u:AV}{H:Hp}(h:df k v H=.val u):(∃b o,v=.ptr b o)∨∃cs,v=.dp cs:=by
 unfold df at h
 split at h
 ·exact .inl ⟨_,_,rfl⟩
 ·exact .inr ⟨_,rfl⟩
 cases h
theorem kJ {F : Fr}{H:Hp}{φ:Ph}{D:Da}{tmps:Array Value}{w:World}(hr:Rel φ D H.get w) (hF:FR φ D F.get tmps):∀(l:List ResultVar) (gs:List (Fr->Hp->Option AV)) (vs:List AV),ky P l=some gs->vd F H gs=some vs ->
  ∃xs,(l.mapM (ze tmps)).run P w=.ok xs w/\cw φ D vs xs
 |[],gs,vs,h,he=>by
  simp only[ky]at h;injection h with h;subst h;simp only[vd]at he;injection he with he;subst he;exact⟨[],by simp,.nil⟩
 |.tmp t::l,gs,vs,h,he=>by
  simp only[ky,Option.map_eq_some_iff]at h;obtain⟨gs',hg,rfl⟩:=h;simp only[vd]at he
  split at he
  ·rename_i v hv
   split at he
   ·rename_i vs' hvs;injection he with he;subst he;obtain⟨xs,hx,hxs⟩:=kJ hr hF l gs' vs' hg hvs;rw[gV]at hv;obtain⟨x,hx0,wJ⟩:=hF.1 t v hv;exact⟨x::xs,by simp[mapM_cons,ze,Array.getD_eq_getD_getElem?,hx0,hx],.cons _ _ _ _ wJ hxs⟩
   cases he
  cases he
 |.cell a t :: l,gs,vs,h,he=>by
  simp only[ky]at h
  split at h
  ·rename_i gs' k hg ha hk;injection h with h;subst h;simp only[vd]at he
   split at he
   ·rename_i v hv
    split at he
    ·rename_i vs' hvs;injection he with he;subst he;obtain⟨xs,hx,hxs⟩:=kJ hr hF l gs' vs' hg hvs
     split at hv
     ·rename_i p hp
      split at hv
      ·rename_i u hu;injection hv with hv;subst hv;rw[gV]at hp;obtain⟨y,hy,hpy⟩:=hF.1 a p hp;obtain⟨cv,h1,h2⟩:=zo (P:=P) hr hpy ha hk H (λ _=>rfl) hu;have h3:=wx hpy (H9 hu) h1;refine⟨cv::xs,?_,.cons _ _ _ _ h2 hxs⟩;rw[mapM_cons];simp only[ze,Array.getD_eq_getD_getElem?,hy,Option.getD_some,bZ]at h3 ⊢;simp only[h3,bX,hx,cS]
      cases hv
     cases hv
    cases he
   cases he
  ·rename_i gs' k hg ha hk;injection h with h;subst h;simp only[vd]at he
   split at he
   ·rename_i v hv
    split at he
    ·rename_i vs' hvs;injection he with he;subst he;obtain⟨xs,hx,hxs⟩:=kJ hr hF l gs' vs' hg hvs
     split at hv
     ·rename_i p hp
      split at hv
      ·rename_i u hu;injection hv with hv;subst hv;rw[gV]at hp;obtain⟨y,hy,hpy⟩:=hF.1 a p hp;obtain⟨cv,h1,h2⟩:=zp (P:=P) hr hpy ha H (λ _=>rfl) hu;have h3:=wx hpy (Ia hu) h1;refine⟨cv::xs,?_,.cons _ _ _ _ h2 hxs⟩;rw[mapM_cons];simp only[ze,Array.getD_eq_getD_getElem?,hy,Option.getD_some,bZ]at h3 ⊢;simp only[h3,bX,hx,cS]
      cases hv
     cases hv
    cases he
   cases he
  cases h
theorem aaF {φ:Ph}{D:Da}{vs:List AV}{xs:List Value}(h:cw φ D vs xs):VR φ D (uG vs) (if h:(⟨xs⟩:Array Value).size=1 then (⟨xs⟩:Array Value)[0]else .tuple ⟨xs⟩):=by
 cases h with
 |nil=>exact .aW _ _ .nil
 |cons v x vs xs h1 h2=>cases h2 with
  |nil=>exact h1
  |cons u y us ys h3 h4 =>
   rw[dif_neg (by simp)];exact .aW _ _ (.cons _ _ _ _ h1 (.cons _ _ _ _ h3 h4))
theorem qz {F:Fr}{H:Hp}{φ:Ph}{D:Da}{tmps:Array Value}{w:World}{fn:Func}(hr:Rel φ D H.get w)(hF:FR φ D F.get tmps){gs:List (Fr->Hp->Option AV)}{vs:List AV}(h:ky P fn.results.toList=some gs)(he:vd F H gs=some vs):
  ∃x,(results fn tmps).run P w=.ok x w/\VR φ D (uG vs) x:=by
 obtain⟨xs,h1,h2⟩:=kJ (P:=P) hr hF fn.results.toList gs vs h he;refine⟨_,?_,aaF h2⟩
 have hm:(fn.results.mapM (ze tmps)).run P w=.ok ⟨xs⟩ w:=by
  rw[Array.mapM_eq_mapM_toList];simp[h1]
 have:results fn tmps=(do let vs <-fn.results.mapM (ze tmps);pure (if h:vs.size=1 then vs[0]else .tuple vs)):=by
  unfold results
  congr 2
 rw[this];simp only[bZ,hm,bX,cS]
theorem zy {fn:Func}{F:Fr}{H':Hp}{gs:List (Fr->Hp->Option AV)}{vs:List AV}(hg:ky P fn.results.toList=some gs)(he:vd F H' gs=some vs):∀(m:List Dm)(H:Hp)(ds:List Deferred)(tmps:Array Value)(φ:Ph)(D:Da)(w:World)(n:Nat)(R:Ending->World->Prop),
  eW m H=some H'->Rel φ D H.get w->FR φ D F.get tmps->jo φ D m ds ->
  (∀ φ' D' w' x,Ext φ D H.get w n φ' D' H'.get w' n->Rel φ' D' H'.get w'->VR φ' D' (uG vs) x->R (.returned x) w')->LeavesInM Fence.wide 0 P fn tmps R ds .returning w
 |[],H,ds,tmps,φ,D,w,n,R,hu,hr,hF,hm,hR=>by
  simp only[eW]at hu;injection hu with hu;subst hu;simp only[jo]at hm;subst hm;obtain⟨x,h1,h2⟩:=qz (P:=P) (fn:=fn) hr hF hg he;exact⟨x,h1,hR φ D w x (Ext.refl ..) hr h2⟩
 |.fn _ _::m,H,ds,tmps,φ,D,w,n,R,hu,hr,hF,hm,hR=>by simp[eW]at hu
 |.qw k::m,H,ds,tmps,φ,D,w,n,R,hu,hr,hF,hm,hR=>by
  obtain⟨cb,co,cz,ds',hp,rfl,hm'⟩:=hm;simp only[eW]at hu
  split at hu
  ·rename_i hk;obtain⟨hlt,hb⟩:=hr.block hk hp;have hb:w.heap[cb]?=some (.deferred (some [])):=hb;have htake:=run_takeDeferred (P:=P) hb;obtain⟨hr',aP⟩:=rel_drop (n:=n) hr (b:=k) (p:=(cb,co,cz)) (by rw[hk];simp) hp (Go.World.putObj w cb (.deferred none)) (λ c hc=>Go.World.putObj_heap_other hc) (Go.World.putObj_size) rfl rfl;have hH:Hf.set H.get k none=(H.put k none).get:=by funext c;simp only[Hf.set,Tr.get_put]
   rw[hH]at hr' aP;refine⟨by simp,.inl ⟨cb,_,rfl,htake,?_⟩⟩;exact zy hg he m (H.put k none) ds' tmps φ D _ n R hu hr' hF hm' λ φ' D' w' x h1 h2 h3=>hR φ' D' w' x (aP.trans h1) h2 h3
  cases hu
theorem wR {φ:Ph}{D:Da}{args:List AV}{xs:List Value}(hG:GB D)(h:cw φ D args xs)(k:Nat):FR φ D (Tr.bW args 0 .nil:Fr).get ((⟨xs⟩:Array Value)++Array.replicate k undef):=by
 refine⟨λ t v hv=>?_,hG⟩;rw[Tr.bR]at hv
 split at hv
 ·obtain⟨x,hx,wJ⟩:=h.get hv;refine⟨x,?_,wJ⟩;have hlt:=(nS.1 hx).1;rw[Array.getElem?_append_left (by simpa using hlt)];simpa using hx
 simp at hv
theorem Oo {φ:Ph}{D:Da}{u:UM}{mo:FrameMode}(h:j6 φ D u mo):j6 φ D (KG u) (settle mo):=by
 cases u with
 |ret=>have h:mo=.returning:=h;subst h;rfl
 |rG v b =>
  obtain⟨x,hv,rfl⟩:=h
  cases b with
  |false=>exact⟨x,hv,rfl⟩
  |true=>rfl
theorem EB {φ:Ph}{D:Da}{u:UM}{mo:FrameMode}(h:j6 φ D u mo):mo≠.run:=by
 cases u with
 |ret=>have h:mo=.returning:=h;subst h;simp
 |rG v b=>obtain⟨x,hv,rfl⟩:=h;simp
theorem vW {ce:Ce}(hce:iQ P ce):∀(m:List Dm) (u u':UM) (H H':Hp) (n n':Nat),kR ce m u H n=.mk u' H' n'->n<=n' /\
  ∀(fn:Func) (ds:List Deferred) (tmps:Array Value) (φ:Ph) (D:Da) (w:World) (mo:FrameMode) (R:Ending->World->Prop),Rel φ D H.get w->jo φ D m ds->j6 φ D u mo->cK φ n n' ->
   (∀ φ' D' w' tZ,Ext φ D H.get w n φ' D' H'.get w' n'->Rel φ' D' H'.get w'->j6 φ' D' u' tZ->LeavesInM Fence.wide 0 P fn tmps R [] tZ w')->LeavesInM Fence.wide 0 P fn tmps R ds mo w
 |[],u,u',H,H',n,n',h=>by
  simp only[kR]at h;injection h with e1 e2 e3;subst e1 e2 e3;refine⟨aM _,λ fn ds tmps φ D w mo R hr hm hmo hf hR=>?_⟩;have hm:ds=[]:=hm;subst hm;exact hR φ D w mo (Ext.refl ..) hr hmo
 |.qw k::m,u,u',H,H',n,n',h=>by
  simp only[kR]at h
  split at h
  ·rename_i hk;obtain⟨hn,ih⟩:=vW hce m _ _ _ _ _ _ h;refine⟨hn,λ fn ds tmps φ D w mo R hr hm hmo hf hR=>?_⟩;obtain⟨cb,co,cz,ds',hp,rfl,hm'⟩:=hm;obtain⟨hlt,hb⟩:=hr.block hk hp;have hb:w.heap[cb]?=some (.deferred (some [])):=hb;have htake:=run_takeDeferred (P:=P) hb;obtain⟨hr',aP⟩:=rel_drop (n:=n) hr (b:=k) (p:=(cb,co,cz)) (by rw[hk];simp) hp (Go.World.putObj w cb (.deferred none)) (λ c hc=>Go.World.putObj_heap_other hc) (Go.World.putObj_size) rfl rfl;have hH:Hf.set H.get k none=(H.put k none).get:=by funext c;simp only[Hf.set,Tr.get_put]
   rw[hH]at hr' aP;refine⟨EB hmo,.inl ⟨cb,_,rfl,htake,?_⟩⟩;exact ih fn ds' tmps φ D _ mo R hr' hm' hmo hf λ φ' D' w' tZ e1 h2 h3=>hR φ' D' w' tZ (aP.trans e1) h2 h3
  cases h
 |.fn f args::m,u,u',H,H',n,n',h=>by
  simp only[kR]at h
  split at h
  ·rename_i u1 H1 n1 hd;obtain⟨⟨gn,gb,hfn,hb,hname⟩,hn1,hs⟩:=hce.dcall _ _ _ _ _ _ _ _ hd;obtain⟨hn2,ih⟩:=vW hce m _ _ _ _ _ _ h;refine⟨by omega,λ fn ds tmps φ D w mo R hr hm hmo hf hR=>?_⟩;obtain⟨fl,cl,ds',hv,rfl,hm'⟩:=hm;refine⟨EB hmo,.inr ⟨λ h=>by simp[Fence.wide]at h,.func f,⟨cl⟩,f,⟨fl++cl⟩,rfl,?_,λ _ _=>trivial,?_⟩⟩
   ·have harr:(⟨fl⟩:Array Value)++⟨cl⟩=⟨fl++cl⟩:=by apply Array.ext';simp
    simp only[invoke,callFunc,bZ,run_program,bX,hfn,hname,hb,harr];simp
   refine hs φ D w _ mo hr hv hmo (hf.left hn2) _ λ φ1 D1 w1 x mo1 e1 r1 h1=>?_;exact ih fn ds' tmps φ1 D1 w1 _ R r1 (hm'.mono e1.phi e1.eQ) (Oo h1) (hf.step e1) λ φ' D' w' tZ e2 h2 h3=>hR φ' D' w' tZ (e1.trans e2) h2 h3
  cases h
inductive acQ:kC->AV->Hp->Nat->(Value->Ending)->Prop
 |ret (v H n):acQ (.mk v H n) v H n .returned
 |rG (v H n):acQ (.rG v H n) v H n (λ x=>.panicked [{v:=x,recovered:=false}])
theorem O8 {ce:Ce}(hce:iQ P ce){fn:Func}{gs:List (Fr->Hp->Option AV)}(hgs:ky P fn.results.toList=some gs){ou:nI}{F1:Fr}{H1:Hp}{n1:Nat}{m1:List Dm}{c:kC}{v:AV}{H':Hp}{n':Nat}{e:Value->Ending}
  (hl:wy ce gs (.mk ou F1 H1 n1 m1)=c)(hc:acQ c v H' n' e):n1<=n'/\∀(φ:Ph)(D:Da)(a:Act)(w:World)(px:Value)(R:Ending->World->Prop),Rel φ D H1.get w->FR φ D F1.get a.tmps->jo φ D m1 a.defers->yR φ D px ou->cK φ n1 n' ->
   (∀ φ' D' w' x,Ext φ D H1.get w n1 φ' D' H'.get w' n'->Rel φ' D' H'.get w'->VR φ' D' v x->R (e x) w')->bodyPostM Fence.wide 0 P fn R (jd px ou) a w:=by
 have go : ∀(u:UM),l7 gs F1 (kR ce m1 u H1 n1)=c->n1<=n'/\∀(φ:Ph) (D:Da) (a:Act) (w:World) (mo:FrameMode) (R:Ending->World->Prop),Rel φ D H1.get w->FR φ D F1.get a.tmps->jo φ D m1 a.defers->j6 φ D u mo->cK φ n1 n' ->
   (∀ φ' D' w' x,Ext φ D H1.get w n1 φ' D' H'.get w' n'->Rel φ' D' H'.get w'->VR φ' D' v x->R (e x) w')->LeavesInM Fence.wide 0 P fn a.tmps R a.defers mo w:=by
  intro u h
  cases hd:kR ce m1 u H1 n1 with
  |fail=>rw[hd]at h;simp only[l7]at h;subst h;cases hc
  |mk u2 H2 n2 =>
   rw[hd]at h;obtain⟨hn,hs⟩:=vW hce m1 _ _ _ _ _ _ hd
   cases u2 with
   |ret =>
    simp only[l7]at h
    split at h
    ·rename_i vs hev;subst h;cases hc;refine⟨hn,λ φ D a w mo R hr hF hm hmo hf hR=>hs fn a.defers a.tmps φ D w mo R hr hm hmo hf λ φ' D' w' tZ e1 r1 h1=>?_⟩;have h1:tZ=.returning:=h1;subst h1;obtain⟨x,k1,k2⟩:=qz (P:=P) (fn:=fn) r1 (hF.mono e1.phi e1.eQ) hgs hev;exact⟨x,k1,hR φ' D' w' x e1 r1 k2⟩
    subst h;cases hc
   |rG v2 b =>
    cases b with
    |false =>
     simp only[l7]at h;subst h;cases hc;refine⟨hn,λ φ D a w mo R hr hF hm hmo hf hR=>hs fn a.defers a.tmps φ D w mo R hr hm hmo hf λ φ' D' w' tZ e1 r1 h1=>?_⟩;obtain⟨x,k1,rfl⟩:=h1;exact hR φ' D' w' x e1 r1 k1
    |true=>simp only[l7]at h;subst h;cases hc
 cases ou with
 |normal =>
  obtain⟨h1,h2⟩:=go .ret hl;exact⟨h1,λ φ D a w px R hr hF hm _ hf hR=>h2 φ D a w .returning R hr hF hm rfl hf hR⟩
 |ret =>
  obtain⟨h1,h2⟩:=go .ret hl;exact⟨h1,λ φ D a w px R hr hF hm _ hf hR=>h2 φ D a w .returning R hr hF hm rfl hf hR⟩
 |panic v0 =>
  obtain⟨h1,h2⟩:=go (.rG v0 false) hl;exact⟨h1,λ φ D a w px R hr hF hm hp hf hR=>h2 φ D a w (.panicking [{v:=px,recovered:=false}]) R hr hF hm ⟨px,hp,rfl⟩ hf hR⟩
 |exit i=>simp only[wy]at hl;subst hl;cases hc
def oC (P:Program) (ce:Ce) (g:FuncId) (args:List AV) (H:Hp) (n:Nat):kC:=match LO P g with
 |some af=>match Nat.ble (dH args 0) af.nt with
  |true=>wy ce af.res (af.code.f ce (Tr.bW args 0 .nil) H n [])
  |false=>.fail
 |none=>.fail
theorem qN {ce:Ce}(hce:iQ P ce){g:FuncId}{args:List AV}{H:Hp}{n:Nat}{c:kC}{v:AV}{H':Hp}{n':Nat}{e:Value->Ending}(h:oC P ce g args H n=c) (hcr:acQ c v H' n' e):
  (∃ fn b, P.funcs[g]? = some fn ∧ fn.body = some b ∧ (fn.name == "runtime.NumGoroutine") = false) ∧ n ≤ n' ∧
  ∀ φ D w xs,Rel φ D H.get w->cw φ D args xs->cK φ n n'->∀R:Ending->World->Prop,
   (∀ φ' D' w' x,Ext φ D H.get w n φ' D' H'.get w' n'->Rel φ' D' H'.get w'->VR φ' D' v x->R (e x) w')->CallsIn Fence.wide 0 P g ⟨xs⟩ w R:=by
 unfold oC at h
 split at h
 ·rename_i af uR
  split at h
  ·rename_i hle;have hle:=dR hle;unfold LO at uR
   split at uR
   ·rename_i fn hfn
    split at uR
    ·rename_i b hb
     split at uR
     ·cases uR
     rename_i hname
     split at uR
     ·rename_i gs hgs;injection uR with uR;subst uR;dsimp only at h hle;have hc:=bp (P:=P) (nt:=fn.ntmps) (r:=none) hce b
      cases hres:(comp P fn.ntmps false b).f ce (Tr.bW args 0 .nil) H n []with
      |fail=>rw[hres]at h;simp only[wy]at h;subst h;cases hcr
      |mk ou F1 H1 n1 m1 =>
       rw[hres]at h;obtain⟨hn1,hs⟩:=hc _ _ _ _ _ _ _ _ _ hres;obtain⟨hn2,hl⟩:=O8 hce hgs h hcr;refine⟨⟨fn,b,hfn,hb,by simpa using hname⟩,by omega,λ φ D w xs hrel hvs hf R hR=>?_⟩;refine callsIn_of_wp_marks hfn hb trivial ?_
       have hsz:((⟨xs⟩:Array Value)++Array.replicate (fn.ntmps - (⟨xs⟩:Array Value).size) undef).size=fn.ntmps:=by
        have:=hvs.length;rw[bN]at hle;simp;omega
       refine hs φ D {tmps:=(⟨xs⟩:Array Value)++Array.replicate (fn.ntmps - (⟨xs⟩:Array Value).size) undef,defers:=[]} w ⟨hrel,wR hrel.eQ.2 hvs _,hsz,rfl⟩ (hf.left hn2) _ λ φ1 D1 a1 w1 px aP st1 pp=>?_;exact hl φ1 D1 a1 w1 px R st1.rel st1.fr st1.uM pp (hf.step aP) λ φ2 D2 w2 x h1 h2 h3=>hR φ2 D2 w2 x (aP.trans h1) h2 h3
     cases uR
    cases uR
   cases uR
  subst h;cases hcr
 subst h;cases hcr
abbrev QS:=Exit->Act->List Frame->World->Prop
def BP (nt:Nat) (run:QS->Act->List Frame->World->Prop) (f:Fr->Hp->Nat->UM->ajx):Prop:=
 ∀F H n u o F' H' n' u',f F H n u=.mk o F' H' n' u'->n<=n'/\∀ φ D a w (c₀:Frame) cs mo,St nt φ D F H [] a w->j6 φ D u mo->cK φ n n' ->
  ∀Q:QS,(∀ φ' D' a' w' tZ px,Ext φ D H.get w n φ' D' H'.get w' n'->St nt φ' D' F' H' [] a' w'->j6 φ' D' u' tZ->yR φ' D' px o->Q (jd px o) a' ({c₀ with mode:=tZ}::cs) w')->run Q a ({c₀ with mode:=mo}::cs) w
theorem dh {ce:Ce}{nt:Nat}{c:Code}{k:K}(h:Sound nt (λ Q a w=>c.wpIn (FW none) 0 P Q a w) (k.f ce)):BP nt (λ Q a cs w=>c.wpSIn (FW none) 0 P Q a cs w) ((Lr k).f ce):=by
 intro F H n u o F' H' n' u' hk;unfold Lr at hk;dsimp only at hk
 split at hk
 ·rename_i hx;cases hk;obtain⟨hn,hs⟩:=h _ _ _ _ _ _ _ _ _ hx;refine⟨hn,λ φ D a w c₀ cs mo st hmo hf Q hQ=>wpSIn_of_wpIn rfl ?_⟩;refine hs φ D a w st hf _ λ φ' D' a' w' px aP st' pp=>?_;refine hQ φ' D' a' w' mo px aP st' ?_ pp
  cases u with
  |ret=>exact hmo
  |rG v b=>obtain⟨x,h1,h2⟩:=hmo;exact⟨x,h1.mono aP.phi aP.eQ,h2⟩
 cases hk
theorem lR {ce:Ce}{nt:Nat}{run:QS->Act->List Frame->World->Prop}:BP nt run (E8.f ce):=by intro F H n u o F' H' n' u' hk;cases hk
section
variable {ce:Ce}{nt:Nat}{ops:Array Oper}
theorem oM : ∀ (l : List Oper) (i:Nat),ops.toList.drop i=l->BP nt (λ Q a cs w=>wpOpsSIn (FW none) 0 P ops Q (range' i l.length) a cs w) ((mS P nt l).f ce)
 |[],i,_=>by
  intro F H n u o F' H' n' u' hk;cases hk;exact⟨aM _,λ φ D a w c₀ cs mo st hmo hf Q hQ=>hQ φ D a w mo undef (Ext.refl ..) st hmo trivial⟩
 |o :: l, i, h => by
  have hi:ops[i]?=some o:=by
   have:=congrArg (λ(x:List Oper)=>x[0]?) h;simpa[js]using this
  have hl:ops.toList.drop (i+1)=l:=by
   have:=congrArg (λ(x:List Oper)=>x.drop 1) h;simpa[drop_drop]using this
  have ih:=oM l (i+1) hl;unfold mS
  split
  ·exact lR
  rename_i pd kO;have kO:=te kO
  split
  ·exact lR
  rename_i hgd;have hwant:∀(a:Act),Region.wanted o (yielded ops a.tmps)=true:=λ a=>by simp[Region.wanted,hgd]
  split
  ·rename_i hrec
   have hop:∀(a:Act) w,(execOp a.eval o).run P w=.ok .recover w:=by
    intro a w;unfold isRecover at hrec
    split at hrec
    ·rename_i ho;simp[execOp,ho,resolve,invoke,builtin]
    cases hrec
   intro F H n u ou F' H' n' u' hk;unfold alG at hk;dsimp only at hk
   split at hk
   ·rename_i v;obtain⟨hn,hs⟩:=ih _ _ _ _ _ _ _ _ _ hk;refine⟨hn,λ φ D a w c₀ cs mo st hmo hf Q hQ=>?_⟩;obtain⟨x,hv,rfl⟩:=hmo;show wpOpsSIn (FW none) 0 P ops Q (i::range' (i+1) l.length) a _ w;simp only[wpOpsSIn,hi,hwant,if_true,hop,recoverD];refine⟨λ _ _=>trivial,?_⟩;have hfr:=kO v F φ D a x st.fr st.sz hv;exact hs φ D (a.put o.dst x) w c₀ cs (.panicking [{v:=x,recovered:=true}]) ⟨st.rel,hfr.1,hfr.2,by rw[put_defers];exact st.uM⟩ ⟨x,hv,rfl⟩ hf Q hQ
   rename_i hne;obtain⟨hn,hs⟩:=ih _ _ _ _ _ _ _ _ _ hk;refine⟨hn,λ φ D a w c₀ cs mo st hmo hf Q hQ=>?_⟩
   have hnone:recoverD ({c₀ with mode:=mo}::cs)=none:=by
    cases u with
    |ret=>have hmo:mo=.returning:=hmo;subst hmo;rfl
    |rG v b =>
     cases b with
     |false=>exact aj rfl (hne v)
     |true=>obtain⟨x,_,rfl⟩:=hmo;rfl
   show wpOpsSIn (FW none) 0 P ops Q (i::range' (i+1) l.length) a _ w;simp only[wpOpsSIn,hi,hwant,if_true,hop,hnone];refine⟨λ _ _=>trivial,?_⟩;have hfr:=kO (.aI .nilIface) F φ D a .nilIface st.fr st.sz (.aI _ rfl);exact hs φ D (a.put o.dst .nilIface) w c₀ cs mo ⟨st.rel,hfr.1,hfr.2,by rw[put_defers];exact st.uM⟩ hmo hf Q hQ
  split
  ·rename_i e he;have heo:=gW he;intro F H n u ou F' H' n' u' hk
   have key:∀(v:AV) (H1:Hp) (n1:Nat) (rr:bg),e F H n=rr->rr≠.fail->OT rr=v->uH rr H.get n=H1.get->sK rr n=n1->n<=n1->(mS P nt l).f ce (pd.f v F) H1 n1 u=.mk ou F' H' n' u' ->
     n <= n'/\∀ φ D a w (c₀:Frame) cs mo,St nt φ D F H [] a w->j6 φ D u mo->cK φ n n' ->
      ∀Q:QS,(∀ φ' D' a' w' tZ px,Ext φ D H.get w n φ' D' H'.get w' n'->St nt φ' D' F' H' [] a' w'->j6 φ' D' u' tZ->yR φ' D' px ou->Q (jd px ou) a' ({c₀ with mode:=tZ}::cs) w') ->
       wpOpsSIn (FW none) 0 P ops Q (range' i (l.length+1)) a ({c₀ with mode:=mo}::cs) w:=by
    intro v H1 n1 rr her hne hv hH hn hle hk1;obtain⟨hn1,hs⟩:=ih _ _ _ _ _ _ _ _ _ hk1;refine⟨by omega,λ φ D a w c₀ cs mo st hmo hf Q hQ=>?_⟩;have hd:=heo F H n φ D a w st.rel st.fr (by rw[her,hn];exact hf.left hn1) (by rw[her];exact hne);rw[her]at hd;obtain⟨nx,cv,φ1,w1,hrun,hnx,aP,hrel,fU⟩:=hd;rw[hH]at aP hrel;rw[hn]at aP;rw[hv]at fU;have hfr:=kO v F φ1 D a cv (st.fr.mono aP.phi (λ _ _ h=>h)) st.sz fU;have hst:St nt φ1 D (pd.f v F) H1 [] (a.put o.dst cv) w1:=⟨hrel,hfr.1,hfr.2,by rw[put_defers];exact st.uM.mono aP.phi aP.eQ⟩
    have ash:j6 φ1 D u mo:=by
     cases u with
     |ret=>exact hmo
     |rG v b=>obtain⟨x,h1,h2⟩:=hmo;exact⟨x,h1.mono aP.phi aP.eQ,h2⟩
    have hgo:=hs φ1 D (a.put o.dst cv) w1 c₀ cs mo hst ash (hf.step aP) Q λ φ' D' a' w' tZ px hx st' m' pp=>hQ φ' D' a' w' tZ px (aP.trans hx) st' m' pp;show wpOpsSIn (FW none) 0 P ops Q (i::range' (i+1) l.length) a _ w;simp only[wpOpsSIn,hi,hwant,if_true,hrun];refine⟨λ _ _=>trivial,?_⟩
    cases hnx with
    |value=>exact hgo
    |skip=>exact hgo
   unfold opS at hk;dsimp only at hk
   cases her:e F H n with
   |fail=>rw[her]at hk;cases hk
   |val v=>rw[her]at hk;exact key v H n _ her (by simp) rfl rfl rfl (aM _) hk
   |new v k=>rw[her]at hk;exact key v _ _ _ her (by simp) rfl (oh ..) rfl (Nat.le_succ n) hk
   |upd v b k=>rw[her]at hk;exact key v _ _ _ her (by simp) rfl (mG ..) rfl (aM _) hk
   |mv v b k=>rw[her]at hk;exact key v _ _ _ her (by simp) rfl (rI ..) rfl (Nat.le_succ n) hk
  exact lR
theorem jY (hce:iQ P ce):∀(c:Code),BP nt (λ Q a cs w=>c.wpSIn (FW none) 0 P Q a cs w) ((gj P nt c).f ce)
 |.seq x y=>by
  have ix:=jY hce x;have iy:=jY hce y;intro F H n u o F' H' n' u' hk;simp only[gj,alo]at hk
  split at hk
  ·rename_i F1 H1 n1 u1 hx;obtain⟨hn1,hs1⟩:=ix _ _ _ _ _ _ _ _ _ hx;obtain⟨hn2,hs2⟩:=iy _ _ _ _ _ _ _ _ _ hk;refine⟨by omega,λ φ D a w c₀ cs mo st hmo hf Q hQ=>wpSIn_seq (hs1 φ D a w c₀ cs mo st hmo (hf.left hn2) _ λ φ1 D1 a1 w1 mo1 px aP st1 hm1 pp=>?_)⟩;exact hs2 φ1 D1 a1 w1 c₀ cs mo1 st1 hm1 (hf.step aP) Q λ φ2 D2 a2 w2 mo2 px e2 st2 hm2 pp=>hQ φ2 D2 a2 w2 mo2 px (aP.trans e2) st2 hm2 pp
  rename_i hne;obtain⟨hn1,hs1⟩:=ix _ _ _ _ _ _ _ _ _ hk;refine⟨hn1,λ φ D a w c₀ cs mo st hmo hf Q hQ=>wpSIn_seq (hs1 φ D a w c₀ cs mo st hmo hf _ λ φ1 D1 a1 w1 mo1 px aP st1 hm1 pp=>?_)⟩;have:=hQ φ1 D1 a1 w1 mo1 px aP st1 hm1 pp
  cases o with
  |normal=>exact aj hk (hne _ _ _ _)
  |exit i=>exact this
  |ret=>exact this
  |panic v=>exact this
 |.cond c x y=>by
  have ix:=jY hce x;have iy:=jY hce y;simp only[gj]
  split
  ·rename_i g hg;intro F H n u o F' H' n' u' hk;unfold adJ at hk;dsimp only at hk
   split at hk
   ·rename_i hv;obtain⟨hn,hs⟩:=ix _ _ _ _ _ _ _ _ _ hk;refine⟨hn,λ φ D a w c₀ cs mo st hmo hf Q hQ=>?_⟩;have hgr:=aJ hg F φ D a st.fr _ hv;have hz:a.eval c=.bool true:=by generalize a.eval c=z at hgr;cases hgr;rfl
    exact wpSIn_cond (t:=true) hz (hs φ D a w c₀ cs mo st hmo hf Q hQ)
   ·rename_i hv;obtain⟨hn,hs⟩:=iy _ _ _ _ _ _ _ _ _ hk;refine⟨hn,λ φ D a w c₀ cs mo st hmo hf Q hQ=>?_⟩;have hgr:=aJ hg F φ D a st.fr _ hv;have hz:a.eval c=.bool false:=by generalize a.eval c=z at hgr;cases hgr;rfl
    exact wpSIn_cond (t:=false) hz (hs φ D a w c₀ cs mo st hmo hf Q hQ)
   cases hk
  exact lR
 |.region id ops false=>by
  simp only[gj]
  split
  ·have:=oM (P:=P) (ce:=ce) (nt:=nt) (ops:=ops) ops.toList 0 (by simp);intro F H n u o F' H' n' u' hk;obtain⟨hn,hs⟩:=this _ _ _ _ _ _ _ _ _ hk;refine⟨hn,λ φ D a w c₀ cs mo st hmo hf Q hQ=>wpSIn_region ?_⟩;have:=hs φ D a w c₀ cs mo st hmo hf Q hQ;simpa[range_eq_range']using this
  exact dh (bp (r:=none) hce _)
 |.region id ops true=>by simp only[gj];exact dh (bp (r:=none) hce _)
 |.skip=>by simp only[gj];exact dh (bp (r:=none) hce _)
 |.block ..=>by simp only[gj];exact dh (bp (r:=none) hce _)
 |.loop ..=>by simp only[gj];exact dh (bp (r:=none) hce _)
 |.exit ..=>by simp only[gj];exact dh (bp (r:=none) hce _)
 |.ret=>by simp only[gj];exact dh (bp (r:=none) hce _)
 |.scope ..=>by simp only[gj];exact dh (bp (r:=none) hce _)
 |.label ..=>by simp only[gj];exact dh (bp (r:=none) hce _)
 |.goto ..=>by simp only[gj];exact dh (bp (r:=none) hce _)
 |.refuse ..=>by simp only[gj];exact dh (bp (r:=none) hce _)
 |.rangeFunc ..=>by simp only[gj];exact dh (bp (r:=none) hce _)
end
def adD (P:Program) (ce:Ce) (g:FuncId) (args:List AV) (u:UM) (H:Hp) (n:Nat):P9:=match TD P g with
 |some af=>match Nat.ble (dH args 0) af.nt with
  |true=>Bi af.res (af.code.f ce (Tr.bW args 0 .nil) H n u)
  |false=>.fail
 |none=>.fail
theorem SQ {ce:Ce}(hce:iQ P ce){g:FuncId}{args:List AV}{u:UM}{H:Hp}{n:Nat}{u':UM}{H':Hp}{n':Nat}(h:adD P ce g args u H n=.mk u' H' n'):
  (∃ fn b, P.funcs[g]? = some fn ∧ fn.body = some b ∧ (fn.name == "runtime.NumGoroutine") = false) ∧ n ≤ n' ∧
  ∀ φ D w xs mo,Rel φ D H.get w->cw φ D args xs->j6 φ D u mo->cK φ n n'->∀R:Ending->FrameMode->World->Prop,
   (∀ φ' D' w' x tZ,Ext φ D H.get w n φ' D' H'.get w' n'->Rel φ' D' H'.get w'->j6 φ' D' u' tZ->R (.returned x) tZ w')->CallsDIn Fence.wide 0 P g ⟨xs⟩ mo w R:=by
 unfold adD at h
 split at h
 ·rename_i af uR
  split at h
  ·rename_i hle;have hle:=dR hle;unfold TD at uR
   split at uR
   ·rename_i fn hfn
    split at uR
    ·rename_i b hb
     split at uR
     ·cases uR
     rename_i hname
     split at uR
     ·rename_i gs hgs;injection uR with uR;subst uR;dsimp only at h hle;have hc:=jY (P:=P) (nt:=fn.ntmps) hce b
      have go:∀(ou:nI) (F1:Fr) (H1:Hp) (n1:Nat) (u1:UM) (vs:List AV),(ou=.normal∨ou=.ret)->(gj P fn.ntmps b).f ce (Tr.bW args 0 .nil) H n u=.mk ou F1 H1 n1 u1->vd F1 H1 gs=some vs->P9.mk u1 H1 n1=.mk u' H' n' ->
        n<=n'/\∀ φ D w xs mo,Rel φ D H.get w->cw φ D args xs->j6 φ D u mo->cK φ n n'->∀R:Ending->FrameMode->World->Prop,
         (∀ φ' D' w' x tZ,Ext φ D H.get w n φ' D' H'.get w' n'->Rel φ' D' H'.get w'->j6 φ' D' u' tZ->R (.returned x) tZ w')->CallsDIn Fence.wide 0 P g ⟨xs⟩ mo w R:=by
       intro ou F1 H1 n1 u1 vs hou hres hev he;cases he;obtain⟨hn,hs⟩:=hc _ _ _ _ _ _ _ _ _ hres;refine⟨hn,λ φ D w xs mo hrel hvs hmo hf R hR=>?_⟩;refine callsDIn_of_wpSIn hfn hb trivial λ c₀ cs hc0=>?_
       have hsz:((⟨xs⟩:Array Value)++Array.replicate (fn.ntmps - (⟨xs⟩:Array Value).size) undef).size=fn.ntmps:=by
        have:=hvs.length;rw[bN]at hle;simp;omega
       have hself:({c₀ with mode:=mo}:Frame)=c₀:=by subst hc0;rfl
       have:=hs φ D {tmps:=(⟨xs⟩:Array Value)++Array.replicate (fn.ntmps - (⟨xs⟩:Array Value).size) undef,defers:=[]} w c₀ cs mo ⟨hrel,wR hrel.eQ.2 hvs _,hsz,rfl⟩ hmo hf (bodyPostS P fn c₀ cs R) λ φ1 D1 a1 w1 mo1 px e1 st1 hm1 pp=>?_
       ·rw[hself]at this;exact this
       obtain⟨x,k1,k2⟩:=qz (P:=P) (fn:=fn) st1.rel st1.fr hgs hev;have hd:a1.defers=[]:=st1.uM
       rcases hou with rfl|rfl
       ·exact⟨hd,mo1,rfl,x,k1,hR φ1 D1 w1 x mo1 e1 st1.rel hm1⟩
       exact⟨hd,mo1,rfl,x,k1,hR φ1 D1 w1 x mo1 e1 st1.rel hm1⟩
      refine⟨⟨fn,b,hfn,hb,by simpa using hname⟩,?_⟩
      cases hres:(gj P fn.ntmps b).f ce (Tr.bW args 0 .nil) H n u with
      |fail=>rw[hres]at h;cases h
      |mk ou F1 H1 n1 u1 =>
       rw[hres]at h
       cases ou with
       |normal =>
        simp only[Bi]at h
        split at h
        ·rename_i vs hev;exact go _ _ _ _ _ vs (.inl rfl) hres hev h
        cases h
       |ret =>
        simp only[Bi]at h
        split at h
        ·rename_i vs hev;exact go _ _ _ _ _ vs (.inr rfl) hres hev h
        cases h
       |exit i=>cases h
       |panic v=>cases h
     cases uR
    cases uR
   cases uR
  cases h
 cases h
theorem QD:∀k,iQ P (run P k)
 |0=>⟨λ _ _ _ _ _ _ _ h=>by(simp only[run]at h;cases h),λ _ _ _ _ _ _ _ h=>by(simp only[run]at h;cases h),λ _ _ _ _ _ _ _ _ _ _ h=>by(simp only[run]at h;cases h),λ _ _ _ _ _ _ _ _ h=>by(simp only[run]at h;cases h)⟩
 |k + 1=>by
  have ih:=QD k;refine⟨λ g args H n v H' n' h=>?_,λ g args H n v H' n' h=>?_,λ nt c F H n o F' H' n' m' h=>?_,λ g args u H n u' H' n' h=>?_⟩
  ·exact qN (ce:=run P k) ih (c:=.mk v H' n') h (.ret ..)
  ·exact qN (ce:=run P k) ih (c:=.rG v H' n') h (.rG ..)
  ·simp only[run]at h;obtain⟨hn,_⟩:=bp (P:=P) (nt:=nt) (r:=some 0) ih c _ _ _ _ _ _ _ _ _ h;refine⟨hn,λ l=>?_⟩;exact(bp (P:=P) (nt:=nt) (r:=some l) ih c _ _ _ _ _ _ _ _ _ h).2
  exact SQ (ce:=run P k) ih h
end
end Go.Abs
