/- A part. -/
import Derived.Test.YtbdgioomddkglaaGreatBt9
noncomputable section
namespace Go.Abs
open List
open Go.Proofs
open Classical
set_option maxRecDepth 100000
theorem aax {H:Hp}{n p rb cb:Nat}{rv tv:AV}{s:MS}(he:s.ended=true)(M:cy H n p rb cb rv tv s):r_ H n p rb cb rv tv s 12 [.ptr p 0] (.aW [.bool true,iI 0]) s:=by
 refine al9 (n':=n) M (aM _) (by simpa using M.lt.1) M.lay M.aO (λ b hb=>.inl hb) (ar.of c12 (by simp[A12]) λ F hF=>?_);have hlt:∀b∈s.fp p rb cb rv tv,b<n:=λ b hb=>by rw[hZ]at hb;exact M.lay.kl b hb
 have M0:cy (pick H (s.fp p rb cb rv tv)) n p rb cb rv tv s:=M.frame (aM _) λ b hb=>lN hb;have gp:=M0.gp;simp only[MS.mc]at gp;simp[A12,hF,gp,he];exact λ e he'=>⟨_,M0.told e he',OwnB.list rfl⟩
theorem Qv {H:Hp}{n p rb cb:Nat}{rv tv:AV}{s:MS}(hst:s.steps+1<1000000000)(M:cy H n p rb cb rv tv s):r_ H n p rb cb rv tv s 12 [.ptr p 0] (.aW [.bool (stepS s (n+1)).ended,iI 0]) (stepS s (n+1)):=by
 cases he:s.ended with
 |false=>exact agL hst he M
 |true =>
  have:stepS s (n+1)=s:=by unfold stepS;rw[ak he]
  rw[this,he];exact aax he M
theorem EM (l:List Ins):aX (ew l)=true:=by
 induction l with
 |nil=>rfl
 |cons a r ih=>simp[ew,Ins.cells,ih]
theorem ab' (l:List Ins)(hl:l.length<=bm):ah pG 25 [.ds (ew l) l.length 15] (.ds (ew l) l.length 15):=
 rX (z:=Qf) (sz:=15) (eT:=120) c25 (by omega) (by omega) (by omega) _ _ hl (by simp) (pC _) (EM _)
theorem QN {α:Type}{f:α->List AV}(a:α)(c:Nat):rep (f a) c=bU f (replicate c a):=by
 induction c with
 |zero=>rfl
 |succ c ih=>rw[rep,ih,List.replicate_succ];rfl
def iK (c:aU)(w:er):MS:=⟨c,w,0,replicate c.aA.toNat bG,replicate c.cur.toNat nw,0,decide (c.l.length=0),false,0,[],[]⟩
theorem O0 {c:aU}{w:er}(h:c.chk=0)(hw:w.aO):(iK c w).aO:=by
 obtain⟨c1,c2,c3,c4,c5,c6⟩:=ux h;refine⟨h,by simp[iK];omega,by simp[iK];omega,hw,by simp[iK],λ x hx=>?_,by simp[iK],λ e=>?_,by simp[iK],by simp[iK],by simp[iK]⟩
 ·have:=List.eq_of_mem_replicate hx;subst this;exact⟨(λ l e=>by cases e),(λ r e=>by cases e)⟩
 simp[iK]at e;simp[iK];exact length_pos_iff.2 e
theorem abz (c:Nat):qF (replicate c nw)=[]:=by
 induction c with
 |zero=>rfl
 |succ c ih=>rw[List.replicate_succ];simp[qF,nw]at ih ⊢
theorem abx (c:Nat):GN (replicate c nw)=[]:=by
 induction c with
 |zero=>rfl
 |succ c ih=>rw[List.replicate_succ];simp[GN,nw]at ih ⊢
theorem amf (c:aU)(w:er)(h:c.chk=0)(n:Nat)(S:Hp)(ht:gJ S n):
  ar pG 10 [c.av,.fO 71 (bw.av w)] S n (λ u K k=>u=.aW [.ptr (n+1+1+1) 0,iI 0]/\ep K ((iK c w).told (n+1+1+1) (n+1) (n+1+1) cB cB)/\k<=n+4):=by
 obtain⟨c1,c2,c3,c4,c5,c6⟩:=ux h;refine ar.of c10 (by simp[A10]) λ F hF=>?_;have sP:=aod c;rw[h]at sP;have hcl:=ab' c.l (by unfold bm;omega);simp only[aU.av,aU.cells]at sP;have m1:=xm (z:=[iI 0,iI 0,.str []]) (sz:=3) (eT:=32) (n:=n+1) (k:=.i64) (j:=.i64) c.aA.toNat (by unfold big;omega) (by omega);have m2:=xm (z:=[.aI .nilIface,.aI (.slice none 0 0),.int .u32 0,iI 0,.bool false]) (sz:=5) (eT:=64) (n:=n+1+1) (k:=.i64) (j:=.i64) c.cur.toNat (by unfold big;omega) (by omega);rw[show ((c.aA.toNat:Nat):Int)=c.aA by omega]at m1;rw[show ((c.cur.toNat:Nat):Int)=c.cur by omega]at m2;have tn:=ht.none;simp[A10,hF,aU.av,aU.cells];refine au.pure sP ?_;simp[hF,anG,agn];refine au.pure hcl ?_;simp[agm];refine bD.of (bh (P:=pG)) ?_;simp[ab,hF,m1,m2,br,bI,tn];simp[agl,agk,ab];refine λ e he=>?_;have hls:GN (iK c w).aD=[]:=abx _;simp only[MS.told,hls,yC,nil_append,mem_cons,not_mem_nil,or_false]at he
 rcases he with rfl|rfl|rfl
 ·exact⟨.cells 13 [] ((iK c w).mc (n+1) (n+1+1) cB cB) .nil,by simp[MS.mc,iK],OwnB.list rfl⟩
 ·refine⟨_,by simp;rfl,?_⟩;have:=OwnB.zero (z:=Val.cells bG) (by simp[Val.cells]) c.aA.toNat;rw[QN]at this;exact this
 refine⟨_,by simp;rfl,?_⟩;have:=OwnB.zero (z:=jR.cells nw) (by simp[jR.cells]) c.cur.toNat;rw[QN]at this;exact this
theorem adi (c:aU)(w:er)(h:c.chk=0)(hw:w.aO)(H:Hp)(n:Nat):∃H',bO pG 10 [c.av,.fO 71 (bw.av w)] H n (.aW [.ptr (n+1+1+1) 0,iI 0]) H' (n+4)/\cy H' (n+4) (n+1+1+1) (n+1) (n+1+1) cB cB (iK c w)/\(∀b,b<n->H'.get b=H.get b)/\(∀b∈(iK c w).fp (n+1+1+1) (n+1) (n+1+1) cB cB,n<=b)/\(gJ H n->gJ H' (n+4)):=by
 have hls:qF (iK c w).aD=[]:=abz _;have hk:eI (n+1+1+1) (n+1) (n+1+1) cB cB (iK c w).aD=[n+1+1+1,n+1,n+1+1]:=by simp[eI,hls]
 have L':Lay (n+4) (n+1+1+1) (n+1) (n+1+1) cB cB (iK c w):=.of (by rw[hk];simp) (λ b hb=>by rw[hk]at hb;simp at hb;omega) (.inl ⟨rfl,rfl⟩) (.inl ⟨rfl,rfl⟩)
 have hge:∀b∈(iK c w).fp (n+1+1+1) (n+1) (n+1+1) cB cB,n<=b:=λ b hb=>by
  rw[hZ,hk]at hb;simp at hb;omega
 have hp:aT [c.av,.fO 71 (bw.av w)]:=by
  have h1:Pure (.fO 71 (bw.av w)):=by simp[Pure]
  simp[h1]
 obtain⟨H',h1,h2,h3⟩:=ar.okL (H:=H) (n:=n) (n':=n+4) (v0:=.aW [.ptr (n+1+1+1) 0,iI 0]) [] ((iK c w).told (n+1+1+1) (n+1) (n+1+1) cB cB) (aT.lC hp) (by simp) (by simp) (by simp) (by omega) L'.nd (λ e he=>.inr ⟨hge _ (iJ he),L'.lt e he⟩) (amf c w h n _ (mF (by simp)));exact⟨H',h1,⟨L',h2,O0 h hw⟩,λ b hb=>h3 b (by simp) (.inl hb),hge,λ ht b hb=>(h3 b (by simp) (.inr hb)).trans (ht b (by omega))⟩
theorem ahD (c:aU)(w:er)(h:c.chk≠0):ah pG 10 [c.av,.fO 71 (bw.av w)] (.aW [.aI (.pointer none),iI 1]):=by
 have hp:aT [c.av,.fO 71 (bw.av w)]:=by
  have h1:Pure (.fO 71 (bw.av w)):=by simp[Pure]
  simp[h1]
 refine eY c10 hp (by simp) (by simp[A10]) λ F hF=>?_;have sP:=aod c;simp only[aU.av,aU.cells]at sP;simp[A10,hF,aU.av,aU.cells];refine au.pure sP ?_;simp[h,agp];exact fp
theorem Ln (w:er):ah pG 8 [bw.av w] (.fO 71 (bw.av w)):=by
 refine eY c8 (by simp) (by simp[Pure]) (by simp[A8]) λ F hF=>?_;have ho:=bw.one w;simp[A8,hF,aN.av,oR,fa];exact .pure _ (by simp[Pure])
theorem abA {k:bz}{L:List AV}{i:Nat}{v:AV}(ho:OwnB k L)(hv:L[i]?=some v):ld1 (some k) i=.val v:=by
 have:=La (H:=Tr.nil.put 0 (some k)) (b:=0) (i:=i) (by simp) ho hv;simpa using this
structure PZ (S:Hp)(n:Nat)(en:Bool)(st:Int)(va vt:AV)(K:Hp)(m:Nat):Prop where
 hm:n+2<=m
 k0:K.get n=cl 5 [.bool false,iI 0,iI 0,cB,cB]
 k1:K.get (n+1)=cl 5 [.bool en,iI st,iI 0,va,vt]
 kb:∀b,b<n->K.get b=S.get b
 top:gJ K m
 da:∀c,blk va=some c->n+2<=c
 dt:∀c,blk vt=some c->n+2<=c/\blk va≠some c
structure P1 (F:Fr)(p n:Nat):Prop where
 f0:F.get 0=some (.ptr p 0)
 f2:F.get 2=some (.ptr n 0)
 f3:F.get 3=some (.ptr (n+1) 0)
theorem ahe {S:Hp}{p n:Nat}{en:Bool}{st:Int}(rows:List (List Val))(hl:rows.length<=4096)(hr:∀r∈rows,r.length<=bm)(rv:AV)(hs:uF rv rows.length 1)(hv:∀b,blk rv=some b->b<n/\S.get b=some (.cells rows.length [] (bn rows) .nil))(F:Fr)(K:Hp)(m:Nat)(Q:QA)(hF:P1 F p n)(f23:F.get 23=some rv)(f24:F.get 24=some (iI (rows.length:Int)))(f25:F.get 25=some (iI 0))(M:PZ S n en st cB cB K m)
  (hQ:∀va F K m,P1 F p n->PZ S n en st va cB K m->aC K m va (bn rows) rows.length 1->Q .normal F K m []):aG Oe pG F K m [] (jN 1 Q):=by
 refine aG.of (λ q F K m ms=>∃(i:Nat) (va:AV),q=rows.length - i/\i<=rows.length/\P1 F p n/\F.get 23=some rv/\F.get 24=some (iI (rows.length:Int))/\F.get 25=some (iI (i:Int))/\PZ S n en st va cB K m/\aC K m va (bn (rows.take i)) i 1/\ms=[]) rows.length ⟨0,cB,by simp,by omega,hF,f23,f24,f25,M,by simpa[bn]using aC.nil K m 1,rfl⟩ ?_;clear hF f23 f24 f25 M F K m;rintro q F K m ms ⟨i,va,rfl,hi,⟨f0,f2,f3⟩,f23,f24,f25,M,O,rfl⟩
 by_cases h:i<rows.length
 ·have hrr:=hr _ (bT h)
  obtain⟨b,rfl⟩:∃b,rv=.sl b 0 rows.length 1:=by
   rcases hs with⟨_,e⟩|e
   ·omega
   exact e
  obtain⟨hb,hS⟩:=hv b rfl;have kb:=(M.kb b hb).trans hS;have hix:=dn (b:=b) (o:=0) (sz:=1) (k:=.i64) h;rw[gz,Nat.mul_one]at hix;have hld:ld1 (some (.cells rows.length [] (bn rows) .nil)) i=.val (ai rows[i]):=abA (OwnB.list (by simp[bn])) (by simp[bn,h])
  have htk:bn (rows.take (i+1))=bn (rows.take i)++[ai rows[i]]:=by
   rw[take_add_one,dU h];unfold bn;rw[map_append];rfl
  generalize hbk:bz.cells rows.length [] (bn rows) .nil=yb at kb hld;generalize rows[i]=r at hrr hld htk;have hcp:=H5 r hrr;have hm:=M.hm;have tn:=M.top.none;have h1:(ai r).one=true:=rfl;have h2:(ai r).len=1:=rfl;have h3:(ai r).cells=[ai r]:=rfl;have k1:=M.k1;have hone:=O.dI;simp[Oe,f23,f24,f25,h,hix,kb,hld];refine bD.of (cL (l:=[(28,[ai r],λ H n=>.mk (ai r) H n)]) ?_) ?_
  ·simp only[fD];rintro _ rfl;exact aQ hcp
  simp[ab,f3,bK,k1,br,bI,tn,h1,h2,h3,show ¬n+1=m by omega];generalize hK1:K.put m _=K1;have g1n:K1.get m=cl 1 [ai r]:=by rw[<-hK1];simp
  have yF:∀c,c≠m->K1.get c=K.get c:=λ c hc=>by rw[<-hK1];simp[hc]
  clear hK1;have nva:∀c,blk va=some c->c<m:=λ c hc=>O.ba hc;refine aC.PQ (k:=1) (new:=[ai r]) (O.frame (n':=m+1) (by omega) λ c hc=>yF c (by have:=nva c hc;omega)) (bM g1n) (by simp) (by simp) (by omega) (by omega) (by unfold big;omega) (by omega) (by simp[h1]) λ K2 o2 g2=>?_;have q1:=(g2 (n+1) (by omega) (λ e=>by have:=M.da (n+1) (by rw[e];rfl);omega)).trans ((yF (n+1) (by omega)).trans k1);have tk:K2.get (m+1+1)=none:=by rw[g2 _ (by omega) (λ e=>by have:=nva (m+1+1) (by rw[e];rfl);omega),yF _ (by omega)];exact M.top _ (by omega)
  simp[ab,f3,q1,YG,f25,ax i (by omega)];refine⟨_,by omega,i+1,rfl,by omega,⟨by simp[ab,f0],by simp[ab,f2],by simp[ab,f3]⟩,by simp[ab,f23],by simp[ab,f24],by omega,.sl (m+1) 0 (i+1) 1,⟨by omega,?_,by simp,λ c hc=>?_,λ c hc=>?_,λ c hc=>by simp at hc;omega,λ c hc=>by simp at hc⟩,?_⟩
  ·have:va≠.sl n 0 i 1:=λ e=>by have:=M.da n (by rw[e];rfl);omega
   simp[g2 n (by omega) this,yF n (by omega),M.k0]
  ·have:va≠.sl c 0 i 1:=λ e=>by have:=M.da c (by rw[e];rfl);omega
   simp[show ¬c=n+1 by omega,g2 c (by omega) this,yF c (by omega),M.kb c hc]
  ·have:va≠.sl c 0 i 1:=λ e=>by have:=nva c (by rw[e];rfl);omega
   simp[show ¬c=n+1 by omega,g2 c (by omega) this,yF c (by omega),M.top c (by omega)]
  rw[htk];exact o2.frame (aM _) λ c hc=>by simp at hc;simp[show ¬c=n+1 by omega]
 obtain rfl:i=rows.length:=by omega
 simp[Oe,f24,f25];rw[take_length]at O;exact hQ va _ K m ⟨by simp[f0],by simp[f2],by simp[f3]⟩ M O
theorem ahd {S:Hp}{p n:Nat}{en:Bool}{st:Int}(takes:List Tk)(hl:takes.length<=4096)(hr:∀t∈takes,t.new.length<=bm)(tv:AV)(hs:uF tv takes.length 3)(hv:∀b,blk tv=some b->b<n/\S.get b=some (.cells (takes.length*3) [] (bU Tk.cells takes) .nil))(va:AV)(cs:List AV)(len:Nat)(F:Fr)(K:Hp)(m:Nat)(Q:QA)(hF:P1 F p n)(f40:F.get 40=some tv)(f41:F.get 41=some (iI (takes.length:Int)))(f42:F.get 42=some (iI 0))(M:PZ S n en st va cB K m)(Oa:aC K m va cs len 1)
  (hQ:∀vt F K m,P1 F p n->PZ S n en st va vt K m->aC K m va cs len 1->aC K m vt (bU Tk.cells takes) takes.length 3->Q .normal F K m []):aG Oc pG F K m [] (jN 3 Q):=by
 refine aG.of (λ q F K m ms=>∃(i:Nat) (vt:AV),q=takes.length - i/\i<=takes.length/\P1 F p n/\F.get 40=some tv/\F.get 41=some (iI (takes.length:Int))/\F.get 42=some (iI (i:Int))/\PZ S n en st va vt K m/\aC K m va cs len 1/\aC K m vt (bU Tk.cells (takes.take i)) i 3/\ms=[]) takes.length ⟨0,cB,by simp,by omega,hF,f40,f41,f42,M,Oa,by simpa[bU]using aC.nil K m 3,rfl⟩ ?_;clear hF f40 f41 f42 M F K m Oa;rintro q F K m ms ⟨i,vt,rfl,hi,⟨f0,f2,f3⟩,f23,f24,f25,M,Oa,O,rfl⟩
 by_cases h:i<takes.length
 ·have hrr:=hr _ (bT h)
  obtain⟨b,rfl⟩:∃b,tv=.sl b 0 takes.length 3:=by
   rcases hs with⟨_,e⟩|e
   ·omega
   exact e
  obtain⟨hb,hS⟩:=hv b rfl;have kb:=(M.kb b hb).trans hS;have hix:=dn (b:=b) (o:=0) (sz:=3) (k:=.i64) h;rw[gz]at hix;have hld:=ldR (c:=3) (OwnB.list (u:=takes.length*3) (l:=bU Tk.cells takes) (by rw[jb (λ a=>a.aE)])) (λ a=>a.aE) h
  have htk:bU Tk.cells (takes.take (i+1))=bU Tk.cells (takes.take i)++(takes[i]).cells:=by
   rw[take_add_one,dU h];rw[ei];simp[bU]
  generalize hbk:bz.cells (takes.length*3) [] (bU Tk.cells takes) .nil=yb at kb hld;generalize takes[i]=t at hrr hld htk;generalize i*3=o at hix hld;have hcp:=H5 t.new hrr;have hm:=M.hm;have tn:=M.top.none;have h1:(ai t.new).one=true:=rfl;have h2:(ai t.new).len=1:=rfl;have h3:(ai t.new).cells=[ai t.new]:=rfl;have k1:=M.k1;have hone:=O.dI;simp only[Tk.cells]at hld htk;simp[Oc,f23,f24,f25,h,hix,kb,hld,h1];refine bD.of (cL (l:=[(28,[ai t.new],λ H n=>.mk (ai t.new) H n)]) ?_) ?_
  ·simp only[fD];rintro _ rfl;exact aQ hcp
  have e1:¬n+1=m:=by omega
  have amR:=Oa.dI;simp[ab,f3,bK,k1,br,bI,tn,h1,h2,h3,e1];generalize hK1:Tr.put _ (m+1) _=K1;have g1n:K1.get (m+1)=cl 3 [.int .u32 t.page,iI t.slot,ai t.new]:=by rw[<-hK1];simp
  have yF:∀c,c≠m->c≠m+1->K1.get c=K.get c:=λ c hc hc2=>by rw[<-hK1];simp[hc,hc2]
  clear hK1;have nvt:∀c,blk vt=some c->c<m:=λ c hc=>O.ba hc;have nva:∀c,blk va=some c->c<m:=λ c hc=>Oa.ba hc;refine aC.PQ (k:=1) (new:=[.int .u32 t.page,iI t.slot,ai t.new]) (O.frame (n':=m+1+1) (by omega) λ c hc=>yF c (by have:=nvt c hc;omega) (by have:=nvt c hc;omega)) (bM g1n) (by simp) (by simp) (by omega) (by omega) (by unfold big;omega) (by omega) (by simp[h1]) λ K2 o2 g2=>?_;have q1:=(g2 (n+1) (by omega) (λ e=>by have:=M.dt (n+1) (by rw[e];rfl);omega)).trans ((yF (n+1) (by omega) (by omega)).trans k1);simp[ab,f3,q1,YE,f25,ax i (by omega),amR];refine⟨_,by omega,i+1,rfl,by omega,⟨by simp[ab,f0],by simp[ab,f2],by simp[ab,f3]⟩,by simp[ab,f23],by simp[ab,f24],by omega,.sl (m+1+1) 0 (i+1) 3,⟨by omega,?_,by simp,λ c hc=>?_,λ c hc=>?_,M.da,λ c hc=>⟨by simp at hc;omega,λ h'=>by have:=nva c h';simp at hc;omega⟩⟩,?_,?_⟩
  ·have:vt≠.sl n 0 i 3:=λ e=>by have:=M.dt n (by rw[e];rfl);omega
   simp[g2 n (by omega) this,yF n (by omega) (by omega),M.k0]
  ·have:vt≠.sl c 0 i 3:=λ e=>by have:=M.dt c (by rw[e];rfl);omega
   simp[show ¬c=n+1 by omega,g2 c (by omega) this,yF c (by omega) (by omega),M.kb c hc]
  ·have:vt≠.sl c 0 i 3:=λ e=>by have:=nvt c (by rw[e];rfl);omega
   simp[show ¬c=n+1 by omega,g2 c (by omega) this,yF c (by omega) (by omega),M.top c (by omega)]
  ·refine Oa.frame (by omega) λ c hc=>?_;have h4:=nva c hc;have h5:=M.da c hc;have:vt≠.sl c 0 i 3:=λ e=>(M.dt c (by rw[e];rfl)).2 hc;simp[show ¬c=n+1 by omega,g2 c (by omega) this,yF c (by omega) (by omega)]
  rw[htk];exact o2.frame (aM _) λ c hc=>by simp at hc;simp[show ¬c=n+1 by omega]
 obtain rfl:i=takes.length:=by omega
 simp[Oc,f24,f25];rw[take_length]at O;exact hQ vt _ K m ⟨by simp[f0],by simp[f2],by simp[f3]⟩ M Oa O
structure Out where
 ended:Bool
 steps:Int
 err:Int
 rows:List (List Val)
 takes:List Tk
def Out.cells (o:Out):List AV:=[.bool o.ended,iI o.steps,iI o.err,bV o.rows,.ds (bU Tk.cells o.takes) o.takes.length 3]
def Out.av (o:Out):AV:=.agg o.cells 5
theorem uX (l:List Tk):aT (bU Tk.cells l):=by
 induction l with
 |nil=>simp[bU]
 |cons a r ih=>simp[bU,Tk.cells,ih]
@[simp] theorem Qs (l:List (List Val)):Pure (bV l):=by rw[<-BA];simp
theorem Out.pure (o:Out):Pure o.av:=by simp[Out.av,Out.cells,uX]
def MS.out (s:MS):Out:=
 if s.ended=false then ⟨false,s.steps,0,[],[]⟩else
 if s.full=true then ⟨true,s.steps,4,[],[]⟩else
 if s.least≠0 then ⟨true,s.steps,s.least,[],[]⟩else ⟨true,s.steps,0,s.rows,s.takes⟩
theorem aC.SK {K:Hp}{m n:Nat}{v:AV}{l:List AV}{len sz:Nat}(h:aC K m v l len sz)(hb:∀c,blk v=some c->n<=c)(hp:aT l)(hz:0<sz):fW (above n K) v (.ds l len sz):=by
 obtain⟨s',rfl⟩:∃k,sz=k+1:=⟨sz - 1,by omega⟩;obtain⟨h0,⟨rfl,rfl⟩|⟨b,k,rfl,hb2,hk,ho⟩⟩:=h
 ·have:l=[]:=by simpa using h0
  subst this;exact .nil _
 obtain⟨u,z,bs,t,rfl,hg⟩:=ho.ju (o:=0) (c:=len*(s'+1)) (by omega);refine .sl _ _ _ _ _ _ _ _ _ _ (by unfold above;rw[ak (hb b rfl)];exact hk) hg ?_;rw[drop_zero,eS (by omega)];exact cM.pure hp
theorem al1 {H:Hp}{n p rb cb:Nat}{rv tv:AV}{s:MS}(M:cy H n p rb cb rv tv s):bO pG 13 [.ptr p 0] H n s.out.av H n:=by
 have hfp:∀b∈s.fp p rb cb rv tv,∃e∈s.told p rb cb rv tv,e.1=b:=λ b hb=>by
  obtain⟨e,h1,h2⟩:=mem_map.1 hb;exact⟨e,h1,h2⟩
 have hlt:∀b∈s.fp p rb cb rv tv,b<n:=λ b hb=>by
  obtain⟨e,h1,rfl⟩:=hfp b hb;exact M.lay.lt e h1
 refine ar.okN (s.fp p rb cb rv tv) (by simpa using M.lt.1) hlt (λ b hb k hk=>by
   obtain⟨e,h1,rfl⟩:=hfp b hb;rw[M.told e h1]at hk;injection hk with hk;subst hk;exact kN (M.lay.lC M.aO e h1)) λ S ht eZ=>?_
 have M0:cy S n p rb cb rv tv s:=M.frame (aM _) eZ;clear eZ hfp hlt M;refine ar.of c13 (by simp[A13]) λ F hF=>?_;have gp:=M0.gp;simp only[MS.mc]at gp;have tn:=ht.none;obtain⟨l1,l2,l3⟩:=M0.lt;simp[A13,hF];refine bD.of (bh (P:=pG)) ?_;simp[ab,hF,gp,cg l1,wu l1,br,bI,tn,agc];unfold MS.out
 cases he:s.ended with
 |false =>
  simp[yp,ab];refine⟨?_,λ c hc=>by simp[cg hc]⟩;exact .agg _ _ _ (.cons _ _ _ _ fp (.cons _ _ _ _ fp (.cons _ _ _ _ fp (.cons _ _ _ _ (.nil _) (.cons _ _ _ _ (.nil _) .nil)))))
 |true =>
  cases hfu:s.full with
  |true =>
   simp[M9,ab,hF,gp,cg l1,wu l1,hfu,agb,yp];refine⟨?_,λ c hc=>by simp[cg hc]⟩;exact .agg _ _ _ (.cons _ _ _ _ fp (.cons _ _ _ _ fp (.cons _ _ _ _ fp (.cons _ _ _ _ (.nil _) (.cons _ _ _ _ (.nil _) .nil)))))
  |false =>
   by_cases hle:s.least=0
   ·have e1:=M0.lay.rv.len;have e2:=M0.lay.tv.len;have hrows:=M0.aO.rows;simp[M9,ab,hF,gp,cg l1,wu l1,hfu,YD,hle,af',e1];refine ahe (S:=S) (p:=p) (n:=n) (en:=true) (st:=s.steps) s.rows (by omega) M0.aO.rl rv M0.lay.rv (λ b hb=>?_) _ _ _ _ ⟨by simp[ab,hF],by simp[ab],by simp⟩ (by simp) (by simp) (by simp) ⟨by omega,by simp,by simp,λ b hb=>by simp[cg hb],λ b hb=>by simp[show ¬b=n by omega,show ¬b=n+1 by omega,ht b (by omega)],by simp,by simp⟩ λ va F K m FF MM OO=>?_
    ·have hm:(b,bn s.rows)∈s.told p rb cb rv tv:=by simp[MS.told,dV hb]
     have h1:=M0.told _ hm;exact⟨M0.lay.lt _ hm,by simpa[bn]using h1⟩
    have q0:=FF.f0;have kp:=(MM.kb p l1).trans gp;simp[YF,q0,kp,e2];refine ahd (S:=S) (p:=p) (n:=n) (en:=true) (st:=s.steps) s.takes (by omega) M0.aO.tl tv M0.lay.tv (λ b hb=>?_) va (bn s.rows) s.rows.length _ _ _ _ ⟨by simp[FF.f0],by simp[FF.f2],by simp[FF.f3]⟩ (by simp) (by simp) (by simp) MM OO λ vt F K m FF MM OO PP=>?_
    ·have hm:(b,bU Tk.cells s.takes)∈s.told p rb cb rv tv:=by simp[MS.told,dV hb]
     have h1:=M0.told _ hm;rw[jb (λ a=>a.aE)]at h1;exact⟨M0.lay.lt _ hm,h1⟩
    have k0:=MM.k0;have k1:=MM.k1;have o1:=OO.dI;have o2:=PP.dI;have hm:=MM.hm;simp[yp,FF.f2,FF.f3,k0,k1,o1,o2];refine⟨?_,λ c hc=>by simp[show ¬c=n by omega,MM.kb c hc]⟩;refine .agg _ _ _ (.cons _ _ _ _ fp (.cons _ _ _ _ fp (.cons _ _ _ _ fp (.cons _ _ _ _ ?_ (.cons _ _ _ _ ?_ .nil)))))
    ·exact(OO.frame (aM _) λ c hc=>by have:=MM.da c hc;simp[show ¬c=n by omega]).SK (λ c hc=>by have:=MM.da c hc;omega) (by rw[<-Tn];simp) (by omega)
    exact(PP.frame (aM _) λ c hc=>by have:=(MM.dt c hc).1;simp[show ¬c=n by omega]).SK (λ c hc=>by have:=(MM.dt c hc).1;omega) (uX _) (by omega)
   simp[M9,ab,hF,gp,cg l1,wu l1,hfu,YD,hle,aga,yp];refine⟨?_,λ c hc=>by simp[cg hc]⟩;exact .agg _ _ _ (.cons _ _ _ _ fp (.cons _ _ _ _ fp (.cons _ _ _ _ fp (.cons _ _ _ _ (.nil _) (.cons _ _ _ _ (.nil _) .nil)))))
def gB (c:jR):jR:={c with b:=0}
def MS.view (s:MS):MS:={s with aD:=s.aD.map gB}
theorem aiE (c:jR):gB (gB c)=gB c:=rfl
theorem ee:gB ∘ gB=gB:=rfl
theorem KB (s:MS):s.view.view=s.view:=by simp[MS.view,ee]
theorem sR (s:MS)(i:Nat):s.view.aD.getD i nw=gB (s.aD.getD i nw):=by
 simp only[MS.view,getD,getElem?_map];cases s.aD[i]?<;>rfl
theorem Hl (c:jR)(l:fJ):gB (mH c l)=mH (gB c) l:=by
 unfold mH;cases l.Eu<;>rfl
theorem ab7 (s:MS)(x:Ins)(n:Nat):(dN s x n).1=(dN s.view x 0).1/\(dN s x n).2.view=(dN s.view x 0).2.view:=by
 by_cases h1:x.op=1
 ·unfold dN;rw[ak h1,ak h1];exact⟨rfl,by simp[MS.view,List.map_set,ee,gB,jD]⟩
 by_cases h2:x.op=2
 ·unfold dN;rw[ae h1,ak h2,ae h1,ak h2];exact⟨rfl,by simp[MS.view,List.map_set,ee,gB,jD];rfl⟩
 by_cases h3:x.op=3
 ·unfold dN;rw[ae h1,ae h2,ak h3,ae h1,ae h2,ak h3];rw[sR];have hl:(gB (s.aD.getD x.a.toNat nw)).eL=(s.aD.getD x.a.toNat nw).eL:=rfl;rw[hl]
  cases h:(s.aD.getD x.a.toNat nw).eL with
  |none=>exact⟨rfl,by simp[MS.view,ee]⟩
  |some l =>
   refine⟨rfl,?_⟩;simp only[MS.view,List.map_set,Hl,aiE];simp[ee]
 by_cases h4:x.op=4
 ·unfold dN;rw[ae h1,ae h2,ae h3,ak h4,ae h1,ae h2,ae h3,ak h4];rw[sR];exact⟨rfl,by simp[MS.view,ee];rfl⟩
 by_cases h5:x.op=5
 ·unfold dN;rw[ae h1,ae h2,ae h3,ae h4,ak h5,ae h1,ae h2,ae h3,ae h4,ak h5];exact⟨rfl,by simp[MS.view,ee]⟩
 by_cases h6:x.op=6
 ·unfold dN;rw[ae h1,ae h2,ae h3,ae h4,ae h5,ak h6,ae h1,ae h2,ae h3,ae h4,ae h5,ak h6];rw[show s.view.aA=s.aA from rfl];generalize gi x.ex _=r;unfold hJ
  split<;>exact⟨rfl,by simp[MS.view,ee]⟩
 by_cases h7:x.op=7
 ·unfold dN;rw[ae h1,ae h2,ae h3,ae h4,ae h5,ae h6,ak h7,ae h1,ae h2,ae h3,ae h4,ae h5,ae h6,ak h7];rw[show s.view.aA=s.aA from rfl];unfold ij
  split
  ·exact⟨rfl,by simp[MS.view,ee]⟩
  split<;>exact⟨rfl,by simp[MS.view,ee]⟩
 by_cases h8:x.op=8
 ·unfold dN;rw[ae h1,ae h2,ae h3,ae h4,ae h5,ae h6,ae h7,ak h8,ae h1,ae h2,ae h3,ae h4,ae h5,ae h6,ae h7,ak h8];refine⟨rfl,?_⟩;have hr:s.view.roomy=s.roomy:=rfl;unfold ez MS.e_;simp only[hr]
  split<;>simp[MS.view,ee]
 by_cases h9:x.op=9
 ·unfold dN;rw[ae h1,ae h2,ae h3,ae h4,ae h5,ae h6,ae h7,ae h8,ak h9,ae h1,ae h2,ae h3,ae h4,ae h5,ae h6,ae h7,ae h8,ak h9];rw[sR];refine⟨rfl,?_⟩;have hr:s.view.roomy=s.roomy:=rfl;have hth:(gB (s.aD.getD x.a.toNat nw)).there=(s.aD.getD x.a.toNat nw).there:=rfl;simp only[hr,hth];unfold lL MS.e_
  split
  ·split<;>simp[MS.view,ee,gB]
  simp[MS.view,ee]
 by_cases h10:x.op=10
 ·unfold dN;rw[ae h1,ae h2,ae h3,ae h4,ae h5,ae h6,ae h7,ae h8,ae h9,ak h10,ae h1,ae h2,ae h3,ae h4,ae h5,ae h6,ae h7,ae h8,ae h9,ak h10];exact⟨rfl,by simp[MS.view,ee]⟩
 unfold dN;rw[ae h1,ae h2,ae h3,ae h4,ae h5,ae h6,ae h7,ae h8,ae h9,ae h10,ae h1,ae h2,ae h3,ae h4,ae h5,ae h6,ae h7,ae h8,ae h9,ae h10];exact⟨rfl,by simp[MS.view,ee]⟩
def sv (s:MS):MS:=(stepS s 0).view
theorem y7 (s:MS)(n:Nat):(stepS s n).view=sv s.view:=by
 unfold sv stepS;rw[show s.view.ended=s.ended from rfl]
 split
 ·rw[KB]
 obtain⟨h1,h2⟩:=ab7 s (s.c.l.getD s.at_.toNat wH) n;rw[show s.view.c=s.c from rfl,show s.view.at_=s.at_ from rfl];generalize dN s (s.c.l.getD s.at_.toNat wH) n=r at *;generalize dN s.view (s.c.l.getD s.at_.toNat wH) 0=r' at *
 have e:∀t t':MS,t.view=t'.view->∀(st:Nat) (a:Int) (L:Int),({t with steps:=st,at_:=a,ended:=t.ended||decide (a=L)}:MS).view=({t' with steps:=st,at_:=a,ended:=t'.ended||decide (a=L)}:MS).view:=λ t t' h st a L=>by
  obtain⟨a1,a2,a3,a4,a5,a6,a7,a8,a9,a10,a11⟩:=t;obtain⟨b1,b2,b3,b4,b5,b6,b7,b8,b9,b10,b11⟩:=t';simp only[MS.view,MS.mk.injEq]at h ⊢;obtain⟨rfl,rfl,rfl,rfl,h5,rfl,rfl,rfl,rfl,rfl,rfl⟩:=h;simp[h5]
 unfold jw;rw[h1];exact e r.2 r'.2 h2 _ _ _
theorem Rj (s:MS):s.view.out=s.out:=rfl
def qK (s:MS):Nat->MS
 |0=>s
 |k+1=>sv (qK s k)
theorem agI {s:MS}(h:s.ended=true):sv s=s.view:=by
 unfold sv stepS;rw[ak h]
theorem SH (s:MS)(h:s.view=s):∀k,(qK s k).view=qK s k
 |0=>h
 |k+1=>by
  show (sv _).view=sv _;unfold sv;rw[KB]
theorem Bv {s:MS}(h:s.view=s){k:Nat}(he:(qK s k).ended=true):∀j,qK s (k+j)=qK s k
 |0=>rfl
 |j+1=>by
  show sv (qK s (k+j))=_;rw[Bv h he j,agI he,SH s h]
theorem nY (s:MS)(n:Nat):(stepS s n).steps=if s.ended=true then s.steps else s.steps+1:=by
 unfold stepS
 split<;>rfl
def iZ (c:aU)(w:er):MS:=(iK c w).view
def AK (c:aU)(w:er)(k:Nat):Out:=(qK (iZ c w) k).out
theorem alw (c:aU) (w:er) (hw:w.aO) (hc:c.chk=0) (hok:fL w) (k:Nat) (hk:k<100000000):ah pG 14 [c.av,bw.av w,iI (k:Int)] (.aW [(AK c w k).av,iI 0]):=by
 refine eY c14 (by simp) (by simp[Out.pure]) (by simp[A14]) λ F hF=>?_;have hmay:=adl w hw;simp only[hok,decide_true]at hmay;have ho:=bw.one w;simp[A14,hF,aU.av,aU.cells,aN.av,show ¬(k:Int)<0 by omega];simp only[aN.av]at hmay;refine au.pure hmay ?_;simp[Yx];generalize hK:(Tr.put _ 2 _:Hp)=K0;have k0:K0.get 0=cl 3 c.cells:=by rw[<-hK];simp[aU.cells]
 have k1:K0.get 1=cl 3 (bw.cells w):=by rw[<-hK];simp
 have k2:K0.get 2=cl 5 [.bool false,iI 0,iI 0,cB,cB]:=by rw[<-hK];simp
 clear hK;obtain⟨H',hcl,M,hb,hge,hgx⟩:=adi c w hc hw K0 3;refine bD.of (ny (l:=[⟨8,[bw.av w],K0,3,.fO 71 (bw.av w),K0,3⟩,⟨10,[c.av,.fO 71 (bw.av w)],K0,3,.aW [.ptr (3+1+1+1) 0,iI 0],H',3+4⟩]) ?_) ?_
 ·intro y hy;simp only[mem_cons,not_mem_nil,or_false]at hy
  rcases hy with rfl|rfl
  ·exact(Ln w).BL _ _
  exact hcl
 have h8:(8:Nat)≠10:=by omega
 have e1:AV.agg (bw.cells w) 3=bw.av w:=rfl;have e2:AV.agg c.cells 3=c.av:=rfl;simp[ab,k0,k1,lk,TJ h8,e1,e2,Yw,ho];have kk2:H'.get 2=cl 5 [.bool false,iI 0,iI 0,cB,cB]:=(hb 2 (by omega)).trans k2;have hv0:(iZ c w).view=iZ c w:=KB _
 refine aG.of (λ q F K m ms=>∃(s:MS) (rv tv:AV) (i:Nat),q=k - i/\cy K m 6 4 5 rv tv s/\(∀b∈s.fp 6 4 5 rv tv,3<=b)/\s.view=qK (iZ c w) i/\(s.ended=false->s.steps=i)/\s.steps<=i/\i<=k/\F.get 8=some (.ptr 6 0)/\F.get 2=some (iI (k:Int))/\F.get 6=some (.ptr 2 0)/\K.get 2=cl 5 [.bool false,iI 0,iI 0,cB,cB]/\ms=[]) k
  ⟨iK c w,cB,cB,0,rfl,M,hge,rfl,λ _=>rfl,aM _,by omega,by simp,by simp[ab,hF],by simp[ab],kk2,rfl⟩ ?_
 clear hF hcl M hb hge hgx k0 k1 k2 kk2 F H' K0;rintro q F K m ms ⟨s,rv,tv,i,rfl,M,hge,hvw,hs1,hs2,hik,f8,f2,f6,kz,rfl⟩;have gp:=M.gp;simp only[MS.mc]at gp;have hm3:2<m:=by have:=M.lt.1;omega
 have fin:qK (iZ c w) i=qK (iZ c w) k->∀F:Fr,F.get 8=some (.ptr 6 0)->F.get 6=some (.ptr 2 0)->VC pG (.seq Yv .ret) F K m [] (fQ [bS 6 5,aB 7] λ v1 H' x=>fW (Tr.get H') v1 (AV.aW [(AK c w k).av,AV.int IntKind.i64 0])):=by
  intro hgo F f8 f6;have hout:=al1 M;have e:s.out=AK c w k:=by rw[<-Rj,hvw,hgo];rfl
  rw[e]at hout;generalize AK c w k=o at *;simp only[Out.av,Out.cells]at hout;have h1:(bV o.rows).one=true:=rfl;simp[Yv,f8];refine au.of hout.hU λ u K2 k2 ⟨a1,a2,a3⟩=>?_;subst a1 a2 a3;simp[f6,kz,h1];exact .pure _ (by simp[uX,Qs])
 by_cases hsk:s.steps<k
 ·cases hen:s.ended with
  |true =>
   simp[Ob,f8,f2,gp,hsk,hen];refine fin ?_ _ (by simp[f8]) (by simp[f6]);have he:(qK (iZ c w) i).ended=true:=by rw[<-hvw];exact hen
   have:=Bv hv0 he (k - i);rw[show i+(k - i)=k by omega]at this;exact this.symm
  |false =>
   have hsi:=hs1 hen;obtain⟨H2,m2,rv2,tv2,hcl,hle,M2,hfr,eZ,_⟩:=Qv (by omega) M;have hst:=nY s (m+1);rw[ae (by rw[hen];simp)]at hst;have ar7:(stepS s (m+1)).view=qK (iZ c w) (i+1):=by rw[y7,hvw];rfl
   generalize stepS s (m+1)=s2 at *;simp[Ob,f8,f2,gp,hsk,hen];refine au.of hcl.hU λ u K2 k2 ⟨a1,a2,a3⟩=>?_;subst a1 a2 a3;simp;refine⟨_,by omega,s2,rv2,tv2,i+1,rfl,M2,λ b hb=>?_,ar7,λ _=>by omega,by omega,by omega,by simp[f8],by simp[f2],by simp[f6],?_⟩
   ·rcases eZ b hb with h|h
    ·exact hge b h
    omega
   rw[hfr 2 hm3 λ hm=>by have:=hge 2 hm;omega];exact kz
 simp[Ob,f8,f2,gp,hsk];refine fin ?_ _ (by simp[f8]) (by simp[f6]);rw[show i=k by omega]
end Go.Abs
namespace Go.Abs
open List
open Go.Proofs
open Classical
set_option maxRecDepth 100000
theorem Ry {g:FuncId}{args:List AV}{H:Hp}{n:Nat}{v v0:AV}{l:List AV}{len sz:Nat}(hv:aC H n v l len sz)(hl:eg n l)(ha:eg n args)
  (h:∀H0,gJ H0 n->aC H0 n v l len sz->ar pG g args H0 n (λ u K _=>fW (above n K) u v0/\∀c,c<n->K.get c=H0.get c)):bO pG g args H n v0 H n:=by
 refine ar.okN (blk v).toList ha (λ b hb=>?_) (λ b hb k hk=>?_) λ H0 ht eZ=>h H0 ht ?_
 ·obtain⟨_,⟨rfl,_⟩|⟨c,y,rfl,h2,h3,h4⟩⟩:=hv
  ·simp at hb
  simp at hb;omega
 ·obtain⟨_,⟨rfl,_⟩|⟨c,y,rfl,h2,h3,h4⟩⟩:=hv
  ·simp at hb
  simp at hb;subst hb;rw[h3]at hk;injection hk with hk;subst hk;exact KN h4 hl
 exact hv.frame (aM _) λ c hc=>eZ c (by rw[hc];simp)
theorem aC.lC {H:Hp}{n:Nat}{v:AV}{l:List AV}{len sz:Nat}(h:aC H n v l len sz):jQ n v:=by
 obtain⟨_,⟨rfl,_⟩|⟨b,y,rfl,h2,_⟩⟩:=h
 ·simp
 simpa using h2
theorem aC.at {H:Hp}{n c:Nat}{v:AV}{α:Type}{f:α->List AV}{l:List α}(h:aC H n v (bU f l) l.length c)(hk:∀a,(f a).length=c){i:Nat}(hi:i<l.length):∃b y,v=.sl b 0 l.length c/\b<n/\H.get b=some y/\OwnB y (bU f l)/\dG c v (iI (i:Int))=.val (.ptr b (i*c))/\df c (.ptr b (i*c)) H=.val (.agg (f l[i]) c):=by
 obtain⟨_,⟨_,h1⟩|⟨b,y,rfl,h2,h3,h4⟩⟩:=h
 ·omega
 have:=dn (b:=b) (o:=0) (sz:=c) (k:=.i64) hi;rw[gz]at this;exact⟨b,y,rfl,h2,h3,h4,this,Lc h3 h4 hk hi⟩
theorem ru (n:Nat)(l:List Val):eg n (bU Val.cells l):=rq λ a _=>by simp[Val.cells]
theorem vO (L:List Val)(i j:Nat)(h:i+j<L.length):(L.drop i).take (j+1)=(L.drop i).take j++[L[i+j]]:=by
 have h2:j<(L.drop i).length:=by simp;omega
 rw[take_snoc h2,getElem_drop]
section
variable {K:Hp}{m:Nat}{va:AV}{l new:List AV}{len sz eT:Nat}
theorem aC.alL {n:Nat}{v:AV}(ow:aC K m v l len sz)(y:Option bz)(h:m<=n):aC (K.put n y) (n+1) v l len sz:=ow.frame (by omega) λ c hc=>by
 have:=ow.ba hc;simp[show ¬c=n by omega]
theorem mZ {F:Fr}{ms:List Dm}{Q:QA}{pd:Pd}{r:List (Option GO)}(ow:aC K m va l len sz)(hn:new.length=sz)(h1:aX new=true)(hs:0<sz)(hbig:len+1<=big)(hby:eT<=4096)
  (hgo:∀K2,aC K2 (m+1+1) (.sl (m+1) 0 (len+1) sz) (l++new) (len+1) sz->(∀c,c<m->blk va≠some c->K2.get c=K.get c)->fy pG r (pd.f (.sl (m+1) 0 (len+1) sz) F) K2 (m+1+1) ms Q):
  Dt (fP sz eT (m+1) va (.sl m 0 1 sz) (K.put m (cl sz new))) pd r pG F (K.put m (cl sz new)) (m+1) ms Q:=by
 refine aC.app (k:=1) (new:=new) (ow.alL _ (aM _)) (bM (by simp)) (by simp) (by omega) hs (by omega) hbig hby h1 λ K2 o2 g2=>hgo K2 o2 λ c hc hb=>?_;rw[g2 c (by omega) (λ e=>hb (by rw[e];rfl))];simp[show ¬c=m by omega]
end
theorem yV {H:Hp}{n:Nat}{gv:AV}{L:List Val}{i N:Nat}(hg:aC H n gv (bU Val.cells L) L.length 3)(h:i+N<=L.length)(hN:N<=16)(hi:i<1000):bO pG 101 [gv,iI (i:Int),iI (N:Int)] H n (ai ((L.drop i).take N)) H n:=by
 refine Ry hg (ru _ _) (by simp[hg.lC]) λ H0 ht hg=>?_;refine ar.of c101 (by simp[A101]) λ F hF=>?_;simp[A101,hF]
 refine aG.of (λ q F K m ms=>∃(j:Nat) (va:AV),q=N - j/\j<=N/\aC K m va (bU Val.cells ((L.drop i).take j)) j 3/\(∀c,blk va=some c->n<=c)/\n<=m/\(∀c,c<n->K.get c=H0.get c)/\F.get 0=some gv/\F.get 1=some (iI (i:Int))/\F.get 2=some (iI (N:Int))/\F.get 7=some va/\F.get 8=some (iI (j:Int))/\ms=[]) N
  ⟨0,cB,rfl,by omega,by simpa[bU]using aC.nil H0 n 3,by simp,aM _,λ _ _=>rfl,by simp[hF],by simp[hF],by simp[hF],by simp,by simp,rfl⟩ ?_
 clear hF F;rintro q F K m ms ⟨j,va,rfl,hj,ow,hb,hm,hk,f0,f1,f2,f7,f8,rfl⟩
 by_cases hlt:j<N
 ·have w:IntKind.i64.wrap ((i:Int)+(j:Int))=((i+j:Nat):Int):=by rw[aY _ (by omega) (by omega)];omega
  have gK:aC K m gv (bU Val.cells L) L.length 3:=hg.frame hm λ c hc=>hk c (hg.ba hc);obtain⟨b,y,rfl,hbm,hy,ho,hix,hld⟩:=gK.at (λ a=>a.aE) (i:=i+j) (by omega);have hsn:=vO L i j (by omega);rw[<-w]at hix;generalize L[i+j]=v at *;generalize (i+j)*3=o at *;simp only[Val.cells]at hld;simp[Kv,f8,f2,hlt,f7,f0,f1,fH,hix,hld];refine mZ ow (by simp) (by simp) (by omega) (by unfold big;omega) (by omega) λ K2 o2 g2=>?_;simp[ZC,f8,aY ((j:Int)+1) (by omega) (by omega)];refine⟨_,by omega,j+1,rfl,by omega,_,?_,λ c hc=>?_,by omega,λ c hc=>(g2 c (by omega) λ e=>?_).trans (hk c hc),by simp[f0],by simp[f1],by simp[f2],rfl,by simp⟩
  ·rw[hsn,ei];simpa[bU,Val.cells]using o2
  ·simp at hc;omega
  have:=hb c e;omega
 obtain rfl:j=N:=by omega
 simp[Kv,f8,f2,ZB,f7];refine⟨?_,hk⟩;rw[ai,iR];have:=ow.SK hb (by rw[<-iR];simp) (by omega);rw[show ((L.drop i).take j).length=j by simp;omega];exact this
end Go.Abs
namespace Go.Abs
open List
open Go.Proofs
open Classical
set_option maxRecDepth 100000
theorem xg (v u:Val):ah pG 125 [v.av,u.av] (.aW [iI (v.cmp u).1,iI (v.cmp u).2]):=by
 refine pv c125 λ F hF=>?_;unfold Val.cmp;simp[A125,hF,Val.av];refine au.pure (rL v) ?_;generalize hv:v.may=p
 cases p with
 |false =>
  simp[J5];exact fp
 |true =>
  simp;refine au.pure (rL u) ?_;generalize hu:u.may=p
  cases p with
  |false =>
   simp[J5];exact fp
  |true =>
   simp[YW];refine au.pure (Dq v u hv hu) ?_;simp;exact fp
set_option maxHeartbeats 2000000 in
theorem ar2 (x : j8) (s : dw) (row:List Val)(h1:x.cols.length<=1048576)(h2:s.eq.length<=1048576)(_h3:row.length<=1048576):ah pG 99 [x.av,s.av,ai row] (.bool (rR x s row)):=by
 refine pv c99 λ F hF=>?_
 by_cases hn:s.n<=x.cols.length
 ·have g1 : ¬ x.cols.length < s.eq.length:=by unfold dw.n at hn;split at hn<;>omega
  have qW : ∀ (F:Fr)(H:Hp)(m c:Nat)(v:Val),F.get 2=some (ai row)->F.get 4=some (.ptr 1 0)->F.get 11=some (iI (c:Int)) ->
    H.get 1=cl 11 s.cells->(∀i,i<s.n->Es x.cols s.eq row i)->(hc:c<row.length)->x.cols[s.eq.length]?=some (c:Int)->row[c]=v->(s.eJ||s.fc)=true ->
    (s.eJ=true->mJ v s.lo s.iL=true) ->
    VC pG (.seq (.seq xH (.cond (ao 137) (.seq BS (.seq nD (.cond (ao 168) (.seq qZ .ret) .skip))) .skip)) (.seq tD .ret)) F H m []
     (fQ [aB 6] λ v1 H' _=>fW H'.get v1 (.bool (rR x s row))):=by
   intro F H m c v f2 f4 f11 k1 hall hc hcc pD mN hlow;have k1':=k1;simp only[dw.cells]at k1'
   cases hh:s.fc with
   |false =>
    rw[kZ ⟨hn,hall,λ _=>⟨c,hc,hcc,λ hl=>by rw[pD];exact hlow hl,λ h=>by rw[hh]at h;cases h⟩⟩];simp[xH,tD,f4,k1',hh];exact .bool rfl
   |true =>
    have hr:=cr (k:=.i64) hc;rw[pD]at hr;simp[xH,BS,f4,k1',hh];refine bD.of (cL (l:=[(125,[v.av,s.hi.av],λ H n=>.mk (.aW [iI (v.cmp s.hi).1,iI (v.cmp s.hi).2]) H n)]) ?_) ?_
    ·simp only[fD];rintro y rfl;exact aQ (xg v s.hi)
    simp [ab, f2,f4,f11,k1',ai,hr,cY];rw[show [v.av,AV.agg [AV.int IntKind.i64 s.hi.kind,AV.int IntKind.i64 s.hi.num,AV.str s.hi.s] 3]=[v.av,s.hi.av]from rfl,bK]
    have hbad:qH v s.hi s.lJ=false->¬inP x s row:=λ hb h=>by
     obtain⟨c',hc',e1,_,e2⟩:=h.2.2 mN;rw[hcc]at e1;injection e1 with e1;have:c=c':=by omega
     subst this;rw[pD,hb]at e2;exact aj (e2 hh) (by simp)
    have hgood:qH v s.hi s.lJ=true->inP x s row:=λ hb=>⟨hn,hall,λ _=>⟨c,hc,hcc,λ hl=>by rw[pD];exact hlow hl,λ _=>by rw[pD];exact hb⟩⟩;generalize hq:v.cmp s.hi=q;obtain⟨q1,q2⟩:=q;simp only[qH,hq]at hbad hgood
    by_cases a1:q2=0
    ·by_cases a2:s.hi.kind=0
     ·rw[bo (hbad (by simp[a2]))];simp[ab,f4,k1',nD,qZ,a1,a2];exact .bool rfl
     by_cases a3:0<q1
     ·rw[bo (hbad (by simp[a3]))];simp[ab,f4,k1',nD,qZ,a1,a2,a3];exact .bool rfl
     by_cases a4:q1=0
     ·cases a5:s.lJ with
      |false =>
       rw[bo (hbad (by simp[a4,a5]))];simp[ab,f4,k1',nD,qZ,a1,a2,a4,a5];exact .bool rfl
      |true =>
       rw[kZ (hgood (by simp[a1,a2,a4,a5]))];simp[ab,f4,k1',nD,tD,a1,a2,a4,a5];exact .bool rfl
     rw[kZ (hgood (by simp[a1,a2,a3,a4]))];simp[ab,f4,k1',nD,tD,a1,a2,a3,a4];exact .bool rfl
    rw[bo (hbad (by simp[a1]))];simp[nD,qZ,a1];exact .bool rfl
  have cont : ∀ (F : Fr) (H : Hp) (m:Nat),F.get 2=some (ai row)->F.get 3=some (.ptr 0 0)->F.get 4=some (.ptr 1 0)->F.get 7=some (iI (s.eq.length:Int))->F.get 8=some (.bool (s.eJ||s.fc)) ->
    H.get 0=cl 6 x.cells->H.get 1=cl 11 s.cells ->
    VC pG (.seq (.seq Uk (.block 0 (.loop NJ))) (.seq (.seq Iu (.cond (ao 81) (.seq Ir .ret) .skip)) (.seq q8 (.seq (.seq q7 (.cond (ao 102) (.seq xI .ret) .skip)) (.seq (.seq BU (.cond (ao 104) (.seq Iq (.seq oW (.cond (ao 135) (.seq tG .ret) .skip))) .skip)) (.seq (.seq xH (.cond (ao 137) (.seq BS (.seq nD (.cond (ao 168) (.seq qZ .ret) .skip))) .skip)) (.seq tD .ret))))))) F H m []
     (fQ [aB 6] λ v1 H' _=>fW H'.get v1 (.bool (rR x s row))):=by
   intro F H m f2 f3 f4 f7 f8 k0 k1;simp[Uk]
   refine aG.of (λ k F K m ms=>∃i,k=s.eq.length - i/\i<=s.eq.length/\F.get 2=some (ai row)/\F.get 3=some (.ptr 0 0)/\F.get 4=some (.ptr 1 0)/\F.get 7=some (iI (s.eq.length:Int)) /\
    F.get 8=some (.bool (s.eJ||s.fc))/\F.get 9=some (iI (i:Int)) /\
    K.get 0=cl 6 x.cells/\K.get 1=cl 11 s.cells/\ms=[]/\∀j,j<i->Es x.cols s.eq row j) s.eq.length ⟨0,by simp[f2,f3,f4,f7,f8,k0,k1]⟩ ?_
   rintro k F K m ms ⟨i,rfl,hi,f2,f3,f4,f7,f8,f9,k0,k1,rfl,hj⟩;have k0':=k0;have k1':=k1;simp only[j8.cells]at k0';simp only[dw.cells]at k1';have hnn:s.eq.length<=s.n:=by unfold dw.n;split<;>omega
   by_cases hlt:i<s.eq.length
   ·have hic:i<x.cols.length:=by omega
    have hx:=rO (l:=x.cols) (k:=.i64) hic;have hcc:x.cols[i]?=some x.cols[i]:=dU hic;simp[NJ,f3,f7,f9,k0',hlt,hx];refine bD.of (bh (P:=pG)) ?_;generalize hcv:x.cols[i]=c at hcc
    by_cases c0:c<0
    ·rw[bo λ h=>by
      obtain⟨cn,_,h1,_⟩:=h.2.1 i (by omega);rw[hcc]at h1;injection h1 with h1;omega]
     simp[ab,c0,F4,ai];exact .bool rfl
    obtain⟨cn,rfl⟩:=Int.eq_ofNat_of_zero_le (show 0<=c by omega);have hneg:¬((cn:Int)<0):=by omega
    by_cases c1:cn<row.length
    ·have c1':¬row.length<=cn:=by omega
     have hr:=cr (k:=.i64) c1;generalize pD:row[cn]=v at hr;have he:=cr (k:=.i64) hlt;generalize hev:s.eq[i]=u at he
     by_cases c2:u.kind=0
     ·rw[bo λ h=>by
       obtain⟨cm,_,h1,h2,h4⟩:=h.2.1 i (by omega);rw[hcc]at h1;injection h1 with h1;have:cn=cm:=by omega
       subst this;have h4:=h4 hlt;rw[hev]at h4;rw[h4]at h2;exact h2 c2]
      simp[ab,f2,f4,f9,k1',F4,ai,c1',hneg,he,dP,c2];exact .bool rfl
     by_cases c3:v=u
     ·subst c3;simp[ab,f2,f3,f4,f7,f8,f9,k1',ai,c1',hneg,hr,dP,c2,he,cY,nq,Ul,ax i (by omega)];refine⟨s.eq.length - (i+1),by omega,i+1,rfl,hlt,by omega,k0,rfl,λ j hj'=>?_⟩
      by_cases e:j=i
      ·subst e;exact⟨cn,c1,hcc,by rw[pD];exact c2,λ h=>by rw[pD,hev]⟩
      exact hj j (by omega)
     rw[bo λ h=>by
      obtain⟨cm,_,h1,_,h2⟩:=h.2.1 i (by omega);rw[hcc]at h1;injection h1 with h1;have:cn=cm:=by omega
      subst this;have h2:=h2 hlt;rw[pD,hev]at h2;exact c3 h2]
     simp[ab,f2,f4,f9,k1',F4,ai,c1',hneg,hr,dP,c2,he,cY,nq,c3];exact .bool rfl
    rw[bo λ h=>by
     obtain⟨cm,h0,h1,_⟩:=h.2.1 i (by omega);rw[hcc]at h1;injection h1 with h1;omega]
    have:row.length<=cn:=by omega
    simp[ab,f2,F4,ai,hneg,this];exact .bool rfl
   have:i=s.eq.length:=by omega
   subst this;simp[NJ,f7,f9,Iu,f8];cases mN:(s.eJ||s.fc)with
   |false =>
    have e:s.n=s.eq.length:=by simp[dw.n,mN]
    rw[kZ ⟨hn,by rw[e];exact hj,λ h=>by rw[mN]at h;cases h⟩];have hl:s.eJ=false:=by cases hq:s.eJ<;>simp[hq]at mN ⊢
    have hh:s.fc=false:=by cases hq:s.fc<;>simp[hq]at mN ⊢
    simp[hl,hh,Ir];exact .bool rfl
   |true =>
    have e:s.n=s.eq.length+1:=by simp only[dw.n,mN,if_true]
    have hic:s.eq.length<x.cols.length:=by omega
    have hx:=rO (l:=x.cols) (k:=.i64) hic;have hcc:x.cols[s.eq.length]?=some x.cols[s.eq.length]:=dU hic
    have hnot:(!s.eJ&&!s.fc)=false:=by
     cases hq:s.eJ<;>cases hq':s.fc<;>simp[hq,hq']at mN ⊢
    generalize hcv:x.cols[s.eq.length]=c at hcc hx
    have hlast:Es x.cols s.eq row s.eq.length->∃(cn:Nat) (h:cn<row.length),c=(cn:Int)/\row[cn].kind≠0:=λ h=>by
     obtain⟨cn,h0,h1,h2,_⟩:=h;rw[hcc]at h1;injection h1 with h1;exact⟨cn,h0,h1,h2⟩
    by_cases c0:c<0
    ·rw[bo λ h=>by
      obtain⟨cn,_,h1,_⟩:=hlast (h.2.1 s.eq.length (by omega));omega]
     simp[hnot,q8,f3,f7,k0',hx,q7,xI,c0];exact .bool rfl
    obtain ⟨cn, rfl⟩:=Int.eq_ofNat_of_zero_le (show 0<=c by omega);have hneg:¬((cn:Int)<0):=by omega
    by_cases c1:cn<row.length
    ·have c1':¬row.length<=cn:=by omega
     have hr:=cr (k:=.i64) c1;generalize pD:row[cn]=v at hr
     by_cases c2:v.kind=0
     ·rw[bo λ h=>by
       obtain⟨cm,_,h1,h2⟩:=hlast (h.2.1 s.eq.length (by omega));have:cn=cm:=by omega
       subst this;rw[pD]at h2;exact h2 c2]
      simp[hnot,q8,f2,f3,f7,k0',hx,q7,xI,ai,c1',hneg,hr,dP,c2];exact .bool rfl
     have hall : ∀ i,i<s.n->Es x.cols s.eq row i:=λ j hj'=>by
      by_cases ej:j=s.eq.length
      ·subst ej;exact⟨cn,c1,hcc,by rw[pD];exact c2,λ h=>aj h (Nat.lt_irrefl _)⟩
      exact hj j (by omega)
     cases hl:s.eJ with
     |false =>
      have hh:s.fc=true:=by simpa[hl]using mN
      simp[hl,hh,q8,f2,f3,f4,f7,k0',k1',hx,q7,BU,ai,c1',hneg,hr,dP,c2];refine qW _ _ _ cn v ?_ ?_ ?_ ?_ hall c1 hcc pD mN (λ h=>by rw[hl]at h;cases h)<;>simp[f2,f4,k1,ai]
     |true =>
      simp[hl,q8,f2,f3,f4,f7,k0',k1',hx,q7,BU,ai,c1',hneg,hr,dP,c2,Iq];refine bD.of (cL (l:=[(125,[v.av,s.lo.av],λ H n=>.mk (.aW [iI (v.cmp s.lo).1,iI (v.cmp s.lo).2]) H n)]) ?_) ?_
      ·simp only[fD];rintro y rfl;exact aQ (xg v s.lo)
      simp [ab, f2,f4,k1',ai,hr,cY];rw[show [v.av,AV.agg [AV.int IntKind.i64 s.lo.kind,AV.int IntKind.i64 s.lo.num,AV.str s.lo.s] 3]=[v.av,s.lo.av]from rfl,bK]
      have hbad:mJ v s.lo s.iL=false->¬inP x s row:=λ hb h=>by
       obtain⟨c',hc',e1,e2,_⟩:=h.2.2 mN;rw[hcc]at e1;injection e1 with e1;have:cn=c':=by omega
       subst this;rw[pD,hb]at e2;exact aj (e2 hl) (by simp)
      generalize hq:v.cmp s.lo=q;obtain⟨q1,q2⟩:=q;have hgood:mJ v s.lo s.iL=true->s.eJ=true->mJ v s.lo s.iL=true:=λ hb _=>hb;have hlo:mJ v s.lo s.iL=(!(decide (q2≠0)||decide (s.lo.kind=0)||decide (q1<0)||(decide (q1=0)&&!s.iL))):=by simp only[mJ,hq]
      rw[hlo]at hbad
      by_cases a1:q2=0
      ·by_cases a2:s.lo.kind=0
       ·rw[bo (hbad (by simp[a2]))];simp[ab,f4,k1',oW,tG,a1,a2];exact .bool rfl
       by_cases a3:q1<0
       ·rw[bo (hbad (by simp[a3]))];simp[ab,f4,k1',oW,tG,a1,a2,a3];exact .bool rfl
       by_cases a4:q1=0
       ·cases a5:s.iL with
        |false =>
         rw[bo (hbad (by simp[a4,a5]))];simp[ab,f4,k1',oW,tG,a1,a2,a4,a5];exact .bool rfl
        |true =>
         simp[ab,f4,k1',oW,a1,a2,a4,a5];refine qW _ _ _ cn v ?_ ?_ ?_ ?_ hall c1 hcc pD mN (hgood (by rw[hlo];simp[a1,a2,a4,a5]))<;>simp[ab,f2,f4,k1,ai]
       simp[ab,f4,k1',oW,a1,a2,a3,a4];refine qW _ _ _ cn v ?_ ?_ ?_ ?_ hall c1 hcc pD mN (hgood (by rw[hlo];simp[a1,a2,a3,a4]))<;>simp[ab,f2,f4,k1,ai]
      rw[bo (hbad (by simp[a1]))];simp[oW,tG,a1];exact .bool rfl
    rw[bo λ h=>by
     obtain⟨cm,h0,h1,_⟩:=hlast (h.2.1 s.eq.length (by omega));omega]
    have:row.length<=cn:=by omega
    simp[hnot,q8,f2,f3,f7,k0',hx,q7,xI,hneg,this,ai];exact .bool rfl
  cases hl:s.eJ with
  |true =>
   have e:s.n=s.eq.length+1:=by simp[dw.n,hl]
   have g2:¬x.cols.length<s.eq.length+1:=by omega
   simp[A99,hF,j8.av,j8.cells,dw.av,dw.cells,g1,hl,ax _ (show s.eq.length<2147483648 by omega)];rw[show decide ((x.cols.length:Int)<(s.eq.length:Int)+1)=false by simp;omega];refine cont _ _ _ ?_ ?_ ?_ ?_ ?_ ?_ ?_<;>simp[hF,j8.cells,dw.cells,hl]
  |false =>
   cases hh:s.fc with
   |true =>
    have e:s.n=s.eq.length+1:=by simp[dw.n,hh]
    simp[A99,hF,j8.av,j8.cells,dw.av,dw.cells,g1,hl,hh,ax _ (show s.eq.length<2147483648 by omega)];rw[show decide ((x.cols.length:Int)<(s.eq.length:Int)+1)=false by simp;omega];refine cont _ _ _ ?_ ?_ ?_ ?_ ?_ ?_ ?_<;>simp[hF,j8.cells,dw.cells,hl,hh]
   |false =>
    simp[A99,hF,j8.av,j8.cells,dw.av,dw.cells,g1,hl,hh];refine cont _ _ _ ?_ ?_ ?_ ?_ ?_ ?_ ?_<;>simp[hF,j8.cells,dw.cells,hl,hh]
 rw[bo λ h=>hn h.1]
 by_cases g1:x.cols.length<s.eq.length
 ·cases hl:s.eJ<;>cases hh:s.fc <;>
  ·simp[A99,hF,j8.av,j8.cells,dw.av,dw.cells,g1,hl,hh];exact .bool rfl
 simp only[Nat.not_lt]at g1;have g2:s.eq.length=x.cols.length:=by unfold dw.n at hn;split at hn<;>omega
 have g3:(s.eJ||s.fc)=true:=by
  unfold dw.n at hn;split at hn
  ·assumption
  omega
 have hw:=ax _ (show s.eq.length<2147483648 by omega);have g4:¬x.cols.length<s.eq.length:=by omega
 cases hl:s.eJ with
 |true =>
  simp[A99,hF,j8.av,j8.cells,dw.av,dw.cells,g4,hl,hw];rw[show decide ((x.cols.length:Int)<(s.eq.length:Int)+1)=true by simp;omega];simp;exact .bool rfl
 |false =>
  have hh:s.fc=true:=by simpa[hl]using g3
  simp[A99,hF,j8.av,j8.cells,dw.av,dw.cells,g4,hl,hh,hw];rw[show decide ((x.cols.length:Int)<(s.eq.length:Int)+1)=true by simp;omega];simp;exact .bool rfl
structure Pl where
 t:Int
 r:Int
def Pl.cells (p:Pl):List AV:=[iI p.t,iI p.r]
@[simp] theorem Pl.aE (p:Pl):p.cells.length=2:=rfl
theorem Re (p:Pl):aX p.cells=true:=by simp[Pl.cells]
theorem KZ (l:List Pl):aT (bU Pl.cells l):=by
 induction l with
 |nil=>simp[bU]
 |cons a r ih=>simp[bU,Pl.cells,ih]
def AW (l:List Pl):AV:=.ds (bU Pl.cells l) l.length 2
def rE (k:Int)(p:List Val->Bool)(rows:List (List Val)):Nat->List Pl
 |0=>[]
 |i+1=>rE k p rows i++(match rows[i]? with|some r=>if p r=true then [⟨k,i⟩]else []|none=>[])
theorem AU (k:Int)(p:List Val->Bool)(rows:List (List Val))(i:Nat):(rE k p rows i).length<=i:=by
 induction i with
 |zero=>simp[rE]
 |succ i ih =>
  rw[rE,length_append]
  have:(match rows[i]? with|some r=>if p r=true then [(⟨k,i⟩:Pl)]else []|none=>[]).length<=1:=by
   split
   ·split<;>simp
   simp
  omega
def K7 (w:er)(t:Int)(p:List Val->Bool):List Pl:=match w.bQ.tables.findIdx? (λ x=>decide (x.id=t))with
 |none=>[]
 |some k=>if h:k<w.rows.length then rE k p w.rows[k] w.rows[k].length else []
theorem KX (s:eF) (hs:s.aO) (t:Int):ah pG 98 [fA.av s,.int .u32 t] (iI (lI (λ x:iP=>decide (x.id=t)) s.tables)):=by
 have hl:=hs.t;unfold bm at hl;refine pv c98 λ F hF=>?_;simp[A98,hF,aN.av,bJ]
 refine aG.of (λ q F K m ms=>∃i:Nat,q=s.tables.length - i/\i<=s.tables.length/\(∀(j:Nat) (h:j<s.tables.length),j<i->s.tables[j].id≠t)/\F.get 1=some (.int .u32 t)/\F.get 2=some (.ptr 0 0)/\F.get 5=some (iI (i:Int))/\K.get 0=cl 2 [bf.ds s.tables,aR.ds s.indexes]/\ms=[]) s.tables.length
  ⟨0,rfl,by omega,λ _ _ h=>by omega,by simp[hF],by simp,by simp,by simp,rfl⟩ ?_
 clear hF F;rintro q F K m ms ⟨i,rfl,hi,hj,f1,f2,f5,k0,rfl⟩
 by_cases h:i<s.tables.length
 ·have hx:=bf.ix (ik:=.i64) h
  have hj1:s.tables[i].id≠t->∀(j:Nat) (h:j<s.tables.length),j<i+1->s.tables[j].id≠t:=λ h0 j h1 h2=>by
   by_cases e:j=i
   ·subst e;exact h0
   exact hj j h1 (by omega)
  have hfd:s.tables[i].id=t->lI (λ x:iP=>decide (x.id=t)) s.tables=i:=λ h0=>by
   unfold lI;rw[findIdx?_eq_some_iff_getElem.2 ⟨h,by simpa using h0,λ j hji=>by simpa using hj j (by omega) hji⟩]
  generalize s.tables[i]=u at *;rw[cT]at hx
  by_cases he:u.id=t
  ·simp[NK,f5,f2,k0,aN.aF,h,hx,f1,he];rw[hfd he];exact fp
  simp[NK,f5,f2,k0,aN.aF,h,hx,f1,he,ax i (by omega)]
  trace_state
  exact⟨_,by omega,i+1,rfl,by omega,hj1 he,by simp⟩
 obtain rfl:i=s.tables.length:=by omega
 have e:lI (λ x:iP=>decide (x.id=t)) s.tables = -1:=by
  unfold lI
  rw[findIdx?_eq_none_iff.2 λ x hx=>by
   obtain⟨j,h1,rfl⟩:=getElem_of_mem hx;simpa using hj j h1 h1]
 simp[NK,f5,f2,k0,aN.aF,ad3,e];exact fp
theorem Rb {w:er}{t:Int}{p:List Val->Bool}(h:w.bQ.tables.findIdx? (λ x=>decide (x.id=t))=none):K7 w t p=[]:=by
 unfold K7;rw[h]
theorem Eh {w:er}{t:Int}{p:List Val->Bool}{k:Nat}(h:w.bQ.tables.findIdx? (λ x=>decide (x.id=t))=some k)(hk:k<w.rows.length):K7 w t p=rE k p w.rows[k] w.rows[k].length:=by
 unfold K7;rw[h];simp[hk]
theorem zY (w:er):AV.agg ((bw.cells w).take 2) 2=fA.av w.bQ:=by simp[fa,aN.av,bJ]
theorem v9 {k:Int}{p:List Val->Bool}{rows:List (List Val)}{i:Nat}(h:i<rows.length):rE k p rows (i+1)=rE k p rows i++(if p rows[i]=true then [⟨k,i⟩]else []):=by
 rw[rE,dU h]
theorem aaS {H:Hp}{n:Nat}{gv:AV}{L:List Val}{w:er}(hw:w.aO) (hl:w.rows.length=w.bQ.tables.length) (x:Ins) (h1:x.op=1) (hg:aC H n gv (bU Val.cells L) L.length 3):bO pG 65 [bw.av w,x.av,gv] H n (AW (K7 w x.id (λ _=>true))) H n:=by
 refine Ry hg (ru _ _) (by simp[hg.lC,Pure.lC]) λ H0 ht hg=>?_;refine ar.of c65 (by simp[A65]) λ F hF=>?_;have hp:=KX w.bQ hw.s x.id;simp[A65,hF,Ins.av,aN.av,h1];simp[Ins.cells,h1,aeM];rw[zY];refine au.pure hp ?_;simp[aeL];generalize hK:Tr.put _ (n+1) _=K0;have k0:K0.get n=cl 3 (bw.cells w):=by rw[<-hK];simp
 have kb:∀b,b<n->K0.get b=H0.get b:=λ b hb=>by rw[<-hK];simp[cg hb]
 clear hK;unfold lI;have hwl:=hw.l;unfold bm at hwl
 cases hk:w.bQ.tables.findIdx? (λ u=>decide (u.id=x.id))with
 |none =>
  rw[Rb hk];refine aG.ofU 0 (jy.step ?_);simp[NQ,U8];exact⟨.nil _,kb⟩
 |some k =>
  have hkl:k<w.rows.length:=by
   rw[findIdx?_eq_some_iff_getElem]at hk;rw[hl];exact hk.1
  rw[Eh hk hkl];have hrl:=hw.t _ (bT hkl);unfold bm at hrl;have hx:=jJ.ix (ik:=.i64) hkl;rw[lg]at hx;generalize w.rows[k]=rows at *
  refine aG.of (λ q F K m ms=>∃(j:Nat) (va:AV),q=rows.length - j/\j<=rows.length/\aC K m va (bU Pl.cells (rE k (λ _=>true) rows j)) (rE k (λ _=>true) rows j).length 2/\(∀c,blk va=some c->n+1+1<=c)/\n+1+1<=m/\(∀c,c<n+1->K.get c=K0.get c)/\F.get 3=some (.ptr n 0)/\F.get 7=some va/\F.get 8=some (iI (k:Int))/\F.get 9=some (iI (j:Int))/\ms=[]) rows.length
   ⟨0,cB,rfl,by omega,by simpa[bU,rE]using aC.nil K0 _ 2,by simp,aM _,λ _ _=>rfl,by simp,by simp,by simp,by simp,rfl⟩ ?_
  clear hp hF F;rintro q F K m ms ⟨j,va,rfl,hj,ow,hb,hm,hkk,f3,f7,f8,f9,rfl⟩;have k1:=(hkk n (by omega)).trans k0;rw[fa]at k1;have hsn:=v9 (k:=k) (p:=λ _=>true) (rows:=rows) (i:=j);have hle:=AU k (λ _=>true) rows j
  by_cases hlt:j<rows.length
  ·have hsn:=hsn hlt;rw[ak rfl]at hsn;simp[NQ,f3,f7,f8,f9,k1,hx,show (0:Int)<=(k:Int) by omega,bV,hlt];refine mZ ow (by simp) (by simp) (by omega) (by unfold big;omega) (by omega) λ K2 o2 g2=>?_;simp[aeK,f9,ax j (by omega)];refine⟨_,by omega,j+1,rfl,by omega,_,?_,λ c hc=>?_,by omega,λ c hc=>(g2 c (by omega) λ e=>?_).trans (hkk c hc),by simp[f3],rfl,by simp[f8],by simp⟩
   ·rw[hsn,ei,length_append];simpa[bU,Pl.cells]using o2
   ·simp at hc;omega
   have:=hb c e;omega
  obtain rfl:j=rows.length:=by omega
  simp[NQ,f3,f7,f8,f9,k1,hx,show (0:Int)<=(k:Int) by omega,bV,U8];refine⟨?_,λ c hc=>(hkk c (by omega)).trans (kb c hc)⟩;exact ow.SK (λ c hc=>by have:=hb c hc;omega) (KZ _) (by omega)
def wF (w:er)(id:Int)(sp:dw):Nat->List Pl
 |0=>[]
 |q+1=>wF w id sp q++(match w.bQ.indexes[q]? with|some ix=>if ix.id=id then K7 w ix.table (rR ix.idx sp)else []|none=>[])
theorem wC {w:er}{id:Int}{sp:dw}{q:Nat}(h:q<w.bQ.indexes.length):wF w id sp (q+1)=wF w id sp q++(if w.bQ.indexes[q].id=id then K7 w w.bQ.indexes[q].table (rR w.bQ.indexes[q].idx sp)else []):=by
 rw[wF,dU h]
theorem aaT {w:er}(hw:w.aO)(t:Int)(p:List Val->Bool):(K7 w t p).length<=bm:=by
 unfold K7
 split
 ·simp[bm]
 split
 ·rename_i h;exact rC (AU _ _ _ _) (hw.t _ (bT h))
 simp[bm]
theorem abG {w:er}(hw:w.aO) (id:Int) (sp:dw) (q:Nat):(wF w id sp q).length<=q*bm:=by
 induction q with
 |zero=>simp[wF]
 |succ q ih =>
  rw[wF,length_append,Nat.add_mul]
  have:(match w.bQ.indexes[q]? with|some ix=>if ix.id=id then K7 w ix.table (rR ix.idx sp)else []|none=>[]).length<=bm:=by
   split
   ·split
    ·exact aaT hw _ _
    simp[bm]
   simp[bm]
  omega
def oa (ev:AV)(s:dw):List AV:=[ev,.bool s.eJ,iI s.lo.kind,iI s.lo.num,.str s.lo.s,.bool s.iL,.bool s.fc,iI s.hi.kind,iI s.hi.num,.str s.hi.s,.bool s.lJ]
structure PF (n:Nat)(w:er)(x:Ins)(ev:AV)(sp:dw)(K:Hp)(m:Nat):Prop where
 kw:K.get n=cl 3 (bw.cells w)
 ki:K.get (n+1)=cl 15 x.cells
 ks:K.get (n+2)=cl 11 (oa ev sp)
 ko:aC K m ev (bU Val.cells sp.eq) sp.eq.length 3
 lt:n+2<m
theorem PF.mono {n:Nat}{w:er}{x:Ins}{ev:AV}{sp:dw}{K K':Hp}{m:Nat}(P:PF n w x ev sp K m)(h:∀c,c<m->K'.get c=K.get c):PF n w x ev sp K' m:=by
 have:=P.lt;exact⟨(h _ (by omega)).trans P.kw,(h _ (by omega)).trans P.ki,(h _ (by omega)).trans P.ks,P.ko.frame (aM _) λ c hc=>h c (P.ko.ba hc),P.lt⟩
theorem PF.lD {n:Nat}{w:er}{x:Ins}{ev:AV}{sp:dw}{K:Hp}{m:Nat}(P:PF n w x ev sp K m):fW K.get (.agg (oa ev sp) 11) sp.av:=by
 refine .agg _ _ _ (.cons _ _ _ _ ?_ (.pure (by simp)));have:=P.ko.lD (l':=eG sp.eq) (by rw[iR];exact .pure (by rw[<-iR];simp)) (by omega);exact this
structure PG (n:Nat)(va:AV)(F:Fr):Prop where
 f3:F.get 3=some (.ptr n 0)
 f4:F.get 4=some (.ptr (n+1) 0)
 f7:F.get 7=some va
 f10:F.get 10=some (.ptr (n+2) 0)
theorem zj {n:Nat}{w:er}{x:Ins}{ev:AV}{sp:dw}(hw:w.aO) (hso:eK w.bQ) (hl:w.rows.length=w.bQ.tables.length) (hsp:sp.eq.length<=bm) (F:Fr) (K:Hp) (m:Nat) (G:PG n cB F) (P:PF n w x ev sp K m) (H0:Hp) (h0:∀c,c<n->K.get c=H0.get c):
  VC pG (.seq (.seq xM (.block 4 (.loop Ap))) (.seq xK .ret)) F K m [] (fQ [aB 6] λ u K' _=>fW (above n K') u (AW (wF w x.id sp w.bQ.indexes.length))/\∀c,c<n->K'.get c=H0.get c):=by
 have P0:=P;obtain⟨f3,f4,f7,f10⟩:=G;have hil:=hso.i;simp[xM]
 refine aG.of (λ t F K' m' ms=>∃(q:Nat) (va:AV),t=w.bQ.indexes.length - q/\q<=w.bQ.indexes.length/\aC K' m' va (bU Pl.cells (wF w x.id sp q)) (wF w x.id sp q).length 2/\(∀c,blk va=some c->m<=c)/\m<=m'/\(∀c,c<m->K'.get c=K.get c)/\PG n va F/\F.get 12=some (iI (q:Int))/\ms=[]) w.bQ.indexes.length
  ⟨0,cB,rfl,by omega,by simpa[bU,wF]using aC.nil K _ 2,by simp,aM _,λ _ _=>rfl,⟨by simp[f3],by simp[f4],by simp[f7],by simp[f10]⟩,by simp,rfl⟩ ?_
 clear f3 f4 f7 f10 F;rintro t F K' m' ms ⟨q,va,rfl,hq,ow,hb,hm,hkk,⟨f3,f4,f7,f10⟩,f12,rfl⟩;have P:=P0.mono hkk;have k1:=P.kw;have k2:=P.ki;rw[fa]at k1;simp only[Ins.cells]at k2;have hlm:=abG hw x.id sp q;have hlm2:(wF w x.id sp q).length<=64*1048576:=rC hlm (Nat.mul_le_mul (by omega) (aM _))
 by_cases hlt:q<w.bQ.indexes.length
 ·have hx := aR.ix (ik:=.i64) hlt;have hsn:=wC (id:=x.id) (sp:=sp) hlt;have hld:=λ H=>aR.sC w.bQ.indexes[q] (aR.l (w.bQ.indexes.drop (q+1))) H;have hcl:=hw.s.ic _ (bT hlt)
  have htb:∃k,w.bQ.tables.findIdx? (λ t=>decide (t.id=w.bQ.indexes[q].table))=some k:=by
   have:=(hso.ixs q hlt).table;unfold eF.table jI at this
   split at this
   ·rename_i t ht;rw[find?_eq_some_iff_getElem]at ht;obtain⟨h1,i,h2,h3,h4⟩:=ht;exact⟨i,findIdx?_eq_some_iff_getElem.2 ⟨h2,by rw[h3];exact h1,λ j hj=>by have:=h4 j hj;simpa using this⟩⟩
   cases this
  obtain⟨k,hk⟩:=htb
  have hkl:k<w.rows.length:=by
   have:=hk;rw[findIdx?_eq_some_iff_getElem]at this;rw[hl];exact this.1
  have hp:=KX w.bQ hw.s w.bQ.indexes[q].table;rw[Eh hk hkl]at hsn;unfold lI at hp;rw[hk]at hp;have hrl:=hw.t _ (bT hkl);have hrr:=λ r hr=>(hw.r _ (bT hkl) r hr).1;have hxr:=jJ.ix (ik:=.i64) hkl;rw[lg]at hxr;generalize w.rows[k]=rows at *;generalize w.bQ.indexes[q]=ix at *;unfold bm at hrl;simp[Ap,f3,f12,k1,aN.aF,hlt,hx,hld,aN.av];generalize hK2:Tr.put (Tr.put K' m' _) m' _=K2;have kn:K2.get m'=cl 6 (aR.cells ix):=by rw[<-hK2];simp
  have kb:∀c,c<m'->K2.get c=K'.get c:=λ c hc=>by rw[<-hK2];simp[show ¬c=m' by omega]
  clear hK2;have hbm:∀c,blk va=some c->c<m':=λ c hc=>ow.ba hc;have ow:aC K2 (m'+1) va (bU Pl.cells (wF w x.id sp q)) (wF w x.id sp q).length 2:=ow.frame (by omega) λ c hc=>kb c (ow.ba hc);have P:=P0.mono λ c hc=>(kb c (by omega)).trans (hkk c hc);have k1:=P.kw;have k2:=P.ki;rw[fa]at k1;simp only[Ins.cells]at k2;have zD:=kn;rw[cJ]at zD
  by_cases hid:ix.id=x.id
  ·simp[IH,zD,f4,k2,hid,U',f3,k1];rw[ak hid]at hsn;simp only[aN.av,bJ]at hp;refine au.pure hp ?_;simp[U_];have hle2:=AU k (rR ix.idx sp) rows
   refine aG.of (λ t F K3 m3 ms=>∃(j:Nat) (vb:AV),t=rows.length - j/\j<=rows.length/\aC K3 m3 vb (bU Pl.cells (wF w x.id sp q++rE k (rR ix.idx sp) rows j)) (wF w x.id sp q++rE k (rR ix.idx sp) rows j).length 2/\(∀c,blk vb=some c->m<=c/\c≠m')/\m'+1<=m3/\(∀c,c<m->K3.get c=K.get c)/\K3.get m'=cl 6 (aR.cells ix)/\PG n vb F/\F.get 12=some (iI (q:Int))/\F.get 13=some (.ptr m' 0)/\F.get 14=some (iI (k:Int))/\F.get 15=some (iI (j:Int))/\ms=[]) rows.length
    ⟨0,va,rfl,by omega,by simpa[rE]using ow,λ c hc=>⟨hb c hc,by have:=hbm c hc;omega⟩,aM _,λ c hc=>(kb c (by omega)).trans (hkk c hc),kn,⟨by simp[f3],by simp[f4],by simp[f7],by simp[f10]⟩,by simp[f12],by simp,by simp,by simp,rfl⟩ ?_
   clear ow P k1 k2 kn zD kb hkk hbm hb f3 f4 f7 f10 f12 hp;rintro t F K3 m3 ms ⟨j,vb,rfl,hj,ow,hb,hm3,hkk,kn,⟨f3,f4,f7,f10⟩,f12,f13,f14,f15,rfl⟩;have P:=P0.mono hkk;have k1:=P.kw;have k3:=P.ks;rw[fa]at k1;have Po:=v9 (k:=k) (p:=rR ix.idx sp) (rows:=rows) (i:=j);have hle:=hle2 j
   by_cases hjl:j<rows.length
   ·have Po:=Po hjl;have hxx:=fk (k:=.i64) hjl;have eZ:=ar2 ix.idx sp rows[j] hcl hsp (hrr _ (bT hjl));have e3:ix.idx.av=aR.av ix:=by simp[j8.av,aN.av,ix.Pn]
    rw[e3]at eZ;generalize rows[j]=row at *;have hcall:bO pG 99 [.agg (aR.cells ix) 6,.agg (oa ev sp) 11,ai row] K3 m3 (.bool (rR ix.idx sp row)) K3 m3:=eZ.ace (by simp) m3 (.cons _ _ _ _ fp (.cons _ _ _ _ P.lD (.cons _ _ _ _ fp .nil)));have h1:(ai row).one=true:=rfl;have h2:(bV rows).one=true:=rfl;simp[ZM,f14,f15,f3,k1,hxr,bV,hjl];refine bD.of (ny (l:=[⟨99,[.agg (aR.cells ix) 6,.agg (oa ev sp) 11,ai row],K3,m3,.bool (rR ix.idx sp row),K3,m3⟩]) ?_) ?_
    ·simp only[fD];rintro _ rfl;exact hcall
    have DK:K3.get (n+1+1)=cl 11 (oa ev sp):=k3;have hls:(oa ev sp).length=11:=rfl;simp[ab,f13,kn,f10,DK,f3,k1,f14,hxr,f15,hxx,bV,lk];have hn1:(wF w x.id sp q++rE k (rR ix.idx sp) rows j).length<=64*1048576+1048576:=by rw[length_append];omega
    cases hb0:rR ix.idx sp row with
    |true =>
     rw[ak hb0]at Po;simp[U9,ab,f7,f14,f15];refine mZ ow (by simp) (by simp) (by omega) (by unfold big;omega) (by omega) λ K4 o4 g4=>?_;simp[IG,ab,f15,ax j (by omega)];refine⟨_,by omega,j+1,rfl,by omega,.sl (m3+1) 0 ((wF w x.id sp q++rE k (rR ix.idx sp) rows j).length+1) 2,?_,λ c hc=>?_,by omega,λ c hc=>(g4 c (by omega) λ e=>?_).trans (hkk c hc),(g4 m' (by omega) λ e=>(hb m' e).2 rfl).trans kn,⟨by simp[ab,f3],by simp[ab,f4],by simp,by simp[ab,f10]⟩,by simp[f12],by simp[f13],by simp[f14],by simp⟩
     ·rw[Po,<-append_assoc,ei,length_append];simpa[bU,Pl.cells,Nat.add_assoc]using o4
     ·simp at hc;omega
     have:=(hb c e).1;omega
    |false =>
     rw[ae (by rw[hb0];simp),append_nil]at Po;simp[IG,ab,f15,ax j (by omega)];refine⟨_,by omega,j+1,rfl,by omega,vb,by rw[Po];simpa using ow,hb,by omega,hkk,kn,⟨by simp[ab,f3],by simp[ab,f4],by simp[ab,f7],by simp[ab,f10]⟩,by simp[f12],by simp[f13],by simp[f14],by simp⟩
   obtain rfl:j=rows.length:=by omega
   simp[ZM,f14,f15,f3,k1,hxr,bV,IE,f12,ax q (by omega)];refine⟨_,by omega,q+1,rfl,by omega,vb,by rw[hsn];exact ow,λ c hc=>(hb c hc).1,by omega,hkk,⟨by simp[f3],by simp[f4],by simp[f7],by simp[f10]⟩,by simp⟩
  rw[ae hid,append_nil]at hsn;simp[IH,zD,f4,k2,hid,IE,f12,ax q (by omega)];refine⟨_,by omega,q+1,rfl,by omega,va,by rw[hsn];exact ow,hb,by omega,λ c hc=>(kb c (by omega)).trans (hkk c hc),⟨by simp[f3],by simp[f4],by simp[f7],by simp[f10]⟩,by simp⟩
 obtain rfl:q=w.bQ.indexes.length:=by omega
 simp[Ap,f3,f12,k1,aN.aF,xK,f7];have:=P0.lt;refine⟨?_,λ c hc=>(hkk c (by omega)).trans (h0 c hc)⟩;exact ow.SK (λ c hc=>by have:=hb c hc;omega) (KZ _) (by omega)
end Go.Abs
