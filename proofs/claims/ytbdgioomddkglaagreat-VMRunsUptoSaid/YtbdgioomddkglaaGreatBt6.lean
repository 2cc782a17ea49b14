/- A part. -/
import Derived.Test.YtbdgioomddkglaaGreatBt5
import Derived.Test.YtbdgioomddkglaaGreatVmD
noncomputable section
namespace Go.Abs
open List
open Go.Proofs
open Classical
set_option maxRecDepth 100000
theorem QH {a b:List Val}(ha:He a)(hb:He b):(0<=fY b a)↔¬(0<qc a b):=by
 rw[Ec ha hb];have:=KL ha hb;omega
theorem amj (w:er)(i:Nat)(h:i<w.rows.length)(hL:(w.rows[i]).length<=bm)(hl:∀l∈w.rows[i],l.length<=bm)(hm:∀l∈w.rows[i],He l)(F:Fr)(K:Hp)(n:Nat)(Q:QA)(f1:F.get 1=some (.ptr 0 0))(k0:K.get 0=cl 3 [bf.ds w.bQ.tables,aR.ds w.bQ.indexes,jJ.ds w.rows])(f3:F.get 3=some (iI (i:Int)))(f5:F.get 5=some (iI 1))
  (k1:¬mh w.rows[i]->∀F',F'.get 2=some (.bool false)->Q .ret F' K n [])
  (k2:mh w.rows[i]->∀F',F'.get 1=F.get 1->F'.get 3=F.get 3->Q (.exit 2) F' K n []):aG acM pG F K n [] Q:=by
 have hx:=jJ.ix (ik:=.i64) h;rw[lg]at hx;generalize hLL:w.rows[i]=L at *;unfold bm at hL;refine aG.of (λ q F' K' n' ms=>∃j:Nat,q=L.length - j/\F'.get 1=F.get 1/\F'.get 3=F.get 3/\F'.get 5=some (iI ((j+1:Nat):Int))/\j<=L.length/\(∀k,k<j->∀h:k+1<L.length,0<=fY L[k+1] (L[k]'(by omega)))/\K'=K/\n'=n/\ms=[]) L.length ⟨0,by simp,rfl,rfl,by simpa using f5,by omega,λ k hk=>by omega,rfl,rfl,rfl⟩ ?_;clear f5;rintro q F' K' n' ms ⟨j,rfl,g1,g3,f5,hj,hk,rfl,rfl,rfl⟩;have g1':=g1.trans f1;have g3':=g3.trans f3
 by_cases h:j+1<L.length
 ·have ha:=fk (k:=.i64) (show j<L.length by omega);have hb:=fk (k:=.i64) h;have ho:=acI (L[j]'(by omega)) L[j+1] (hl _ (bT _)) (hl _ (bT _)) (hm _ (bT _)) (hm _ (bT _));have hsr:=QH (hm _ (bT (show j<L.length by omega))) (hm _ (bT h));have w1:IntKind.i64.wrap (((j+1:Nat):Int) - 1)=(j:Int):=by rw[aY _ (by omega) (by omega)];omega
  have w2:=ax (j+1) (by omega)
  have hk1:(0<=fY L[j+1] (L[j]'(by omega)))->∀k,k<j+1->∀h:k+1<L.length,0<=fY L[k+1] (L[k]'(by omega)):=λ h0 k h2 h3=>by
   by_cases e:k=j
   ·subst e;exact h0
   exact hk k (by omega) h3
  have hbad:¬(0<=fY L[j+1] (L[j]'(by omega)))->¬mh L:=λ h0 h2=>h0 (h2 j h);generalize L[j+1]=b at *;generalize L[j]'(by omega)=a at *;generalize hc:j+1=c at *;simp[acM,f5,g1',g3',k0,hx,bV,h];refine bD.of (cL (l:=[(21,[ai a,ai b],λ H n=>.mk (iI (qc a b)) H n)]) ?_) ?_
  ·simp only[fD];rintro y rfl;exact aQ ho
  by_cases h0:0<qc a b
  ·simp[ab,g1',g3',f5,k0,hx,bV,ha,hb,w1,bK,h0,aeD];exact k1 (hbad (λ h1=>(hsr.1 h1) h0)) _ (by simp)
  simp[ab,g1',g3',f5,k0,hx,bV,ha,hb,w1,bK,h0,aeC,w2,f1,f3];exact⟨_,by omega,c,rfl,rfl,by omega,hk1 (hsr.2 h0)⟩
 simp[acM,f5,g1',g3',k0,hx,bV,show ¬((j:Int)+1<(L.length:Int)) by omega];refine k2 (λ k h1=>hk k (by omega) h1) _ ?_ ?_
 ·simp[g1',f1]
 simp[g3',f3]
theorem amk (w:er)(hw:w.aO):ah pG 6 [bw.av w] (.bool (decide (fL w))):=by
 refine pv c6 λ F hF=>?_;have EP:=aml w.bQ hw.s hw.g;simp only[aN.av,bJ]at EP;have hst:=hw.s.t;have hl:=hw.l;unfold bm at hst hl;simp[A6,hF,aN.av,fa];refine au.pure EP ?_
 by_cases h0:eK w.bQ
 ·by_cases h1:w.rows.length=w.bQ.tables.length
  ·simp[h0,aN.aF,h1,aoZ];refine aG.of (λ q F K n ms=>∃i,q=w.rows.length - i/\i<=w.rows.length/\F.get 1=some (.ptr 0 0)/\F.get 3=some (iI (i:Int))/\K.get 0=cl 3 [bf.ds w.bQ.tables,aR.ds w.bQ.indexes,jJ.ds w.rows]/\0<n/\(∀j (hj:j<i) (h1:j<w.rows.length) (h2:j<w.bQ.tables.length),BO w.bQ w.bQ.tables[j] w.rows[j])/\ms=[]) w.rows.length ⟨0,by simp,by omega,by simp,by simp,by simp,by omega,λ j hj=>by omega,rfl⟩ ?_;clear hF F;rintro q F K n ms ⟨i,rfl,hi,f1,f3,k0,n0,hk,rfl⟩
   by_cases h:i<w.rows.length
   ·have h2:i<w.bQ.tables.length:=by omega
    have hx:=jJ.ix (ik:=.i64) h;have hy:=bf.ix (ik:=.i64) h2;have wr:=ax i (by omega);have htm:w.rows[i]∈w.rows:=bT h;have hTm:w.bQ.tables[i]∈w.bQ.tables:=bT h2;have hrf:=h0.rows hw.g hTm w.rows[i];have hlt:=hw.t _ htm;have hrr:=hw.r _ htm;have hno:∀P:Prop,(BO w.bQ w.bQ.tables[i] w.rows[i]->P)->¬P->¬fL w:=λ P a b c=>b (a (c.t i h h2))
    have hyes:BO w.bQ w.bQ.tables[i] w.rows[i]->∀j (hj:j<i+1) (h1:j<w.rows.length) (h2:j<w.bQ.tables.length),BO w.bQ w.bQ.tables[j] w.rows[j]:=λ a j hj h1 h2=>by
     by_cases e:j=i
     ·subst e;exact a
     exact hk j (by omega) h1 h2
    have loop:=amj w i h hlt (λ r hr=>(hrr r hr).1);rw[lg]at hx;rw[cT]at hy;generalize w.rows[i]=L at *;generalize w.bQ.tables[i]=t at *;have hwr:=DI w.bQ t L hw.s.i hw.s.ic hlt hrr hrf.eZ;simp only[aN.av,bJ,cT]at hwr;simp[ajK,f1,f3,k0,aN.aF,h,hy,Qr,aN.av,cT];generalize hK:Tr.put (Tr.put K n _) n _=K2;have q0:K2.get 0=cl 3 [bf.ds w.bQ.tables,aR.ds w.bQ.indexes,jJ.ds w.rows]:=by rw[<-hK,Tr.get_put,ae (by omega),Tr.get_put,ae (by omega),k0]
    have qn:K2.get n=cl 4 [.int .u32 t.id,.str t.name,cN.ds t.cols,.int .u32 t.head]:=by rw[<-hK];simp
    clear hK
    by_cases h4:4096<L.length
    ·have:=hno (L.length<=4096) (λ a=>a.len) (by omega);refine bD.of (bh (P:=pG)) ?_;simp[ab,f1,f3,q0,hx,bV,show (4096:Int)<(L.length:Int) by omega,acC];exact .bool (by simp[this])
    by_cases h5:j1 w.bQ t L=0
    ·have hfit:∀r∈L,nk t.cols r=0:=λ r hr=>vG ((tB _ _ _).1 h5 r hr);have hul:=Ue w.bQ t hw.s.i hw.s.ic L hlt (λ r hr=>(hrr r hr).2) (λ x hx r hr=>hrf.eZ r hr (nj (hfit r hr)).2.1 x hx);simp only[aN.av,bJ,cT]at hul;rw[h5]at hwr;obtain⟨bq,hbq⟩:∃b,b=decide (lx w.bQ t.id L):=⟨_,rfl⟩;rw[<-hbq]at hul
     have t1:∀(b:Bool) (H:Hp) (n:Nat),(yz [((19:Nat),[.agg [bf.ds w.bQ.tables,aR.ds w.bQ.indexes] 2,.agg [.int .u32 t.id,.str t.name,cN.ds t.cols,.int .u32 t.head] 4,.ds (bn L) L.length 1],λ H n=>.mk (iI 0) H n),(20,[.agg [bf.ds w.bQ.tables,aR.ds w.bQ.indexes] 2,.agg [.int .u32 t.id,.str t.name,cN.ds t.cols,.int .u32 t.head] 4,.ds (bn L) L.length 1],λ H n=>.mk (.bool b) H n)]).call 20 [.agg [bf.ds w.bQ.tables,aR.ds w.bQ.indexes] 2,.agg [.int .u32 t.id,.str t.name,cN.ds t.cols,.int .u32 t.head] 4,.ds (bn L) L.length 1] H n=kV (.mk (.bool b) H n):=λ b H n=>by
      rw[tj (λ e=>by cases e),bK]
     refine bD.of (cL (l:=[(19,[.agg [bf.ds w.bQ.tables,aR.ds w.bQ.indexes] 2,.agg [.int .u32 t.id,.str t.name,cN.ds t.cols,.int .u32 t.head] 4,.ds (bn L) L.length 1],λ H n=>.mk (iI 0) H n),(20,[.agg [bf.ds w.bQ.tables,aR.ds w.bQ.indexes] 2,.agg [.int .u32 t.id,.str t.name,cN.ds t.cols,.int .u32 t.head] 4,.ds (bn L) L.length 1],λ H n=>.mk (.bool bq) H n)]) ?_) ?_
     ·simp only[mem_cons,not_mem_nil,or_false];rintro y (rfl|rfl)
      ·exact aQ hwr
      exact aQ hul
     have t2:=t1 bq
     cases bq with
     |true =>
      have h6:lx w.bQ t.id L:=of_decide_eq_true hbq.symm;simp[ab,f1,f3,q0,qn,hx,bV,show ¬(4096:Int)<(L.length:Int) by omega,bK,t2,aoY];refine loop (λ r hr=>(nj (hfit r hr)).2.2.2.2) _ _ _ _ ?_ q0 ?_ ?_ (λ hb F' g2=>?_) λ hs F' g1 g3=>?_
      ·simp[ab,f1]
      ·simp[ab,f3]
      ·simp
      ·have:=hno (mh L) (λ a=>a.srt) hb;simp[g2];exact .bool (by simp[this])
      simp[ab,f1,f3]at g1 g3;simp[aeB,g3,wr,g1,q0];exact⟨_,by omega,i+1,rfl,by omega,rfl,hyes ⟨by omega,h5,hs,h6⟩⟩
     |false =>
      have:=hno (lx w.bQ t.id L) (λ a=>a.uq) (of_decide_eq_false hbq.symm);simp[ab,f1,f3,q0,qn,hx,bV,show ¬(4096:Int)<(L.length:Int) by omega,bK,t2,acC];exact .bool (by simp[this])
    have:=hno (j1 w.bQ t L=0) (λ a=>a.w) h5;refine bD.of (cL (l:=[(19,[.agg [bf.ds w.bQ.tables,aR.ds w.bQ.indexes] 2,.agg [.int .u32 t.id,.str t.name,cN.ds t.cols,.int .u32 t.head] 4,.ds (bn L) L.length 1],λ H n=>.mk (iI (j1 w.bQ t L)) H n)]) ?_) ?_
    ·simp only[fD];rintro y rfl;exact aQ hwr
    simp[ab,f1,f3,q0,qn,hx,bV,show ¬(4096:Int)<(L.length:Int) by omega,bK,h5,acC];exact .bool (by simp[this])
   obtain rfl:i=w.rows.length:=by omega
   have:fL w:=⟨h0,h1,λ j a b=>hk j a a b⟩;simp[ajK,f1,f3,k0,aN.aF,h1,aeA];exact .bool (by simp[this])
  have:¬fL w:=λ h=>h1 h.l;simp[h0,aN.aF,h1,ajA];exact .bool (by simp[this])
 have:¬fL w:=λ h=>h0 h.s;simp[h0,ajA];exact .bool (by simp[this])
def To:aN (List Val) 1:=⟨λ r=>[ai r],λ _=>rfl,λ _=>by simp,λ _=>by simp[aX,AV.one,ai]⟩
theorem anS (r:List Val):To.cells r=[ai r]:=rfl
theorem Tn (L:List (List Val)):To.l L=bn L:=by
 induction L with
 |nil=>rfl
 |cons a r ih=>rw[aN.kX,ih];rfl
theorem BA (L:List (List Val)):To.ds L=bV L:=by simp[aN.ds,bV,Tn]
structure Cp9 (w:er)(i:Nat)(vr:AV)(K:Hp)(m:Nat):Prop where
 hm:3<=m
 k0:K.get 0=cl 3 [bf.ds w.bQ.tables,aR.ds w.bQ.indexes,jJ.ds w.rows]
 k1:K.get 1=cl 3 [.aI (.slice none 0 0),.aI (.slice none 0 0),.aI (.slice none 0 0)]
 k2:K.get 2=cl 3 [bf.ds w.bQ.tables,aR.ds w.bQ.indexes,vr]
 o:aC K m vr (jJ.l (w.rows.take i)) i 1
 d:∀c,blk vr=some c->3<=c
theorem aiS (w:er)(i:Nat)(h:i<w.rows.length)(hl:(w.rows[i]).length<=bm)(hr:∀r∈w.rows[i],r.length<=bm)(vr:AV)(F:Fr)(K:Hp)(m:Nat)(Q:QA)(f1:F.get 1=some (.ptr 0 0))(f2:F.get 2=some (.ptr 1 0))(f3:F.get 3=some (.ptr 2 0))(f4:F.get 4=some (iI (i:Int)))(f5:F.get 5=some (.aI (.slice none 0 0)))(f6:F.get 6=some (iI 0))(M:Cp9 w i vr K m)
  (hQ:∀u F' K' m',F'.get 1=some (.ptr 0 0)->F'.get 2=some (.ptr 1 0)->F'.get 3=some (.ptr 2 0)->F'.get 4=some (iI (i:Int))->F'.get 5=some u->Cp9 w i vr K' m'->aC K' m' u (To.l w.rows[i]) (w.rows[i]).length 1->(∀c,blk u=some c->3<=c/\blk vr≠some c)->Q (.exit 2) F' K' m' []):aG acL pG F K m [] Q:=by
 have hx:=jJ.ix (ik:=.i64) h;rw[lg]at hx;generalize hLL:w.rows[i]=L at *;unfold bm at hl;refine aG.ofZ (λ q F K m ms=>∃(k:Nat) (u:AV),q=L.length - k/\k<=L.length/\F.get 1=some (.ptr 0 0)/\F.get 2=some (.ptr 1 0)/\F.get 3=some (.ptr 2 0)/\F.get 4=some (iI (i:Int))/\F.get 5=some u/\F.get 6=some (iI (k:Int))/\Cp9 w i vr K m/\aC K m u (To.l (L.take k)) k 1/\(∀c,blk u=some c->3<=c/\blk vr≠some c)/\ms=[]) L.length (Zs.refl ⟨0,_,by simp,by simp,f1,f2,f3,f4,f5,f6,M,by simpa using aC.nil _ _ 1,by simp,rfl⟩) ?_;clear f1 f2 f3 f4 f5 f6 M F K m;rintro q1 F K m ms ⟨k,u,rfl,hk,f1,f2,f3,f4,f5,f6,M,ou,du,rfl⟩;have k0:=M.k0;have hm:=M.hm
 by_cases hlt:k<L.length
 ·have hy:=fk (k:=.i64) hlt;have hrl:=hr _ (bT hlt);have wk:=ax k (by omega);have hta:=λ c h=>M.o.ba (c:=c) h;have hua:=λ c h=>ou.ba (c:=c) h;have hou:=ou.dI;have e:=take_snoc hlt;generalize L[k]=r at *;simp[acL,f1,f4,f6,k0,hx,bV,hlt,f5,show ¬ 0=m by omega,hy];rw[<-LJ];refine app0 qT r hrl (by omega) λ v K2 m2 hm2 hv dv g2=>?_;have hone:=hv.dI;obtain⟨hl1,hl2⟩:=hv.O6;simp[hone,hl1,hl2,rep];generalize hK3:Tr.put K2 m2 _=K3;have g3:∀c,c<m2->K3.get c=K2.get c:=λ c h2=>by rw[<-hK3];simp[cg h2]
  have x3:K3.get m2=cl 1 [v]:=by rw[<-hK3];simp
  clear hK3;have ou3:aC K3 (m2+1) u (To.l (L.take k)) k 1:=ou.frame (by omega) λ c hc=>(g3 c (by have:=hua c hc;omega)).trans (g2 c (hua c hc));refine aC.PR (k:=1) (new:=[v]) ou3 (bM x3) (by simp) (by simp) (by omega) (by omega) (by unfold big;omega) (by omega) (by simp[hone]) λ K4 o4 g4=>?_;simp[aoW,f6,wk];generalize hF2:(Fp 6 _ _:Fr)=F2;have w1:F2.get 1=some (.ptr 0 0):=by rw[<-hF2];simp[f1]
  have w2:F2.get 2=some (.ptr 1 0):=by rw[<-hF2];simp[f2]
  have w3:F2.get 3=some (.ptr 2 0):=by rw[<-hF2];simp[f3]
  have w4:F2.get 4=some (iI (i:Int)):=by rw[<-hF2];simp[f4]
  have w5:F2.get 5=some (.sl (m2+1) 0 (k+1) 1):=by rw[<-hF2];simp
  have w6:F2.get 6=some (iI ((k+1:Nat):Int)):=by rw[<-hF2];simp
  clear hF2;have bk:∀c,c<m->blk u≠some c->K4.get c=K.get c:=λ c h1 h3=>(g4 c (by omega) h3).trans ((g3 c (by omega)).trans (g2 c h1))
  have ov5:aC K4 (m2+1+1) v (qT.l r) r.length 3:=hv.frame (by omega) λ c hc=>by
   have h1:=dv c hc;have h2:=hv.ba hc;exact(g4 c (by omega) λ h=>by have:=hua c h;omega).trans (g3 c h2)
  have nv:∀c,c<m->blk v≠some c:=λ c h1 h2=>by have:=dv c h2;omega
  obtain⟨hh,K6,hsh,oa6,g6⟩:=uY (F:=F2) (F2:=F2) (l:=To.l (L.take k)) (r:=[]) (λ t v hv=>hv) o4 (by omega) ov5 (by omega) (by simp) (λ c hc hc2=>by
   have:=hv.ba hc2;simp at hc;omega)
  have na:∀c,c<m->blk (AV.sl (m2+1) 0 (k+1) 1)≠some c:=λ c h1 h2=>by simp at h2;omega
  have nu:∀c,c<3->blk u≠some c:=λ c h1 h2=>by have:=(du c h2).1;omega
  have full:∀c,c<m->blk u≠some c->K6.get c=K.get c:=λ c h1 h2=>(g6 c (na c h1) (nv c h1)).trans (bk c h1 h2);refine⟨L.length - (k+1),by omega,hh,F2,K6,hsh,k+1,rfl,by omega,w1,w2,w3,w4,_,w5,w6,⟨by omega,?_,?_,?_,?_,M.d⟩,?_,λ c hc=>?_,rfl⟩
  ·exact(full 0 (by omega) (nu 0 (by omega))).trans M.k0
  ·exact(full 1 (by omega) (nu 1 (by omega))).trans M.k1
  ·exact(full 2 (by omega) (nu 2 (by omega))).trans M.k2
  ·exact M.o.frame (by omega) λ c hc=>full c (hta c hc) λ h=>(du c h).2 hc
  ·rw[e,aN.mK,aN.zB,anS,<-LJ];exact oa6
  simp at hc;subst hc;exact⟨by omega,λ h=>by have:=hta _ h;omega⟩
 obtain rfl:k=L.length:=by omega
 rw[eS (aM _)]at ou;simp[acL,f1,f4,f6,k0,hx,bV];refine hQ u _ K m ?_ ?_ ?_ ?_ ?_ M ou du
 ·simp[f1]
 ·simp[f2]
 ·simp[f3]
 ·simp[f4]
 simp[f5]
theorem an2 (w:er)(hw:w.aO):ah pG 9 [bw.av w] (bw.av w):=by
 refine pv c9 λ F hF=>?_;have EP:=an3 w.bQ hw.s;simp only[aN.av,bJ]at EP;have hl:=hw.l;unfold bm at hl;simp[A9,hF,aN.av,fa];refine au.pure EP ?_;simp[aoX];generalize hK:Tr.put (Tr.put _ 2 _) 2 _=K;have k0:K.get 0=cl 3 [bf.ds w.bQ.tables,aR.ds w.bQ.indexes,jJ.ds w.rows]:=by rw[<-hK];simp
 have k1:K.get 1=cl 3 [.aI (.slice none 0 0),.aI (.slice none 0 0),.aI (.slice none 0 0)]:=by rw[<-hK];simp
 have k2:K.get 2=cl 3 [bf.ds w.bQ.tables,aR.ds w.bQ.indexes,.aI (.slice none 0 0)]:=by rw[<-hK];simp
 clear hK;refine aG.ofZ (λ q F K m ms=>∃(i:Nat) (vr:AV),q=w.rows.length - i/\i<=w.rows.length/\F.get 1=some (.ptr 0 0)/\F.get 2=some (.ptr 1 0)/\F.get 3=some (.ptr 2 0)/\F.get 4=some (iI (i:Int))/\Cp9 w i vr K m/\ms=[]) w.rows.length (Zs.refl ⟨0,.aI (.slice none 0 0),by simp,by simp,by simp,by simp,by simp,by simp,⟨by omega,k0,k1,k2,by simpa using aC.nil _ _ 1,by simp⟩,rfl⟩) ?_;clear hF F k0 k1 k2 K;rintro q1 F K m ms ⟨i,vr,rfl,hi,f1,f2,f3,f4,M,rfl⟩;have k0:=M.k0;have hm:=M.hm
 by_cases hlt:i<w.rows.length
 ·have htm:w.rows[i]∈w.rows:=bT hlt;have wi:=ax i (by omega);have e:=take_snoc hlt;simp[ajJ,f1,f4,k0,aN.aF,hlt];refine aiS w i hlt (hw.t _ htm) (λ r hr=>(hw.r _ htm r hr).1) vr _ _ _ _ (by simp[f1]) (by simp[f2]) (by simp[f3]) (by simp[f4]) (by simp) (by simp) M λ u F K m f1 f2 f3 f4 f5 M ou du=>?_;have hm:=M.hm;have k2:=M.k2;have hta:=λ c h=>M.o.ba (c:=c) h;have hua:=λ c h=>ou.ba (c:=c) h;have hone:=ou.dI;obtain⟨hl1,hl2⟩:=ou.O6;simp[aoV,f3,k2,f5,hone,hl1,hl2,rep];generalize hK3:Tr.put K m _=K3;have g3:∀c,c<m->K3.get c=K.get c:=λ c h2=>by rw[<-hK3];simp[cg h2]
  have x3:K3.get m=cl 1 [u]:=by rw[<-hK3];simp
  clear hK3;have or3:aC K3 (m+1) vr (jJ.l (w.rows.take i)) i 1:=M.o.frame (by omega) λ c hc=>g3 c (hta c hc);refine aC.PR (k:=1) (new:=[u]) or3 (bM x3) (by simp) (by simp) (by omega) (by omega) (by unfold big;omega) (by omega) (by simp[hone]) λ K4 o4 g4=>?_;have nr:∀c,c<3->blk vr≠some c:=λ c h1 h2=>by have:=M.d c h2;omega
  have k24:=(g4 2 (by omega) (nr 2 (by omega))).trans ((g3 2 (by omega)).trans k2);simp[f3,k24,ad2,f4,wi];generalize hK5:Tr.put K4 2 _=K5;have g5:∀c,c≠2->K5.get c=K4.get c:=λ c hc=>by rw[<-hK5];simp[hc]
  have x5:K5.get 2=cl 3 [bf.ds w.bQ.tables,aR.ds w.bQ.indexes,.sl (m+1) 0 (i+1) 1]:=by rw[<-hK5];simp
  clear hK5;generalize hF2:(Fp 4 _ _:Fr)=F2;have w1:F2.get 1=some (.ptr 0 0):=by rw[<-hF2];simp[f1]
  have w2:F2.get 2=some (.ptr 1 0):=by rw[<-hF2];simp[f2]
  have w3:F2.get 3=some (.ptr 2 0):=by rw[<-hF2];simp[f3]
  have w4:F2.get 4=some (iI ((i+1:Nat):Int)):=by rw[<-hF2];simp
  clear hF2;have bk:∀c,c<m->c≠2->blk vr≠some c->K5.get c=K.get c:=λ c h1 h2 h3=>(g5 c h2).trans ((g4 c (by omega) h3).trans (g3 c h1));have oa5:aC K5 (m+1+1) (.sl (m+1) 0 (i+1) 1) (jJ.l (w.rows.take i)++u::[]) (i+1) 1:=o4.frame (by omega) λ c hc=>g5 c (by simp at hc;omega);have ov5:aC K5 (m+1+1) u (To.l w.rows[i]) (w.rows[i]).length 1:=ou.frame (by omega) λ c hc=>bk c (hua c hc) (by have:=(du c hc).1;omega) (du c hc).2
  obtain⟨hh,K6,hsh,oa6,g6⟩:=uY (F:=F2) (F2:=F2) (λ t v hv=>hv) oa5 (by omega) ov5 (by omega) (by simp) (λ c hc hc2=>by
   have:=hua c hc2;simp at hc;omega)
  have full:∀c,c<3->K6.get c=K5.get c:=λ c h1=>g6 c (λ h=>by simp at h;omega) λ h=>by have:=(du c h).1;omega
  refine⟨w.rows.length - (i+1),by omega,hh,F2,K6,hsh,i+1,rfl,by omega,w1,w2,w3,w4,⟨.sl (m+1) 0 (i+1) 1,by omega,?_,?_,?_,?_,λ c hc=>by simp at hc;omega⟩,rfl⟩
  ·exact(full 0 (by omega)).trans ((bk 0 (by omega) (by omega) (nr 0 (by omega))).trans M.k0)
  ·exact(full 1 (by omega)).trans ((bk 1 (by omega) (by omega) (nr 1 (by omega))).trans M.k1)
  ·exact(full 2 (by omega)).trans x5
  rw[e,aN.mK,aN.zB,lg,<-BA];exact oa6
 obtain rfl:i=w.rows.length:=by omega
 have o:=M.o;rw[eS (aM _)]at o;simp[ajJ,f1,f4,k0,aN.aF,ad1,f3,M.k2,f2,M.k1,M.o.dI]
 have o':aC (K.put 1 (cl 3 [bf.ds w.bQ.tables,aR.ds w.bQ.indexes,vr])) m vr (jJ.l w.rows) w.rows.length 1:=o.frame (aM _) λ c hc=>by
  have:=M.d c hc;rw[Tr.get_put,ae (by omega)]
 exact .agg _ _ _ (.cons _ _ _ _ fp (.cons _ _ _ _ fp (.cons _ _ _ _ (o'.lD (.pure (by simp))) .nil)))
def dM (b:Bool):Val:=⟨3,if b then 1 else 0,[]⟩
def uO (k:Int)(v:Val):Bool:=decide (v.kind=0)||decide (v.kind=k)
def dq (k:Int)(l:List Val):Int:=if l.all Val.may then (if l.all (uO k)then 0 else 30)else 5
def bH (r:Val×Int):AV:=.aW [r.1.av,iI r.2]
@[simp] theorem aj0 (r:Val×Int):Pure (bH r):=by simp[bH]
theorem Av (b:Bool):ah pG 169 [.bool b] (dM b).av:=by
 refine pv c169 λ F hF=>?_;cases b
 ·simp[A169,hF];exact fp
 simp[A169,hF];exact fp
theorem DX (b:Bool):ah pG 141 [.bool b] (dM b).av:=by
 refine pv c141 λ F hF=>?_;cases b
 ·simp[A141,hF];exact fp
 simp[A141,hF];exact fp
theorem FV (p:Val->Bool)(l:List Val)(i:Nat)(h:i<l.length)(h0:(l.take i).all p=true):(l.take (i+1)).all p=p l[i]:=by
 rw[take_snoc h,all_append,h0];simp
theorem Ua (p:Val->Bool)(l:List Val)(i:Nat)(h:i<l.length)(h0:p l[i]=false):l.all p=false:=by
 rw[all_eq_false];exact⟨l[i],bT h,by simp[h0]⟩
theorem xF (k:Int) (l:List Val) (hl:l.length<=bm):ah pG 168 [iI k,ai l] (iI (dq k l)):=by
 unfold bm at hl;refine pv c168 λ F hF=>?_;simp[A168,hF,ai];refine aG.of (λ t F K n ms=>∃i,t=l.length - i/\i<=l.length/\F.get 0=some (iI k)/\F.get 1=some (ai l)/\F.get 9=some (ai l)/\F.get 10=some (iI (l.length:Int))/\F.get 11=some (iI (i:Int))/\(l.take i).all Val.may=true/\ms=[]) l.length ⟨0,by simp[hF,ai]⟩ ?_;clear hF F;rintro t F K n ms ⟨i,rfl,hi,f0,f1,f9,f10,f11,ha,rfl⟩;rw[ai]at f1 f9
 by_cases h:i<l.length
 ·have hx:=cr (k:=.i64) h;have w:=ax i (by omega);have hs:=FV Val.may l i h ha;have hn:=Ua Val.may l i h;generalize l[i]=v at *;have hm:=nM v;simp only[Val.av]at hm;simp[J',f10,f11,h,f9,hx,cY,Val.av];refine au.pure hm ?_
  cases hv:v.may with
  |true =>
   simp[X4,f11,w,f0,f1,f9,f10];exact⟨_,by omega,i+1,rfl,by omega,by simp[ai],rfl,by rw[hv]at hs;simpa using hs⟩
  |false =>
   have e:dq k l=5:=by unfold dq;rw[hn hv];rfl
   simp[X5,e];exact fp
 obtain rfl:i=l.length:=by omega
 rw[eS (aM _)]at ha;have hall:=ha;simp[J',f10,f11,X3,f1];refine aG.of (λ t F K n ms=>∃i,t=l.length - i/\i<=l.length/\F.get 0=some (iI k)/\F.get 19=some (ai l)/\F.get 20=some (iI (l.length:Int))/\F.get 21=some (iI (i:Int))/\(l.take i).all (uO k)=true/\ms=[]) l.length ⟨0,by simp[f0,ai]⟩ ?_;clear f0 f1 f9 f10 f11 F;rintro t F K n ms ⟨i,rfl,hi,f0,f19,f20,f21,ha,rfl⟩;rw[ai]at f19
 by_cases h:i<l.length
 ·have hx:=cr (k:=.i64) h;have w:=ax i (by omega);have hs:=FV (uO k) l i h ha;have hn:=Ua (uO k) l i h;generalize l[i]=v at *
  by_cases h0:v.kind=0
  ·have hk:uO k v=true:=by simp[uO,h0]
   simp[yw,f20,f21,h,f19,hx,cY,Val.av,h0,vn,w,f0];exact⟨_,by omega,i+1,rfl,by omega,by simp[ai],rfl,by rw[hk]at hs;simpa using hs⟩
  by_cases h1:v.kind=k
  ·have hk:uO k v=true:=by simp[uO,h1]
   simp[yw,f20,f21,h,f19,hx,cY,Val.av,h0,h1,vn,w,f0];simp[h1]at h0;simp[h0,vn,f19,f21,w,f0,f20];exact⟨_,by omega,i+1,rfl,by omega,by simp[ai],rfl,by rw[hk]at hs;simpa using hs⟩
  have hk:uO k v=false:=by simp[uO,h0,h1]
  have e:dq k l=30:=by unfold dq;rw[hall,hn hk];rfl
  simp[e,yw,f20,f21,h,f19,hx,cY,Val.av,h0,h1,f0];exact fp
 obtain rfl:i=l.length:=by omega
 rw[eS (aM _)]at ha;have e:dq k l=0:=by unfold dq;rw[hall,ha];rfl
 simp[e,yw,f20,f21,MX];exact fp
theorem anj {H:Hp}{b:Nat}{a:Val}(h:H.get b=cl 3 a.cells):fW H.get (.sl b 0 1 3) (ai [a]):=by
 have:=aC.lD (H:=H) (n:=b+1) (v:=.sl b 0 1 3) (l:=qT.l [a]) (len:=1) (sz:=3) ⟨by simp,.inr ⟨b,_,rfl,by omega,h,OwnB.list (l:=qT.l [a]) (by simp)⟩⟩ (.pure (by simp));rw[xa]at this;exact this
theorem LC {H:Hp}{b:Nat}{a c:Val}(h:H.get b=cl 6 (a.cells++c.cells)):fW H.get (.sl b 0 2 3) (ai [a,c]):=by
 have:=aC.lD (H:=H) (n:=b+1) (v:=.sl b 0 2 3) (l:=qT.l [a,c]) (len:=2) (sz:=3) ⟨by simp,.inr ⟨b,_,rfl,by omega,h,OwnB.list (l:=qT.l [a,c]) (by simp)⟩⟩ (.pure (by simp));rw[xa]at this;exact this
def iD (a b:Val)(r:Int×Bool):Val×Int:=if dq 1 [a,b]≠0∨a.kind=0∨b.kind=0 then (bG,dq 1 [a,b])else if r.2=true then (⟨1,r.1,[]⟩,0)else (bG,31)
theorem pe (a b:Val) (g:FuncId) (r:Int×Bool) (h:dq 1 [a,b]=0->a.kind≠0->b.kind≠0->ah pG g [iI a.num,iI b.num] (.aW [iI r.1,.bool r.2])):ah pG 166 [a.av,b.av,.fn (.func g) [] []] (bH (iD a b r)):=by
 refine pv c166 λ F hF=>?_;have hall:=xF 1 [a,b] (by simp[bm]);unfold iD;generalize dq 1 [a,b]=e at *;simp[A166,hF,Val.av,rep];refine au.lD hall (by simp) (.cons _ _ _ _ fp (.cons _ _ _ _ (LC (a:=a) (c:=b) (by simp[Val.cells])) .nil)) ?_
 by_cases h0:e=0
 ·by_cases ha:a.kind=0
  ·simp[ym,h0,ha,CY];exact fp
  by_cases hb:b.kind=0
  ·simp[ym,h0,ha,hb,CY];exact fp
  simp[ym,h0,ha,hb,X8,hF];refine au.pure (h h0 ha hb) ?_
  cases hr:r.2 with
  |true=>simp[JL,X6];exact fp
  |false=>simp[JL,X7];exact fp
 simp[ym,h0,CY];exact fp
def iH (a b:Val)(r:Bool):Val×Int:=if ¬(a.may=true/\b.may=true)then (bG,5)else if a.kind=0∨b.kind=0 then (bG,0)else if a.kind≠b.kind then (bG,30)else (dM r,0)
theorem pM (a b:Val) (g:FuncId) (r:Bool) (h:ah pG g [iI (a.ord b)] (.bool r)):ah pG 201 [a.av,b.av,.fn (.func g) [] []] (bH (iH a b r)):=by
 refine pv c201 λ F hF=>?_;have ha:=nM a;have hb:=nM b;have ho:=Ld a b;unfold iH;simp only[Val.av]at ha hb ho;simp[A201,hF,Val.av];refine au.pure ha ?_
 cases hma:a.may with
 |false=>simp[Jt];exact fp
 |true =>
  simp;refine au.pure hb ?_
  cases hmb:b.may with
  |false=>simp[Jt];exact fp
  |true =>
   by_cases h1:a.kind=0
   ·simp[xZ,h1,Js];exact fp
   by_cases h2:b.kind=0
   ·simp[xZ,h1,h2,Js];exact fp
   by_cases h3:a.kind=b.kind
   ·simp[xZ,h1,h2,Jr,h3,XE,hF];simp only[h3]at ho h1;refine au.pure ho ?_;simp;refine au.pure h ?_;simp;refine au.pure (Av r) ?_;simp[Val.av];exact fp
   simp[xZ,h1,h2,Jr,h3,XF];exact fp
def opC (c f:FuncId):CF:={res:=[bS 4 3,aB 5],code:=.seq (.eC [oP (bF 2) (E' (ao 0)),oP (bF 3) (E' (ao 1)),oP (bF 4) (ay [(iI 0),(iI 0),(.str [])] 3),oP (bF 5) (eD (aK (iI 0)))]) (.seq (.eC [oP (bF 6) (jg 3 (ao 2)),oP (bF 7) (jg 3 (ao 3)),cP (bF 8) c [(ao 6),(ao 7),(aK (.fn (.func f) [] []))],oP (bF 9) (e1 (fG 0) (ao 8)),oP (bF 10) (e1 (fG 1) (ao 8)),oP rF (cH 3 (ao 4) (ao 9)),oP (bF 5) (eD (ao 10))]) .ret),nt:=11}
theorem rJ {g c f:FuncId}(hc:PI pG g=some (opC c f)){a b:Val}{r:Val×Int}(h:ah pG c [a.av,b.av,.fn (.func f) [] []] (bH r)):ah pG g [a.av,b.av] (bH r):=by
 refine eY hc (by simp) (by simp) (by simp[opC]) λ F hF=>?_;simp only[Val.av]at h;simp[opC,hF,Val.av];refine au.pure h ?_;simp[bH,Val.av];exact fp
def qh (x:Int):Int:=IntKind.i64.wrap x
def fE:Int := -9223372036854775808
def FY (x y:Int):Int×Bool:=(qh (x+y),(decide (x<0) != decide (y<0))||(decide (qh (x+y)<0) == decide (x<0)))
def DZ (x y:Int):Int×Bool:=(qh (x - y),(decide (x<0) == decide (y<0))||(decide (qh (x - y)<0) == decide (x<0)))
def EA (x y:Int):Int×Bool:=if x=0∨y=0 then (0,true)else (qh (x*y),!((decide (x = -1)&&decide (y=fE))||(decide (y = -1)&&decide (x=fE)))&&decide (qh ((qh (x*y)).tdiv y)=x))
def BB (x y:Int):Int×Bool:=if x=fE/\y = -1 then (0,false)else (qh (x.tdiv y),true)
def EC (x y:Int):Int×Bool:=if y = -1 then (0,true)else (x.tmod y,true)
def Ez (y:Int):Int×Bool:=(qh (-y),decide (y≠fE))
theorem nA (k:IntKind)(a b:Int)(h:b≠0):bL .quo k a b=.val (.int k (k.wrap (a.tdiv b))):=by simp only[bL,dO];rw[ae h]
theorem xu (k:IntKind)(a b:Int)(h:b≠0):bL .rem k a b=.val (.int k (a.tmod b)):=by simp only[bL,dO];rw[ae h]
theorem aju (x y:Int):ah pG 196 [iI x,iI y] (.aW [iI (FY x y).1,.bool (FY x y).2]):=by
 refine pv c196 λ F hF=>?_;unfold FY qh
 by_cases h1:x<0<;>by_cases h2:y<0<;>by_cases h3:IntKind.i64.wrap (x+y)<0 <;>
 ·simp[A196,hF,h1,h2,h3,j7,je];exact fp
theorem agJ (x y:Int):ah pG 197 [iI x,iI y] (.aW [iI (DZ x y).1,.bool (DZ x y).2]):=by
 refine pv c197 λ F hF=>?_;unfold DZ qh
 by_cases h1:x<0<;>by_cases h2:y<0<;>by_cases h3:IntKind.i64.wrap (x - y)<0 <;>
 ·simp[A197,hF,h1,h2,h3,j7,je];exact fp
theorem ahI (x y:Int):ah pG 198 [iI x,iI y] (.aW [iI (EA x y).1,.bool (EA x y).2]):=by
 refine pv c198 λ F hF=>?_;unfold EA qh fE
 by_cases h1:x=0
 ·simp[A198,hF,h1];exact fp
 by_cases h2:y=0
 ·simp[A198,hF,h1,h2];exact fp
 simp[A198,hF,h1,h2];refine bD.of (bh (P:=pG)) ?_
 by_cases h3:x = -1<;>by_cases h4:y = -9223372036854775808<;>by_cases h5:y = -1<;>by_cases h6:x = -9223372036854775808 <;>
 first
 |omega
 |(simp[ab,hF,h3,h4,h5,h6,h1,h2,nA];exact fp)
theorem aiR (x y:Int)(h0:y≠0):ah pG 199 [iI x,iI y] (.aW [iI (BB x y).1,.bool (BB x y).2]):=by
 refine pv c199 λ F hF=>?_;unfold BB qh fE
 by_cases h1:x = -9223372036854775808
 ·by_cases h2:y = -1
  ·simp[A199,hF,h1,h2];exact fp
  simp[A199,hF,h1,h2,h0,nA];exact fp
 simp[A199,hF,h1,h0,nA];exact fp
theorem ahK (x y:Int)(h0:y≠0):ah pG 200 [iI x,iI y] (.aW [iI (EC x y).1,.bool (EC x y).2]):=by
 refine pv c200 λ F hF=>?_;unfold EC
 by_cases h1:y = -1
 ·simp[A200,hF,h1];exact fp
 simp[A200,hF,h1,h0,xu];exact fp
theorem ahG (x y:Int):ah pG 167 [iI x,iI y] (.aW [iI (Ez y).1,.bool (Ez y).2]):=by
 refine pv c167 λ F hF=>?_;unfold Ez qh fE;have n1:GP .neg (iI y)=.val (iI (IntKind.i64.wrap (-y))):=by simp only[GP,dO,Int.zero_sub]
 by_cases h1:y = -9223372036854775808
 ·subst h1;simp[A167,hF,n1];exact fp
 simp[A167,hF,n1,h1];exact fp
theorem anK (c:Int):ah pG 202 [iI c] (.bool (decide (c=0))):=by
 refine pv c202 λ F hF=>?_;simp[A202,hF];exact .bool (by simp)
theorem amg (c:Int):ah pG 203 [iI c] (.bool (decide (c≠0))):=by
 refine pv c203 λ F hF=>?_;simp[A203,hF];exact .bool (by simp)
theorem ams (c:Int):ah pG 204 [iI c] (.bool (decide (c<0))):=by
 refine pv c204 λ F hF=>?_;simp[A204,hF];exact .bool (by simp)
theorem amv (c:Int):ah pG 205 [iI c] (.bool (decide (c<=0))):=by
 refine pv c205 λ F hF=>?_;simp[A205,hF];exact .bool (by simp)
theorem am4 (c:Int):ah pG 206 [iI c] (.bool (decide (0<c))):=by
 refine pv c206 λ F hF=>?_;simp[A206,hF];exact .bool (by simp)
theorem ana (c:Int):ah pG 207 [iI c] (.bool (decide (0<=c))):=by
 refine pv c207 λ F hF=>?_;simp[A207,hF];exact .bool (by simp)
theorem ajW (a b:Val):ah pG 170 [a.av,b.av] (bH (iD a b (FY a.num b.num))):=rJ c170 (pe a b 196 _ λ _ _ _=>aju _ _)
theorem ajw (a b:Val):ah pG 171 [a.av,b.av] (bH (iD a b (DZ a.num b.num))):=rJ c171 (pe a b 197 _ λ _ _ _=>agJ _ _)
theorem ajH (a b:Val):ah pG 172 [a.av,b.av] (bH (iD a b (EA a.num b.num))):=rJ c172 (pe a b 198 _ λ _ _ _=>ahI _ _)
theorem apb (a b:Val):ah pG 176 [a.av,b.av] (bH (iH a b (decide (a.ord b=0)))):=rJ c176 (pM a b 202 _ (anK _))
theorem ao5 (a b:Val):ah pG 177 [a.av,b.av] (bH (iH a b (decide (a.ord b≠0)))):=rJ c177 (pM a b 203 _ (amg _))
theorem ao6 (a b:Val):ah pG 178 [a.av,b.av] (bH (iH a b (decide (a.ord b<0)))):=rJ c178 (pM a b 204 _ (ams _))
theorem ao7 (a b:Val):ah pG 179 [a.av,b.av] (bH (iH a b (decide (a.ord b<=0)))):=rJ c179 (pM a b 205 _ (amv _))
theorem ao9 (a b:Val):ah pG 180 [a.av,b.av] (bH (iH a b (decide (0<a.ord b)))):=rJ c180 (pM a b 206 _ (am4 _))
theorem ao_ (a b:Val):ah pG 181 [a.av,b.av] (bH (iH a b (decide (0<=a.ord b)))):=rJ c181 (pM a b 207 _ (ana _))
def yH (a b:Val)(r:Int×Bool):Val×Int:=if dq 1 [a,b]=0/\a.kind≠0/\b.kind≠0/\b.num=0 then (bG,32)else iD a b r
def divC (f:FuncId):CF:={A173 with code:=.seq JF (.seq (.seq JE (.cond (ao 25) (.seq JD .ret) .skip)) (.seq (.eC [oP (bF 27) (jg 3 (ao 2)),oP (bF 28) (jg 3 (ao 3)),cP (bF 29) 166 [(ao 27),(ao 28),(aK (.fn (.func f) [] []))],oP (bF 30) (e1 (fG 0) (ao 29)),oP (bF 31) (e1 (fG 1) (ao 29)),oP rF (cH 3 (ao 4) (ao 30)),oP (bF 5) (eD (ao 31))]) .ret))}
theorem Tv {g f:FuncId}(hc:PI pG g=some (divC f)){a b:Val}{r:Int×Bool}(h:b.num≠0->ah pG f [iI a.num,iI b.num] (.aW [iI r.1,.bool r.2])):ah pG g [a.av,b.av] (bH (yH a b r)):=by
 refine eY hc (by simp) (by simp) (by simp[divC,A173]) λ F hF=>?_;have hall:=xF 1 [a,b] (by simp[bm]);have hr:=λ h0=>pe a b f r λ _ _ _=>h h0;have hr2:dq 1 [a,b]≠0∨a.kind=0∨b.kind=0->ah pG 166 [a.av,b.av,.fn (.func f) [] []] (bH (iD a b r)):=λ h1=>pe a b f r λ x y z=>by rcases h1 with h1|h1|h1<;>contradiction
 unfold yH;simp only[Val.av]at hr hr2;generalize iD a b r=q at *;generalize dq 1 [a,b]=e at *;simp[divC,JF,JE,hF,Val.av,rep];refine au.lD hall (by simp) (.cons _ _ _ _ fp (.cons _ _ _ _ (LC (a:=a) (c:=b) (by simp[Val.cells])) .nil)) ?_
 by_cases h0:e=0
 ·by_cases ha:a.kind=0
  ·simp only[ha]at hr2;simp[h0,ha];refine au.pure (hr2 (.inr (.inl trivial))) ?_;simp[A173,bH,Val.av];exact fp
  by_cases hb:b.kind=0
  ·simp only[hb]at hr2;simp[h0,ha,hb];refine au.pure (hr2 (.inr (.inr trivial))) ?_;simp[A173,bH,Val.av];exact fp
  by_cases hn:b.num=0
  ·simp[h0,ha,hb,hn,JD,A173,bH,Val.av];exact fp
  simp[h0,ha,hb,hn];refine au.pure (hr hn) ?_;simp[A173,bH,Val.av];exact fp
 simp[h0];refine au.pure (hr2 (.inl h0)) ?_;simp[A173,bH,Val.av];exact fp
theorem ajS (a b:Val):ah pG 173 [a.av,b.av] (bH (yH a b (BB a.num b.num))):=Tv c173 λ h=>aiR _ _ h
theorem ajI (a b:Val):ah pG 174 [a.av,b.av] (bH (yH a b (EC a.num b.num))):=Tv c174 λ h=>ahK _ _ h
def sL:Val:=⟨1,0,[]⟩
theorem ajG (a:Val):ah pG 139 [a.av] (bH (iD sL a (Ez a.num))):=by
 refine pv c139 λ F hF=>?_;have h:=pe sL a 167 _ λ _ _ _=>ahG 0 a.num;generalize iD sL a (Ez a.num)=q at *;simp only[Val.av,sL]at h;simp[A139,hF,Val.av];refine au.pure h ?_;simp[bH,Val.av];exact fp
def uI (a:Val):Val×Int:=if dq 3 [a]≠0∨a.kind=0 then (bG,dq 3 [a])else (dM (decide (a.num=0)),0)
theorem ajF (a:Val):ah pG 140 [a.av] (bH (uI a)):=by
 refine pv c140 λ F hF=>?_;have hall:=xF 3 [a] (by simp[bm]);unfold uI;generalize dq 3 [a]=e at *;simp[A140,hF,Val.av,rep];refine au.lD hall (by simp) (.cons _ _ _ _ fp (.cons _ _ _ _ (anj (a:=a) (by simp[Val.cells])) .nil)) ?_
 by_cases h0:e=0
 ·by_cases ha:a.kind=0
  ·simp[C3,h0,ha,JS];exact fp
  simp[C3,h0,ha,YC];refine au.pure (Av _) ?_;simp[Val.av];exact fp
 simp[C3,h0,JS];exact fp
def rN (a b:Val):Val×Int:=if dq 2 [a,b]≠0∨a.kind=0∨b.kind=0 then (bG,dq 2 [a,b])else if a.s.length+b.s.length<=64 then (⟨2,0,a.s++b.s⟩,0)else (bG,3)
theorem abU {k:Int}{a b:Val}(h:dq k [a,b]=0):a.may=true/\b.may=true/\uO k a=true/\uO k b=true:=by
 unfold dq at h
 split at h
 ·rename_i h1
  split at h
  ·rename_i h2;simp at h1 h2;exact⟨h1.1,h1.2,h2.1,h2.2⟩
  omega
 omega
theorem acN (a b:Val):ah pG 175 [a.av,b.av] (bH (rN a b)):=by
 refine pv c175 λ F hF=>?_;have hall:=xF 2 [a,b] (by simp[bm]);have hfm:=abU (k:=2) (a:=a) (b:=b);unfold rN;generalize dq 2 [a,b]=e at *;simp[A175,hF,Val.av,rep];refine au.lD hall (by simp) (.cons _ _ _ _ fp (.cons _ _ _ _ (LC (a:=a) (c:=b) (by simp[Val.cells])) .nil)) ?_
 by_cases h0:e=0
 ·by_cases ha:a.kind=0
  ·simp[tK,h0,ha,CW];exact fp
  by_cases hb:b.kind=0
  ·simp[tK,h0,ha,hb,CW];exact fp
  obtain⟨m1,m2,m3,m4⟩:=hfm h0;have l1:a.s.length<=64:=Val.jO m1 (by simpa[uO,ha]using m3);have l2:b.s.length<=64:=Val.jO m2 (by simpa[uO,hb]using m4);have ws:IntKind.i64.wrap ((a.s.length:Int)+(b.s.length:Int))=((a.s.length+b.s.length:Nat):Int):=by rw[aY _ (by omega) (by omega)];omega
  by_cases hl:a.s.length+b.s.length<=64
  ·have aif:fH (.str a.s) (.str b.s)=.val (.str (a.s++b.s)):=xy (by unfold big;omega);simp[tK,h0,ha,hb,JC,ws,show ¬(64:Int)<(a.s.length:Int)+(b.s.length:Int) by omega,XW,aif,hl];exact fp
  simp[tK,h0,ha,hb,JC,ws,show (64:Int)<(a.s.length:Int)+(b.s.length:Int) by omega,XX,hl];exact fp
 simp[tK,h0,CW];exact fp
def jx (c:Bool)(a b:Val):Val×Int:=if dq 3 [a,b]≠0 then (bG,dq 3 [a,b])else if a=dM c∨b=dM c then (dM c,0)else if a.kind=0∨b.kind=0 then (bG,0)else (dM (!c),0)
def TS (c:Bool):CF:={A182 with code:=.seq JB (.seq (.seq JA (.seq CV (.cond (ao 13) (.seq Jz .ret) .skip))) (.seq (.eC [cP (bF 16) 169 [(aK (.bool c))],oP (bF 7) (ay [(iI 0),(iI 0),(.str [])] 3),oP rF (cH 3 (ao 7) (ao 16))]) (.seq (.block 0 (.seq ye (.cond (ao 17) (.seq CU .ret) (.seq yd (.cond (ao 27) (.seq CS .ret) .skip))))) (.seq (.eC [cP (bF 37) 169 [(aK (.bool (!c)))],oP rF (cH 3 (ao 4) (ao 37)),oP (bF 5) (eD (aK (iI 0)))]) .ret))))}
theorem both_ok {g:FuncId}(c:Bool) (hc:PI pG g=some (TS c)) (a b:Val):ah pG g [a.av,b.av] (bH (jx c a b)):=by
 refine eY hc (by simp) (by simp) (by simp[TS,A182]) λ F hF=>?_;have hall:=xF 3 [a,b] (by simp[bm])
 have ey:∀(v:Val),kA false [.i,.i,.s] (.agg [iI v.kind,iI v.num,.str v.s] 3) (.agg [iI (dM c).kind,iI (dM c).num,.str (dM c).s] 3)=.val (.bool (decide (v=dM c))):=λ v=>by
  have:=nq false v (dM c);simpa[Val.av]using this
 unfold jx;generalize dq 3 [a,b]=e at *;have y1:=Av c;have y2:=Av (!c);generalize dM c=y at *;generalize dM (!c)=y' at *;simp only[Val.av]at y1 y2;simp[TS,JB,JA,hF,Val.av,rep];refine au.lD hall (by simp) (.cons _ _ _ _ fp (.cons _ _ _ _ (LC (a:=a) (c:=b) (by simp[Val.cells])) .nil)) ?_
 by_cases h0:e=0
 ·simp[CV,h0];refine au.pure y1 ?_
  by_cases h1:a=y
  ·simp[ye,ey,h1,CU,A182,bH,Val.av];exact fp
  by_cases h2:b=y
  ·simp[ye,ey,h1,h2,CU,A182,bH,Val.av];exact fp
  simp[ye,ey,h1,h2]
  by_cases h3:a.kind=0
  ·simp[yd,h3,CS,A182,bH,Val.av];exact fp
  by_cases h4:b.kind=0
  ·simp[yd,h3,h4,CS,A182,bH,Val.av];exact fp
  simp[yd,h3,h4];refine au.pure y2 ?_;simp[A182,bH,Val.av];exact fp
 simp[CV,h0,Jz,A182,bH,Val.av];exact fp
theorem ajV (a b:Val):ah pG 182 [a.av,b.av] (bH (jx false a b)):=both_ok false c182 a b
theorem ao3 (a b:Val):ah pG 183 [a.av,b.av] (bH (jx true a b)):=both_ok true c183 a b
def Qd:aN Ex 8:=⟨Ex.cells,Ex.aE,Ex.Q6,Ex.aX⟩
theorem anV (l:List Ex):Qd.l l=Ex.dC l:=by
 induction l with
 |nil=>rfl
 |cons a r ih=>rw[aN.kX,ih];rfl
def cE (v:Val):Ex:=.mk 1 v [] [] 0 []
def Rl (op:Int)(l:List Val):Ex:=.mk op bG [] [] 0 (l.map cE)
def wb (op:Int):Int:=if op=1∨op=3 then 0 else if 4<=op/\op<=7 then 1 else if 8<=op/\op<=21 then 2 else -1
theorem Ek (op:Int):ah pG 134 [iI op] (iI (wb op)):=by
 refine pv c134 λ F hF=>?_;unfold wb
 by_cases h1:op=1
 ·simp[A134,hF,h1];exact fp
 by_cases h3:op=3
 ·simp[A134,hF,h3];exact fp
 by_cases h4:4<=op
 ·by_cases h7:op<=7
  ·simp[A134,hF,h1,h3,h4,h7];exact fp
  by_cases h21:op<=21
  ·simp[A134,hF,h1,h3,h4,h7,show 8<=op by omega,h21];exact fp
  simp[A134,hF,h1,h3,h4,h7,show 8<=op by omega,h21];exact fp
 simp[A134,hF,h1,h3,h4,show ¬ 8<=op by omega];exact fp
theorem adM {f:FuncId}{first cap:List AV}{p:Ex->Bool}{H:Hp}{n:Nat}(l:List Ex)(hl:l.length<=bm)(hp:∀x∈l,ar pG f (first++([Qd.av x]++cap)) H n (λ u K k=>u=.bool (p x)/\K=H/\k=n)):
  ar pG 135 [Qd.ds l,.fn (.func f) first cap] H n (λ u K k=>u=.bool (l.any p)/\K=H/\k=n):=
 HW c135 (wI (el:=Qd.av) c164 hl (Qd.aF _) (λ i h=>⟨_,Qd.ix h,λ F H n h14=>by simp[h14,Qd.sC]⟩) hp)
theorem ag3 (v:Val)(n0:Int):ah pG 106 [(cE v).av,iI n0] (.bool v.may):=by
 refine pv c106 λ F hF=>?_;have hm:=nM v;simp only[Val.av]at hm;simp[A106,hF,Ex.av,cE,Ex.cells,Ex.dC];refine bD.of (cL (l:=[(134,[iI 1],λ H n=>.mk (iI 0) H n)]) ?_) ?_
 ·simp only[fD];rintro y rfl;exact aQ (Ek 1)
 simp[ab,bK,J7];refine au.pure hm ?_
 cases hv:v.may with
 |false=>simp[ab,Y6];exact .bool rfl
 |true =>
  simp[ab,J6];refine au.same (adM (f:=136) (first:=[]) (cap:=[.ptr 1 0]) (p:=λ _=>false) [] (by simp) (by simp)) ?_;simp;exact .bool rfl
theorem QK (v:Val)(H:Hp)(n b:Nat)(n0:Int)(hb:H.get b=cl 1 [iI n0])(ht:gJ H n):ar pG 136 [Qd.av (cE v),.ptr b 0] H n (λ u K k=>u=.bool (!v.may)/\K=H/\k=n):=by
 refine ar.forget (by simp) (ar.of c136 (by simp[A136]) λ F hF=>?_);have hr:=ag3 v n0;have e:Qd.av (cE v)=(cE v).av:=rfl;rw[e]at hF;have hl:(cE v).av.len=8:=rfl;have hc:(cE v).av.cells=(cE v).cells:=rfl;have q:¬b=n:=by have:=ht.lt hb;omega
 have h8:(cE v).cells.length=8:=by simp
 have hav:(cE v).av=.agg (cE v).cells 8:=rfl;rw[hav]at hr;simp[A136,hF,q,hb];refine au.pure hr ?_;simp;intro c hc' h2;subst h2;exact aj (ht _ (aM _)) hc'
theorem ag2 (op:Int)(l:List Val)(hl:l.length<=2)(ho:wb op=(l.length:Int))(hop:op≠1/\op≠3)(n0:Int):ah pG 106 [(Rl op l).av,iI n0] (.bool (l.all Val.may)):=by
 refine pv c106 λ F hF=>?_;have hp:=Ek op;rw[ho]at hp;have hel:(Ex.dC (l.map cE))=Qd.l (l.map cE):=(anV _).symm;have hds:AV.ds (Qd.l (l.map cE)) l.length 8=Qd.ds (l.map cE):=by simp[aN.ds]
 simp[A106,hF,Ex.av,Rl,Ex.cells,hel];refine bD.of (cL (l:=[(134,[iI op],λ H n=>.mk (iI (l.length:Int)) H n)]) ?_) ?_
 ·simp only[fD];rintro y rfl;exact aQ hp
 simp[ab,bK,J7,hop.1,hop.2,J6,hds,aN.aF];refine au.same (adM (f:=136) (first:=[]) (cap:=[.ptr 1 0]) (p:=λ x=>match x with|.mk _ v _ _ _ _=>!v.may) (l.map cE) (by simp[bm];omega) ?_) ?_
 ·intro x hx;obtain⟨v,_,rfl⟩:=mem_map.1 hx;exact QK v _ _ 1 n0 (by simp) (by intro b hb;simp[show ¬b=1 by omega,show ¬b=0 by omega])
 simp;refine .bool ?_;rw[Bool.eq_iff_iff];simp[any_eq_true,cE]
abbrev cB:AV:=.aI (.slice none 0 0)
theorem Hk (v:Val):ah pG 108 [(cE v).av,cB] (bH (v,0)):=by
 refine pv c108 λ F hF=>?_;simp[A108,hF,Ex.av,cE,Ex.cells,Ex.dC];exact fp
def SN:List AV:=[.fn (.func 170) [] [],.fn (.func 171) [] [],.fn (.func 172) [] [],.fn (.func 173) [] [],.fn (.func 174) [] [],.fn (.func 175) [] [],.fn (.func 176) [] [],.fn (.func 177) [] [],.fn (.func 178) [] [],.fn (.func 179) [] [],.fn (.func 180) [] [],.fn (.func 181) [] [],.fn (.func 182) [] [],.fn (.func 183) [] []]
theorem TK:ah pG 142 [] (.agg SN 14):=by
 refine eY c142 (by simp) (by simp[SN]) (by simp[A142]) λ F hF=>?_;simp[A142];exact fp
def Qn (op:Int)(a:Val):Val×Int:=if op=4 then iD sL a (Ez a.num)else if op=5 then uI a else if op=6 then (dM (decide (a.kind=0)),0)else (dM (decide (a.kind≠0)),0)
def biS (op:Int)(a b:Val):Val×Int:=
 if op=8 then iD a b (FY a.num b.num)else if op=9 then iD a b (DZ a.num b.num)else if op=10 then iD a b (EA a.num b.num)else if op=11 then yH a b (BB a.num b.num)else if op=12 then yH a b (EC a.num b.num)else
 if op=13 then rN a b else if op=14 then iH a b (decide (a.ord b=0))else if op=15 then iH a b (decide (a.ord b≠0))else if op=16 then iH a b (decide (a.ord b<0))else if op=17 then iH a b (decide (a.ord b<=0))else
 if op=18 then iH a b (decide (0<a.ord b))else if op=19 then iH a b (decide (0<=a.ord b))else if op=20 then jx false a b else jx true a b
theorem aoH (k:Nat)(h:k<14)(a b:Val):ah pG (170+k) [a.av,b.av] (bH (biS ((8+k:Nat):Int) a b))/\SN[k]?=some (.fn (.func (170+k)) [] []):=by
 have:k=0∨k=1∨k=2∨k=3∨k=4∨k=5∨k=6∨k=7∨k=8∨k=9∨k=10∨k=11∨k=12∨k=13:=by omega
 rcases this with rfl|rfl|rfl|rfl|rfl|rfl|rfl|rfl|rfl|rfl|rfl|rfl|rfl|rfl<;>refine⟨?_,rfl⟩
 ·exact ajW a b
 ·exact ajw a b
 ·exact ajH a b
 ·exact ajS a b
 ·exact ajI a b
 ·exact acN a b
 ·exact apb a b
 ·exact ao5 a b
 ·exact ao6 a b
 ·exact ao7 a b
 ·exact ao9 a b
 ·exact ao_ a b
 ·exact ajV a b
 exact ao3 a b
theorem EK (q:Nat):gC 2 3 (.ptr q 0) (iI 0)=.val (.ptr q 0)/\gC 2 3 (.ptr q 0) (iI 1)=.val (.ptr q 3):=⟨rfl,rfl⟩
theorem ix8 (cs:List AV)(len:Nat)(h:0<len):dG 8 (.ds cs len 8) (iI 0)=.val (.dp cs):=by
 have:=ig (cs:=cs) (len:=len) (sz:=8) (k:=.i64) h;simpa using this
theorem ld8 (a b c d e f g h:AV)(r:List AV)(H:Hp):df 8 (.dp (a::b::c::d::e::f::g::h::r)) H=.val (.agg [a,b,c,d,e,f,g,h] 8):=ga (l:=[a,b,c,d,e,f,g,h]) r rfl
theorem of1 (op:Int)(a:Val)(h:4<=op/\op<=7):ah pG 108 [(Rl op [a]).av,cB] (bH (Qn op a)):=by
 refine eY c108 (by simp) (by simp[bH]) (by simp[A108]) λ F hF=>?_;have hc:=Hk a;have h8:=ix8 (cE a).cells 1 (by omega);simp only[Ex.av,cE,Ex.cells,Ex.dC,length_nil]at hc h8;simp[A108,hF,Ex.av,Rl,cE,Ex.cells,Ex.dC,show ¬op=1 by omega,show ¬op=3 by omega];refine aG.ofU 1 (jy.step ?_);simp[Ks,h8,ld8,hF];refine au.pure hc ?_;simp[bH,Val.av,Di,Dh,EK];simp[Df];refine jy.step ?_;simp;have e:op=4∨op=5∨op=6∨op=7:=by omega
 rcases e with rfl|rfl|rfl|rfl
 ·have:=ajG a;simp only[bH,Val.av]at this;simp[pZ,pY,Nr,EK];refine au.pure this ?_;simp;exact fp
 ·have:=ajF a;simp only[bH,Val.av]at this;simp[pZ,pY,sw,Nq,EK];refine au.pure this ?_;simp;exact fp
 ·have:=DX (decide (a.kind=0));simp only[Val.av]at this;simp[pZ,pY,sw,vv,Np,EK];refine au.pure this ?_;simp;exact fp
 have:=DX (!decide (a.kind=0));simp only[Val.av]at this;simp[pZ,pY,sw,vv,Dc,Nn,EK];refine au.pure this ?_;simp;have hu:Qn 7 a=(dM (!decide (a.kind=0)),0):=by simp[Qn]
 rw[hu];exact fp
theorem of2 (k:Nat)(hk:k<14)(a b:Val):ah pG 108 [(Rl ((8+k:Nat):Int) [a,b]).av,cB] (bH (biS ((8+k:Nat):Int) a b)):=by
 refine eY c108 (by simp) (by simp[bH]) (by simp[A108]) λ F hF=>?_;obtain⟨hb,hi⟩:=aoH k hk a b;generalize hr:biS ((8+k:Nat):Int) a b=r at hb ⊢;have hop:((8+k:Nat):Int) - 8=(k:Int):=by omega
 have h0:(8:Int)<=((8+k:Nat):Int)/\((8+k:Nat):Int)<22:=by omega
 generalize ((8+k:Nat):Int)=op at hr hop h0 hF ⊢;have hc:=Hk a;have hc2:=Hk b
 have h8:dG 8 (.ds ((cE a).cells++(cE b).cells) 2 8) (iI 0)=.val (.dp ((cE a).cells++(cE b).cells)):=by
  have:=ig (cs:=(cE a).cells++(cE b).cells) (len:=2) (sz:=8) (i:=0) (k:=.i64) (by omega);simpa using this
 have h9:dG 8 (.ds ((cE a).cells++(cE b).cells) 2 8) (iI 1)=.val (.dp (cE b).cells):=by
  have:=ig (cs:=(cE a).cells++(cE b).cells) (len:=2) (sz:=8) (i:=1) (k:=.i64) (by omega);simpa using this
 simp only[Ex.av,cE,Ex.cells,Ex.dC,length_nil,cons_append,nil_append]at hc hc2 h8 h9;simp[A108,hF,Ex.av,Rl,cE,Ex.cells,Ex.dC,show ¬op=1 by omega,show ¬op=3 by omega];refine aG.ofU 2 (jy.step ?_);simp[Ks,h8,ld8,hF];refine au.pure hc ?_;simp[bH,Val.av,Di,Dh,EK,Df];refine jy.step ?_;simp[h9,ld8,hF];refine au.pure hc2 ?_;simp[bH,Val.av,EK];refine jy.step ?_;simp[pZ,pY,sw,vv,Dc,show ¬op=4 by omega,show ¬op=5 by omega,show ¬op=6 by omega,show ¬op=7 by omega];simp only[Nl,bH,Val.av]at hb ⊢;refine bD.of (cL (l:=[(142,[],λ H n=>.mk (.agg SN 14) H n),(170+k,[.agg [iI a.kind,iI a.num,.str a.s] 3,.agg [iI b.kind,iI b.num,.str b.s] 3],λ H n=>.mk (.aW [.agg [iI r.1.kind,iI r.1.num,.str r.1.s] 3,iI r.2]) H n)]) ?_) ?_
 ·intro y hy;simp only[mem_cons,not_mem_nil,or_false]at hy
  rcases hy with rfl|rfl
  ·exact aQ TK
  exact aQ hb
 have hx:Ib 14 1 false (.agg SN 14) (iI (k:Int))=.val (.fn (.func (170+k)) [] []):=by
  have e:k=0∨k=1∨k=2∨k=3∨k=4∨k=5∨k=6∨k=7∨k=8∨k=9∨k=10∨k=11∨k=12∨k=13:=by omega
  rcases e with rfl|rfl|rfl|rfl|rfl|rfl|rfl|rfl|rfl|rfl|rfl|rfl|rfl|rfl<;>rfl
 simp[ab,bK,tj,hop,hx,EK,show IntKind.i64.wrap (k:Int)=k from aY _ (by omega) (by omega)];exact fp
theorem Qk:ah pG 107 [cB] (.bool true):=by
 refine pv c107 λ F hF=>?_;simp[A107,hF]
 have asu:ah pG 137 [cB,.fn (.func 138) [] []] (.bool false):=by
  refine pv c137 λ F hF=>?_;simp[A137,hF]
  have ast:ah pG 165 [cB,.fn (.func 138) [] []] (iI (-1)):=by
   refine pv c165 λ F hF=>?_;simp[A165,hF];refine aG.ofU 0 (jy.step ?_);simp[Z6,X9];exact fp
  refine au.pure ast ?_;simp;exact fp
 refine au.pure asu ?_;simp;exact fp
def ofS (op:Int)(l:List Val):Val×Int:=match l with|[a]=>Qn op a|[a,b]=>biS op a b|_=>(bG,0)
def gi (op:Int)(l:List Val):Val×Int:=if l.all Val.may=true then ofS op l else (bG,1)
def tz (op:Int)(l:List Val):Prop:=(l.length=1/\4<=op/\op<=7)∨(l.length=2/\8<=op/\op<=21)
theorem ama {op:Int}{l:List Val}(h:tz op l):ah pG 108 [(Rl op l).av,cB] (bH (ofS op l)):=by
 match l,h with
 |[a],h=>exact of1 op a (by simpa[tz]using h)
 |[a,b],h =>
  have h':8<=op/\op<=21:=by simpa[tz]using h
  have e:op=((8+(op - 8).toNat:Nat):Int):=by omega
  rw[e];exact of2 _ (by omega) a b
 |[],h=>simp[tz]at h
 |_::_::_::_,h=>simp[tz]at h
theorem Tc {op:Int}{l:List Val}(h:tz op l):ah pG 75 [(Rl op l).av,cB] (bH (gi op l)):=by
 have hl:l.length<=2:=by rcases h with h|h<;>omega
 have hp:wb op=(l.length:Int):=by unfold wb;rcases h with h|h<;>(repeat' split)<;>omega
 have hr:=ag2 op l hl hp (by rcases h with h|h<;>omega) 0;have ho:=ama h;refine eY c75 (by simp) (by simp[bH]) (by simp[A75]) λ F hF=>?_;have ha:(Rl op l).av=.agg (Rl op l).cells 8:=rfl;have hlen:(Rl op l).cells.length=8:=by simp
 rw[ha]at hr ho hF;simp[A75,hF];refine au.pure hr ?_;unfold gi
 cases hm:l.all Val.may with
 |false=>simp[ael];exact fp
 |true =>
  simp[aek,hF];refine au.pure Qk ?_;simp[aej,hF];refine au.pure ho ?_;generalize ofS op l=r;simp[bH,Val.av];exact fp
def cZ (x:Int):Prop := -9223372036854775808<=x/\x<9223372036854775808
theorem nN {x:Int}(h:cZ x):IntKind.i64.wrap x=x:=by
 unfold cZ at h;simp[IntKind.wrap,IntKind.signed,IntKind.bits];omega
theorem uw (x:Int):IntKind.u64.wrap x=x % 18446744073709551616:=by
 simp[IntKind.wrap,IntKind.signed,IntKind.bits]
theorem xk (k:IntKind)(a:Int):GP .neg (.int k a)=.val (.int k (k.wrap (-a))):=by
 simp only[GP,dO,Int.zero_sub]
theorem KE {x:Int}(h:cZ x):ah pG 192 [iI x] (.int .u64 (x.natAbs:Int)):=by
 unfold cZ at h;refine pv c192 λ F hF=>?_
 by_cases h0:x<0
 ·have e:IntKind.u64.wrap (-IntKind.u64.wrap x)=(x.natAbs:Int):=by rw[uw,uw];omega
  simp[A192,hF,h0,bC,xk,e];exact fp
 have e:IntKind.u64.wrap x=(x.natAbs:Int):=by rw[uw];omega
 simp[A192,hF,h0,bC,e];exact fp
theorem y6 {x y:Int}(hx:cZ x) (hy:cZ y):∃n,ah pG 193 [iI x,iI y] (.aW [iI n,.bool (decide (cZ (x+y)))])/\(cZ (x+y)->n=x+y):=by
 by_cases h:cZ (x+y)
 ·refine⟨x+y,?_,λ _=>rfl⟩;have hw:=nN h;have h':decide (cZ (x+y))=true:=decide_eq_true h;rw[h'];unfold cZ at h hx hy;refine pv c193 λ F hF=>?_
  by_cases h1:0<y
  ·have w1:IntKind.i64.wrap (9223372036854775807 - y)=9223372036854775807 - y:=nN (by unfold cZ;omega);simp[A193,hF,h1,w1,show ¬ 9223372036854775807 - y<x by omega,show ¬y<0 by omega,hw];exact fp
  by_cases h2:y<0
  ·have w1:IntKind.i64.wrap (-9223372036854775808 - y) = -9223372036854775808 - y:=nN (by unfold cZ;omega);simp[A193,hF,h1,h2,w1,show ¬x < -9223372036854775808 - y by omega,hw];exact fp
  simp[A193,hF,h1,h2,hw];exact fp
 refine⟨0,?_,λ k=>aj k h⟩;have h':decide (cZ (x+y))=false:=by simpa using h
 rw[h'];unfold cZ at h hx hy;refine pv c193 λ F hF=>?_
 by_cases h1:0<y
 ·have w1:IntKind.i64.wrap (9223372036854775807 - y)=9223372036854775807 - y:=nN (by unfold cZ;omega);simp[A193,hF,h1,w1,show 9223372036854775807 - y<x by omega];exact fp
 have h2:y<0:=by omega
 have w1:IntKind.i64.wrap (-9223372036854775808 - y) = -9223372036854775808 - y:=nN (by unfold cZ;omega);simp[A193,hF,h1,h2,w1,show x < -9223372036854775808 - y by omega];exact fp
def fX (s:Nat)(b:Bool):Int:=if b then -(s:Int)else s
theorem sG {s:Nat}(b:Bool)(hs:s<18446744073709551616):∃n,ah pG 195 [.int .u64 (s:Int),.bool b] (.aW [iI n,.bool (decide (cZ (fX s b)))])/\(cZ (fX s b)->n=fX s b):=by
 cases b with
 |true =>
  refine⟨IntKind.i64.wrap (IntKind.u64.wrap (-(s:Int))),?_,λ h=>?_⟩
  ·refine pv c195 λ F hF=>?_;have e:decide (cZ (fX s true))=decide ((s:Int)<=9223372036854775808):=by simp[cZ,fX];omega
   rw[e];simp[A195,hF,bC,xk];exact fp
  simp only[fX,if_true,cZ]at h ⊢;rw[uw];simp[IntKind.wrap,IntKind.signed,IntKind.bits];omega
 |false =>
  refine⟨IntKind.i64.wrap (s:Int),?_,λ h=>?_⟩
  ·refine pv c195 λ F hF=>?_;have e:decide (cZ (fX s false))=decide ((s:Int)<9223372036854775808):=by simp[cZ,fX]
   rw[e];simp[A195,hF,bC];exact fp
  simp[fX]at h ⊢;exact nN h
theorem T8 (p:Nat)(h:p<18446744073709551616):ct .and (.int .u64 (p:Int)) (.int .u64 4294967295)=.val (.int .u64 ((p % 4294967296:Nat):Int)):=by
 show bL .and .u64 (p:Int) 4294967295=_;simp only[bL,dO]
 congr 2
 have e:(BitVec.ofInt IntKind.u64.bits (p:Int) &&& BitVec.ofInt IntKind.u64.bits 4294967295).toNat=p % 4294967296:=by
  have e1:BitVec.ofInt IntKind.u64.bits (p:Int)=BitVec.ofNat 64 p:=BitVec.ofInt_natCast 64 p;have e2:BitVec.ofInt IntKind.u64.bits 4294967295=BitVec.ofNat 64 4294967295:=BitVec.ofInt_natCast 64 4294967295;rw[e1,e2];show (BitVec.ofNat 64 p &&& BitVec.ofNat 64 4294967295).toNat=_;rw[BitVec.toNat_and,BitVec.toNat_ofNat,BitVec.toNat_ofNat];have:=Nat.and_two_pow_sub_one_eq_mod p 32;rw[Nat.mod_eq_of_lt (show p<2 ^ 64 by omega),Nat.mod_eq_of_lt (show 4294967295<2 ^ 64 by omega)];exact this
 rw[e,uw];omega
theorem D7 (p:Nat):ct .shr (.int .u64 (p:Int)) (.int .u64 32)=.val (.int .u64 ((p / 4294967296:Nat):Int)):=by
 show lF .u64 ((p:Int).fdiv (2 ^ (min 32 64)))=_;rw[dO]
 congr 2
 rw[show ((2:Int) ^ (min 32 64))=((4294967296:Nat):Int) by decide];exact(Int.ofNat_fdiv p 4294967296).symm
theorem Hr (p q:Nat)(hp:p<18446744073709551616)(hq:q<18446744073709551616):
  let w0:=p % 4294967296*(q % 4294967296);let t:=p / 4294967296*(q % 4294967296)+w0 / 4294967296;let w1:=t % 4294967296+p % 4294967296*(q / 4294967296)
  w0<18446744073709551616/\p / 4294967296*(q % 4294967296)<18446744073709551616/\t<18446744073709551616/\p % 4294967296*(q / 4294967296)<18446744073709551616/\w1<18446744073709551616/\p / 4294967296*(q / 4294967296)<18446744073709551616 /\
  p / 4294967296*(q / 4294967296)+t / 4294967296<18446744073709551616/\p / 4294967296*(q / 4294967296)+t / 4294967296+w1 / 4294967296=p*q / 18446744073709551616:=by
 have e1:=Nat.div_add_mod p 4294967296;have e2:=Nat.div_add_mod q 4294967296;have l1:p % 4294967296<=4294967295:=by omega
 have l2:q % 4294967296<=4294967295:=by omega
 have l3:p / 4294967296<=4294967295:=by omega
 have l4:q / 4294967296<=4294967295:=by omega
 generalize p % 4294967296=p0 at *;generalize q % 4294967296=q0 at *;generalize p / 4294967296=p1 at *;generalize q / 4294967296=q1 at *
 have hpq:p*q=18446744073709551616*(p1*q1)+4294967296*(p1*q0+p0*q1)+p0*q0:=by
  rw[<-e1,<-e2];simp only[Nat.add_mul,Nat.mul_add]
  have a1:4294967296*p1*(4294967296*q1)=18446744073709551616*(p1*q1):=by
   rw[Nat.mul_mul_mul_comm]
  have a2:4294967296*p1*q0=4294967296*(p1*q0):=Nat.mul_assoc _ _ _;have a3:p0*(4294967296*q1)=4294967296*(p0*q1):=Nat.mul_left_comm _ _ _;omega
 have b1:p0*q0<=4294967295*4294967295:=Nat.mul_le_mul l1 l2;have b2:p1*q0<=4294967295*4294967295:=Nat.mul_le_mul l3 l2;have b3:p0*q1<=4294967295*4294967295:=Nat.mul_le_mul l1 l4;have b4:p1*q1<=4294967295*4294967295:=Nat.mul_le_mul l3 l4;rw[hpq];generalize p0*q0=a at *;generalize p1*q0=b at *;generalize p0*q1=c at *;generalize p1*q1=d at *;omega
theorem ahJ (p q:Nat)(hp:p<18446744073709551616)(hq:q<18446744073709551616):ah pG 194 [.int .u64 (p:Int),.int .u64 (q:Int)] (.aW [.int .u64 ((p*q / 18446744073709551616:Nat):Int),.int .u64 ((p*q % 18446744073709551616:Nat):Int)]):=by
 obtain⟨h1,h2,h3,h4,h5,h6,h7,h8⟩:=Hr p q hp hq;have hlo:IntKind.u64.wrap ((p:Int)*(q:Int))=((p*q % 18446744073709551616:Nat):Int):=by rw[uw];simp
 have us:∀ {x:Nat},x<18446744073709551616->IntKind.u64.wrap (x:Int)=(x:Int):=λ h=>lZ h;rw[<-h8];generalize ew0:p % 4294967296*(q % 4294967296)=w0 at *;generalize eb:p / 4294967296*(q % 4294967296)=b at *;generalize ec:p % 4294967296*(q / 4294967296)=c at *;generalize ed:p / 4294967296*(q / 4294967296)=d at *;have m:∀ {a b x:Nat},a*b=x->x<18446744073709551616->IntKind.u64.wrap ((a:Int)*(b:Int))=(x:Int):=λ e h=>by rw[<-us h,<-e];simp
 have ad:∀ {a b x:Nat},a+b=x->x<18446744073709551616->IntKind.u64.wrap ((a:Int)+(b:Int))=(x:Int):=λ e h=>by rw[<-us h,<-e];simp
 have x1:=m ew0 h1;have x2:=m eb h2;have x3:=m ec h4;have x4:=m ed h6;have y1:=ad rfl h3;have y2:=ad rfl h5;have y3:=ad rfl h7;have y4:=ad (a:=d+(b+w0 / 4294967296) / 4294967296) (b:=((b+w0 / 4294967296) % 4294967296+c) / 4294967296) rfl (by rw[h8];exact Nat.div_lt_of_lt_mul (Nat.mul_lt_mul'' hp hq));have n1:=T8 p hp;have n2:=T8 q hq;have n3:=T8 _ h3;have s1:eN .shr (.int .u64 ((p:Nat):Int)) (.int .u64 32)=.val (.int .u64 ((p / 4294967296:Nat):Int)):=D7 _;have s2:eN .shr (.int .u64 ((q:Nat):Int)) (.int .u64 32)=.val (.int .u64 ((q / 4294967296:Nat):Int)):=D7 _;have s3:eN .shr (.int .u64 ((w0:Nat):Int)) (.int .u64 32)=.val (.int .u64 ((w0 / 4294967296:Nat):Int)):=D7 _;have s4:eN .shr (.int .u64 (((b+w0 / 4294967296):Nat):Int)) (.int .u64 32)=.val (.int .u64 (((b+w0 / 4294967296) / 4294967296:Nat):Int)):=D7 _;have s5:eN .shr (.int .u64 ((((b+w0 / 4294967296) % 4294967296+c):Nat):Int)) (.int .u64 32)=.val (.int .u64 ((((b+w0 / 4294967296) % 4294967296+c) / 4294967296:Nat):Int)):=D7 _;generalize b+w0 / 4294967296=t at *;generalize t % 4294967296+c=w1 at *;generalize p % 4294967296=p0 at *;generalize q % 4294967296=q0 at *;generalize p / 4294967296=p1 at *;generalize q / 4294967296=q1 at *;generalize w0 / 4294967296=w00 at *;generalize t % 4294967296=t0 at *;generalize t / 4294967296=t1 at *;generalize w1 / 4294967296=w11 at *;generalize d+t1+w11=hi at *;generalize d+t1=dt at *;generalize p*q % 18446744073709551616=lo at *;clear h8 h7 h5 h3 ew0 eb ec ed hp hq m ad us;refine pv c194 λ F hF=>?_;simp[A194,hF,n1,n2,n3,s1,s2,s3,s4,s5,x1,x2,x3,x4,y1,y2,y3,y4,hlo];exact fp
end Go.Abs
namespace Go.Abs
open List
open Go.Proofs
open Classical
set_option maxRecDepth 100000
def Py (w x y:Int):Int:=if w=0 then x+y else if w=1 then x - y else if w=2 then x*y else if w=3 then x.tdiv y else x.tmod y
theorem agO (s:Nat)(b:Bool):fX s (b&&decide (0<s))=fX s b:=by
 cases b<;>by_cases h:0<s<;>simp[fX,h];omega
theorem pQ (x:Int):x=fX x.natAbs (decide (x<0)):=by
 by_cases h:x<0<;>simp[fX,h]<;>omega
theorem aaA (x y:Int):x*y=fX (x.natAbs*y.natAbs) (decide (x<0) != decide (y<0)):=by
 conv=>lhs;rw[pQ x,pQ y]
 by_cases h:x<0<;>by_cases k:y<0<;>simp[fX,h,k,Int.neg_mul,Int.mul_neg]
theorem KF (x y:Int):x.tdiv y=fX (x.natAbs / y.natAbs) (decide (x<0) != decide (y<0)):=by
 conv=>lhs;rw[pQ x,pQ y]
 by_cases h:x<0<;>by_cases k:y<0<;>simp only[fX,h,k,decide_true,decide_false,if_true,Bool.false_eq_true,if_false,bne_self_eq_false,Bool.true_bne,Bool.false_bne,Bool.not_true,Bool.not_false,Int.neg_tdiv,Int.tdiv_neg,Int.neg_neg,Int.ofNat_tdiv]
theorem AG (x y:Int):x.tmod y=fX (x.natAbs % y.natAbs) (decide (x<0)):=by
 conv=>lhs;rw[pQ x,pQ y]
 by_cases h:x<0<;>by_cases k:y<0<;>simp only[fX,h,k,decide_true,decide_false,if_true,Bool.false_eq_true,if_false,Int.neg_tmod,Int.tmod_neg,Int.ofNat_tmod]
theorem ard {p q:Nat}(hp:p<18446744073709551616)(h:q≠0):bL .quo .u64 (p:Int) (↑q:Int)=.val (.int .u64 ((p / q:Nat):Int)):=by
 rw[nA _ _ _ (by omega),<-Int.ofNat_tdiv,lZ (Nat.lt_of_le_of_lt (Nat.div_le_self p q) hp)]
theorem aq_ {p q:Nat}(h:q≠0):bL .rem .u64 (p:Int) (↑q:Int)=.val (.int .u64 ((p % q:Nat):Int)):=by
 rw[xu _ _ _ (by omega),<-Int.ofNat_tmod]
theorem FZ {x:Int}(h:cZ x):x.natAbs<18446744073709551616:=by unfold cZ at h;omega
section
variable {x y:Int}
def yO:CT:=(.seq (.seq lA (.block 0 (.seq lz (.cond (ao 25) (.seq JP .ret) (.seq mq (.cond (ao 32) (.seq (.seq CZ (.cond (ao 35) (.seq JO .ret) .skip)) (.seq JM .ret)) (.seq lX (.cond (ao 48) (.seq vq (.seq pW (.seq pV .ret))) (.seq pU (.cond (ao 72) (.seq vp .ret) .skip)))))))))) (.seq vo .ret))
structure atB (w x y:Int)(F:Fr):Prop where
 f0:F.get 0=some (iI w)
 f1:F.get 1=some (iI x)
 f2:F.get 2=some (iI y)
 f8:F.get 8=some (.int .u64 (x.natAbs:Int))
 f9:F.get 9=some (.int .u64 (y.natAbs:Int))
 f10:F.get 10=some (.bool (decide (x<0) != decide (y<0)))
theorem qC (hx:cZ x)(hy:cZ y){w n:Int}{b:Bool}(h:∀F,atB w x y F->VC pG yO F .nil 0 [] (fQ [aB 6,aB 7] λ v1 H' _=>fW H'.get v1 (.aW [iI n,.bool b]))):ah pG 163 [iI w,iI x,iI y] (.aW [iI n,.bool b]):=by
 refine pv c163 λ F hF=>?_;simp[A163,hF];refine au.pure (KE hx) ?_;simp[hF];refine au.pure (KE hy) ?_
 by_cases h1:x<0<;>by_cases h2:y<0 <;>
 ·simp[Yr,hF,h1,h2,j7,je];exact h _ ⟨by simp[hF],by simp[hF],by simp[hF],by simp,by simp,by simp[h1,h2]⟩
theorem aiA (hx:cZ x)(hy:cZ y):∃n,ah pG 163 [iI 0,iI x,iI y] (.aW [iI n,.bool (decide (cZ (x+y)))])/\(cZ (x+y)->n=x+y):=by
 obtain⟨n,hp,hn⟩:=y6 hx hy;refine⟨n,?_,hn⟩;refine qC hx hy λ F ⟨f0,f1,f2,f8,f9,f10⟩=>?_;simp[yO,lA,lz,JP,f0,f1,f2];refine au.pure hp ?_;simp;exact fp
theorem aiz (hx:cZ x) (hy:cZ y):∃n,ah pG 163 [iI 1,iI x,iI y] (.aW [iI n,.bool (decide (cZ (x - y)))])/\(cZ (x - y)->n=x - y):=by
 by_cases hm:y = -9223372036854775808
 ·refine⟨IntKind.i64.wrap (IntKind.u64.wrap (IntKind.u64.wrap x+9223372036854775808)),?_,λ h=>?_⟩
  ·have e:decide (cZ (x - y))=decide (x<0):=by unfold cZ at hx ⊢;rw[decide_eq_decide];omega
   rw[e];refine qC hx hy λ F ⟨f0,f1,f2,f8,f9,f10⟩=>?_;simp[yO,lA,lz,mq,CZ,JO,f0,f1,f2,hm,bC,fH];exact fp
  rw[show IntKind.i64.wrap (IntKind.u64.wrap (IntKind.u64.wrap x+9223372036854775808))=IntKind.i64.wrap (x - y) by
   rw[uw,uw];simp[IntKind.wrap,IntKind.signed,IntKind.bits];unfold cZ at h hx;omega]
  exact nN h
 have hny:cZ (-y):=by unfold cZ at hy ⊢;omega
 obtain⟨n,hp,hn⟩:=y6 hx hny;have hwy:=nN hny;rw[<-Int.sub_eq_add_neg]at hp hn;refine⟨n,?_,hn⟩;refine qC hx hy λ F ⟨f0,f1,f2,f8,f9,f10⟩=>?_;simp[yO,lA,lz,mq,CZ,JM,f0,f1,f2,hm,xk,hwy];refine au.pure hp ?_;simp;exact fp
theorem aiy (hx:cZ x) (hy:cZ y):∃n,ah pG 163 [iI 2,iI x,iI y] (.aW [iI n,.bool (decide (cZ (x*y)))])/\(cZ (x*y)->n=x*y):=by
 have hs:=aaA x y;have hm:=ahJ x.natAbs y.natAbs (FZ hx) (FZ hy);generalize hb:(decide (x<0) != decide (y<0))=b at *;rw[hs];have hlo:x.natAbs*y.natAbs % 18446744073709551616<18446744073709551616:=Nat.mod_lt _ (by omega)
 have hz:x.natAbs*y.natAbs / 18446744073709551616=0∨(x.natAbs*y.natAbs / 18446744073709551616≠0/\¬cZ (fX (x.natAbs*y.natAbs) b)):=by
  by_cases h:x.natAbs*y.natAbs / 18446744073709551616=0
  ·exact .inl h
  refine .inr ⟨h,?_⟩;generalize x.natAbs*y.natAbs=z at *;unfold cZ fX
  split<;>omega
 have he:x.natAbs*y.natAbs / 18446744073709551616=0->x.natAbs*y.natAbs % 18446744073709551616=x.natAbs*y.natAbs:=λ h=>Nat.mod_eq_of_lt (by omega);generalize x.natAbs*y.natAbs=z at *;obtain⟨n,hp,hn⟩:=sG (b&&decide (0<z % 18446744073709551616)) hlo;rw[agO]at hp hn
 rcases hz with h0|⟨h0,h1⟩
 ·rw[h0]at hm;rw[he h0]at hp hn hm;refine⟨n,?_,hn⟩;refine qC hx hy λ F ⟨f0,f1,f2,f8,f9,f10⟩=>?_;rw[hb]at f10;simp[yO,lA,lz,mq,lX,vq,f0,f8,f9];refine au.pure hm ?_
  cases b with
  |true =>
   simp[pW,f10];refine au.pure (by simpa using hp) ?_;simp[pV]
   by_cases hi:cZ (fX z true) <;>
   ·simp[hi];exact fp
  |false =>
   simp[pW,f10];refine au.pure (by simpa using hp) ?_;simp[pV]
   by_cases hi:cZ (fX z false) <;>
   ·simp[hi];exact fp
 have hd:decide (cZ (fX z b))=false:=decide_eq_false h1;rw[hd];refine⟨n,?_,λ h=>aj h h1⟩;clear he hd h1;generalize z % 18446744073709551616=lo at *;generalize z / 18446744073709551616=hi at *;refine qC hx hy λ F ⟨f0,f1,f2,f8,f9,f10⟩=>?_;rw[hb]at f10;simp[yO,lA,lz,mq,lX,vq,f0,f8,f9];refine au.pure hm ?_
 cases b with
 |true =>
  simp[pW,f10];refine au.pure (by simpa using hp) ?_;simp[pV]
  cases decide (cZ (fX lo true)) <;>
  ·simp[h0];exact fp
 |false =>
  simp[pW,f10];refine au.pure (by simpa using hp) ?_;simp[pV]
  cases decide (cZ (fX lo false)) <;>
  ·simp[h0];exact fp
theorem aix (hx:cZ x)(hy:cZ y)(h0:y≠0):∃n,ah pG 163 [iI 3,iI x,iI y] (.aW [iI n,.bool (decide (cZ (x.tdiv y)))])/\(cZ (x.tdiv y)->n=x.tdiv y):=by
 have hs:=KF x y;have hq:=ard (FZ hx) (show y.natAbs≠0 by omega);have hlt:x.natAbs / y.natAbs<18446744073709551616:=Nat.lt_of_le_of_lt (Nat.div_le_self _ _) (FZ hx);generalize hb:(decide (x<0) != decide (y<0))=b at *;rw[hs];obtain⟨n,hp,hn⟩:=sG (b&&decide (0<x.natAbs / y.natAbs)) hlt;rw[agO]at hp hn;generalize x.natAbs / y.natAbs=s at *;refine⟨n,?_,hn⟩;refine qC hx hy λ F ⟨f0,f1,f2,f8,f9,f10⟩=>?_;rw[hb]at f10
 cases b with
 |true =>
  generalize decide (cZ (fX s true))=ok at *;rw[Bool.true_and,show decide (0<s)=decide ((0:Int)<(s:Int)) by simp]at hp;simp[yO,lA,lz,mq,lX,pU,vp,f0];refine bD.of (cL (l:=[(195,[.int .u64 (s:Int),.bool (decide ((0:Int)<(s:Int)))],λ H m=>.mk (.aW [iI n,.bool ok]) H m)]) ?_) ?_
  ·simp only[fD];rintro y rfl;exact aQ hp
  simp[ab,f8,f9,f10,hq,bK];exact fp
 |false =>
  generalize decide (cZ (fX s false))=ok at *;rw[Bool.false_and]at hp;simp[yO,lA,lz,mq,lX,pU,vp,f0];refine bD.of (cL (l:=[(195,[.int .u64 (s:Int),.bool false],λ H m=>.mk (.aW [iI n,.bool ok]) H m)]) ?_) ?_
  ·simp only[fD];rintro y rfl;exact aQ hp
  simp[ab,f8,f9,f10,hq,bK];exact fp
theorem aiw (hx:cZ x)(hy:cZ y)(h0:y≠0):∃n,ah pG 163 [iI 4,iI x,iI y] (.aW [iI n,.bool (decide (cZ (x.tmod y)))])/\(cZ (x.tmod y)->n=x.tmod y):=by
 have hs:=AG x y;have hq:=aq_ (p:=x.natAbs) (show y.natAbs≠0 by omega);have hlt:x.natAbs % y.natAbs<18446744073709551616:=Nat.lt_of_le_of_lt (Nat.mod_le _ _) (FZ hx);rw[hs];obtain⟨n,hp,hn⟩:=sG (decide (x<0)&&decide (0<x.natAbs % y.natAbs)) hlt;rw[agO]at hp hn;generalize x.natAbs % y.natAbs=s at *;refine⟨n,?_,hn⟩;refine qC hx hy λ F ⟨f0,f1,f2,f8,f9,f10⟩=>?_
 by_cases hx0:x<0
 ·rw[decide_eq_true hx0]at hp ⊢;generalize decide (cZ (fX s true))=ok at *;rw[Bool.true_and,show decide (0<s)=decide ((0:Int)<(s:Int)) by simp]at hp;simp[yO,lA,lz,mq,lX,pU,vo,f0];refine bD.of (cL (l:=[(195,[.int .u64 (s:Int),.bool (decide ((0:Int)<(s:Int)))],λ H m=>.mk (.aW [iI n,.bool ok]) H m)]) ?_) ?_
  ·simp only[fD];rintro y rfl;exact aQ hp
  simp[ab,f1,f8,f9,hx0,hq,bK];exact fp
 rw[decide_eq_false hx0]at hp ⊢;generalize decide (cZ (fX s false))=ok at *;rw[Bool.false_and]at hp;simp[yO,lA,lz,mq,lX,pU,vo,f0];refine bD.of (cL (l:=[(195,[.int .u64 (s:Int),.bool false],λ H m=>.mk (.aW [iI n,.bool ok]) H m)]) ?_) ?_
 ·simp only[fD];rintro y rfl;exact aQ hp
 simp[ab,f1,f8,f9,hx0,hq,bK];exact fp
theorem Ta {w:Int}(hw:0<=w/\w<=4)(hx:cZ x)(hy:cZ y)(h0:3<=w->y≠0):∃n,ah pG 163 [iI w,iI x,iI y] (.aW [iI n,.bool (decide (cZ (Py w x y)))])/\(cZ (Py w x y)->n=Py w x y):=by
 have:w=0∨w=1∨w=2∨w=3∨w=4:=by omega
 rcases this with rfl|rfl|rfl|rfl|rfl
 ·exact aiA hx hy
 ·exact aiz hx hy
 ·exact aiy hx hy
 ·exact aix hx hy (h0 (by omega))
 exact aiw hx hy (h0 (by omega))
end
end Go.Abs
