/- A part. -/
import Derived.Test.YtbdgioomddkglaaGreatBt7
noncomputable section
namespace Go.Abs
open List
open Go.Proofs
open Classical
set_option maxRecDepth 100000
def ez (s:MS)(i N:Nat):MS:=if s.roomy then {s with rows:=s.rows++[(s.aA.drop i).take N]} else s.e_
theorem cy.arK {H:Hp}{n p rb cb:Nat}{rv tv:AV}{s:MS}(M:cy H n p rb cb rv tv s):∀c,blk rv=some c->c≠p:=by
 intro c hc e;subst e;have:=M.lay.nd;simp only[MS.told,map_cons,nodup_cons,mem_cons,not_or]at this;exact this.1.2.2 (iJ (mem_append_left _ (dV hc _)))
theorem cy.aq1 {S K:Hp}{n p rb cb b:Nat}{rv tv:AV}{s s':MS}{len sz:Nat}(M:cy S n p rb cb rv tv s)(e1:s'.aA=s.aA)(e2:s'.takes=s.takes)(e3:s'.aD=s.aD)(hp:K.get p=cl 13 (s'.mc rb cb (.sl b 0 len sz) tv))(hr:∃y,K.get b=some y/\OwnB y (bn s'.rows))
  (hk:∀c,c<n->c≠p->blk rv≠some c->K.get c=S.get c):ep K (s'.told p rb cb (.sl b 0 len sz) tv):=by
 have hnd:=M.lay.nd;have hlt:=M.lay.lt;have htl:=M.told;simp only[MS.told,map_cons,nodup_cons,mem_cons,not_or]at hnd hlt htl;have ER:∀c,blk rv=some c->c≠rb/\c≠cb:=λ c hc=>⟨λ e=>hnd.2.1.2 (by rw[<-e];exact iJ (mem_append_left _ (dV hc _))),λ e=>hnd.2.2.1 (by rw[<-e];exact iJ (mem_append_left _ (dV hc _)))⟩;intro e he;simp only[MS.told,e1,e2,e3,mem_cons]at he
 rcases he with rfl|rfl|rfl|he
 ·exact⟨_,hp,OwnB.list rfl⟩
 ·exact⟨_,(hk _ (hlt _ (.inr (.inl rfl))) (Ne.symm hnd.1.1) λ h=>(ER _ h).1 rfl).trans (htl _ (.inr (.inl rfl))),OwnB.list rfl⟩
 ·exact⟨_,(hk _ (hlt _ (.inr (.inr (.inl rfl)))) (Ne.symm hnd.1.2.1) λ h=>(ER _ h).2 rfl).trans (htl _ (.inr (.inr (.inl rfl)))),OwnB.list rfl⟩
 rw[mem_append]at he
 rcases he with he|he
 ·simp[yC]at he;subst he;exact hr
 have hm:=hlt e (.inr (.inr (.inr (mE _ he))));have ht:=htl e (.inr (.inr (.inr (mE _ he))));refine⟨_,(hk e.1 hm (λ h=>hnd.1.2.2 (by rw[<-h];exact iJ (mE _ he))) λ h=>?_).trans ht,OwnB.list rfl⟩;have hd:=hnd.2.2.2;rw[map_append,nodup_append]at hd;exact hd.2.2 e.1 (iJ (f:=(·.1)) (dV h (bn s.rows))) e.1 (iJ he) rfl
theorem aiN {S:Hp}{n p rb cb:Nat}{rv tv:AV}{s:MS}(x:Ins)(i N:Nat)(ha:x.a=(i:Int))(hn:x.n=(N:Int))(hi:i+N<=s.aA.length)(hN:N<=16)(hR:s.aA.length<=256)(hr:s.roomy)(ht:gJ S n)(M:cy S n p rb cb rv tv s):
  ar pG 55 [.ptr p 0,x.av] S n (λ u K k=>u=yY (-1)/\ep K ((ez s i N).told p rb cb (.sl (n+2) 0 (s.rows.length+1) 1) tv)/\k<=n+10):=by
 refine ar.of c55 (by simp[A55]) λ F hF=>?_;have DL:=M.gp;have gp:=M.gp;obtain⟨y,gr,ho⟩:=M.gr;obtain⟨l1,l2,l3⟩:=M.lt;obtain⟨d1,d2,d3⟩:=M.ne;have tn:=ht.none;simp[A55,hF,Ins.av,Ins.cells,ha,hn];refine au.of (AM (s:=s) (rb:=rb) (cb:=cb) M.lay.rv M.lay.tv M.aO.rows (by simp[cg l1,DL])) λ u K k ⟨e1,g1,g2,e2⟩=>?_;subst e1 e2;rw[ak hr]at g1;simp only[hr,decide_true];have kr:=(g2 rb (Ne.symm d1)).trans ((show _=S.get rb by simp[cg l2]).trans gr);have k0:=(g2 n (by omega)).trans (show _=some (bz.cells 15 [] _ .nil) by simp;rfl)
 have kb:∀b,b<n->K.get b=S.get b:=λ b hb=>by
  by_cases e:b=p
  ·subst e;rw[g1,DL]
  rw[g2 b e];simp[cg hb]
 have kt:gJ K (n+1):=λ b hb=>by rw[g2 b (by omega)];simp[show ¬b=n by omega,ht b (by omega)]
 clear g2;have SE:=g1;simp only[MS.mc]at SE;have hcl:bO pG 28 [.sl rb (i*3) N 3] K (n+1) (ai ((s.aA.drop i).take N)) K (n+1):=H4 (by omega) kr ho hi (by unfold bm;omega);have hsl:=BM (b:=rb) (len:=s.aA.length) (sz:=3) (k:=.i64) (i:=i) (j:=i+N) (by omega) hi;rw[show i+N - i=N by omega]at hsl
 have ad:fH (iI (i:Int)) (iI (N:Int))=.val (iI ((i+N:Nat):Int)):=by
  simp[fH];rw[aY _ (by omega) (by omega)]
 generalize hrow:(s.aA.drop i).take N=row at hcl;generalize ((i+N:Nat):Int)=iN at hsl ad;generalize i*3=o at hcl hsl;simp[ae2];refine bD.of (ny (l:=[⟨28,[.sl rb o N 3],K,n+1,ai row,K,n+1⟩]) ?_) ?_
 ·simp only[fD];rintro _ rfl;exact hcl
 have tk:=kt.none;have h1:(ai row).one=true:=rfl
 have ow:aC K (n+1) rv (bn s.rows) s.rows.length 1:=by
  refine⟨by simp[bn],?_⟩
  rcases M.lay.rv with⟨e1,e2⟩|⟨b,e⟩
  ·exact .inl ⟨e1,e2⟩
  subst e;have hm:(b,bn s.rows)∈s.told p rb cb (.sl b 0 s.rows.length 1) tv:=by simp[MS.told,yC]
  have hb:=M.lay.lt _ hm;exact .inr ⟨b,_,rfl,by simp at hb;omega,(kb b hb).trans (M.told _ hm),OwnB.list rfl⟩
 have nrv:∀c,blk rv=some c->c<n:=λ c hc=>M.lay.lt (c,bn s.rows) (by simp[MS.told,dV hc]);have h2:(ai row).len=1:=rfl;have h3:(ai row).cells=[ai row]:=rfl;simp[ab,SE,k0,hsl,ad,lk,br,bI,tk,h1,h2,h3,hF,cg l1,cg l2];generalize hK1:K.put (n+1) _=K1;have g1n:K1.get (n+1)=cl 1 [ai row]:=by rw[<-hK1];simp
 have yF:∀c,c≠n+1->K1.get c=K.get c:=λ c hc=>by rw[<-hK1];simp[hc]
 clear hK1;refine aC.PQ (k:=1) (new:=[ai row]) (ow.frame (n':=n+1+1) (by omega) λ c hc=>yF c (by have:=nrv c hc;omega)) (bM g1n) (by simp) (by simp) (by omega) (by omega) (by have:=M.aO.rows;unfold big;omega) (by omega) (by simp[h1]) λ K2 o2 g2=>?_;have ER:rv≠.sl p 0 s.rows.length 1:=λ e=>M.arK p (by rw[e];rfl) rfl;have q1:=(g2 p (by omega) ER).trans (yF p (by omega));have hone:=o2.dI;simp[ab,hF,q1,SE,br,bI,tk,VA];generalize hK3:K2.put p _=K3;have q3:K3.get p=cl 13 ((ez s i N).mc rb cb (.sl (n+1+1) 0 (s.rows.length+1) 1) tv):=by rw[<-hK3];simp[ez,hr,MS.mc]
 have q4:∀c,c≠p->K3.get c=K2.get c:=λ c hc=>by rw[<-hK3];simp[hc]
 clear hK3;obtain⟨h5,⟨h6,_⟩|⟨b,k,h6,h7,h8,h9⟩⟩:=o2
 ·cases h6
 injection h6 with h6;subst h6;refine⟨rfl,M.aq1 (s':=ez s i N) (by simp[ez,hr]) (by simp[ez,hr]) (by simp[ez,hr]) q3 ⟨k,(q4 _ (by omega)).trans h8,by simpa[ez,hr,bn,hrow]using h9⟩ λ c h1 h2 h3=>?_⟩;rw[q4 c h2,g2 c (by omega) (λ e=>h3 (by rw[e];rfl)),yF c (by omega),kb c h1]
theorem ab4 {S:Hp}{n p rb cb:Nat}{rv tv:AV}{s:MS}(x:Ins)(i N:Nat)(hr:¬s.roomy)(ht:gJ S n)(M:cy S n p rb cb rv tv s):
  ar pG 55 [.ptr p 0,x.av] S n (λ u K k=>u=yY (-1)/\ep K ((ez s i N).told p rb cb rv tv)/\k<=n+1):=by
 refine ar.of c55 (by simp[A55]) λ F hF=>?_;have DL:=M.gp;obtain⟨y,gr,ho⟩:=M.gr;obtain⟨l1,l2,l3⟩:=M.lt;obtain⟨d1,d2,d3⟩:=M.ne;simp[A55,hF,Ins.av,Ins.cells];refine au.of (AM (s:=s) (rb:=rb) (cb:=cb) M.lay.rv M.lay.tv M.aO.rows (by simp[cg l1,DL])) λ u K k ⟨e1,g1,g2,e2⟩=>?_;subst e1 e2;rw[ae hr]at g1;simp[hr,VA];refine⟨rfl,M.my (s':=ez s i N) (by simp[ez,hr,MS.e_]) (by simp[ez,hr,MS.e_]) (by simp[ez,hr,MS.e_]) (by simpa[ez,hr]using g1) ⟨y,by rw[g2 rb (Ne.symm d1)];simp[cg l2,gr],by simpa[ez,hr,MS.e_]using ho⟩ (λ b h1 h2 h3=>by rw[g2 b h2];simp[cg h1])⟩
def lL (s:MS)(c:jR)(i N:Nat):MS:={s with takes:=s.takes++[⟨c.page,c.slot,(s.aA.drop i).take N⟩]}
theorem KD {S:Hp}{n p rb cb:Nat}{rv tv:AV}{s:MS}(x:Ins)(q:Nat)(ha:x.a=(q:Int))(hq:q<s.aD.length)(ht:gJ S n)(M:cy S n p rb cb rv tv s)(h:(s.aD[q]).there=false∨¬s.roomy):
  ar pG 56 [.ptr p 0,x.av] S n (λ u K k=>u=yY (-1)/\ep K ((if (s.aD[q]).there=true then s.e_ else s).told p rb cb rv tv)/\k<=n+2):=by
 refine ar.of c56 (by simp[A56]) λ F hF=>?_;have DL:=M.gp;have gp:=M.gp;obtain⟨y,gr,ho⟩:=M.gr;obtain⟨yc,gc,hoc⟩:=M.gc;obtain⟨l1,l2,l3⟩:=M.lt;obtain⟨d1,d2,d3⟩:=M.ne;have mM:=dn (b:=cb) (o:=0) (sz:=5) (k:=.i64) hq;have hld:=ldR (c:=5) hoc (λ a=>a.aE) hq;rw[gz]at mM;generalize q*5=oq at mM hld;generalize s.aD[q]=cu at hld h ⊢;simp only[MS.mc]at gp;simp only[jR.cells]at hld;have tn:=ht.none;have HG:(mL cu.eL cu.b).one=true:=by unfold mL;split<;>rfl
 have HF:(jT cu.row).one=true:=by unfold jT;split<;>rfl
 simp[A56,hF,Ins.av,Ins.cells,ha];refine bD.of (bh (P:=pG)) ?_;simp[ab,hF,gp,cg l1,cg l3,wu l1,wu l3,mM,gc,hld,br,bI,tn,HG,HF,Vz]
 cases hth:cu.there with
 |false =>
  simp[MC,ab];refine⟨rfl,M.my rfl rfl rfl (by simp[cg l1,gp,MS.mc]) ⟨_,by simp[cg l2,gr],ho⟩ (λ b h1 h2 h3=>by simp[cg h1])⟩
 |true =>
  have hr:¬s.roomy:=by
   rcases h with h|h
   ·rw[hth]at h;cases h
   exact h
  simp[ab,hF];refine au.of (AM (s:=s) (rb:=rb) (cb:=cb) M.lay.rv M.lay.tv M.aO.rows (by simp[cg l1,DL])) λ u K k ⟨e1,g1,g2,e2⟩=>?_;subst e1 e2;rw[ae hr]at g1;simp[hr,MC,ab];refine⟨rfl,M.my (s':=s.e_) rfl rfl rfl g1 ⟨y,by rw[g2 rb (Ne.symm d1)];simp[cg l2,gr],ho⟩ (λ b h1 h2 h3=>by rw[g2 b h2];simp[cg h1])⟩
theorem cy.arJ {H:Hp}{n p rb cb:Nat}{rv tv:AV}{s:MS}(M:cy H n p rb cb rv tv s):∀c,blk tv=some c->c≠p:=by
 intro c hc e;subst e;have:=M.lay.nd;simp only[MS.told,map_cons,nodup_cons,mem_cons,not_or]at this;exact this.1.2.2 (iJ (mE _ (mem_append_left _ (dV hc _))))
theorem cy.aq0 {S K:Hp}{n p rb cb b:Nat}{rv tv:AV}{s s':MS}{len sz:Nat}(M:cy S n p rb cb rv tv s)(e1:s'.aA=s.aA)(e2:s'.rows=s.rows)(e3:s'.aD=s.aD)(hp:K.get p=cl 13 (s'.mc rb cb rv (.sl b 0 len sz)))(hr:∃y,K.get b=some y/\OwnB y (bU Tk.cells s'.takes))
  (hk:∀c,c<n->c≠p->blk tv≠some c->K.get c=S.get c):ep K (s'.told p rb cb rv (.sl b 0 len sz)):=by
 have hnd:=M.lay.nd;have hlt:=M.lay.lt;have htl:=M.told;simp only[MS.told,map_cons,nodup_cons,mem_cons,not_or]at hnd hlt htl;have ER:∀c,blk tv=some c->c≠rb/\c≠cb:=λ c hc=>⟨λ e=>hnd.2.1.2 (by rw[<-e];exact iJ (mE _ (mem_append_left _ (dV hc _)))),λ e=>hnd.2.2.1 (by rw[<-e];exact iJ (mE _ (mem_append_left _ (dV hc _))))⟩;have hd:=hnd.2.2.2;rw[map_append,nodup_append,map_append,nodup_append]at hd;intro e he;simp only[MS.told,e1,e2,e3,mem_cons]at he
 rcases he with rfl|rfl|rfl|he
 ·exact⟨_,hp,OwnB.list rfl⟩
 ·exact⟨_,(hk _ (hlt _ (.inr (.inl rfl))) (Ne.symm hnd.1.1) λ h=>(ER _ h).1 rfl).trans (htl _ (.inr (.inl rfl))),OwnB.list rfl⟩
 ·exact⟨_,(hk _ (hlt _ (.inr (.inr (.inl rfl)))) (Ne.symm hnd.1.2.1) λ h=>(ER _ h).2 rfl).trans (htl _ (.inr (.inr (.inl rfl)))),OwnB.list rfl⟩
 rw[mem_append,mem_append]at he
 rcases he with he|he|he
 ·have hm:=hlt e (.inr (.inr (.inr (mem_append_left _ he))));have ht:=htl e (.inr (.inr (.inr (mem_append_left _ he))));refine⟨_,(hk e.1 hm (λ h=>hnd.1.2.2 (by rw[<-h];exact iJ (mem_append_left _ he))) λ h=>?_).trans ht,OwnB.list rfl⟩;exact hd.2.2 e.1 (iJ he) e.1 (mem_append_left _ (iJ (f:=(·.1)) (dV h (bU Tk.cells s.takes)))) rfl
 ·simp[yC]at he;subst he;exact hr
 have hm:=hlt e (.inr (.inr (.inr (mE _ (mE _ he)))));have ht:=htl e (.inr (.inr (.inr (mE _ (mE _ he)))));refine⟨_,(hk e.1 hm (λ h=>hnd.1.2.2 (by rw[<-h];exact iJ (mE _ (mE _ he)))) λ h=>?_).trans ht,OwnB.list rfl⟩;exact hd.2.1.2.2 e.1 (iJ (f:=(·.1)) (dV h (bU Tk.cells s.takes))) e.1 (iJ he) rfl
theorem agH {S:Hp}{n p rb cb:Nat}{rv tv:AV}{s:MS}(x:Ins)(q i N:Nat)(hq0:x.a=(q:Int))(hq:q<s.aD.length)(ha:x.b=(i:Int))(hn:x.n=(N:Int))(hi:i+N<=s.aA.length)(hN:N<=16)(hR:s.aA.length<=256)(hr:s.roomy)(hth:(s.aD[q]).there=true)(ht:gJ S n)(M:cy S n p rb cb rv tv s):
  ar pG 56 [.ptr p 0,x.av] S n (λ u K k=>u=yY (-1)/\ep K ((lL s s.aD[q] i N).told p rb cb rv (.sl (n+3) 0 (s.takes.length+1) 3))/\k<=n+10):=by
 refine ar.of c56 (by simp[A56]) λ F hF=>?_;have DL:=M.gp;have gp:=M.gp;obtain⟨y,gr,ho⟩:=M.gr;obtain⟨yc,gc,hoc⟩:=M.gc;obtain⟨l1,l2,l3⟩:=M.lt;obtain⟨d1,d2,d3⟩:=M.ne;have mM:=dn (b:=cb) (o:=0) (sz:=5) (k:=.i64) hq;have hld:=ldR (c:=5) hoc (λ a=>a.aE) hq;rw[gz]at mM;generalize q*5=oq at mM hld;generalize s.aD[q]=cu at hld hth ⊢;have tn:=ht.none;have HG:(mL cu.eL cu.b).one=true:=by unfold mL;split<;>rfl
 have HF:(jT cu.row).one=true:=by unfold jT;split<;>rfl
 simp only[MS.mc]at gp;simp only[jR.cells]at hld;simp[A56,hF,Ins.av,Ins.cells,hq0,ha,hn];refine bD.of (bh (P:=pG)) ?_;simp[ab,hF,gp,cg l1,cg l3,wu l1,wu l3,mM,gc,hld,br,bI,tn,HG,HF,Vz,hth];refine au.of (AM (s:=s) (rb:=rb) (cb:=cb) M.lay.rv M.lay.tv M.aO.rows (by simp[cg l1,DL])) λ u K k ⟨e1,g1,g2,e2⟩=>?_;subst e1 e2;rw[ak hr]at g1;simp only[hr,decide_true];have kr:=(g2 rb (Ne.symm d1)).trans ((show _=S.get rb by simp[cg l2]).trans gr);have k0:=(g2 n (by omega)).trans (show _=some (bz.cells 15 [] _ .nil) by simp;rfl);have k1:=(g2 (n+1) (by omega)).trans (show _=some (bz.cells 5 [] _ .nil) by simp;rfl)
 have kb:∀b,b<n->K.get b=S.get b:=λ b hb=>by
  by_cases e:b=p
  ·subst e;rw[g1,DL]
  rw[g2 b e];simp[cg hb]
 have kt:gJ K (n+1+1):=λ b hb=>by rw[g2 b (by omega)];simp[show ¬b=n by omega,show ¬b=n+1 by omega,ht b (by omega)]
 clear g2;have SE:=g1;simp only[MS.mc]at SE;have hcl:bO pG 28 [.sl rb (i*3) N 3] K (n+1+1) (ai ((s.aA.drop i).take N)) K (n+1+1):=H4 (by omega) kr ho hi (by unfold bm;omega);have hsl:=BM (b:=rb) (len:=s.aA.length) (sz:=3) (k:=.i64) (i:=i) (j:=i+N) (by omega) hi;rw[show i+N - i=N by omega]at hsl
 have ad:fH (iI (i:Int)) (iI (N:Int))=.val (iI ((i+N:Nat):Int)):=by
  simp[fH];rw[aY _ (by omega) (by omega)]
 generalize hrow:(s.aA.drop i).take N=row at hcl;generalize ((i+N:Nat):Int)=iN at hsl ad;generalize i*3=o at hcl hsl;simp[ae1];refine bD.of (ny (l:=[⟨28,[.sl rb o N 3],K,n+1+1,ai row,K,n+1+1⟩]) ?_) ?_
 ·simp only[fD];rintro _ rfl;exact hcl
 have tk:=kt.none;have h1:(ai row).one=true:=rfl;have h2:(ai row).len=1:=rfl;have h3:(ai row).cells=[ai row]:=rfl
 have ow:aC K (n+1+1) tv (bU Tk.cells s.takes) s.takes.length 3:=by
  refine⟨by rw[jb (λ a=>a.aE)],?_⟩
  rcases M.lay.tv with⟨e1,e2⟩|⟨b,e⟩
  ·exact .inl ⟨e1,e2⟩
  subst e;have hm:(b,bU Tk.cells s.takes)∈s.told p rb cb rv (.sl b 0 s.takes.length 3):=by simp[MS.told,yC]
  have hb:=M.lay.lt _ hm;exact .inr ⟨b,_,rfl,by simp at hb;omega,(kb b hb).trans (M.told _ hm),OwnB.list rfl⟩
 have nrv:∀c,blk tv=some c->c<n:=λ c hc=>M.lay.lt (c,bU Tk.cells s.takes) (by simp[MS.told,dV hc]);simp[ab,SE,k0,k1,hsl,ad,lk,br,bI,tk,h1,h2,h3,hF,cg l1,cg l2];generalize hK1:K.put (n+1+1) _=K1;have g1n:K1.get (n+1+1)=cl 3 [.int .u32 cu.page,iI cu.slot,ai row]:=by rw[<-hK1];simp
 have yF:∀c,c≠n+1+1->K1.get c=K.get c:=λ c hc=>by rw[<-hK1];simp[hc]
 clear hK1;refine aC.PQ (k:=1) (new:=[.int .u32 cu.page,iI cu.slot,ai row]) (ow.frame (n':=n+1+1+1) (by omega) λ c hc=>yF c (by have:=nrv c hc;omega)) (bM g1n) (by simp) (by simp) (by omega) (by omega) (by have:=M.aO.rows;unfold big;omega) (by omega) (by simp[h1]) λ K2 o2 g2=>?_;have ER:tv≠.sl p 0 s.takes.length 3:=λ e=>M.arJ p (by rw[e];rfl) rfl;have q1:=(g2 p (by omega) ER).trans (yF p (by omega));have hone:=o2.dI;simp[ab,hF,q1,SE,br,bI,tk,MC];generalize hK3:K2.put p _=K3;have q3:K3.get p=cl 13 ((lL s cu i N).mc rb cb rv (.sl (n+1+1+1) 0 (s.takes.length+1) 3)):=by rw[<-hK3];simp[lL,MS.mc]
 have q4:∀c,c≠p->K3.get c=K2.get c:=λ c hc=>by rw[<-hK3];simp[hc]
 clear hK3;obtain⟨h5,⟨h6,_⟩|⟨b,k,h6,h7,h8,h9⟩⟩:=o2
 ·cases h6
 injection h6 with h6;subst h6;refine⟨rfl,M.aq0 (s':=lL s cu i N) rfl rfl rfl q3 ⟨k,(q4 _ (by omega)).trans h8,by simpa[lL,ei,bU,Tk.cells,hrow]using h9⟩ λ c h1 h2 h3=>?_⟩;rw[q4 c h2,g2 c (by omega) (λ e=>h3 (by rw[e];rfl)),yF c (by omega),kb c h1]
def lO:fJ:=⟨0,[],true,0,.aI .nilFunc,λ _=>true⟩
def OX (w:er)(t:Int)(fv:AV)(p:List Val->Bool):fJ:=match w.bQ.tables.findIdx? (λ x=>decide (x.id=t))with
 |none=>lO
 |some k=>if h:k<w.rows.length then ⟨k+1,w.rows[k],false,0,fv,p⟩else lO
theorem amK (t:iP)(i:Int)(H:Hp)(n b:Nat)(ht:gJ H n)(hb:H.get b=cl 1 [.int .u32 i]):ar pG 233 [bf.av t,.ptr b 0] H n (λ u K k=>u=.bool (decide (t.id=i))/\K=H/\k=n):=by
 refine ar.forget (by simp) (ar.of c233 (by simp[A233]) λ F hF=>?_);have q:¬b=n:=by have:=ht.lt hb;omega
 simp[A233,hF,aN.av,cT,q,hb];intro c hc h2;subst h2;exact aj (ht _ (aM _)) hc
theorem amL (t:lY)(i:Int)(H:Hp)(n b:Nat)(ht:gJ H n)(hb:H.get b=cl 1 [.int .u32 i]):ar pG 230 [aR.av t,.ptr b 0] H n (λ u K k=>u=.bool (decide (t.id=i))/\K=H/\k=n):=by
 refine ar.forget (by simp) (ar.of c230 (by simp[A230]) λ F hF=>?_);have q:¬b=n:=by have:=ht.lt hb;omega
 simp[A230,hF,aN.av,cJ,q,hb];intro c hc h2;subst h2;exact aj (ht _ (aM _)) hc
theorem abX (l:List iP)(i:Int)(hl:l.length<=bm)(H:Hp)(n b:Nat)(ht:gJ H n)(hb:H.get b=cl 1 [.int .u32 i]):ar pG 110 [bf.ds l,.fn (.func 233) [] [.ptr b 0]] H n (λ u K k=>u=iI (lI (λ x:iP=>decide (x.id=i)) l)/\K=H/\k=n):=
 wI (el:=bf.av) c110 hl (bf.aF _) (λ i h=>⟨_,bf.ix h,λ F H n h14=>by simp[h14,bf.sC]⟩) λ x _=>amK x i H n b ht hb
theorem LG (l:List lY)(i:Int)(hl:l.length<=bm)(H:Hp)(n b:Nat)(ht:gJ H n)(hb:H.get b=cl 1 [.int .u32 i]):ar pG 115 [aR.ds l,.fn (.func 230) [] [.ptr b 0]] H n (λ u K k=>u=iI (lI (λ x:lY=>decide (x.id=i)) l)/\K=H/\k=n):=
 wI (el:=aR.av) c115 hl (aR.aF _) (λ i h=>⟨_,aR.ix h,λ F H n h14=>by simp[h14,aR.sC]⟩) λ x _=>amL x i H n b ht hb
theorem adh (w:er) (hw:w.aO) (t:Int) (g:Fn) (ca cb:List AV) (p:List Val->Bool) (H:Hp) (n:Nat) (ht:gJ H n):
  ar pG 228 [bw.av w,.int .u32 t,(.fn g ca cb)] H n (λ u K k=>u=.aW [.fO 260 (.ptr (n+1+1) 0),iI 0]/\K.get (n+1+1)=some (.cells 4 [] (OX w t (.fn g ca cb) p).cells .nil)/\(∀c,c<n->K.get c=H.get c)/\k=n+1+1+1):=by
 refine ar.of c228 (by simp[A228]) λ F hF=>?_;have h2:=hw.l;have h3:=hw.s.t;unfold bm at h2 h3;simp[A228,hF,aN.av,fa];refine au.same (abX _ t hw.s.t _ _ (n+1) (λ b hb=>by simp[show ¬b=n by omega,show ¬b=n+1 by omega,ht b (by omega)]) (by simp)) ?_;unfold OX lI
 cases hk:w.bQ.tables.findIdx? (λ x=>decide (x.id=t))with
 |none =>
  simp[CP,Jl,lO,fJ.cells,fJ.rv,oR];exact λ c hc=>by simp[cg hc]
 |some k =>
  have hkl:k<w.bQ.tables.length:=by
   rw[findIdx?_eq_some_iff_getElem]at hk;exact hk.1
  have k0:¬(k:Int)<0:=by omega
  by_cases h:k<w.rows.length
  ·have hx:=jJ.ix (ik:=.i64) h;rw[lg]at hx
   have e1:cO .u32 (iI (k:Int))=.val (.int .u32 (k:Int)):=by
    rw[bC]
    congr 2
    simp[IntKind.wrap,IntKind.signed,IntKind.bits];omega
   have e2:fH (.int .u32 (k:Int)) (.int .u32 1)=.val (.int .u32 ((k:Int)+1)):=by
    simp[fH,IntKind.wrap,IntKind.signed,IntKind.bits];omega
   have e3:(bV w.rows[k]).one=true:=rfl;have e4:(bV w.rows[k]).len=1:=rfl;have e5:(bV w.rows[k]).cells=[bV w.rows[k]]:=rfl;simp[CP,W5,show ¬w.rows.length<=k by omega,h,aN.aF,k0,hx,e1,e2,e3,e4,e5,hF,oR,fJ.cells,fJ.rv];exact λ c hc=>by simp[cg hc]
  simp[CP,Jl,h,show w.rows.length<=k by omega,lO,fJ.cells,fJ.rv,k0,oR,aN.aF];exact λ c hc=>by simp[cg hc]
theorem ajs (r:List Val):ah pG 229 [ai r] (.bool true):=by
 refine pv c229 λ F hF=>?_;simp[A229];exact fp
def lY.idx (x:lY):j8:=⟨x.id,x.table,x.name,x.cols,x.uniq,x.root⟩
theorem lY.Pn (x:lY):x.idx.cells=aR.cells x:=by
 rw[cJ];simp[lY.idx,j8.cells,aN.ds]
 induction x.cols with
 |nil=>rfl
 |cons a r ih=>rw[aN.kX,<-ih];rfl
theorem amN (x:lY)(s:dw)(row:List Val)(h1:x.cols.length<=bm)(h2:s.eq.length<=bm)(h3:row.length<=bm):ah pG 231 [ai row,.dp (aR.cells x),.dp s.cells] (.bool (rR x.idx s row)):=by
 refine eY c231 (by simp[dw.cells]) (by simp) (by simp[A231]) λ F hF=>?_;have e1:=λ H=>aR.sC x [] H;have e2:∀H,df 11 (.dp s.cells) H=.val (.agg s.cells 11):=λ H=>by have:=ga (H:=H) (k:=11) (l:=s.cells) [] rfl;rwa [append_nil]at this
 have h:=in5 x.idx s row h1 h2 h3;have e3:x.idx.av=aR.av x:=by simp[j8.av,aN.av,x.Pn]
 rw[e3]at h;simp only[append_nil]at e1;simp[A231,hF,e1,e2];refine au.pure h ?_;simp;exact fp
def anh:AV:=.fn (.func 229) [] []
def adA (x:lY)(s:dw):AV:=.fn (.func 231) [] [.dp (aR.cells x),.dp s.cells]
def qk (w:er)(t:Int):fJ:=OX w t anh λ _=>true
def iU (w:er)(id:Int)(s:dw):fJ:=match w.bQ.indexes.findIdx? (λ x=>decide (x.id=id))with
 |none=>lO
 |some k=>if h:k<w.bQ.indexes.length then OX w (w.bQ.indexes[k]).table (adA w.bQ.indexes[k] s) (rR (w.bQ.indexes[k]).idx s)else lO
theorem ld6 (a b c d e f:AV)(r:List AV)(H:Hp):df 6 (.dp (a::b::c::d::e::f::r)) H=.val (.agg [a,b,c,d,e,f] 6):=ga (l:=[a,b,c,d,e,f]) r rfl
theorem aaC (w:er)(hw:w.aO)(t:Int)(H:Hp)(n:Nat)(ht:gJ H n):
  ar pG 226 [bw.av w,.int .u32 t] H n (λ u K k=>u=.aW [.fO 260 (.ptr (n+1+1+1) 0),iI 0]/\K.get (n+1+1+1)=some (.cells 4 [] (qk w t).cells .nil)/\k=n+1+1+1+1):=by
 refine ar.of c226 (by simp[A226]) λ F hF=>?_;have ho:=bw.one w;simp[A226,hF,aN.av];refine au.of (adh w hw t (.func 229) [] [] (λ _=>true) _ (n+1) (λ b hb=>by simp[show ¬b=n by omega,ht b (by omega)])) λ u K k ⟨e1,g1,g2,e2⟩=>?_;subst e1 e2;simp;exact g1
theorem alr (w:er)(hw:w.aO)(id:Int)(s:dw)(H:Hp)(n:Nat)(ht:gJ H n)(hk:w.bQ.indexes.findIdx? (λ x=>decide (x.id=id))=none):
  ar pG 227 [bw.av w,.int .u32 id,s.av] H n (λ u K k=>u=.aW [.fO 260 (.ptr (n+1+1+1) 0),iI 0]/\K.get (n+1+1+1)=cl 4 lO.cells/\k=n+1+1+1+1):=by
 refine ar.of c227 (by simp[A227]) λ F hF=>?_;have hc:=LG w.bQ.indexes id hw.s.i;unfold lI at hc;simp only[hk]at hc;simp[A227,hF,aN.av,fa,dw.av,dw.cells];refine au.same (hc _ _ (n+1) (λ b hb=>by simp[show ¬b=n by omega,show ¬b=n+1 by omega,show ¬b=n+1+1 by omega,ht b (by omega)]) (by simp)) ?_;simp[Jm,W8,lO,fJ.cells,fJ.rv,oR]
theorem als (w:er)(hw:w.aO)(id:Int)(s:dw)(H:Hp)(n:Nat)(ht:gJ H n)(k:Nat)(hk:w.bQ.indexes.findIdx? (λ x=>decide (x.id=id))=some k)(h:k<w.bQ.indexes.length):
  ar pG 227 [bw.av w,.int .u32 id,s.av] H n (λ u K k2=>u=.aW [.fO 260 (.ptr (n+1+1+1+1+1+1) 0),iI 0]/\K.get (n+1+1)=cl 11 s.cells/\K.get (n+1+1+1)=cl 6 (aR.cells w.bQ.indexes[k]) /\
   K.get (n+1+1+1+1+1+1)=some (.cells 4 [] (OX w (w.bQ.indexes[k]).table (.fn (.func 231) [] [.ptr (n+1+1+1) 0,.ptr (n+1+1) 0]) (rR (w.bQ.indexes[k]).idx s)).cells .nil)/\k2=n+1+1+1+1+1+1+1):=by
 refine ar.of c227 (by simp[A227]) λ F hF=>?_;have h3:=hw.s.i;unfold bm at h3;have hc:=LG w.bQ.indexes id hw.s.i;unfold lI at hc;simp only[hk]at hc;have hx:=aR.ix (ik:=.i64) h;simp only[cJ]at hx;generalize hxk:w.bQ.indexes[k]=x at hx ⊢;simp only[cons_append,nil_append]at hx;simp[A227,hF,aN.av,fa,dw.av,dw.cells];refine au.same (hc _ _ (n+1) (λ b hb=>by simp[show ¬b=n by omega,show ¬b=n+1 by omega,show ¬b=n+1+1 by omega,ht b (by omega)]) (by simp)) ?_;have h1:(fo.ds x.cols).one=true:=by simp
 simp[Jm,W7,show ¬(k:Int)<0 by omega,hx,ld6,W6];refine au.of (adh w hw x.table (.func 231) [] [.ptr (n+1+1+1) 0,.ptr (n+1+1) 0] (rR x.idx s) _ (n+1+1+1+1) (λ b hb=>by simp[show ¬b=n by omega,show ¬b=n+1 by omega,show ¬b=n+1+1 by omega,show ¬b=n+1+1+1 by omega,ht b (by omega)])) λ u K k ⟨e1,g1,g2,e2⟩=>?_;subst e1 e2;simp;refine⟨?_,?_,g1⟩
 ·rw[g2 _ (by omega)];simp[dw.cells]
 rw[g2 _ (by omega)];simp[cJ]
def EF (b:Nat):AV:=.aW [.fO 260 (.ptr b 0),iI 0]
theorem RJ {f:FuncId}{args:List AV}{l:fJ}{b n':Nat}{H:Hp}{n:Nat}(hp:aT args)(hb:n<=b)(hb2:b<n')(h:∀S,gJ S n->ar pG f args S n (λ u K k=>u=EF b/\K.get b=cl 4 l.cells/\k=n')):
  ∃H1,bO pG f args H n (EF b) H1 n'/\H1.get b=cl 4 l.cells/\∀c,c<n->H1.get c=H.get c:=by
 obtain⟨H1,h1,h2,h3⟩:=ar.okL (H:=H) (n:=n) (n':=n') (v0:=EF b) [] [(b,l.cells)] (aT.lC hp) (by simp) (by simp) (by simp) (by omega) (by simp) (by simpa using⟨hb,hb2⟩) ((h _ (mF (by simp))).mono λ u K k ⟨e1,g1,e2⟩=>⟨e1,by simpa using⟨_,g1,OwnB.list rfl⟩,by omega⟩);exact⟨H1,h1,h2 (b,l.cells) (by simp),λ c hc=>h3 c (by simp) (.inl hc)⟩
theorem agT (w:er)(hw:w.aO)(t:Int)(H:Hp)(n:Nat):∃H1,bO pG 226 [bw.av w,.int .u32 t] H n (EF (n+1+1+1)) H1 (n+1+1+1+1)/\H1.get (n+1+1+1)=some (.cells 4 [] (qk w t).cells .nil)/\∀c,c<n->H1.get c=H.get c:=by
 obtain⟨H1,h⟩:=RJ (H:=H) (n:=n) (b:=n+1+1+1) (n':=n+1+1+1+1) (l:=qk w t) (args:=[bw.av w,.int .u32 t]) (by simp) (by omega) (by omega) λ S hS=>aaC w hw t S n hS;exact⟨H1,h⟩
def iV (w:er)(id:Int)(n:Nat):Nat:=match w.bQ.indexes.findIdx? (λ x=>decide (x.id=id))with
 |none=>n+1+1+1
 |some _=>n+1+1+1+1+1+1
theorem Ea (w:er)(id:Int)(n:Nat):n<=iV w id n:=by
 unfold iV
 split<;>omega
theorem ahx {w:er}{t:Int}{fv fv':AV}{p:List Val->Bool}{h:Hf}(f:FJ h fv fv'):Z' h (OX w t fv p).cells (OX w t fv' p).cells:=by
 unfold OX
 split
 ·exact Z'.refl _ _
 split
 ·exact .cons _ _ _ _ (FJ.refl _ _) (.cons _ _ _ _ (FJ.refl _ _) (.cons _ _ _ _ (FJ.refl _ _) (.cons _ _ _ _ f .nil)))
 exact Z'.refl _ _
theorem agR (w:er)(hw:w.aO)(id:Int)(s:dw)(H:Hp)(n:Nat):∃H1,bO pG 227 [bw.av w,.int .u32 id,s.av] H n (EF (iV w id n)) H1 (iV w id n+1)/\H1.get (iV w id n)=some (.cells 4 [] (iU w id s).cells .nil)/\∀c,c<n->H1.get c=H.get c:=by
 cases hk:w.bQ.indexes.findIdx? (λ x=>decide (x.id=id))with
 |none =>
  obtain⟨H1,h⟩:=RJ (H:=H) (n:=n) (b:=n+1+1+1) (n':=n+1+1+1+1) (l:=iU w id s) (args:=[bw.av w,.int .u32 id,s.av]) (by simp) (by omega) (by omega) λ S hS=>by
   have:=alr w hw id s S n hS hk;rw[show iU w id s=lO by unfold iU;rw[hk]];exact this
  have e:iV w id n=n+1+1+1:=by unfold iV;rw[hk]
  rw[e];exact⟨H1,h⟩
 |some k =>
  have h:k<w.bQ.indexes.length:=by
   rw[findIdx?_eq_some_iff_getElem]at hk;exact hk.1
  obtain⟨H1,h⟩:=RJ (H:=H) (n:=n) (b:=n+1+1+1+1+1+1) (n':=n+1+1+1+1+1+1+1) (l:=iU w id s) (args:=[bw.av w,.int .u32 id,s.av]) (by simp) (by omega) (by omega) λ S hS=>by
   refine(als w hw id s S n hS k hk h).zs λ u K k2 ⟨e1,g1,g2,g3,e2⟩=>?_;generalize hb:n+1+1+1+1+1+1=b at *
   have hsl:iU w id s=OX w (w.bQ.indexes[k]).table (adA w.bQ.indexes[k] s) (rR (w.bQ.indexes[k]).idx s):=by
    unfold iU;rw[hk];simp[h]
   generalize w.bQ.indexes[k]=x at *
   have hfr:cM (λ c=>if c=n+1+1∨c=n+1+1+1 then K.get c else none) [.ptr (n+1+1+1) 0,.ptr (n+1+1) 0] [.dp (aR.cells x),.dp s.cells]:=by
    refine .cons _ _ _ _ (.ptr _ _ 6 6 [] (aR.cells x) .nil (aR.cells x) _ (by simp[g2]) ?_ (cM.pure (by simp))) (.cons _ _ _ _ (.ptr _ _ 11 11 [] s.cells .nil s.cells _ (by simp[g1]) ?_ (cM.pure (by simp[dw.cells]))) .nil)
    ·exact wO 6 _
    exact wO 11 _
   refine⟨λ c=>if c=n+1+1∨c=n+1+1+1 then K.get c else none,Tr.nil.put b (some (.cells 4 [] (iU w id s).cells .nil)),u,⟨λ c y hy=>?_,λ c hc=>?_,λ c y hy=>?_⟩,FJ.refl _ _,e1,by simp,by omega⟩
   ·split at hy
    ·exact hy
    cases hy
   ·have:c=n+1+1∨c=n+1+1+1:=by
     by_cases e:c=n+1+1∨c=n+1+1+1
     ·exact e
     simp[e]at hc
    simp[show ¬c=b by omega]
   rw[Tr.get_put]at hy
   split at hy
   ·rename_i e;subst e;injection hy with hy;subst hy;refine⟨_,g3,.inr ⟨_,_,_,_,_,rfl,rfl,rfl,λ i v' hv=>?_⟩⟩;rw[hsl]at hv;obtain⟨v,h4,h5⟩:=(ahx (FJ.fn hfr)).at i v' hv;refine⟨v,?_,h5⟩;rw[k_,ak]
    ·exact h4
    have:=(nS.1 h4).1;simpa[fJ.cells]using this
   simp at hy
  have e:iV w id n=n+1+1+1+1+1+1:=by unfold iV;rw[hk]
  rw[e];exact⟨H1,h⟩
end Go.Abs
