/- A part. -/
import Derived.Test.YtbdgioomddkglaaGreatBt11
noncomputable section
namespace Go.Abs
open List
open Go.Proofs
open Classical
set_option maxRecDepth 100000
def P3 (w:er)(l:fJ)(pl:List Pl):Prop:=(l.rows=[]/\pl=[])∨∃(k:Nat)(h:k<w.rows.length),l.page=(k:Int)+1/\l.rows=w.rows[k]/\rE k l.p l.rows l.rows.length=rE k l.p l.rows l.at_++pl/\l.at_<=l.rows.length
theorem adg (w:er)(t:Int)(fv:AV)(p:List Val->Bool):P3 w (OX w t fv p) (K7 w t p):=by
 unfold OX K7
 cases hk:w.bQ.tables.findIdx? (λ x=>decide (x.id=t))with
 |none=>exact .inl ⟨rfl,rfl⟩
 |some k =>
  by_cases h:k<w.rows.length
  ·simp only[dif_pos h];exact .inr ⟨k,h,rfl,rfl,by simp[rE],by simp⟩
  simp only[dif_neg h];exact .inl ⟨rfl,rfl⟩
theorem E2 (l:fJ)(k:Int):∀(t i:Nat),i+t=l.rows.length->(l.Qc i t=none->rE k l.p l.rows l.rows.length=rE k l.p l.rows i)/\(∀j,l.Qc i t=some j->i<=j/\j<l.rows.length/\rE k l.p l.rows (j+1)=rE k l.p l.rows i++[⟨k,j⟩])
 |0,i,h=>⟨λ _=>by rw[<-h];simp,λ j hj=>(by cases hj)⟩
 |t + 1,i,h=>by
  have hi:i<l.rows.length:=by omega
  obtain⟨h1,h2⟩:=E2 l k t (i+1) (by omega);have hs:=v9 (k:=k) (p:=l.p) hi;unfold fJ.Qc;rw[dU hi]
  by_cases hp:l.p l.rows[i]=true
  ·simp only[hp,if_true];refine⟨λ e=>(by cases e),λ j hj=>?_⟩;injection hj with hj;subst hj;rw[hs,ak hp];exact⟨aM _,hi,rfl⟩
  simp only[hp];rw[ae hp,append_nil]at hs;rw[hs]at h1 h2;refine⟨λ e=>h1 (by simpa using e),λ j hj=>?_⟩;obtain⟨a,b,c⟩:=h2 j (by simpa using hj);exact⟨by omega,b,c⟩
theorem Rz {w:er}{l:fJ}{pl:List Pl}(h:P3 w l pl):(l.Eu=none->pl=[]/\P3 w l.uV [])/\(∀j,l.Eu=some j->∃(k:Nat) (hk:k<w.rows.length) (hj:j<w.rows[k].length) (r:List Pl),pl=⟨k,j⟩::r/\P3 w l.uV r/\l.page=(k:Int)+1/\l.rows.getD j []=w.rows[k][j]):=by
 rcases h with⟨h1,rfl⟩|⟨k,hk,hp,hr,hl,ha⟩
 ·have hn:l.Eu=none:=by
   unfold fJ.Eu;rw[show l.rows.length - l.at_=0 by rw[h1];simp];rfl
  refine⟨λ _=>⟨rfl,.inl ⟨?_,rfl⟩⟩,λ j hj=>by rw[hn]at hj;cases hj⟩;unfold fJ.uV;rw[hn];exact h1
 obtain⟨h1,h2⟩:=E2 l k (l.rows.length - l.at_) l.at_ (by omega);refine⟨λ hn=>?_,λ j hj=>?_⟩
 ·have e:=h1 hn;rw[e]at hl;have:pl=[]:=by simpa using hl
  refine⟨this,.inr ⟨k,hk,?_⟩⟩;unfold fJ.uV;rw[hn];exact⟨hp,hr,by simp,aM _⟩
 obtain⟨a,b,c⟩:=h2 j hj
 have hs:∃r,rE k l.p l.rows l.rows.length=rE k l.p l.rows (j+1)++r:=by
  have key:∀d,j+1+d<=l.rows.length->∃r,rE k l.p l.rows (j+1+d)=rE k l.p l.rows (j+1)++r:=by
   intro d
   induction d with
   |zero=>exact λ _=>⟨[],by simp⟩
   |succ d ih =>
    intro hd;obtain⟨r,hr⟩:=ih (by omega);exact⟨_,by rw[show j+1+(d+1)=(j+1+d)+1 by omega,rE,hr,append_assoc]⟩
  obtain⟨r,hr⟩:=key (l.rows.length - (j+1)) (by omega);rw[show j+1+(l.rows.length - (j+1))=l.rows.length by omega]at hr;exact⟨r,hr⟩
 obtain⟨r,hrr⟩:=hs
 have hpl:pl=⟨k,j⟩::r:=by
  have:=hl.symm.trans hrr;rw[c,append_assoc]at this;simpa using this
 have hjk:j<w.rows[k].length:=by rw[<-hr];exact b
 refine⟨k,hk,hjk,r,hpl,.inr ⟨k,hk,?_⟩,hp,by simp[getD,b,hr,hjk]⟩;unfold fJ.uV;rw[hj];exact⟨hp,hr,hrr,b⟩
structure acR (w:er)(c:jR)(f:Lf)(p:Pl):Prop where
 nil:f.nil=true->f.l=[]
 off:c.eL=none->f.l=[]/\c.there=false/\c.row=none
 on:∀l,c.eL=some l->P3 w l f.l
 row:(c.there=false/\c.row=none/\p.t<0)∨∃(k r:Nat) (h:k<w.rows.length) (h2:r<w.rows[k].length),p=⟨k,r⟩/\c.there=true/\c.page=(k:Int)+1/\c.slot=r/\c.row=some w.rows[k][r]
structure uB (s:MS)(d:eA):Prop where
 aA:d.aA=s.aA
 err:d.err=s.least
 rows:d.rows=s.rows
 takes:d.takes=s.takes
 full:d.full=s.full
 ll:d.left.length=s.aD.length
 lr:d.row.length=s.aD.length
 cur:∀i (h:i<s.aD.length),acR s.w s.aD[i] (d.left[i]'(by omega)) (d.row[i]'(by omega))
 good:∀v∈s.aA,Gd v
theorem RB {w:er}{l:fJ}{pl:List Pl}(h:P3 w l pl)(b:Nat):acR w (jD b l) ⟨pl,false⟩ ⟨-1,-1⟩:=
 ⟨λ e=>(by cases e),λ e=>(by simp[jD]at e),λ l' e=>by simp[jD]at e;subst e;exact h,.inl ⟨rfl,rfl,by show (-1:Int)<0;omega⟩⟩
theorem uB.G6 {s:MS}{d:eA}(X:uB s d){q:Nat}{c:jR}{f:Lf}{p:Pl}(h:acR s.w c f p):uB {s with aD:=s.aD.set q c} {d with left:=d.left.set q f,row:=d.row.set q p}:=
 ⟨X.aA,X.err,X.rows,X.takes,X.full,by simpa using X.ll,by simpa using X.lr,λ i hi=>by
  have h1:=X.ll;have h2:=X.lr
  by_cases e:q=i
  ·subst e;simpa using h
  have hi':i<s.aD.length:=by simpa using hi
  simpa[e]using X.cur i hi',X.good⟩
theorem uB.alk {s:MS}{d:eA}(X:uB s d){q:Nat}{c:jR}{p:Pl}(hq:q<s.aD.length)(h:acR s.w c (d.left[q]'(by have:=X.ll;omega)) p):uB {s with aD:=s.aD.set q c} {d with row:=d.row.set q p}:=
 ⟨X.aA,X.err,X.rows,X.takes,X.full,by simpa using X.ll,by simpa using X.lr,λ i hi=>by
  have h1:=X.ll;have h2:=X.lr
  by_cases e:q=i
  ·subst e;simpa using h
  have hi':i<s.aD.length:=by simpa using hi
  simpa[e]using X.cur i hi',X.good⟩
theorem uB.agQ {s:MS}{d:eA}(X:uB s d){i:Nat}{v:Val}(h:Gd v):uB {s with aA:=s.aA.set i v} {d with aA:=d.aA.set i v}:=
 ⟨by simp[X.aA],X.err,X.rows,X.takes,X.full,X.ll,X.lr,X.cur,λ u hu=>by
  rcases mem_or_eq_of_mem_set hu with h1|rfl
  ·exact X.good u h1
  exact h⟩
theorem EJ (a e:Int)(h:e≠0):eL a e=ud a e:=by
 unfold eL ud
 by_cases h0:a=0
 ·simp[h0]
 rw[ae h0,ae h]
 by_cases h1:e<a
 ·rw[ak (.inr h1)];omega
 rw[ae (by omega)];omega
end Go.Abs
namespace Go.Abs
open List
open Go.Proofs
open Classical
set_option maxRecDepth 100000
section
variable {n:Nat}{x:Ins}{v v0:Fv}{s:MS}{d:eA}{H0:Hp}{F:Fr}{K:Hp}{m:Nat}
def acx (s:MS)(r:Int×MS)(d':eA):Prop:=uB r.2 d'/\d'.at_=(if r.1<0 then s.at_+1 else r.1)/\d'.ended=r.2.ended
theorem uB.at' (X:uB s d)(a:Int)(e:Bool):uB s {d with at_:=a,ended:=e}:=⟨X.aA,X.err,X.rows,X.takes,X.full,X.ll,X.lr,X.cur,X.good⟩
theorem alj (X:uB s d)(hf:s.aO)(hok:fL s.w)(hat:d.at_=s.at_)(hen:d.ended=s.ended)(hx:s.c.ok x=true)(hxr:x.v.jA)(S:qY n s.w x v d v0 H0 K m)(FF:SF n x F)(f18:F.get 18=some (iI x.op))(f7:F.get 7=some (iI (s.at_+1))):
  ∃d',VC pG (.seq (.block 0 vk) GG) F K m [] (DN n d' v0 H0)/\acx s (dN s x 0) d':=by
 have hR:s.aA.length<=256:=by have:=(ux hf.ok).2.1;have:=hf.eC;omega
 have ok:=hx;have f7':F.get 7=some (iI (d.at_+1)):=by rw[hat];exact f7
 have hll:=X.ll;have hlr:=X.lr;have hrg:=X.aA;have htg:s.c.target x.j=true->¬x.j<0:=λ h=>by simp[aU.target]at h;omega
 have hnil:∀f∈d.left,f.nil=true->f.l=[]:=λ f hf'=>by
  obtain⟨i,hi,rfl⟩:=getElem_of_mem hf';exact(X.cur i (by omega)).nil
 unfold aU.ok at ok
 by_cases h1:x.op=1
 ·simp[h1]at ok;obtain⟨e1,q1⟩:=qq hf ok;have hd:dN s x 0=(-1,{s with aD:=s.aD.set x.a.toNat (jD (0+1+1+1+1) (qk s.w x.id))}):=by unfold dN;rw[ak h1]
  rw[hd];refine⟨_,anZ (i:=x.a.toNat) S FF f18 f7' (.inl h1) e1 (by omega) (by omega) (aaS hf.w hok.l x h1 S.M.g),?_,?_,hen⟩
  ·exact(X.G6 (RB (adg s.w x.id _ _) _)).at' _ _
  show d.at_+1=_;rw[hat];rfl
 by_cases h2:x.op=2
 ·simp[h2]at ok;obtain⟨e1,q1⟩:=qq hf ok.1;obtain⟨e2,e3,q2,q3⟩:=zd hf ok.2.1
  have hlo:0<=x.lo->x.lo.toNat<s.aA.length:=λ h=>by
   rcases ok.2.2.1 with h' |h'
   ·omega
   exact(kD hf h').2
  have hhi:0<=x.hi->x.hi.toNat<s.aA.length:=λ h=>by
   rcases ok.2.2.2 with h' |h'
   ·omega
   exact(kD hf h').2
  have hd:dN s x 0=(-1,{s with aD:=s.aD.set x.a.toNat (jD (iV s.w x.id (0+1+1)) (iU s.w x.id (AB s x x.b.toNat x.n.toNat)))}):=by unfold dN;rw[ae h1,ak h2]
  rw[hd];have hpl:=aaR hf.w hok.s hok.l x h1 e2 e3 (by rw[hrg];exact q3) q2 (by rw[hrg];exact hR) (by rw[hrg];exact hlo) (by rw[hrg];exact hhi) S.M.g;rw[hrg,agN,abH (abE λ i hi=>(hok.s.ixs i hi).id)]at hpl;refine⟨_,anZ (i:=x.a.toNat) S FF f18 f7' (.inr h2) e1 (by omega) (by omega) hpl,?_,?_,hen⟩
  ·refine(X.G6 (RB ?_ _)).at' _ _;unfold iU QC
   cases hk:s.w.bQ.indexes.findIdx? (λ y=>decide (y.id=x.id))with
   |none=>exact .inl ⟨rfl,rfl⟩
   |some k =>
    by_cases h:k<s.w.bQ.indexes.length
    ·simp only[dif_pos h];exact adg _ _ _ _
    simp only[dif_neg h];exact .inl ⟨rfl,rfl⟩
  show d.at_+1=_;rw[hat];rfl
 by_cases h3:x.op=3
 ·simp[h3]at ok;obtain⟨e1,q1⟩:=qq hf ok.1;have hj:=htg ok.2;have hc:=X.cur _ q1;refine⟨_,do3 (i:=x.a.toNat) S FF f18 f7' h3 hnil e1 (by omega) (by omega),?_⟩;have hg:d.left.getD x.a.toNat ⟨[],true⟩=d.left[x.a.toNat]'(by omega):=by simp[getD,show x.a.toNat<d.left.length by omega]
  unfold RA;rw[hg]
  cases hl:(s.aD[x.a.toNat]).eL with
  |none =>
   have hd:dN s x 0=(x.j,s):=by unfold dN;rw[ae h1,ae h2,ak h3,jX q1,hl]
   obtain⟨o1,o2,o3⟩:=hc.off hl;rw[hd,o1];have hs:{s with aD:=s.aD.set x.a.toNat s.aD[x.a.toNat]}=s:=by rw[List.set_getElem_self]
   have:=X.alk (c:=s.aD[x.a.toNat]) (p:=⟨-1,-1⟩) q1 ⟨hc.nil,hc.off,hc.on,.inl ⟨o2,o3,by show (-1:Int)<0;omega⟩⟩;rw[hs]at this;exact⟨this.at' _ _,by rw[ae hj],hen⟩
  |some l =>
   have hd:dN s x 0=(sN l x.j,{s with aD:=s.aD.set x.a.toNat (mH s.aD[x.a.toNat] l)}):=by unfold dN;rw[ae h1,ae h2,ak h3,jX q1,hl]
   rw[hd];obtain⟨n1,n2⟩:=Rz (hc.on l hl)
   cases hn:l.Eu with
   |none =>
    obtain⟨p1,p2⟩:=n1 hn;rw[p1];have hx1:sN l x.j=x.j:=by unfold sN;rw[hn]
    have hx2:mH s.aD[x.a.toNat] l={s.aD[x.a.toNat]with eL:=some l.uV,row:=none,page:=0,slot:=0,there:=false}:=by unfold mH;rw[hn]
    rw[hx1,hx2];refine⟨(X.alk (p:=⟨-1,-1⟩) q1 ⟨hc.nil,λ e=>(by cases e),λ l' e=>?_,.inl ⟨rfl,rfl,by show (-1:Int)<0;omega⟩⟩).at' _ _,by rw[ae hj],hen⟩;injection e with e;subst e;rw[p1];exact p2
   |some j =>
    obtain⟨k,hk,hjk,r,p1,p2,p3,p4⟩:=n2 j hn;rw[p1];have hx1:sN l x.j = -1:=by unfold sN;rw[hn]
    have hx2:mH s.aD[x.a.toNat] l={s.aD[x.a.toNat]with eL:=some l.uV,row:=some (l.rows.getD j []),page:=l.page,slot:=j,there:=true}:=by unfold mH;rw[hn]
    rw[hx1,hx2];refine⟨(X.G6 (f:=⟨r,false⟩) (p:=⟨k,j⟩) ⟨λ e=>(by cases e),λ e=>(by cases e),λ l' e=>?_,.inr ⟨k,j,hk,hjk,rfl,rfl,p3,rfl,by rw[p4]⟩⟩).at' _ _,by show d.at_+1=_;rw[hat];rfl,hen⟩;injection e with e;subst e;exact p2
 by_cases h4:x.op=4
 ·simp[h4]at ok;obtain⟨e1,q1⟩:=kD hf ok.1;obtain⟨e2,q2⟩:=qq hf ok.2.1;have hc:=X.cur _ q2;have hd:dN s x 0=(-1,{s with aA:=s.aA.set x.a.toNat (yJ (s.aD[x.b.toNat]).row x.c.toNat)}):=by unfold dN;rw[ae h1,ae h2,ae h3,ak h4,jX q2]
  rw[hd]
  have asr:Fj s.w (d.row[x.b.toNat]'(by omega)) x.c.toNat=yJ (s.aD[x.b.toNat]).row x.c.toNat/\Gd (yJ (s.aD[x.b.toNat]).row x.c.toNat)/\ao1 s.w (d.row[x.b.toNat]'(by omega)):=by
   rcases hc.row with⟨_,r2,r3⟩|⟨k,r,hk,hr,r1,_,_,_,r5⟩
   ·rw[r2];refine⟨?_,LA,.inl r3⟩;unfold Fj;rw[ak r3];rfl
   rw[r1,r5]
   have hg:Gd ((s.w.rows[k][r]).getD x.c.toNat bG):=by
    by_cases hcl:x.c.toNat<(s.w.rows[k][r]).length
    ·have:=Qj hf.w hok _ (bT hk) _ (bT hr) _ (bT hcl);simpa[getD,hcl]using this
    simp only[getD,getElem?_eq_none (show (s.w.rows[k][r]).length<=x.c.toNat by omega)];exact LA
   refine⟨?_,hg,.inr ⟨k,r,hk,rfl,hr⟩⟩;simp[Fj,yJ,getD,hk,hr,show ¬(k:Int)<0 by omega]
  obtain⟨c1,c2,c3⟩:=asr;refine⟨_,do4 (i:=x.a.toNat) (q:=x.b.toNat) (c:=x.c.toNat) S FF f18 f7' h4 e1 (by rw[hrg];exact q1) e2 (by omega) (by omega) c3,?_,by show d.at_+1=_;rw[hat];rfl,hen⟩;rw[c1];exact(X.agQ c2).at' _ _
 by_cases h5:x.op=5
 ·simp[h5]at ok;obtain⟨e1,q1⟩:=kD hf ok.1;have hd:dN s x 0=(-1,{s with aA:=s.aA.set x.a.toNat x.v}):=by unfold dN;rw[ae h1,ae h2,ae h3,ae h4,ak h5]
  rw[hd];exact⟨_,do5 (i:=x.a.toNat) S FF f18 f7' h5 e1 (by rw[hrg];exact q1),(X.agQ ⟨ok.2,hxr⟩).at' _ _,by show d.at_+1=_;rw[hat];rfl,hen⟩
 have hgo:aC K m v.g (bU Val.cells s.aA) s.aA.length 3:=by rw[<-hrg];exact S.M.g
 have hgd:∀(i:Nat) (h:i<s.aA.length),Gd s.aA[i]:=λ i h=>X.good _ (bT h)
 by_cases h6:x.op=6
 ·simp[h6]at ok;obtain⟨e1,q1⟩:=kD hf ok.1;obtain⟨e2,q2⟩:=kD hf ok.2.1;have hj:=htg ok.2.2.2.2.2
  have fin:∀r:Val×Int,Gd r.1->bO pG 66 [x.av,v.g] K m (bH r) K m->∃d',VC pG (.seq (.block 0 vk) GG) F K m [] (DN n d' v0 H0)/\acx s (hJ s x.a.toNat x.j r) d':=by
   intro r hr hcall;refine⟨_,do6 (i:=x.a.toNat) S FF f18 f7' h6 e1 (by rw[hrg];exact q1) hcall,?_⟩;unfold TL hJ
   by_cases h0:r.2≠0
   ·rw[ak h0,ak h0];exact⟨⟨X.aA,by rw[EJ _ _ h0,X.err],X.rows,X.takes,X.full,X.ll,X.lr,X.cur,X.good⟩,by rw[ae hj],hen⟩
   rw[ae h0,ae h0];exact⟨(X.agQ hr).at' _ _,by show d.at_+1=_;rw[hat];rfl,hen⟩
  by_cases h8:x.ex<8
  ·have hd:dN s x 0=hJ s x.a.toNat x.j (gi x.ex [s.aA[x.b.toNat]]):=by unfold dN;rw[ae h1,ae h2,ae h3,ae h4,ae h5,ak h6,ak h8,jW q2]
   rw[hd,ab0 (hgd _ q2)];exact fin _ (aii (by omega) (hgd _ q2)) (acg x e2 q2 (by omega) (hgd _ q2).gf hgo)
  obtain⟨e3,q3⟩:=kD hf (ok.2.2.2.2.1.resolve_left h8);have hd:dN s x 0=hJ s x.a.toNat x.j (gi x.ex [s.aA[x.b.toNat],s.aA[x.c.toNat]]):=by unfold dN;rw[ae h1,ae h2,ae h3,ae h4,ae h5,ak h6,ae h8,jW q2,jW q3]
  rw[hd,abZ (by omega) (hgd _ q2) (hgd _ q3)];exact fin _ (aij (hgd _ q2) (hgd _ q3)) (acf x e2 q2 e3 q3 (by omega) (hgd _ q2).gf (hgd _ q3).gf hgo)
 by_cases h7:x.op=7
 ·simp[h7]at ok;obtain⟨e1,q1⟩:=kD hf ok.1;have hj:=htg ok.2;have hd:dN s x 0=ij s s.aA[x.a.toNat] x.j:=by unfold dN;rw[ae h1,ae h2,ae h3,ae h4,ae h5,ae h6,ak h7,jW q1]
  have q1':x.a.toNat<d.aA.length:=by rw[hrg];exact q1
  have hre:d.aA[x.a.toNat]=s.aA[x.a.toNat]:=by simp[hrg]
  have hg:=hgd _ q1;have hw:=do7 (i:=x.a.toNat) S FF f18 f7' h7 e1 q1';rw[hre]at hw;rw[hd];refine⟨_,hw,?_⟩;generalize s.aA[x.a.toNat]=u at *
  have hu:u=dM true↔u.kind=3/\u.num=1:=by
   refine⟨λ e=>by rw[e];exact⟨rfl,rfl⟩,λ⟨a,b⟩=>?_⟩;have:=hg.m;obtain⟨uk,un,us⟩:=u;simp only at a b;subst a b;simp[Val.may]at this;subst this;rfl
  unfold GY ij
  by_cases h31:u.kind=3/\u.num=1
  ·rw[ak h31,ak (hu.2 h31),ae (by omega)];exact⟨X.at' _ _,by show d.at_+1=_;rw[hat];rfl,hen⟩
  rw[ae h31,ae (λ e=>h31 (hu.1 e))]
  by_cases h12:u.kind=1∨u.kind=2
  ·rw[ak h12,ak h12];exact⟨⟨X.aA,by rw[EJ _ _ (by omega),X.err],X.rows,X.takes,X.full,X.ll,X.lr,X.cur,X.good⟩,by rw[ae hj],hen⟩
  rw[ae h12,ae h12];exact⟨X.at' _ _,by rw[ae hj],hen⟩
 have hrt:d.rows.length+d.takes.length=s.rows.length+s.takes.length:=by rw[X.rows,X.takes]
 have hrt2:=hf.rows
 by_cases h8:x.op=8
 ·simp[h8]at ok;obtain⟨e2,e3,q2,q3⟩:=zd hf ok;have hd:dN s x 0=(-1,ez s x.a.toNat x.n.toNat):=by unfold dN;rw[ae h1,ae h2,ae h3,ae h4,ae h5,ae h6,ae h7,ak h8]
  rw[hd];refine⟨_,anY S FF f18 f7' (.inl h8) (aar S.M h8 (by omega) e2 e3 (by rw[hrg];exact q3) q2 (by rw[hrg];exact hR)),?_⟩;unfold ez MS.roomy
  by_cases hr:s.rows.length+s.takes.length<4096
  ·rw[ae (show ¬ 4096<=d.rows.length+d.takes.length by omega),ak hr];exact⟨⟨X.aA,X.err,by rw[X.rows,hrg],X.takes,X.full,X.ll,X.lr,X.cur,X.good⟩,by show d.at_+1=_;rw[hat];rfl,hen⟩
  rw[ak (show 4096<=d.rows.length+d.takes.length by omega),ae hr];exact⟨⟨X.aA,X.err,X.rows,X.takes,rfl,X.ll,X.lr,X.cur,X.good⟩,by show d.at_+1=_;rw[hat];rfl,rfl⟩
 by_cases h9:x.op=9
 ·simp[h9]at ok;obtain⟨e1,q1⟩:=qq hf ok.1;obtain⟨e2,e3,q2,q3⟩:=zd hf ok.2;have hd:dN s x 0=(-1,if (s.aD[x.a.toNat]).there=true then (if s.roomy then lL s s.aD[x.a.toNat] x.b.toNat x.n.toNat else s.e_)else s):=by unfold dN;rw[ae h1,ae h2,ae h3,ae h4,ae h5,ae h6,ae h7,ae h8,ak h9,jX q1]
  rw[hd];have hc:=X.cur _ q1;have qa:x.a.toNat<d.row.length:=by omega
  have hpe:∃pt pr,d.row[x.a.toNat]=⟨pt,pr⟩/\pt<1048576/\(((s.aD[x.a.toNat]).there=false/\pt<0)∨((s.aD[x.a.toNat]).there=true/\¬pt<0/\(s.aD[x.a.toNat]).page=pt+1/\(s.aD[x.a.toNat]).slot=pr)):=by
   rcases hc.row with⟨r1,r2,r3⟩|⟨k,r,hk,hr,r1,r2,r3,r4,r5⟩
   ·exact⟨(d.row[x.a.toNat]).t,(d.row[x.a.toNat]).r,rfl,Int.lt_trans r3 (by omega),.inl ⟨r1,r3⟩⟩
   have:=hf.w.l;unfold bm at this;exact⟨k,r,r1,by omega,.inr ⟨r2,by omega,r3,r4⟩⟩
  obtain⟨pt,pr,hpe,hp1,hp2⟩:=hpe;refine⟨_,anY S FF f18 f7' (.inr h9) (aaq S.M h9 (by omega) e1 qa e2 e3 (by rw[hrg];exact q3) q2 (by rw[hrg];exact hR) hpe hp1),?_⟩
  rcases hp2 with⟨t1,t2⟩|⟨t1,t2,t3,t4⟩
  ·rw[ak t2,ae (by rw[t1];simp)];exact⟨X.at' _ _,by show d.at_+1=_;rw[hat];rfl,hen⟩
  rw[ae t2,ak t1];unfold MS.roomy lL
  by_cases hr:s.rows.length+s.takes.length<4096
  ·rw[ae (show ¬ 4096<=d.rows.length+d.takes.length by omega),ak hr];exact⟨⟨X.aA,X.err,X.rows,by rw[X.takes,hrg,t3,t4],X.full,X.ll,X.lr,X.cur,X.good⟩,by show d.at_+1=_;rw[hat];rfl,hen⟩
  rw[ak (show 4096<=d.rows.length+d.takes.length by omega),ae hr];exact⟨⟨X.aA,X.err,X.rows,X.takes,rfl,X.ll,X.lr,X.cur,X.good⟩,by show d.at_+1=_;rw[hat];rfl,rfl⟩
 by_cases h10:x.op=10
 ·simp[h10]at ok;have hj:=htg ok;have hd:dN s x 0=(x.j,s):=by unfold dN;rw[ae h1,ae h2,ae h3,ae h4,ae h5,ae h6,ae h7,ae h8,ae h9,ak h10]
  rw[hd];exact⟨_,atj S FF f18 h10,X.at' _ _,by rw[ae hj],hen⟩
 simp[h1,h2,h3,h4,h5,h6,h7,h8,h9,h10]at ok;have hd:dN s x 0=(-1,{s with ended:=true}):=by unfold dN;rw[ae h1,ae h2,ae h3,ae h4,ae h5,ae h6,ae h7,ae h8,ae h9,ae h10]
 rw[hd];exact⟨_,ati S FF f18 f7' ok,⟨X.aA,X.err,X.rows,X.takes,X.full,X.ll,X.lr,X.cur,X.good⟩,by show d.at_+1=_;rw[hat];rfl,rfl⟩
end
end Go.Abs
namespace Go.Abs
open List
open Go.Proofs
open Classical
set_option maxRecDepth 100000
theorem fQ.mono {res:List (Fr->Hp->Option AV)}{R R':AV->Hp->Nat->Prop}(h:∀u K k,R u K k->R' u K k)(o:nI)(F:Fr)(H:Hp)(n:Nat)(m:List Dm)(q:fQ res R o F H n m):fQ res R' o F H n m:=by
 unfold fQ at q ⊢
 split at q
 ·exact q
 ·exact q
 split at q
 ·split at q
  ·exact h _ _ _ q
  exact q
 exact q
theorem agK {H:Hp}{n:Nat}{x:Ins}{v:Fv}{s:MS}{d:eA}(X:uB s d)(hf:s.aO)(hok:fL s.w)(hat:d.at_=s.at_)(hen:d.ended=s.ended)(hx:s.c.ok x=true)(hxr:x.v.jA)(M:RM H n v d):
  ar pG 33 [bw.av s.w,x.av,d.av v] H n (λ u K k=>∃d' v',acx s (dN s x 0) d'/\u=d'.av v'/\RM K k v' d'/\n<=k/\(∀c,v'.has c->v.has c∨n<=c)/\∀c,c<n->¬v.has c->K.get c=H.get c):=by
 refine ar.of c33 (by simp[A33]) λ F hF=>?_;have hav:d.av v=.agg [iI d.at_,v.g,v.l,v.p,iI d.err,v.r,v.t,.bool d.ended,.bool d.full] 9:=rfl;have hxv:x.av=.agg [iI x.op,iI x.a,iI x.b,iI x.c,iI x.n,iI x.j,iI x.ex,.int .u32 x.id,iI x.lo,iI x.hi,.bool x.iL,.bool x.lJ,iI x.v.kind,iI x.v.num,.str x.v.s] 15:=rfl;have hwv:bw.av s.w=.agg (bw.cells s.w) 3:=rfl;have hcl:(bw.cells s.w).length=3:=by simp
 have h1:=hf.at_;have h2:=(ux hf.ok).2.2.2.2.1;have hw1:IntKind.i64.wrap (d.at_+1)=s.at_+1:=by rw[hat,aY _ (by omega) (by omega)]
 rw[hav,hxv,hwv]at hF;have ho:=M.one;simp only[eA.cells]at ho;have hB:A33.code=.seq WL (.seq WJ (.seq (.seq WI (.block 0 vk)) GG)):=rfl;rw[hB];simp[WL,WJ,WI,hF,fH,hw1];generalize hK:Tr.put _ (n+1+1+1) _=K0;have kb:∀b,b<n->K0.get b=H.get b:=λ b hb=>by rw[<-hK];simp[cg hb]
 have S:qY n s.w x v d v H K0 (n+1+1+1+1):=⟨by rw[<-hK];simp,by rw[<-hK];simp[Ins.cells],by rw[<-hK];simp[eA.cells],⟨_,by rw[<-hK];simp;rfl,rfl⟩,by omega,M.frame (by omega) λ c hc=>kb c (M.lt hc),λ c hc=>.inl hc,λ c hc=>M.lt hc,λ c h1 _=>kb c h1⟩;clear hK;rw[<-Ql,<-eh];generalize hG:Fp 18 _ _=G;have FF:SF n x G:=⟨by rw[<-hG];simp,by rw[<-hG];simp,by rw[<-hG];simp,by rw[<-hG];simp⟩;have g18:G.get 18=some (iI x.op):=by rw[<-hG];simp
 have g7:G.get 7=some (iI (s.at_+1)):=by rw[<-hG];simp
 obtain⟨d',hvc,hs⟩:=alj X hf hok hat hen hx hxr S FF g18 g7;exact VC.mono _ _ _ _ _ _ _ (λ o F H n m hq=>fQ.mono (λ u K k ⟨v',a⟩=>⟨d',hs,v',a⟩) o F H n m hq) hvc
theorem MS.aO.view {s:MS}(h:s.aO):s.view.aO:=
 ⟨h.ok,h.eC,by simpa[MS.view]using h.cur,h.w,h.steps,λ c hc=>by
  obtain⟨c',h1,rfl⟩:=mem_map.1 hc;exact⟨(h.cs c' h1).l,(h.cs c' h1).r⟩,h.at_,h.end_,h.rows,h.rl,h.tl⟩
theorem uB.view {s:MS}{d:eA}(X:uB s d):uB s.view d:=
 ⟨X.aA,X.err,X.rows,X.takes,X.full,by simpa[MS.view]using X.ll,by simpa[MS.view]using X.lr,λ i hi=>by
  have hi':i<s.aD.length:=by simpa[MS.view]using hi
  have h:=X.cur i hi';have e:s.view.aD[i]=gB s.aD[i]:=by simp[MS.view]
  rw[e];exact⟨h.nil,h.off,h.on,h.row⟩,X.good⟩
theorem Lx (c:aU) (w:er) (hc:c.chk=0) (hw:w.aO):∀i,i<100000000->∃(s:MS) (H:Hp) (n:Nat) (p rb cb:Nat) (rv tv:AV),cy H n p rb cb rv tv s/\s.view=qK (iZ c w) i/\(s.ended=false->s.steps=i)/\s.steps<=i/\s.c=c/\s.w=w
 |0,_=>by
  obtain⟨H',_,M,_⟩:=adi c w hc hw .nil 0;exact⟨iK c w,H',_,_,_,_,_,_,M,rfl,λ _=>rfl,aM _,rfl,rfl⟩
 |i + 1,hi=>by
  obtain⟨s,H,n,p,rb,cb,rv,tv,M,hv,h1,h2,h3,h4⟩:=Lx c w hc hw i (by omega);obtain⟨H2,m2,rv2,tv2,_,_,M2,_⟩:=Qv (by omega) M;have hst:=nY s (n+1);refine⟨stepS s (n+1),H2,m2,p,rb,cb,rv2,tv2,M2,by rw[y7,hv];rfl,λ he=>?_,?_,?_,?_⟩
  ·have hen:s.ended=false:=by
    cases h:s.ended with
    |false=>rfl
    |true =>
     have:stepS s (n+1)=s:=by unfold stepS;rw[ak h]
     rw[this,h]at he;cases he
   rw[hst,ae (by rw[hen];simp),h1 hen]
  ·rw[hst];split<;>omega
  ·unfold stepS
   split
   ·exact h3
   exact(ve s _ (n+1)).1.trans h3
  unfold stepS
  split
  ·exact h4
  exact(ve s _ (n+1)).2.1.trans h4
structure atz (c:aU)(w:er)(i:Nat)(s:MS):Prop where
 aO:s.aO
 steps:s.ended=false->s.steps=i
 le:s.steps<=i
 c:s.c=c
 w:s.w=w
theorem adz (c:aU)(w:er)(hc:c.chk=0)(hw:w.aO){i:Nat}(hi:i<100000000):atz c w i (qK (iZ c w) i):=by
 obtain⟨s,H,n,p,rb,cb,rv,tv,M,hv,h1,h2,h3,h4⟩:=Lx c w hc hw i hi;rw[<-hv];exact⟨M.aO.view,h1,h2,h3,h4⟩
def Ey (c:aU):eA:=⟨0,replicate c.aA.toNat bG,replicate c.cur.toNat ⟨[],true⟩,replicate c.cur.toNat ⟨-1,-1⟩,0,[],[],decide (c.l.length=0),false⟩
theorem abp (c:aU)(w:er):uB (iZ c w) (Ey c):=by
 refine uB.view (s:=iK c w) ⟨rfl,rfl,rfl,rfl,rfl,by simp[iK,Ey],by simp[iK,Ey],λ i hi=>?_,λ v hv=>?_⟩
 ·have hi':i<c.cur.toNat:=by simpa[iK]using hi
  simp[iK,Ey];exact⟨λ _=>rfl,λ _=>⟨rfl,rfl,rfl⟩,λ l e=>(by cases e),.inl ⟨rfl,rfl,by show (-1:Int)<0;omega⟩⟩
 simp only[iK]at hv;rw[(List.mem_replicate.1 hv).2];exact LA
def doneD (d:eA)(len:Nat):eA:={d with ended:=d.ended||decide ((len:Int)<=d.at_)}
theorem QB {s:MS}{d':eA}(hf:s.aO)(hx:s.c.ok (s.c.l.getD s.at_.toNat wH)=true)(hen:s.ended=false)(h:acx s (dN s (s.c.l.getD s.at_.toNat wH) 0) d'):uB (sv s) (doneD d' s.c.l.length)/\(doneD d' s.c.l.length).at_=(sv s).at_/\(doneD d' s.c.l.length).ended=(sv s).ended:=by
 obtain⟨X,h1,h2⟩:=h;have hto:=acX _ hx 0;have hat:=hf.at_;have hend:=hf.end_ hen;obtain⟨s1,s2,s3,s4⟩:=ve s (s.c.l.getD s.at_.toNat wH) 0
 have e:sv s=(jw s (dN s (s.c.l.getD s.at_.toNat wH) 0)).view:=by
  unfold sv stepS;rw[ae (by rw[hen];simp)]
 rw[e];generalize dN s (s.c.l.getD s.at_.toNat wH) 0=r at *;have Y:uB (jw s r) (doneD d' s.c.l.length):=⟨X.aA,X.err,X.rows,X.takes,X.full,X.ll,X.lr,X.cur,X.good⟩;refine⟨Y.view,h1,?_⟩;show (d'.ended||decide ((s.c.l.length:Int)<=d'.at_))=(r.2.ended||decide ((if r.1<0 then s.at_+1 else r.1)=(s.c.l.length:Int)));rw[h2,h1]
 congr 1
 rw[decide_eq_decide]
 split<;>omega
def eA.out (d:eA)(k:Int):Out:=
 if d.ended=false then ⟨false,k,0,[],[]⟩else
 if d.full=true then ⟨true,k,4,[],[]⟩else
 if d.err≠0 then ⟨true,k,d.err,[],[]⟩else ⟨true,k,0,d.rows,d.takes⟩
theorem uB.out {s:MS}{d:eA}(X:uB s d)(he:d.ended=s.ended):d.out s.steps=s.out:=by
 unfold eA.out MS.out;rw[he,X.full,X.err,X.rows,X.takes]
def E16:CT:=(.seq tM (.seq (.seq tL (.cond (ao 98) (.seq JJ .ret) .skip)) (.seq yj (.seq (.seq yh (.cond (ao 104) JI .skip)) (.seq (.seq yg (.cond (ao 108) (.seq JH JG) .skip)) (.seq yf .ret))))))
theorem ain (h:Hf)(b:Bool)(k e:Int):fW h (.aW [.agg [.bool b,iI k,iI e,cB,cB] 5,iI 0]) (.aW [Out.av ⟨b,k,e,[],[]⟩,iI 0]):=
 .aW _ _ (.cons _ _ _ _ (.agg _ _ _ (.cons _ _ _ _ fp (.cons _ _ _ _ fp (.cons _ _ _ _ fp (.cons _ _ _ _ (.nil _) (.cons _ _ _ _ (.nil _) .nil)))))) (.cons _ _ _ _ fp .nil))
theorem anM {d:eA}{v:Fv}{F:Fr}{K:Hp}{m:Nat}(M:RM K m v d) (hv:∀c,v.has c->4<=c) (k:Int) (k2:K.get 2=cl 5 [.bool false,iI 0,iI 0,cB,cB]) (k3:K.get 3=cl 9 (d.cells v)) (hm:4<=m) (f6:F.get 6=some (.ptr 2 0)) (f8:F.get 8=some (.ptr 3 0)) (f11:F.get 11=some (iI k)):
  VC pG E16 F K m [] (fQ [bS 6 5,aB 7] λ u H' _=>fW H'.get u (.aW [(d.out k).av,iI 0])):=by
 have o1:=M.r.dI;have o2:=M.t.dI;simp only[eA.cells]at k3;unfold eA.out
 cases he:d.ended with
 |false =>
  rw[he]at k3;simp[E16,tM,tL,JJ,f6,f8,f11,k2,k3,show ¬ 3=m by omega,show ¬ 2=m by omega];exact ain _ _ _ _
 |true =>
  rw[he]at k3
  cases hfu:d.full with
  |true =>
   rw[hfu]at k3;simp[E16,tM,tL,yj,yh,JI,yg,yf,f6,f8,f11,k2,k3,show ¬ 3=m by omega,show ¬ 2=m by omega];exact ain _ _ _ _
  |false =>
   rw[hfu]at k3
   by_cases h0:d.err=0
   ·obtain⟨a1,a2⟩:=M.r.O6;obtain⟨b1,b2⟩:=M.t.O6;simp[E16,tM,tL,yj,yh,yg,JH,JG,yf,f6,f8,f11,k2,k3,h0,o1,o2,a1,a2,b1,b2,show ¬ 3=m by omega,show ¬ 2=m by omega];refine .aW _ _ (.cons _ _ _ _ (.agg _ _ _ (.cons _ _ _ _ fp (.cons _ _ _ _ fp (.cons _ _ _ _ fp (.cons _ _ _ _ ?_ (.cons _ _ _ _ ?_ .nil)))))) (.cons _ _ _ _ fp .nil))
    ·refine(M.r.frame (n':=m) (aM _) λ c hc=>?_).lD (.pure (by rw[<-Tn];simp));have h1:=M.r.ba hc;have h2:=hv c (.inr (.inr (.inr (.inl hc))));simp[show ¬c=m by omega,show ¬c=2 by omega]
    refine(M.t.frame (n':=m) (aM _) λ c hc=>?_).lD (.pure (uX _));have h1:=M.t.ba hc;have h2:=hv c (.inr (.inr (.inr (.inr hc))));simp[show ¬c=m by omega,show ¬c=2 by omega]
   simp[E16,tM,tL,yj,yh,yg,yf,f6,f8,f11,k2,k3,h0,show ¬ 3=m by omega,show ¬ 2=m by omega];exact ain _ _ _ _
structure I16 (c:aU)(w:er)(d:eA)(v:Fv)(K:Hp)(m:Nat):Prop where
 M:RM K m v d
 h4:∀c,v.has c->4<=c
 k0:K.get 0=cl 3 c.cells
 k1:K.get 1=cl 3 (bw.cells w)
 k2:K.get 2=cl 5 [.bool false,iI 0,iI 0,cB,cB]
 k3:K.get 3=cl 9 (d.cells v)
 m4:4<=m
structure J16 (k:Nat)(i:Int)(F:Fr):Prop where
 f2:F.get 2=some (iI (k:Int))
 f3:F.get 3=some (.ptr 0 0)
 f4:F.get 4=some (.ptr 1 0)
 f6:F.get 6=some (.ptr 2 0)
 f8:F.get 8=some (.ptr 3 0)
 f11:F.get 11=some (iI i)
theorem ahU {c:aU}{w:er}(hc:c.chk=0) (hw:w.aO) (hok:fL w) (hxr:∀x∈c.l,x.v.jA){k:Nat}(hk:k<100000000){v:Fv}{F:Fr}{K:Hp}{m:Nat}(I:I16 c w (Ey c) v K m) (J:J16 k 0 F):
  VC pG (.seq (.block 4 (.loop Ar)) E16) F K m [] (fQ [bS 6 5,aB 7] λ u H' _=>fW H'.get u (.aW [(AK c w k).av,iI 0])):=by
 have hv0:(iZ c w).view=iZ c w:=KB _;simp
 refine aG.of (λ q F K m ms=>∃(i:Nat) (d:eA) (v:Fv),q=k - i/\i<=k/\uB (qK (iZ c w) i) d/\d.at_=(qK (iZ c w) i).at_/\d.ended=(qK (iZ c w) i).ended/\(qK (iZ c w) i).steps=i/\I16 c w d v K m/\J16 k i F/\ms=[]) k
  ⟨0,Ey c,v,rfl,by omega,abp c w,rfl,rfl,rfl,I,J,rfl⟩ ?_
 clear I J F K m v;rintro q F K m ms ⟨i,d,v,rfl,hik,X,hat,hen,hst,⟨M,h4,k0,k1,k2,k3,m4⟩,⟨f2,f3,f4,f6,f8,f11⟩,rfl⟩;have G:=adz c w hc hw (i:=i) (by omega);have hgo:qK (iZ c w) (i+1)=sv (qK (iZ c w) i):=rfl;have DK:=k3;have k0':=k0;simp only[eA.cells]at DK;simp only[aU.cells]at k0'
 have fin:qK (iZ c w) i=qK (iZ c w) k->∀F:Fr,F.get 6=some (.ptr 2 0)->F.get 8=some (.ptr 3 0)->F.get 11=some (iI (i:Int))->VC pG E16 F K m [] (fQ [bS 6 5,aB 7] λ u H' _=>fW H'.get u (.aW [(AK c w k).av,iI 0])):=by
  intro hg F f6 f8 f11;have:=anM M h4 (i:Int) k2 k3 m4 f6 f8 f11
  have e:d.out (i:Int)=AK c w k:=by
   rw[<-hst,X.out hen,hg];rfl
  rwa [e]at this
 by_cases hlt:i<k
 ·cases he:(qK (iZ c w) i).ended with
  |true =>
   rw[hen,he]at DK;simp[Ar,f2,f8,f11,hlt,DK];refine fin ?_ _ (by simp[f6]) (by simp[f8]) (by simp[f11]);have:=Bv hv0 he (k - i);rw[show i+(k - i)=k by omega]at this;exact this.symm
  |false =>
   rw[hen,he]at DK;have hf:=G.aO;have hat2:=hf.at_;have hend:=hf.end_ he;have gc:=G.c;have gw:=G.w
   have hst2:(sv (qK (iZ c w) i)).steps=i+1:=by
    have:=nY (qK (iZ c w) i) 0;rw[ae (by rw[he];simp),hst]at this;exact this
   generalize qK (iZ c w) i=s at *;rw[<-hgo]at hst2;obtain⟨a,ha⟩:∃a:Nat,s.at_=(a:Int):=⟨s.at_.toNat,by omega⟩;have hal:a<c.l.length:=by rw[<-gc];omega
   have hx:=rP (k:=.i64) hal;have hld:=λ H=>wz c.l[a] (ew (c.l.drop (a+1))) H;have hxe:s.c.l.getD s.at_.toNat wH=c.l[a]:=by rw[gc,ha];simp[getD,hal]
   have amO:s.c.ok c.l[a]=true:=by rw[gc];exact(ux hc).2.2.2.2.2 _ (bT hal)
   have ar5:=hxr _ (bT hal);have hss:=λ d'=>QB (d':=d') hf (by rw[hxe];exact amO) he;rw[hxe]at hss;have hok2:fL s.w:=by rw[gw];exact hok
   rw[hat,ha]at DK;generalize c.l[a]=x at *;have hxv:x.av=.agg [iI x.op,iI x.a,iI x.b,iI x.c,iI x.n,iI x.j,iI x.ex,.int .u32 x.id,iI x.lo,iI x.hi,.bool x.iL,.bool x.lJ,iI x.v.kind,iI x.v.num,.str x.v.s] 15:=rfl;rw[hxv]at hld;simp[Ar,f2,f8,f11,hlt,DK,f3,k0',hx,hld];generalize hK:Tr.put _ m _=K2;have km:K2.get m=cl 15 x.cells:=by rw[<-hK];simp[Ins.cells]
   have kb:∀b,b<m->K2.get b=K.get b:=λ b hb=>by rw[<-hK];simp[show ¬b=m by omega]
   clear hK;have q1:=(kb 1 (by omega)).trans k1;have q3:=(kb 3 (by omega)).trans k3;have hcl:(d.cells v).length=9:=rfl;have hxl:x.cells.length=15:=rfl;have M2:RM K2 (m+1) v d:=M.frame (by omega) λ c hc=>kb c (M.lt hc);have hcall:=agK X hf hok2 hat hen amO ar5 M2;rw[gw]at hcall;simp[X0,f4,f8,q1,q3,km];refine au.of hcall λ u K3 m3 ⟨d',v',hs,hu,M3,hm3,eZ,hfr⟩=>?_;subst hu;obtain⟨Y,y1,y2⟩:=hss d' hs;have no:∀c,c<4->¬v.has c:=λ c h1 h2=>by have:=h4 c h2;omega
   have r0:=(hfr 0 (by omega) (no _ (by omega))).trans ((kb 0 (by omega)).trans k0);have r1:=(hfr 1 (by omega) (no _ (by omega))).trans q1;have r2:=(hfr 2 (by omega) (no _ (by omega))).trans ((kb 2 (by omega)).trans k2);have r3:=(hfr 3 (by omega) (no _ (by omega))).trans q3
   have h4':∀c,v'.has c->4<=c:=λ c hc=>by
    rcases eZ c hc with h|h
    ·exact h4 c h
    omega
   have ho:=M3.one;simp only[eA.cells]at ho;simp at ho;rw[show d'.av v'=.agg [iI d'.at_,v'.g,v'.l,v'.p,iI d'.err,v'.r,v'.t,.bool d'.ended,.bool d'.full] 9 from rfl];rw[gc]at Y y1 y2;rw[<-hgo]at Y y1 y2;simp[f8,r3,hcl,ho,XZ,f11,aY ((i:Int)+1) (by omega) (by omega)]
   have fin2:∀(F:Fr) (K4:Hp) (e:Bool),e=(doneD d' c.l.length).ended->J16 k ((i:Int)+1) F->K4.get 3=cl 9 [iI d'.at_,v'.g,v'.l,v'.p,iI d'.err,v'.r,v'.t,.bool e,.bool d'.full]->(∀c,c≠3->K4.get c=K3.get c)->∃k',k'<k - i/\∃i_1,k'=k - i_1/\i_1<=k/\∃d,uB (qK (iZ c w) i_1) d/\d.at_=(qK (iZ c w) i_1).at_/\d.ended=(qK (iZ c w) i_1).ended/\(qK (iZ c w) i_1).steps=i_1/\(∃v,I16 c w d v K4 m3)/\J16 k (i_1:Int) F:=by
    rintro F K4 e rfl J k3 kk;refine⟨_,by omega,i+1,rfl,by omega,doneD d' c.l.length,Y,y1,y2,hst2,⟨v',?_,h4',(kk 0 (by omega)).trans r0,(kk 1 (by omega)).trans r1,(kk 2 (by omega)).trans r2,k3,by omega⟩,⟨J.f2,J.f3,J.f4,J.f6,J.f8,by rw[J.f11];simp⟩⟩;refine RM.cast (s:=d') rfl (M3.frame (aM _) λ c hc=>?_);have:=h4' c hc;exact kk c (by omega)
   have r0':=r0;simp only[aU.cells]at r0'
   cases he':d'.ended with
   |true =>
    simp[JK,f8];exact fin2 _ _ true (by simp[doneD,he']) ⟨by simp[f2],by simp[f3],by simp[f4],by simp[f6],by simp[f8],by simp⟩ (by simp) (λ c hc=>by simp[hc])
   |false =>
    simp[JK,f8,f3,r0'];exact fin2 _ _ (decide ((c.l.length:Int)<=d'.at_)) (by simp[doneD,he']) ⟨by simp[f2],by simp[f3],by simp[f4],by simp[f6],by simp[f8],by simp⟩ (by simp) (λ c hc=>by simp[hc])
 simp[Ar,f2,f11,hlt];refine fin (by rw[show i=k by omega]) _ (by simp[f6]) (by simp[f8]) (by simp[f11])
end Go.Abs
namespace Go.Abs
open List
open Go.Proofs
open Classical
set_option maxRecDepth 100000
section
variable {v:Fv}{s:eA}{K:Hp}{m:Nat}
theorem RM.arP {K2:Hp}{k b:Nat}{L:List Val}(M:RM K m v s)(hm:m<=k)(hb:m<=b)(ow:aC K2 k (.sl b 0 L.length 3) (bU Val.cells L) L.length 3)(h:∀c,c<m->blk v.g≠some c->K2.get c=K.get c):RM K2 k {v with g:=.sl b 0 L.length 3} {s with aA:=L}:=by
 obtain⟨f,C⟩:=M.d;have key:∀c,c<m->f c≠1->K2.get c=K.get c:=λ c h1 h2=>h c h1 λ e=>h2 (C.g c e);refine⟨ow,M.l.frame hm λ c hc=>key c (M.l.ba hc) (by rw[C.l c hc];omega),M.p.frame hm λ c hc=>key c (M.p.ba hc) (by rw[C.p c hc];omega),M.r.frame hm λ c hc=>key c (M.r.ba hc) (by rw[C.r c hc];omega),M.t.frame hm λ c hc=>key c (M.t.ba hc) (by rw[C.t c hc];omega),λ c=>if c=b then 1 else f c,⟨λ c hc=>?_,λ c hc=>?_,λ c hc=>?_,λ c hc=>?_,λ c hc=>?_⟩⟩
 ·simp at hc;simp[hc]
 ·have:=M.l.ba hc;simp[show ¬c=b by omega,C.l c hc]
 ·have:=M.p.ba hc;simp[show ¬c=b by omega,C.p c hc]
 ·have:=M.r.ba hc;simp[show ¬c=b by omega,C.r c hc]
 have:=M.t.ba hc;simp[show ¬c=b by omega,C.t c hc]
theorem RM.arO {K2:Hp}{k b:Nat}{L:List Lf}(M:RM K m v s)(hm:m<=k)(hb:m<=b)(ow:aC K2 k (.sl b 0 L.length 1) (bU Lf.cells L) L.length 1)(h:∀c,c<m->blk v.l≠some c->K2.get c=K.get c):RM K2 k {v with l:=.sl b 0 L.length 1} {s with left:=L}:=by
 obtain⟨f,C⟩:=M.d;have key:∀c,c<m->f c≠2->K2.get c=K.get c:=λ c h1 h2=>h c h1 λ e=>h2 (C.l c e);refine⟨M.g.frame hm λ c hc=>key c (M.g.ba hc) (by rw[C.g c hc];omega),ow,M.p.frame hm λ c hc=>key c (M.p.ba hc) (by rw[C.p c hc];omega),M.r.frame hm λ c hc=>key c (M.r.ba hc) (by rw[C.r c hc];omega),M.t.frame hm λ c hc=>key c (M.t.ba hc) (by rw[C.t c hc];omega),λ c=>if c=b then 2 else f c,⟨λ c hc=>?_,λ c hc=>?_,λ c hc=>?_,λ c hc=>?_,λ c hc=>?_⟩⟩
 ·have:=M.g.ba hc;simp[show ¬c=b by omega,C.g c hc]
 ·simp at hc;simp[hc]
 ·have:=M.p.ba hc;simp[show ¬c=b by omega,C.p c hc]
 ·have:=M.r.ba hc;simp[show ¬c=b by omega,C.r c hc]
 have:=M.t.ba hc;simp[show ¬c=b by omega,C.t c hc]
theorem RM.arN {K2:Hp}{k b:Nat}{L:List Pl}(M:RM K m v s)(hm:m<=k)(hb:m<=b)(ow:aC K2 k (.sl b 0 L.length 2) (bU Pl.cells L) L.length 2)(h:∀c,c<m->blk v.p≠some c->K2.get c=K.get c):RM K2 k {v with p:=.sl b 0 L.length 2} {s with row:=L}:=by
 obtain⟨f,C⟩:=M.d;have key:∀c,c<m->f c≠3->K2.get c=K.get c:=λ c h1 h2=>h c h1 λ e=>h2 (C.p c e);refine⟨M.g.frame hm λ c hc=>key c (M.g.ba hc) (by rw[C.g c hc];omega),M.l.frame hm λ c hc=>key c (M.l.ba hc) (by rw[C.l c hc];omega),ow,M.r.frame hm λ c hc=>key c (M.r.ba hc) (by rw[C.r c hc];omega),M.t.frame hm λ c hc=>key c (M.t.ba hc) (by rw[C.t c hc];omega),λ c=>if c=b then 3 else f c,⟨λ c hc=>?_,λ c hc=>?_,λ c hc=>?_,λ c hc=>?_,λ c hc=>?_⟩⟩
 ·have:=M.g.ba hc;simp[show ¬c=b by omega,C.g c hc]
 ·have:=M.l.ba hc;simp[show ¬c=b by omega,C.l c hc]
 ·simp at hc;simp[hc]
 ·have:=M.r.ba hc;simp[show ¬c=b by omega,C.r c hc]
 have:=M.t.ba hc;simp[show ¬c=b by omega,C.t c hc]
end
def dA (e:Bool)(j:Nat):eA:=⟨0,replicate j bG,[],[],0,[],[],e,false⟩
def dB (e:Bool)(r j:Nat):eA:=⟨0,replicate r bG,replicate j ⟨[],true⟩,replicate j ⟨-1,-1⟩,0,[],[],e,false⟩
section
variable {c:aU}{w:er}{v:Fv}{F:Fr}{K:Hp}{m k:Nat}{e:Bool}
theorem I16.upd {d d':eA}{v':Fv}(I:I16 c w d v K m){K2:Hp}{b m2:Nat}(hb:m<=b)(hm:m<=m2)(M':RM K2 m2 v' d')(h4':∀c,v'.has c->v.has c∨c=b)(hk:∀c,c<m->¬v.has c->K2.get c=K.get c):I16 c w d' v' (K2.put 3 (cl 9 (d'.cells v'))) m2:=by
 have no:∀c,c<4->¬v.has c:=λ c h1 h2=>by have:=I.h4 c h2;omega
 have h4:∀c,v'.has c->4<=c:=λ c hc=>by
  rcases h4' c hc with h|h
  ·exact I.h4 c h
  have:=I.m4;omega
 have m4:=I.m4;exact⟨M'.frame (aM _) λ c hc=>by have:=h4 c hc;simp[show ¬c=3 by omega],h4,by simp[hk 0 (by omega) (no _ (by omega)),I.k0],by simp[hk 1 (by omega) (no _ (by omega)),I.k1],by simp[hk 2 (by omega) (no _ (by omega)),I.k2],by simp,by omega⟩
structure G16 (k:Nat)(F:Fr):Prop where
 f2:F.get 2=some (iI (k:Int))
 f3:F.get 3=some (.ptr 0 0)
 f4:F.get 4=some (.ptr 1 0)
 f6:F.get 6=some (.ptr 2 0)
 f8:F.get 8=some (.ptr 3 0)
theorem loopA {c0:CT}{Q:QA}(hr:0<=c.aA/\c.aA<=256)(I:I16 c w (dA e 0) v K m)(G:G16 k F)(h:∀F K m v,I16 c w (dA e c.aA.toNat) v K m->G16 k F->VC pG c0 F K m [] Q):
  VC pG (.seq (.seq MU (.block 0 (.loop Gz))) c0) F K m [] Q:=by
 obtain⟨N,hN⟩:∃N:Nat,c.aA=(N:Int):=⟨c.aA.toNat,by omega⟩;rw[show c.aA.toNat=N by omega]at h;obtain⟨f2,f3,f4,f6,f8⟩:=G;simp[MU];refine aG.of (λ q F K m ms=>∃(j:Nat) (v:Fv),q=N - j/\j<=N/\I16 c w (dA e j) v K m/\G16 k F/\F.get 9=some (iI (j:Int))/\ms=[]) N ⟨0,v,rfl,by omega,I,⟨by simp[f2],by simp[f3],by simp[f4],by simp[f6],by simp[f8]⟩,by simp,rfl⟩ ?_;clear I f2 f3 f4 f6 f8;rintro q F K m ms ⟨j,v,rfl,hj,⟨M,h4,k0,k1,k2,k3,m4⟩,⟨f2,f3,f4,f6,f8⟩,f9,rfl⟩;have k0':=k0;have DK:=k3;simp only[aU.cells]at k0';simp only[eA.cells]at DK;rw[hN]at k0'
 by_cases hlt:j<N
 ·have hg:=M.g;have hl:(dA e j).aA.length=j:=by simp[dA]
  rw[hl]at hg;simp[Gz,f9,f3,k0',hlt,f8,DK];refine mZ hg (by simp) (by simp) (by omega) (by unfold big;omega) (by omega) λ K2 o2 g2=>?_;have hgm:∀c,blk v.g=some c->4<=c:=λ c hc=>h4 c (.inl hc);have q3:=(g2 3 (by omega) (λ e=>by have:=hgm _ e;omega)).trans DK;simp[f8,q3,af6,f9,aY ((j:Int)+1) (by omega) (by omega)];have hl2:(replicate (j+1) bG).length=j+1:=by simp
  have hfl:bU Val.cells (replicate (j+1) bG)=bU Val.cells (dA e j).aA++[iI 0,iI 0,.str []]:=by
   rw[replicate_succ',ei];rfl
  have M2:RM K2 (m+1+1) {v with g:=.sl (m+1) 0 (replicate (j+1) bG).length 3} {dA e j with aA:=replicate (j+1) bG}:=M.arP (by omega) (by omega) (by rw[hfl,hl2];exact o2) g2
  have I2:=(⟨M,h4,k0,k1,k2,k3,m4⟩:I16 c w (dA e j) v K m).upd (b:=m+1) (by omega) (by omega) M2 (λ c hc=>by
   rcases hc with h|h
   ·simp at h;exact .inr h.symm
   exact .inl (.inr h)) (λ c h1 h2=>g2 c h1 λ e=>h2 (.inl e))
  rw[hl2]at I2;exact⟨_,by omega,j+1,rfl,by omega,⟨_,I2⟩,⟨by simp[f2],by simp[f3],by simp[f4],by simp[f6],by simp[f8]⟩,by simp⟩
 obtain rfl:j=N:=by omega
 simp[Gz,f9,f3,k0'];exact h _ K m v ⟨M,h4,k0,k1,k2,k3,m4⟩ ⟨by simp[f2],by simp[f3],by simp[f4],by simp[f6],by simp[f8]⟩
theorem amt {c0:CT}{Q:QA}{r:Nat}(hr:0<=c.cur/\c.cur<=4)(I:I16 c w (dA e r) v K m)(G:G16 k F)(h:∀F K m v,I16 c w (dB e r c.cur.toNat) v K m->G16 k F->VC pG c0 F K m [] Q):
  VC pG (.seq (.seq MR (.block 2 (.loop Gy))) c0) F K m [] Q:=by
 obtain⟨N,hN⟩:∃N:Nat,c.cur=(N:Int):=⟨c.cur.toNat,by omega⟩;rw[show c.cur.toNat=N by omega]at h;obtain⟨f2,f3,f4,f6,f8⟩:=G;simp[MR];refine aG.of (λ q F K m ms=>∃(j:Nat) (v:Fv),q=N - j/\j<=N/\I16 c w (dB e r j) v K m/\G16 k F/\F.get 10=some (iI (j:Int))/\ms=[]) N ⟨0,v,rfl,by omega,I,⟨by simp[f2],by simp[f3],by simp[f4],by simp[f6],by simp[f8]⟩,by simp,rfl⟩ ?_;clear I f2 f3 f4 f6 f8;rintro q F K m ms ⟨j,v,rfl,hj,I,⟨f2,f3,f4,f6,f8⟩,f10,rfl⟩;have I0:=I;obtain⟨M,h4,k0,k1,k2,k3,m4⟩:=I;have k0':=k0;have DK:=k3;simp only[aU.cells]at k0';simp only[eA.cells]at DK;rw[hN]at k0'
 by_cases hlt:j<N
 ·have hl:(dB e r j).left.length=j:=by simp[dB]
  have hg:=M.l;rw[hl]at hg;simp[Gy,f10,f3,k0',hlt,f8,DK];refine mZ hg (by simp) (by simp) (by omega) (by unfold big;omega) (by omega) λ K2 o2 g2=>?_;have hgm:∀c,blk v.l=some c->4<=c:=λ c hc=>h4 c (.inr (.inl hc));have q3:=(g2 3 (by omega) (λ e=>by have:=hgm _ e;omega)).trans DK;have hl2:(replicate (j+1) (⟨[],true⟩:Lf)).length=j+1:=by simp
  have hfl:bU Lf.cells (replicate (j+1) (⟨[],true⟩:Lf))=bU Lf.cells (dB e r j).left++[.aI (.slice none 0 0)]:=by
   rw[replicate_succ',ei];rfl
  have M2:RM K2 (m+1+1) {v with l:=.sl (m+1) 0 (replicate (j+1) (⟨[],true⟩:Lf)).length 1} {dB e r j with left:=replicate (j+1) ⟨[],true⟩ }:=M.arO (by omega) (by omega) (by rw[hfl,hl2];exact o2) g2
  have I2:=I0.upd (b:=m+1) (by omega) (by omega) M2 (λ c hc=>by
   rcases hc with h|h|h
   ·exact .inl (.inl h)
   ·simp at h;exact .inr h.symm
   exact .inl (.inr (.inr h))) (λ c h1 h2=>g2 c h1 λ e=>h2 (.inr (.inl e)))
  rw[hl2]at I2;simp[f8,q3];have I3:I16 c w {dB e r j with left:=replicate (j+1) ⟨[],true⟩ } {v with l:=.sl (m+1) 0 (j+1) 1} (K2.put 3 (cl 9 [iI (dB e r j).at_,v.g,.sl (m+1) 0 (j+1) 1,v.p,iI (dB e r j).err,v.r,v.t,.bool (dB e r j).ended,.bool (dB e r j).full])) (m+1+1):=I2;clear I2 M2;generalize K2.put 3 (cl 9 [iI (dB e r j).at_,v.g,.sl (m+1) 0 (j+1) 1,v.p,iI (dB e r j).err,v.r,v.t,.bool (dB e r j).ended,.bool (dB e r j).full])=K3 at *;have p3:=I3.k3;simp only[eA.cells]at p3;have hl3:(dB e r j).row.length=j:=by simp[dB]
  have hg3:aC K3 (m+1+1) v.p (bU Pl.cells (dB e r j).row) j 2:=by have:=I3.M.p;rw[hl3]at this;exact this
  simp[X2,f8,p3];refine mZ hg3 (by simp) (by simp) (by omega) (by unfold big;omega) (by omega) λ K4 o4 g4=>?_;have hpm:∀c,blk v.p=some c->4<=c:=λ c hc=>h4 c (.inr (.inr (.inl hc)));have q4:=(g4 3 (by omega) (λ e=>by have:=hpm _ e;omega)).trans p3;have hl4:(replicate (j+1) (⟨-1,-1⟩:Pl)).length=j+1:=by simp
  have aso:bU Pl.cells (replicate (j+1) (⟨-1,-1⟩:Pl))=bU Pl.cells (dB e r j).row++[iI (-1),iI (-1)]:=by
   rw[replicate_succ',ei];rfl
  have M4:RM K4 (m+1+1+1+1) {v with l:=.sl (m+1) 0 (j+1) 1,p:=.sl (m+1+1+1) 0 (replicate (j+1) (⟨-1,-1⟩:Pl)).length 2} {dB e r j with left:=replicate (j+1) ⟨[],true⟩,row:=replicate (j+1) ⟨-1,-1⟩ }:=I3.M.arN (by omega) (by omega) (by rw[aso,hl4];exact o4) g4
  have I4:=I3.upd (b:=m+1+1+1) (by omega) (by omega) M4 (λ c hc=>by
   rcases hc with h|h|h|h
   ·exact .inl (.inl h)
   ·exact .inl (.inr (.inl h))
   ·simp at h;exact .inr h.symm
   exact .inl (.inr (.inr (.inr h)))) (λ c h1 h2=>g4 c h1 λ e=>h2 (.inr (.inr (.inl e))))
  rw[hl4]at I4;simp[f8,q4,X1,f10,aY ((j:Int)+1) (by omega) (by omega)];exact⟨_,by omega,j+1,rfl,by omega,⟨_,I4⟩,⟨by simp[f2],by simp[f3],by simp[f4],by simp[f6],by simp[f8]⟩,by simp⟩
 obtain rfl:j=N:=by omega
 simp[Gy,f10,f3,k0'];exact h _ K m v I0 ⟨by simp[f2],by simp[f3],by simp[f4],by simp[f6],by simp[f8]⟩
end
end Go.Abs
namespace Go.Abs
open List
open Go.Proofs
open Classical
set_option maxRecDepth 100000
def Bd:Out:=⟨false,0,0,[],[]⟩
theorem alv {c:aU}{w:er}(hc:c.chk=0)(hw:w.aO)(hok:fL w)(hxr:∀x∈c.l,x.v.jA){k:Nat}(hk:k<100000000):ah pG 16 [c.av,bw.av w,iI (k:Int)] (.aW [(AK c w k).av,iI 0]):=by
 refine eY c16 (by simp) (by simp[Out.pure]) (by simp[A16]) λ F hF=>?_;have hB:A16.code=.seq MW (.seq (.seq MV (.cond (ao 25) (.seq Gn .ret) .skip)) (.seq XY (.seq (.seq MU (.block 0 (.loop Gz))) (.seq (.seq MR (.block 2 (.loop Gy))) (.seq CX (.seq (.block 4 (.loop Ar)) E16)))))):=rfl;rw[hB];have sP:=aoc c;rw[hc]at sP;have hmay:=amk w hw;simp only[hok,decide_true]at hmay;obtain⟨c1,c2,c3,c4,c5,c6⟩:=ux hc;have hcv:c.av=.agg [iI c.aA,iI c.cur,.ds (ew c.l) c.l.length 15] 3:=rfl;have hwv:bw.av w=.agg (bw.cells w) 3:=rfl;rw[hcv,hwv]at hF;rw[hcv]at sP;rw[hwv]at hmay;simp[MW,MV,hF];refine au.pure sP ?_;simp;refine au.pure hmay ?_;simp[hF,show ¬(k:Int)<0 by omega,XY];generalize hK:Tr.put _ 3 _=K0;have hnl:∀sz,aC K0 4 cB [] 0 sz:=λ sz=>aC.nil K0 4 sz;have I:I16 c w (dA (decide (c.l=[])) 0) ⟨cB,cB,cB,cB,cB⟩ K0 4:=⟨⟨by simpa[dA,bU]using hnl 3,by simpa[dA,bU]using hnl 1,by simpa[dA,bU]using hnl 2,by simpa[dA,bn]using hnl 1,by simpa[dA,bU]using hnl 3,λ _=>0,⟨λ c hc=>by simp at hc,λ c hc=>by simp at hc,λ c hc=>by simp at hc,λ c hc=>by simp at hc,λ c hc=>by simp at hc⟩⟩,λ c hc=>by simp[Fv.has]at hc,by rw[<-hK];simp[aU.cells],by rw[<-hK];simp,by rw[<-hK];simp,by rw[<-hK];simp[eA.cells,dA],aM _⟩;clear hK;rw[<-eh,<-eh];refine loopA (k:=k) ⟨c1,c2⟩ I ⟨by simp[hF],by simp,by simp,by simp,by simp⟩ λ F K m v I G=>?_;refine amt (k:=k) ⟨c3,c4⟩ I G λ F K m v I G=>?_;obtain⟨f2,f3,f4,f6,f8⟩:=G;have e:dB (decide (c.l=[])) c.aA.toNat c.cur.toNat=Ey c:=by simp[dB,Ey]
 rw[e]at I
 have hs:∀(t:CT) (Q:QA),(∀F,J16 k 0 F->VC pG t F K m [] Q)->VC pG (.seq CX t) F K m [] Q:=by
  intro t Q h;simp[CX];exact h _ ⟨by simp[f2],by simp[f3],by simp[f4],by simp[f6],by simp[f8],by simp⟩
 exact hs _ _ λ F J=>ahU hc hw hok hxr hk I J
theorem QE {c:aU}{w:er}(hw:w.aO){f:Int}(h:c.chk≠0∨¬fL w∨f<0):ah pG 16 [c.av,bw.av w,iI f] (.aW [Bd.av,iI 1]):=by
 refine eY c16 (by simp) (by simp[Out.pure]) (by simp[A16]) λ F hF=>?_;have sP:=aoc c;have hmay:=amk w hw;have hcv:c.av=.agg [iI c.aA,iI c.cur,.ds (ew c.l) c.l.length 15] 3:=rfl;have hwv:bw.av w=.agg (bw.cells w) 3:=rfl;rw[hcv,hwv]at hF;rw[hcv]at sP;rw[hwv]at hmay
 have lD:∀h:Hf,fW h (.aW [.agg [.bool false,iI 0,iI 0,cB,cB] 5,iI 1]) (.aW [Bd.av,iI 1]):=λ h =>
  .aW _ _ (.cons _ _ _ _ (.agg _ _ _ (.cons _ _ _ _ fp (.cons _ _ _ _ fp (.cons _ _ _ _ fp (.cons _ _ _ _ (.nil _) (.cons _ _ _ _ (.nil _) .nil)))))) (.cons _ _ _ _ fp .nil))
 simp[A16,MW,MV,hF];refine au.pure sP ?_
 by_cases h0:c.chk=0
 ·simp[h0];refine au.pure hmay ?_
  by_cases h1:fL w
  ·have h2:f<0:=by
    rcases h with h|h|h
    ·exact aj h0 h
    ·exact aj h1 h
    exact h
   simp[h1,hF,h2,Gn];exact lD _
  simp[h1,Gn];exact lD _
 simp[h0,Gn];exact lD _
theorem QF {c:aU}{w:er}(hw:w.aO){f:Int}(h:c.chk≠0∨¬fL w∨f<0):ah pG 14 [c.av,bw.av w,iI f] (.aW [Bd.av,iI 1]):=by
 refine eY c14 (by simp) (by simp[Out.pure]) (by simp[A14]) λ F hF=>?_;have hmay:=adl w hw;have hcv:c.av=.agg [iI c.aA,iI c.cur,.ds (ew c.l) c.l.length 15] 3:=rfl;have hwv:bw.av w=.agg (bw.cells w) 3:=rfl;rw[hcv,hwv]at hF;rw[hwv]at hmay
 have lD:∀h:Hf,fW h (.aW [.agg [.bool false,iI 0,iI 0,cB,cB] 5,iI 1]) (.aW [Bd.av,iI 1]):=λ h =>
  .aW _ _ (.cons _ _ _ _ (.agg _ _ _ (.cons _ _ _ _ fp (.cons _ _ _ _ fp (.cons _ _ _ _ fp (.cons _ _ _ _ (.nil _) (.cons _ _ _ _ (.nil _) .nil)))))) (.cons _ _ _ _ fp .nil))
 by_cases h2:f<0
 ·simp[A14,Yy,hF,h2];exact lD _
 simp[A14,hF,h2];refine au.pure hmay ?_
 by_cases h1:fL w
 ·have h0:c.chk≠0:=by
   rcases h with h|h|h
   ·exact h
   ·exact aj h1 h
   exact aj h h2
  have m8:=Ln w;have nb:=ahD c w h0;have ho:=bw.one w;rw[hwv]at m8 nb;rw[hcv]at nb;simp[h1,Yx];refine bD.of (cL (l:=[(8,[.agg (bw.cells w) 3],λ H n=>.mk (.fO 71 (.agg (bw.cells w) 3)) H n),(10,[.agg [iI c.aA,iI c.cur,.ds (ew c.l) c.l.length 15] 3,.fO 71 (.agg (bw.cells w) 3)],λ H n=>.mk (.aW [.aI (.pointer none),iI 1]) H n)]) ?_) ?_
  ·intro y hy;simp only[mem_cons,not_mem_nil,or_false]at hy
   rcases hy with rfl|rfl
   ·exact aQ m8
   exact aQ nb
  have t8:=λ H n=>tj (g:=10) (g':=8) (args:=[.agg [iI c.aA,iI c.cur,.ds (ew c.l) c.l.length 15] 3,.fO 71 (.agg (bw.cells w) 3)]) (args':=[.agg (bw.cells w) 3]) (f:=λ H n=>.mk (.fO 71 (.agg (bw.cells w) 3)) H n) (l:=[(10,[.agg [iI c.aA,iI c.cur,.ds (ew c.l) c.l.length 15] 3,.fO 71 (.agg (bw.cells w) 3)],λ H n=>.mk (.aW [.aI (.pointer none),iI 1]) H n)]) (λ h=>aj h (by decide)) H n;simp[ab,bK,t8,Yw,af_];exact lD _
 simp[h1,Yy];exact lD _
theorem agW (t:iP)(hl:t.cols.length<=bm):ah pG 69 [bf.av t,bf.av t] (.bool true):=by
 unfold bm at hl;refine pv c69 λ F hF=>?_;simp[A69,hF,aN.av,cT,aN.aF]
 refine aG.of (λ q F K m ms=>∃i:Nat,q=t.cols.length - i/\i<=t.cols.length/\F.get 2=some (.ptr 0 0)/\F.get 3=some (.ptr 1 0)/\F.get 5=some (iI (i:Int))/\K.get 0=cl 4 [.int .u32 t.id,.str t.name,cN.ds t.cols,.int .u32 t.head]/\K.get 1=cl 4 [.int .u32 t.id,.str t.name,cN.ds t.cols,.int .u32 t.head]/\ms=[]) t.cols.length
  ⟨0,rfl,by omega,by simp,by simp,by simp,by simp,by simp,rfl⟩ ?_
 clear hF F;rintro q F K m ms ⟨i,rfl,hi,f2,f3,f5,k0,k1,rfl⟩
 by_cases h:i<t.cols.length
 ·have hx:=cN.ix (ik:=.i64) h;have hld:=λ H=>cN.sC t.cols[i] (cN.l (t.cols.drop (i+1))) H;generalize t.cols[i]=u at *;obtain⟨un,uk,ub⟩:=u
  have hq:kA true [.s,.i,.b] (cN.av ⟨un,uk,ub⟩) (cN.av ⟨un,uk,ub⟩)=.val (.bool false):=by
   have he:bB [.s,.i,.b] (cN.cells ⟨un,uk,ub⟩) (cN.cells ⟨un,uk,ub⟩)=some true:=by simp[qV,bB,dW,dZ]
   show (match bB [.s,.i,.b] (cN.cells ⟨un,uk,ub⟩) (cN.cells ⟨un,uk,ub⟩)with|some r=>bg.val (.bool (true != r))|none=>.fail)=_;rw[he];rfl
  generalize cN.cells ⟨un,uk,ub⟩=cc at *;generalize cN.av ⟨un,uk,ub⟩=ca at *;simp[ZL,f2,f5,k0,aN.aF,h];simp only[aeG];refine bD.of (bh (P:=pG)) ?_;simp[ab,f2,f3,f5,k0,k1,hx,hld,hq,aeF,ax i (by omega)];exact⟨_,by omega,i+1,rfl,by omega,by simp⟩
 obtain rfl:i=t.cols.length:=by omega
 simp[ZL,f2,f5,k0,aN.aF,aeE];exact fp
theorem aaE (x:lY)(hl:x.cols.length<=bm):ah pG 102 [aR.av x,aR.av x] (.bool true):=by
 unfold bm at hl;refine pv c102 λ F hF=>?_
 cases hu:x.uniq <;>
 ·simp[A102,hF,aN.av,cJ,aN.aF,hu,j7,je,dZ]
  refine aG.of (λ q F K m ms=>∃i:Nat,q=x.cols.length - i/\i<=x.cols.length/\F.get 2=some (.ptr 0 0)/\F.get 3=some (.ptr 1 0)/\F.get 5=some (iI (i:Int))/\K.get 0=cl 6 (aR.cells x)/\K.get 1=cl 6 (aR.cells x)/\ms=[]) x.cols.length
   ⟨0,rfl,by omega,by simp,by simp,by simp,by simp[cJ,hu],by simp[cJ,hu],rfl⟩ ?_
  clear hF F;rintro q F K m ms ⟨i,rfl,hi,f2,f3,f5,k0,k1,rfl⟩;rw[cJ]at k0 k1
  by_cases h:i<x.cols.length
  ·have hx:=fo.ix (ik:=.i64) h;rw[sZ]at hx;generalize x.cols[i]=u at *;simp[Ku,f2,f5,k0,aN.aF,h];simp only[ZA];refine bD.of (bh (P:=pG)) ?_;simp[ab,f2,f3,f5,k0,k1,hx,j7,je,Zt,ax i (by omega)];exact⟨_,by omega,i+1,rfl,by omega,by simp[cJ]⟩
  obtain rfl:i=x.cols.length:=by omega
  simp[Ku,f2,f5,k0,aN.aF,Y'];exact fp
theorem agV (l:List lY)(hl:l.length<=bm)(hc:∀x∈l,x.cols.length<=bm):ah pG 70 [aR.ds l,aR.ds l] (.bool true):=by
 unfold bm at hl;refine pv c70 λ F hF=>?_;simp[A70,hF,aN.aF]
 refine aG.of (λ q F K m ms=>∃i:Nat,q=l.length - i/\i<=l.length/\F.get 0=some (aR.ds l)/\F.get 1=some (aR.ds l)/\F.get 5=some (iI (i:Int))/\ms=[]) l.length
  ⟨0,rfl,by omega,by simp[hF],by simp[hF],by simp,rfl⟩ ?_
 clear hF F;rintro q F K m ms ⟨i,rfl,hi,f0,f1,f5,rfl⟩
 by_cases h:i<l.length
 ·have hx:=aR.ix (ik:=.i64) h;have hld:=λ H=>aR.sC l[i] (aR.l (l.drop (i+1))) H;have hs:=aaE l[i] (hc _ (bT h));generalize l[i]=u at *;generalize aR.av u=ca at *;simp[ZK,f0,f5,aN.aF,h];simp only[aez];refine bD.of (cL (l:=[(102,[ca,ca],λ H n=>.mk (.bool true) H n)]) ?_) ?_
  ·simp only[fD];rintro y rfl;exact aQ hs
  simp[ab,f0,f1,f5,hx,hld,bK,aey,ax i (by omega)];exact⟨_,by omega,i+1,rfl,by omega,by simp⟩
 obtain rfl:i=l.length:=by omega
 simp[ZK,f0,f5,aN.aF,aex];exact fp
theorem agX (s:eF)(hs:s.aO):ah pG 34 [fA.av s,fA.av s] (.bool true):=by
 have hl:=hs.t;unfold bm at hl;have h70:=agV s.indexes hs.i hs.ic;refine pv c34 λ F hF=>?_;simp[A34,hF,aN.av,bJ,aN.aF]
 refine aG.of (λ q F K m ms=>∃i:Nat,q=s.tables.length - i/\i<=s.tables.length/\F.get 2=some (.ptr 0 0)/\F.get 3=some (.ptr 1 0)/\F.get 5=some (iI (i:Int))/\K.get 0=cl 2 [bf.ds s.tables,aR.ds s.indexes]/\K.get 1=cl 2 [bf.ds s.tables,aR.ds s.indexes]/\ms=[]) s.tables.length
  ⟨0,rfl,by omega,by simp,by simp,by simp,by simp,by simp,rfl⟩ ?_
 clear hF F;rintro q F K m ms ⟨i,rfl,hi,f2,f3,f5,k0,k1,rfl⟩
 by_cases h:i<s.tables.length
 ·have hx:=bf.ix (ik:=.i64) h;have hld:=λ H=>bf.sC s.tables[i] (bf.l (s.tables.drop (i+1))) H;have hsm:=agW s.tables[i] (hs.tc _ (bT h));generalize s.tables[i]=u at *;generalize bf.av u=ca at *;simp[ZY,f2,f5,k0,aN.aF,h];simp only[afx];refine bD.of (cL (l:=[(69,[ca,ca],λ H n=>.mk (.bool true) H n)]) ?_) ?_
  ·simp only[fD];rintro y rfl;exact aQ hsm
  simp[ab,f2,f3,f5,k0,k1,hx,hld,bK,afw,ax i (by omega)];exact⟨_,by omega,i+1,rfl,by omega,by simp⟩
 obtain rfl:i=s.tables.length:=by omega
 simp[ZY,f2,f3,f5,k0,k1,aN.aF,afv];refine au.pure h70 ?_;simp;exact fp
def RF (w:er):Bool:=decide (300<w.rows.foldl (λ a t=>qh (a+(t.length:Int))) 0)
theorem amn (w:er)(hl:w.rows.length<=bm):ah pG 5 [bw.av w] (.bool (RF w)):=by
 refine pv c5 λ F hF=>?_;have ho:=bw.one w;unfold bm at hl;simp[A5,hF,aN.av,fa];refine aG.of (λ q F K m ms=>∃i:Nat,q=w.rows.length - i/\i<=w.rows.length/\F.get 1=some (.ptr 0 0)/\F.get 4=some (iI (i:Int))/\F.get 3=some (iI ((w.rows.take i).foldl (λ a t=>qh (a+(t.length:Int))) 0))/\K.get 0=cl 3 [bf.ds w.bQ.tables,aR.ds w.bQ.indexes,jJ.ds w.rows]/\ms=[]) w.rows.length ⟨0,by simp,by omega,by simp,by simp,by simp,by simp,rfl⟩ ?_;clear hF F;rintro q F K m ms ⟨i,rfl,hi,f1,f4,f3,k0,rfl⟩
 by_cases h:i<w.rows.length
 ·have hx:=jJ.ix (ik:=.i64) h;rw[lg]at hx;have hlt:bu (bV w.rows[i])=.val (iI ((w.rows[i]).length:Int)):=by simp[bV]
  have ad:∀a b:Int,fH (iI a) (iI b)=.val (iI (qh (a+b))):=λ a b=>by simp[fH,qh]
  have hfold:(w.rows.take (i+1)).foldl (λ a t=>qh (a+(t.length:Int))) 0=qh ((w.rows.take i).foldl (λ a t=>qh (a+(t.length:Int))) 0+((w.rows[i]).length:Int)):=by
   rw[take_add_one,dU h,Option.toList,List.foldl_append];rfl
  generalize w.rows[i]=t at hx hlt hfold;generalize (w.rows.take i).foldl (λ a t=>qh (a+(t.length:Int))) 0=acc at f3 hfold;have w1:qh ((i:Int)+1)=((i+1:Nat):Int):=by unfold qh;rw[aY _ (by omega) (by omega)];omega
  simp[ajL,f1,f3,f4,k0,aN.aF,h,hx,hlt,ad,w1];exact⟨_,by omega,i+1,rfl,by omega,by omega,by rw[hfold]⟩
 obtain rfl:i=w.rows.length:=by omega
 rw[take_length]at f3;simp[ajL,ao0,f1,f3,f4,k0,aN.aF];exact .bool (by simp[RF])
structure Out.aO (o:Out):Prop where
 r:o.rows.length<=bm
 rl:∀r∈o.rows,r.length<=bm
 t:o.takes.length<=bm
 tl:∀t∈o.takes,t.new.length<=bm
theorem anF (a b:Int):kA true [.i,.i] (.agg [.int .u32 a,iI b] 2) (.agg [.int .u32 a,iI b] 2)=.val (.bool false):=by
 have he:bB [.i,.i] [.int .u32 a,iI b] [.int .u32 a,iI b]=some true:=by
  simp[bB,dW]
 unfold kA;simp only[he];rfl
theorem agY (o:Out)(ho:o.aO):ah pG 15 [o.av,o.av] (.bool true):=by
 refine eY c15 (by simp[Out.pure]) (by simp) (by simp[A15]) λ F hF=>?_;have hrows:=Am o.rows o.rows ho.r ho.rl;simp only[decide_true]at hrows;have ht:=ho.t;unfold bm at ht;have h1:(bV o.rows).one=true:=rfl;have e0:bV o.rows=.ds (bn o.rows) o.rows.length 1:=rfl;rw[<-e0]at hrows;simp[A15,hF,Out.av,Out.cells,h1];refine au.pure hrows ?_;simp[af9];refine aG.of (λ q F K m ms=>∃i:Nat,q=o.takes.length - i/\i<=o.takes.length/\F.get 2=some (.ptr 0 0)/\F.get 3=some (.ptr 1 0)/\F.get 5=some (iI (i:Int))/\K.get 0=cl 5 o.cells/\K.get 1=cl 5 o.cells/\ms=[]) o.takes.length ⟨0,by simp,by omega,by simp,by simp,by simp,by simp[Out.cells],by simp[Out.cells],rfl⟩ ?_;clear hF F;rintro q F K m ms ⟨i,rfl,hi,f2,f3,f5,k0,k1,rfl⟩;have k0':=k0;have k1':=k1;simp only[Out.cells]at k0 k1
 by_cases h:i<o.takes.length
 ·have hx:=ig (cs:=bU Tk.cells o.takes) (len:=o.takes.length) (sz:=3) (i:=i) (k:=.i64) h;rw[oD (λ a=>a.aE) h]at hx;have hn:=ho.tl _ (bT h);generalize o.takes[i]=t at hx hn;generalize bU Tk.cells (o.takes.drop (i+1))=rest at hx;have hs:=Uh t.new t.new hn;simp only[decide_true]at hs;simp only[Tk.cells,cons_append,nil_append]at hx;have l2:∀(a b c:AV) (r:List AV) H,df 2 (.dp (a::b::c::r)) H=.val (.agg [a,b] 2):=λ a b c r H=>ga (l:=[a,b]) (c::r) rfl;simp[Z7,f2,f3,f5,k0,k1,h];refine bD.of (cL (l:=[(31,[ai t.new,ai t.new],λ H n=>.mk (.bool true) H n)]) ?_) ?_
  ·simp only[fD];rintro _ rfl;exact aQ hs
  simp[ab,f2,f3,f5,k0,k1,hx,l2,anF,bK,af8,ax i (by omega)];exact⟨_,by omega,i+1,rfl,by omega,by omega,rfl⟩
 obtain rfl:i=o.takes.length:=by omega
 simp[Z7,f2,f5,k0,af7];exact .bool rfl
theorem Rk {s:MS}(h:s.aO):s.out.aO:=by
 have h1:=h.rows;unfold MS.out
 split
 ·exact⟨by simp[bm],by simp,by simp[bm],by simp⟩
 split
 ·exact⟨by simp[bm],by simp,by simp[bm],by simp⟩
 split
 ·exact⟨by simp[bm],by simp,by simp[bm],by simp⟩
 exact⟨by show s.rows.length<=bm;unfold bm;omega,h.rl,by show s.takes.length<=bm;unfold bm;omega,h.tl⟩
theorem aal (w:er)(hw:w.aO):ah pG 17 [bw.av w,bw.av w] (.bool true):=by
 have hl:=hw.l;unfold bm at hl;have h34:=agX w.bQ hw.s;rw[<-zY]at h34;refine pv c17 λ F hF=>?_;have hwv:bw.av w=.agg (bw.cells w) 3:=rfl;have hcl:(bw.cells w).length=3:=by simp
 rw[hwv]at hF;simp[A17,hF];refine au.pure h34 ?_;simp[fa,aN.aF,af5]
 refine aG.of (λ q F K m ms=>∃i:Nat,q=w.rows.length - i/\i<=w.rows.length/\F.get 2=some (.ptr 0 0)/\F.get 3=some (.ptr 1 0)/\F.get 5=some (iI (i:Int))/\K.get 0=cl 3 (bw.cells w)/\K.get 1=cl 3 (bw.cells w)/\ms=[]) w.rows.length
  ⟨0,rfl,by omega,by simp,by simp,by simp,by simp[fa],by simp[fa],rfl⟩ ?_
 clear hF F;rintro q F K m ms ⟨i,rfl,hi,f2,f3,f5,k0,k1,rfl⟩;rw[fa]at k0 k1
 by_cases h:i<w.rows.length
 ·have hx:=jJ.ix (ik:=.i64) h;have hsr:=Am w.rows[i] w.rows[i] (hw.t _ (bT h)) (λ r hr=>(hw.r _ (bT h) r hr).1);rw[lg]at hx;generalize w.rows[i]=rows at *;rw[show bV rows=.ds (bn rows) rows.length 1 from rfl]at hx;simp only[decide_true]at hsr;generalize AV.ds (bn rows) rows.length 1=tv at *;simp[Z5,f2,f5,k0,aN.aF,h];simp only[af4];refine bD.of (cL (l:=[(30,[tv,tv],λ H n=>.mk (.bool true) H n)]) ?_) ?_
  ·simp only[fD];rintro y rfl;exact aQ hsr
  simp[ab,f2,f3,f5,k0,k1,hx,bK,af2,ax i (by omega)];exact⟨_,by omega,i+1,rfl,by omega,by simp[fa]⟩
 obtain rfl:i=w.rows.length:=by omega
 simp[Z5,f2,f5,k0,aN.aF,af1];exact fp
theorem anH (x:Ins):kA true [.i,.i,.i,.i,.i,.i,.i,.i,.i,.i,.b,.b,.i,.i,.s] x.av x.av=.val (.bool false):=by
 have he:bB [.i,.i,.i,.i,.i,.i,.i,.i,.i,.i,.b,.b,.i,.i,.s] x.cells x.cells=some true:=by simp[Ins.cells,bB,dW,dZ]
 show (match bB [.i,.i,.i,.i,.i,.i,.i,.i,.i,.i,.b,.b,.i,.i,.s] x.cells x.cells with|some r=>bg.val (.bool (true != r))|none=>.fail)=_;rw[he];rfl
end Go.Abs
