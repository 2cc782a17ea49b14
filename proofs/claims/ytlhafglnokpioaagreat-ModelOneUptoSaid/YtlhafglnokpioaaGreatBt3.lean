/- A part. -/
import Derived.Test.YtlhafglnokpioaaGreatBt2
noncomputable section
namespace Go.Abs
open List
open Go.Proofs
open Classical
set_option maxRecDepth 100000
def HF (ns:List (List Nat))(ts:List bo)(e:Ex)(kind err:Int):Ex×Int:=((e.bd ns ts err).1,keep (e.bd ns ts err).2.2 203 (decide ((e.bd ns ts err).2.1≠0)&&decide ((e.bd ns ts err).2.1≠kind)))
def HI (l:List Ex)(i:Nat):Ex:=l.getD i (.mk 0 ⟨0,0,[]⟩ [] [] 0 [])
theorem Ly {l:List Ex}{i:Nat}(h:i<l.length):HI l i=l[i]:=by simp[HI,h]
def gk (cols:List ny)(r:List Ex):Nat->Int->List Ex×Int
 |0,err=>([],err)
 |i+1,err=>((gk cols r i err).1++[(HF [] [] (HI r i) (qg cols i).kind (gk cols r i err).2).1],(HF [] [] (HI r i) (qg cols i).kind (gk cols r i err).2).2)
theorem vR (cols:List ny)(r:List Ex)(err:Int):∀i,(gk cols r i err).1.length=i
 |0=>rfl
 |i+1=>by simp[gk,vR cols r err i]
def nT (t:bo):List (List Ex)->Int->List (List Ex)×Int
 |[],err=>([],err)
 |r::rs,err=>if keep err 204 (!decide (r.length=t.cols.length))≠0 then ([],keep err 204 (!decide (r.length=t.cols.length)))
  else ((gk t.cols r r.length (keep err 204 (!decide (r.length=t.cols.length)))).1::(nT t rs (gk t.cols r r.length (keep err 204 (!decide (r.length=t.cols.length)))).2).1,(nT t rs (gk t.cols r r.length (keep err 204 (!decide (r.length=t.cols.length)))).2).2)
def jl (s:bB)(x:bN)(err:Int):mZ×Int:=
 ({kind:=x.kind,table:=(s.named x.table).1,rows:=(nT (s.named x.table).1 x.rows (keep err 200 (!(s.named x.table).2))).1},(nT (s.named x.table).1 x.rows (keep err 200 (!(s.named x.table).2))).2)
def wh (kind:Int)(t:bo)(va:AV):List AV:=[zI kind,.str [],.int .u32 t.id,.str t.name,bL.ds t.cols,.int .u32 t.head,.int .u32 0,.int .u32 0,.str [],.al (.slice none 0 0),.bool false,.int .u32 0,
 .al (.slice none 0 0),va,.al (.slice none 0 0),.al (.slice none 0 0),.al (.slice none 0 0),.al (.slice none 0 0),.al (.slice none 0 0),.al (.slice none 0 0),.al (.slice none 0 0),.al (.slice none 0 0),.bool false,.bool false,zI 0]
theorem wB {h:Hf}{kind:Int}{t:bo}{va:AV}{L:List (List Ex)}(hz:eY h va (dA.ds L)):(wh kind t va).length=25/\nw h (wh kind t va) (mZ.cells {kind:=kind,table:=t,rows:=L}):=by
 refine⟨rfl,?_⟩;simp[wh,mZ.cells,mb.zero];exact .inr hz
structure InI (H0:Hp)(n p o:Nat)(s:bB)(t:bo)(x:bN)(e0:Int)(i:Nat)(L:List (List Ex))(e:Int)(va:AV)(F:Fr)(K:Hp)(m:Nat):Prop where
 hi:i<=x.rows.length
 hL:L.length=i
 f0:F.get 0=some (.ptr p 0)
 f2:F.get 2=some (.ptr o 0)
 f4:F.get 4=some (.ptr n 0)
 f19:F.get 19=some (dA.ds x.rows)
 f20:F.get 20=some (zI (x.rows.length:Int))
 f21:F.get 21=some (zI (i:Int))
 hm:n<m
 tp:cA K m
 kf:∀c,c<n->c≠p->c≠o->K.get c=H0.get c
 kp:K.get p=some (eg s e)
 kn:K.get n=aG 31 x.cells
 ko:K.get o=aG 25 (wh x.kind t va)
 oa:au K m va (dA.l L) i 1
 da:∀c,blk va=some c->n<c
 he:nT t x.rows e0=(L++(nT t (x.rows.drop i) e).1,(nT t (x.rows.drop i) e).2)
structure InJ (K0:Hp)(m0 n p o:Nat)(s:bB)(t:bo)(x:bN)(r:List Ex)(e1:Int)(i j:Nat)(vl:AV)(F:Fr)(K:Hp)(m:Nat):Prop where
 hj:j<=r.length
 f0:F.get 0=some (.ptr p 0)
 f2:F.get 2=some (.ptr o 0)
 f4:F.get 4=some (.ptr n 0)
 f8:F.get 8=some vl
 f19:F.get 19=some (dA.ds x.rows)
 f20:F.get 20=some (zI (x.rows.length:Int))
 f21:F.get 21=some (zI (i:Int))
 f41:F.get 41=some (eX.ds r)
 f42:F.get 42=some (zI (r.length:Int))
 f43:F.get 43=some (zI (j:Int))
 hm:m0<=m
 tp:cA K m
 kf:∀c,c<m0->c≠p->K.get c=K0.get c
 kp:K.get p=some (eg s (gk t.cols r j e1).2)
 ol:au K m vl (eX.l (gk t.cols r j e1).1) j 8
 dl:∀c,blk vl=some c->m0<=c
theorem abA {err e:Int}{b:Bool}(he:e≠0)(h:keep err e b=0):err=0/\b=false:=by
 unfold keep at h
 split at h
 ·exact ai h he
 rename_i hc;cases b
 ·exact⟨h,rfl⟩
 exact ai ⟨rfl,h⟩ hc
theorem Tv (s:bB) (hs:s.dz) (x:bN) (hx:x.rows.length<=aM) (hr:∀r∈x.rows,r.length<=aM/\∀e∈r,e.sz<=aM/\e.may=true) (p o:Nat) (err:Int) (H:Hp) (n:Nat) (hpn:p<n) (hon:o<n) (hpo:p≠o) (hp:H.get p=some (eg s err)) (ho:H.get o=aG 25 (lj x.kind)):
  bc pG 52 [.ptr p 0,x.av,.ptr o 0] H n (.aX []) ((H.put p (some (eg s (jl s x err).2))).put o (some (.cells 25 [] (jl s x err).1.cells .nil))) n:=by
 refine ais (args:=[x.av]) c52 (by simp[A52]) (by simp) hpn hon hpo hp ho (aJ.jI (by simp[lj])) (aJ.jI (by simp)) λ F H0 hF htop hp0 ho0=>?_;have hcr:jl s x err=({kind:=x.kind,table:=(s.named x.table).1,rows:=(nT (s.named x.table).1 x.rows (keep err 200 (!(s.named x.table).2))).1},(nT (s.named x.table).1 x.rows (keep err 200 (!(s.named x.table).2))).2):=rfl;rw[hcr];have q:=ga hpn;have q':=KT hpn;have r:=ga hon;have r':=KT hon;have po:(p=o)=False:=by simp[hpo]
 have op:(o=p)=False:=by simp[hpo,eq_comm]
 have htc:(s.named x.table).1.cols.length<=aM:=gU (Q:=λ t:bo=>t.cols.length<=aM) (by simp[bo.zero]) hs.tc;simp[A52,hF,bN.av,bN.c1];refine aw.ok (zV s hs x.table p err _ _ (by omega) (by simp[q,hp0])) ?_;generalize s.named x.table=tt at *;obtain⟨t,tb⟩:=tt;simp only at htc ⊢;generalize keep err 200 (!tb)=e0 at *;simp only[lj]at ho0;simp[r,op,ho0,aL.av,dB,aev,q',r',bN.c6,aL.aD];generalize hK:Tr.put _ o _=K1;have k0:∀c,c<n->c≠p->c≠o->K1.get c=H0.get c:=λ c h1 h2 h3=>by rw[<-hK];simp[h2,h3,ga h1]
 have kp:K1.get p=some (eg s e0):=by rw[<-hK];simp[po]
 have kn:K1.get n=aG 31 x.cells:=by rw[<-hK];simp[q',r']
 have ko:K1.get o=aG 25 (wh x.kind t (.al (.slice none 0 0))):=by rw[<-hK];simp[wh]
 have kt:cA K1 (n+1):=λ c hc=>by
  have e1:¬c=n:=by omega
  have e2:¬c=p:=by omega
  have e3:¬c=o:=by omega
  rw[<-hK];simp[e1,e2,e3,htop c (by omega)]
 clear hK;unfold aM at hx;refine aE.ZZ (λ q F K m ms=>∃(i:Nat) (L:List (List Ex)) (e:Int) (va:AV),q=x.rows.length - i/\InI H0 n p o s t x e0 i L e va F K m/\ms=[]) x.rows.length (Zs.refl ⟨0,[],e0,.al (.slice none 0 0),by simp,⟨by simp,by simp,by simp[hF],by simp[hF],by simp,by simp,by simp,by simp,by omega,kt,k0,kp,kn,ko,by simpa using au.nil _ _ 1,by simp,by simp⟩,rfl⟩) ?_;clear hF F K1 k0 kp kn ko kt;rintro q1 F K m ms ⟨i,L,e,va,rfl,I,rfl⟩;have f0:=I.f0;have f2:=I.f2;have f4:=I.f4;have f19:=I.f19;have f20:=I.f20;have f21:=I.f21;have hm:=I.hm
 by_cases hlt:i<x.rows.length
 ·have hxx:=dA.ix (ik:=.i64) hlt;rw[Be]at hxx;obtain⟨hr1,hr2⟩:=hr _ (b6 hlt);have ko:=I.ko;simp only[wh]at ko;have hdr:=km hlt;have he:=I.he;rw[hdr,nT]at he;generalize x.rows[i]=rw at *;simp[ZB,f0,f2,f19,f20,f21,hlt,hxx,ko,aL.aD];refine aw.ok (tY p s e 204 (!decide (rw.length=t.cols.length)) K m (by omega) I.kp) ?_;generalize hE:keep e 204 (!decide (rw.length=t.cols.length))=e1 at he;have j2:∀c,c≠p->(K.put p (some (eg s e1))).get c=K.get c:=λ c hc=>by simp[hc]
  have jp:(K.put p (some (eg s e1))).get p=some (eg s e1):=by simp
  generalize K.put p (some (eg s e1))=K0 at j2 jp ⊢;have jp':K0.get p=aG 3 [aA.ds s.tables,aQ.ds s.indexes,zI e1]:=jp;have t0:cA K0 m:=λ c hc=>(j2 c (by omega)).trans (I.tp c hc);have o0:=(j2 o (by omega)).trans I.ko;have oa0:au K0 m va (dA.l L) i 1:=I.oa.frame (aP _) λ c hc=>j2 c (by have:=I.da c hc;omega)
  by_cases h1:e1=0
  ·have hlen:rw.length=t.cols.length:=by simpa using(abA (by omega) (hE.trans h1)).2
   simp[h1]at he;subst h1;simp[V4,aeu,aet,f0,jp',aL.aD];refine aE.of (λ q F K m' ms=>∃(j:Nat) (vl:AV),q=rw.length - j/\InJ K0 m n p o s t x rw 0 i j vl F K m'/\ms=[]) rw.length ⟨0,.al (.slice none 0 0),by simp,⟨by simp,by simp[f0],by simp[f2],by simp[f4],by simp,by simp[f19],by simp[f20],by simp[f21],by simp,by simp,by simp,by omega,t0,λ c _ _=>rfl,by simpa[gk]using jp,by simpa[gk]using au.nil _ _ 8,by simp⟩,rfl⟩ ?_;clear f0 f2 f4 f19 f20 f21;have hda:=I.da;have hkf:=I.kf;have hkn:=I.kn;clear hxx ko;rintro q2 F K2 m2 ms ⟨j,vl,rfl,J,rfl⟩;have f0:=J.f0;have f2:=J.f2;have f4:=J.f4;have f8:=J.f8;have f19:=J.f19;have f20:=J.f20;have f21:=J.f21;have f41:=J.f41;have f42:=J.f42;have f43:=J.f43;have hmm:=J.hm;have ko2:=(J.kf o (by omega) (by omega)).trans o0
   by_cases hlt2:j<rw.length
   ·have hxx:=eX.ix (ik:=.i64) hlt2;have hld:=λ H=>eX.mf rw[j] (eX.l (rw.drop (j+1))) H;have hcx:=bL.ix (ik:=.i64) (show j<t.cols.length by omega);obtain⟨hz,hm2⟩:=hr2 _ (b6 hlt2);simp[ZC,f41,f42,f43,hlt2,hxx,Us];generalize hK1:Tr.put _ m2 (some (br.cells 8 [] rw[j].cells .nil))=K3;have g3:∀c,c<m2->K3.get c=K2.get c:=λ c hc=>by rw[<-hK1];simp[ga hc]
    have x3:K3.get m2=some (.cells 8 [] rw[j].cells .nil):=by rw[<-hK1];simp
    have t3:cA K3 (m2+1):=λ c hc=>by
     have e1:¬c=m2:=by omega
     rw[<-hK1];simp[e1,J.tp c (by omega)]
    clear hK1;simp only[V8,kZ];have p3:=(g3 p (by omega)).trans J.kp;have o3:=(g3 o (by omega)).trans ko2;simp only[wh]at o3;have hft:=amY [] [] rfl (by simp[aB,aM]) (by simp[aM]) (by simp) s rw[j] hz hm2 t.cols[j].kind p _ K3 (m2+1) (by omega) p3
    have hfit:HF [] [] (HI rw j) (qg t.cols j).kind (gk t.cols rw j 0).2=((rw[j].bd [] [] (gk t.cols rw j 0).2).1,keep (rw[j].bd [] [] (gk t.cols rw j 0).2).2.2 203 (decide ((rw[j].bd [] [] (gk t.cols rw j 0).2).2.1≠0)&&decide ((rw[j].bd [] [] (gk t.cols rw j 0).2).2.1≠t.cols[j].kind))):=by
     rw[Ly hlt2,UF (show j<t.cols.length by omega)];rfl
    have hrl:gk t.cols rw (j+1) 0=((gk t.cols rw j 0).1++[(HF [] [] (HI rw j) (qg t.cols j).kind (gk t.cols rw j 0).2).1],(HF [] [] (HI rw j) (qg t.cols j).kind (gk t.cols rw j 0).2).2):=rfl;rw[hfit]at hrl;generalize rw[j].bd [] [] (gk t.cols rw j 0).2=X at hft hrl;obtain⟨x1,kd,er⟩:=X;simp only at hft hrl;generalize keep er 203 (decide (kd≠0)&&decide (kd≠t.cols[j].kind))=er2 at hft hrl
    have hcv:bc pG 127 [.ptr p 0,.agg [.al (.slice none 0 0),.al (.slice none 0 0)] 2,.agg rw[j].cells 8,zI t.cols[j].kind] K3 (m2+1) (.agg x1.cells 8) (K3.put p (some (eg s er2))) (m2+1):=by
     refine bc.conv hft λ φ D xs hv=>?_
     cases hv with
     |cons _ y0 _ ys h0 hv =>
     cases hv with
     |cons _ y1 _ ys h1 hv =>
     refine .cons _ _ _ _ h0 (.cons _ _ _ _ ?_ hv)
     cases h1 with
     |agg _ l _ a b =>
     cases a with
     |cons _ z0 _ zs a0 a =>
     cases a with
     |cons _ z1 _ zs a1 a =>
     cases a
     exact .agg _ _ _ (.cons _ _ _ _ (VR.alJ cK a0) (.cons _ _ _ _ (VR.alJ aA a1) .nil)) rfl
    refine cj.of (xe (l:=[⟨127,[.ptr p 0,.agg [.al (.slice none 0 0),.al (.slice none 0 0)] 2,.agg rw[j].cells 8,zI t.cols[j].kind],K3,m2+1,.agg x1.cells 8,K3.put p (some (eg s er2)),m2+1⟩]) ?_) ?_
    ·simp only[mem_cons,not_mem_nil,or_false];rintro c rfl;exact hcv
    have n3:K3.get (m2+1)=none:=t3 _ (aP _);have n4:(K3.put p (some (eg s er2))).get (m2+1)=none:=by simp[show ¬m2+1=p by omega,n3]
    have j4:∀c,c≠p->(K3.put p (some (eg s er2))).get c=K3.get c:=λ c hc=>by simp[hc]
    have p4:(K3.put p (some (eg s er2))).get p=some (eg s er2):=by simp
    simp[ab,f0,f2,f8,o3,x3,hcx,nY,qT];generalize K3.put p (some (eg s er2))=K4 at j4 p4 n4 ⊢;simp[cG,dj,n3,n4];generalize hK5:Tr.put K4 (m2+1) _=K5;have g5:∀c,c<m2+1->K5.get c=K4.get c:=λ c hc=>by rw[<-hK5];simp[ga hc]
    have x5:K5.get (m2+1)=aG 8 x1.cells:=by rw[<-hK5];simp
    have t5:cA K5 (m2+1+1):=λ c hc=>by
     have e1:¬c=m2+1:=by omega
     rw[<-hK5];simp[e1,j4 c (by omega),t3 c (by omega)]
    clear hK5;have bk:∀c,c<m2->c≠p->K5.get c=K2.get c:=λ c h1 h2=>(g5 c (by omega)).trans ((j4 c h2).trans (g3 c h1));have ol5:au K5 (m2+1+1) vl (eX.l (gk t.cols rw j 0).1) j 8:=J.ol.frame (by omega) λ c hc=>bk c (J.ol.bg hc) (by have:=J.dl c hc;omega);unfold aM at hr1;refine au.Bv (k:=1) (new:=x1.cells) ol5 (aR x5) (by simp) (by simp) (by omega) (by omega) (by unfold big;omega) (by omega) (by simp) λ K6 o6 g6=>?_;simp[ab,V7,f43,aC j (by omega)];have Z1:∀c,c≠m2+1+1->blk vl≠some c->K6.get c=K5.get c:=λ c h1 h2=>g6 c h1 λ e=>h2 (by rw[e];rfl);have nl:∀c,c<m->blk vl≠some c:=λ c h1 h2=>by have:=J.dl c h2;omega
    refine⟨_,by omega,j+1,rfl,.sl (m2+1+1) 0 (j+1) 8,hlt2,by simp[ab,f0],by simp[ab,f2],by simp[ab,f4],by simp,by simp[ab,f19],by simp[ab,f20],by simp[ab,f21],by simp[ab,f41],by simp[ab,f42],by simp,by omega,λ c hc=>?_,λ c h1 h2=>?_,?_,?_,λ c hc=>by simp at hc;omega⟩
    ·exact(Z1 c (by omega) λ h=>by have:=J.ol.bg h;omega).trans (t5 c (by omega))
    ·exact(Z1 c (by omega) (nl c h1)).trans ((bk c (by omega) h2).trans (J.kf c h1 h2))
    ·rw[hrl];exact(Z1 p (by omega) (nl p (by omega))).trans ((g5 p (by omega)).trans p4)
    rw[hrl,aL.dV,aL.lP];exact o6
   have hje:j=rw.length:=by have:=J.hj;omega
   subst hje;have tp2:=J.tp;have kp2:=J.kp;have kn2:=(J.kf n hm (by omega)).trans ((j2 n (by omega)).trans hkn);have ol2:=J.ol;have dl2:=J.dl;have kf2:∀c,c<n->c≠p->c≠o->K2.get c=H0.get c:=λ c h1 h2 h3=>(J.kf c (by omega) h2).trans ((j2 c h2).trans (hkf c h1 h2 h3));have oa2:au K2 m2 va (dA.l L) i 1:=oa0.frame (by omega) λ c hc=>J.kf c (oa0.bg hc) (by have:=hda c hc;omega);have hle:=I.hL;simp only[wh]at ko2;have hone:=ol2.cO;obtain⟨hl1,hl2⟩:=ol2.Aw;simp[ZC,V6,f42,f43,f2,f8,ko2,hl1,hl2];generalize hK3:Tr.put K2 m2 _=K3;have g3:∀c,c<m2->K3.get c=K2.get c:=λ c hc=>by rw[<-hK3];simp[ga hc]
   have x3:K3.get m2=aG 1 [vl]:=by rw[<-hK3];simp
   have t3:cA K3 (m2+1):=λ c hc=>by
    have e1:¬c=m2:=by omega
    rw[<-hK3];simp[e1,tp2 c (by omega)]
   clear hK3;have oa3:au K3 (m2+1) va (dA.l L) i 1:=oa2.frame (by omega) λ c hc=>g3 c (oa2.bg hc);refine au.rQ (k:=1) (new:=[vl]) oa3 (aR x3) (by simp) (by simp) (by omega) (by omega) (by unfold big;omega) (by omega) (by simp[hone]) λ K4 o4 g4=>?_;have na:∀c,c<=n->blk va≠some c:=λ c h1 h2=>by have:=hda c h2;omega
   have ob:=(g4 o (by omega) (na o (by omega))).trans ((g3 o (by omega)).trans ko2);simp[ob,V5,f21,aC i (by omega)];generalize hK5:Tr.put K4 o _=K5;have g5:∀c,c≠o->K5.get c=K4.get c:=λ c hc=>by rw[<-hK5];simp[hc]
   have ko5:K5.get o=aG 25 (wh x.kind t (.sl (m2+1) 0 (i+1) 1)):=by rw[<-hK5];simp[wh]
   clear hK5;have bk:∀c,c<m2->c≠o->blk va≠some c->K5.get c=K2.get c:=λ c h1 h3 h4=>(g5 c h3).trans ((g4 c (by omega) h4).trans (g3 c h1));have QJ:au K5 (m2+1+1) (.sl (m2+1) 0 (i+1) 1) (dA.l L++[vl]) (i+1) 1:=o4.frame (by omega) λ c hc=>g5 c (by simp at hc;omega);have ol5:au K5 (m2+1+1) vl (eX.l (gk t.cols rw rw.length 0).1) rw.length 8:=ol2.frame (by omega) λ c hc=>bk c (ol2.bg hc) (by have:=dl2 c hc;omega) λ h=>by have h1:=oa0.bg h;have h2:=dl2 c hc;omega
   generalize hF2:(Fp 21 _ _:Fr)=F2;have w0:F2.get 0=some (.ptr p 0):=by rw[<-hF2];simp[f0]
   have w2:F2.get 2=some (.ptr o 0):=by rw[<-hF2];simp[f2]
   have w4:F2.get 4=some (.ptr n 0):=by rw[<-hF2];simp[f4]
   have w19:F2.get 19=some (dA.ds x.rows):=by rw[<-hF2];simp[f19]
   have w20:F2.get 20=some (zI (x.rows.length:Int)):=by rw[<-hF2];simp[f20]
   have w21:F2.get 21=some (zI ((i+1:Nat):Int)):=by rw[<-hF2];simp
   clear hF2
   obtain⟨hh,K6,hsh,Pz,g6⟩:=Ri (F:=F2) (F2:=tN F2 [0,2,4,19,20,21]) (λ t v hv=>yT hv) QJ ol5 (by omega) (by simp) (λ c hc hc2=>by
    have:=ol2.bg hc2;simp at hc;omega)
   have nb:∀c,c<m->blk (AV.sl (m2+1) 0 (i+1) 1)≠some c:=λ c h1 h2=>by simp at h2;omega
   have nl:∀c,c<m->blk vl≠some c:=λ c h1 h2=>by have:=dl2 c h2;omega
   refine⟨x.rows.length - (i+1),by omega,hh,_,K6,hsh,i+1,rfl,⟨L++[(gk t.cols rw rw.length 0).1],(gk t.cols rw rw.length 0).2,.sl (m2+1) 0 (i+1) 1,hlt,by simp[hle],(eI (by simp)).trans w0,(eI (by simp)).trans w2,(eI (by simp)).trans w4,(eI (by simp)).trans w19,(eI (by simp)).trans w20,(eI (by simp)).trans w21,by omega,λ c hc=>?_,λ c h1 h2 h3=>?_,?_,?_,?_,?_,λ c hc=>by simp at hc;omega,?_⟩,rfl⟩
   ·have e1:blk (AV.sl (m2+1) 0 (i+1) 1)≠some c:=λ h=>by simp at h;omega
    have e2:blk vl≠some c:=λ h=>by have:=ol2.bg h;omega
    exact(g6 c e1 e2).trans ((g5 c (by omega)).trans ((g4 c (by omega) λ h=>by have:=oa0.bg h;omega).trans (t3 c (by omega))))
   ·exact(g6 c (nb c (by omega)) (nl c (by omega))).trans ((bk c (by omega) h3 (na c (by omega))).trans (kf2 c h1 h2 h3))
   ·exact(g6 p (nb p (by omega)) (nl p (by omega))).trans ((bk p (by omega) (by omega) (na p (by omega))).trans kp2)
   ·exact(g6 n (nb n (by omega)) (nl n (by omega))).trans ((bk n (by omega) (by omega) (na n (by omega))).trans kn2)
   ·exact(g6 o (nb o (by omega)) (nl o (by omega))).trans ko5
   ·rw[aL.dV,aL.lP,Be,aL.ds,vR];exact Pz
   rw[he];simp
  simp[h1]at he
  have hz:eY (above n K0) va (dA.ds L):=by
   have:=oa0.EV (n0:=n) (λ c hc=>by have:=I.da c hc;omega) (bh.pure (dA.nR L)) (by omega);rw[aL.ds,I.hL];exact this
  have hkf:=I.kf;rw[he];simp[V4,f0,jp',h1];refine⟨.pure _ (by simp),λ c h1 h2 h3=>(j2 c h2).trans (hkf c h1 h2 h3),rfl,_,o0,wB hz⟩
 have hie:i=x.rows.length:=by have:=I.hi;omega
 subst hie;have he:=I.he;rw[drop_length,nT,append_nil]at he;rw[he];simp[ZB,f20,f21];refine⟨.pure _ (by simp),λ c h1 h2 h3=>I.kf c h1 h2 h3,I.kp,_,I.ko,wB ?_⟩;have:=I.oa.EV (n0:=n) (λ c hc=>by have:=I.da c hc;omega) (bh.pure (by simp)) (by omega);rw[aL.ds,I.hL];exact this
def splice (l vs:List AV)(o:Nat):List AV:=l.take o++(vs++l.drop (o+vs.length))
theorem qo {l vs:List AV}{o:Nat}(ho:o+vs.length<=l.length):(splice l vs o).length=l.length:=by
 simp[splice];omega
theorem vH {l vs:List AV}{o:Nat}(ho:o+vs.length<=l.length)(j:Nat):(splice l vs o)[j]?=if o<=j/\j<o+vs.length then vs[j - o]? else l[j]?:=by
 unfold splice
 by_cases h1:j<o
 ·rw[getElem?_append_left (by simp;omega),getElem?_take,ao h1,ah (by omega)]
 rw[getElem?_append_right (by simp;omega)];have e:(l.take o).length=o:=by simp;omega
 rw[e]
 by_cases h2:j<o+vs.length
 ·rw[getElem?_append_left (by omega),ao ⟨by omega,h2⟩]
 rw[getElem?_append_right (by omega),iV,ah (by omega)]
 congr 1;omega
theorem OwnB.stN {u:Nat}{z bs:List AV}{t:Ov AV}{l vs:List AV}(h:OwnB (.cells u z bs t) l){o:Nat}(hv:vs≠[]) (ho:o+vs.length<=l.length):OwnB (ke u z bs t vs o) (splice l vs o):=by
 obtain⟨u',z',bs',t',e,hu,hg,hl⟩:=h;injection e with e1 e2 e3 e4;subst e1 e2 e3 e4
 have hput:∀t:Ov AV,(Ov.bD vs o t)≠.nil:=by
  intro t e;have:=Ov.bw vs o t o;have hp:0<vs.length:=length_pos_iff.2 hv;rw[e,ao ⟨by omega,by omega⟩,Nat.sub_self,cE hp]at this;simp at this
 have wF:OwnB (.cells u z bs (Ov.bD vs o t)) (splice l vs o):=by
  refine⟨u,z,bs,_,rfl,by rw[qo ho,hu],λ j=>?_,λ e=>ai e (hput t)⟩;have hj:=hg j;rw[bY]at hj ⊢;rw[vH ho,Ov.bw]
  by_cases hju:j<u
  ·rw[ao hju]at hj ⊢
   by_cases ja:o<=j/\j<o+vs.length
   ·rw[ao ja,ao ja,cE (by omega)]
   rw[ah ja,ah ja];exact hj
  rw[ah hju]at hj ⊢;rw[ah (by omega)];exact hj
 unfold ke
 split
 ·split
  ·split
   ·split
    ·rename_i bs' hp;have hb:=hl rfl rfl;obtain⟨p1,_,p3⟩:=iW hp
     have:bs'=splice l vs o:=by
      apply ext_getElem?;intro j;rw[p3,vH ho];have hj:=hg j;rw[mG]at hj
      by_cases ja:o<=j/\j<o+vs.length
      ·rw[ao ja,ao ja]
      rw[ah ja,ah ja,<-hj]
      split
      ·rfl
      rw[getElem?_eq_none (by omega)]
     rw[this];exact .list (by rw[qo ho,hu])
    exact wF
   exact wF
  exact wF
 ·exact wF
 exact wF
theorem aaP {b o k:Nat}{kb:br}{L:List AV}{v:AV}(ho:OwnB kb L)(hk:v.len=k)(hc:v.cells.length=k)(h0:0<k)(h1:aY v.cells=true)(hl:o+k<=L.length):∃y,stE k v (some kb) b o=.upd (.aX []) b y/\OwnB y (splice L v.cells o):=by
 have ho':=ho;obtain⟨u,z,bs,t,rfl,h3,h4,_⟩:=ho;refine⟨ke u z bs t v.cells o,?_,ho'.stN (by intro e;rw[e]at hc;simp at hc;omega) (by omega)⟩;have hu:o+k<=u:=by omega
 simp[hu,hk,h1]
theorem aL.ag0 {α:Type}{k:Nat}(E:aL α k)(l:List α)(z:List AV)(hz:z.length=k)(a:α):splice (E.l l++z) (E.cells a) (l.length*k)=E.l (l++[a]):=by
 unfold splice;rw[take_append_of_le_length (by simp),eZ (by simp),drop_eq_nil_of_le (by simp[hz]),append_nil,E.dV,E.lP]
theorem bh.take {h:Hf}:∀ {a b:List AV}(i:Nat),bh h a b->bh h (a.take i) (b.take i)
 |_,_,0,_=>by simpa using bh.nil
 |_,_,i+1,.nil=>by simpa using bh.nil
 |_,_,i+1,.cons _ _ _ _ x y=>by simpa using bh.cons _ _ _ _ x (bh.take i y)
theorem bh.drop {h:Hf}:∀ {a b:List AV}(i:Nat),bh h a b->bh h (a.drop i) (b.drop i)
 |_,_,0,k=>by simpa using k
 |_,_,i+1,.nil=>by simpa using bh.nil
 |_,_,i+1,.cons _ _ _ _ x y=>by simpa using bh.drop i y
theorem bh.splice {h:Hf}{a b c d:List AV}(o:Nat)(x:bh h a b)(y:bh h c d):bh h (Go.Abs.splice a c o) (Go.Abs.splice b d o):=by
 unfold Go.Abs.splice;rw[<-y.length];exact(x.take o).append (y.append (x.drop _))
theorem au.asX {H:Hp}{n:Nat}{v:AV}{l:List AV}{len sz:Nat}(h:au H n v l len sz):aZ v=.val (zI (len:Int)):=by
 obtain⟨_,⟨rfl,rfl⟩|⟨b,k,rfl,_⟩⟩:=h<;>simp
def ab7 (i:Nat):Ex:=.mk 3 ⟨0,0,[]⟩ [] [] (i:Int) []
def Qf (i:Nat):List AV:=[zI 3,zI 0,zI 0,.str [],.str [],.str [],zI (i:Int),.al (.slice none 0 0)]
theorem UE (h:Hf)(i:Nat):bh h (Qf i) (eX.cells (ab7 i)):=Ex.nf (v:=⟨0,0,[]⟩) (.nil 7)
def iK (k:Nat):List Ex:=(List.range k).map ab7
theorem H7 (k:Nat):iK (k+1)=iK k++[ab7 k]:=by simp[iK,range_succ]
@[simp] theorem Qe (k:Nat):(iK k).length=k:=by simp[iK]
def aae (t:bo):List St1->List St1->List Ex->Int->List Ex×Int×Bool
 |_,[],new,err=>(new,err,true)
 |done,x::r,new,err =>
  if keep (keep err 201 (decide (qf t x.name<0))) 205 (done.any λ y=>decide (y.name=x.name))≠0 then (new,keep (keep err 201 (decide (qf t x.name<0))) 205 (done.any λ y=>decide (y.name=x.name)),false)
  else aae t (done++[x]) r (new.set (qf t x.name).toNat (HF [t.name] [t] x.e (qg t.cols (qf t x.name).toNat).kind (keep (keep err 201 (decide (qf t x.name<0))) 205 (done.any λ y=>decide (y.name=x.name)))).1) (HF [t.name] [t] x.e (qg t.cols (qf t x.name).toNat).kind (keep (keep err 201 (decide (qf t x.name<0))) 205 (done.any λ y=>decide (y.name=x.name)))).2
def aqD (kind:Int)(t:bo)(cond:Ex)(r:List Ex×Int×Bool):mZ×Int:=
 if r.2.2=true then ({kind:=kind,table:=t,new:=r.1,cond:=(fG [t.name] [t] cond r.2.1).1},(fG [t.name] [t] cond r.2.1).2)else ({kind:=kind,table:=t,new:=r.1},r.2.1)
def aad (s:bB)(x:bN)(err:Int):mZ×Int:=
 if keep err 200 (!(s.named x.table).2)≠0 then ({kind:=x.kind,table:=(s.named x.table).1},keep err 200 (!(s.named x.table).2))
 else aqD x.kind (s.named x.table).1 x.cond (aae (s.named x.table).1 [] x.sets (iK (s.named x.table).1.cols.length) (keep err 200 (!(s.named x.table).2)))
def alk (kind:Int)(t:bo)(va w:AV):List AV:=[zI kind,.str [],.int .u32 t.id,.str t.name,bL.ds t.cols,.int .u32 t.head,.int .u32 0,.int .u32 0,.str [],.al (.slice none 0 0),.bool false,.int .u32 0,
 .al (.slice none 0 0),.al (.slice none 0 0),va,.al (.slice none 0 0),.al (.slice none 0 0),w,.al (.slice none 0 0),.al (.slice none 0 0),.al (.slice none 0 0),.al (.slice none 0 0),.bool false,.bool false,zI 0]
structure UpA (H0:Hp)(n p o:Nat)(s:bB)(t:bo)(x:bN)(i:Nat)(va:AV)(R:List AV)(F:Fr)(K:Hp)(m:Nat):Prop where
 hi:i<=t.cols.length
 f0:F.get 0=some (.ptr p 0)
 f2:F.get 2=some (.ptr o 0)
 f4:F.get 4=some (.ptr n 0)
 f6:F.get 6=some (.ptr (n+1) 0)
 f33:F.get 33=some (zI (t.cols.length:Int))
 f34:F.get 34=some (zI (i:Int))
 hm:n+2<=m
 tp:cA K m
 kf:∀c,c<n->c≠p->c≠o->K.get c=H0.get c
 kp:K.get p=some (eg s 0)
 kn:K.get n=aG 31 x.cells
 ks:K.get (n+1)=aG 2 (lC [t.name] [t])
 ko:K.get o=aG 25 (alk x.kind t va (.al (.slice none 0 0)))
 oa:au K m va R i 8
 da:∀c,blk va=some c->n+2<=c
 fz:∀h,bh h R (eX.l (iK i))
structure UpM (H0:Hp)(n p o:Nat)(s:bB)(t:bo)(x:bN)(N:List Ex)(e:Int)(va:AV)(R:List AV)(K:Hp)(m:Nat):Prop where
 hN:N.length=t.cols.length
 hm:n+2<=m
 tp:cA K m
 kf:∀c,c<n->c≠p->c≠o->K.get c=H0.get c
 kp:K.get p=some (eg s e)
 kn:K.get n=aG 31 x.cells
 ks:K.get (n+1)=aG 2 (lC [t.name] [t])
 ko:K.get o=aG 25 (alk x.kind t va (.al (.slice none 0 0)))
 oa:au K m va R t.cols.length 8
 da:∀c,blk va=some c->n+2<=c
 fz:∀h,bh h R (eX.l N)
structure UpB (H0:Hp)(n p o:Nat)(s:bB)(t:bo)(x:bN)(i:Nat)(N:List Ex)(e:Int)(va:AV)(R:List AV)(F:Fr)(K:Hp)(m:Nat):Prop where
 hi:i<=x.sets.length
 f0:F.get 0=some (.ptr p 0)
 f2:F.get 2=some (.ptr o 0)
 f4:F.get 4=some (.ptr n 0)
 f6:F.get 6=some (.ptr (n+1) 0)
 f51:F.get 51=some (ahQ.ds x.sets)
 f52:F.get 52=some (zI (x.sets.length:Int))
 f53:F.get 53=some (zI (i:Int))
 mem:UpM H0 n p o s t x N e va R K m
 he:aae t [] x.sets (iK t.cols.length) 0=aae t (x.sets.take i) (x.sets.drop i) N e
end Go.Abs
namespace Go.Abs
open List
open Go.Proofs
open Classical
set_option maxRecDepth 100000
def jU (kind:Int)(fr on w it nm kd od:AV)(d l:Bool)(m:Int):List AV:=[zI kind,.str [],.int .u32 0,.str [],.al (.slice none 0 0),.int .u32 0,.int .u32 0,.int .u32 0,.str [],.al (.slice none 0 0),.bool false,.int .u32 0,
 .al (.slice none 0 0),.al (.slice none 0 0),.al (.slice none 0 0),fr,on,w,it,nm,kd,od,.bool d,.bool l,zI m]
structure QC where
 kind:Int
 fr:AV
 on:AV
 w:AV
 od:AV
 d:Bool
 l:Bool
 m:Int
def QC.out (q:QC)(it nm kd:AV):List AV:=jU q.kind q.fr q.on q.w it nm kd q.od q.d q.l q.m
structure OE (H0:Hp)(n p o:Nat)(s:bB)(ns:List (List Nat))(ts:List bo)(q:cM)(C:QC)(e:Int)(c:Nat)(E:List Ex)(N:List (List Nat))(Ks:List Int)(vi vn vk:AV)(R:List AV)(K:Hp)(m:Nat):Prop where
 hm:n+2<=m
 tp:cA K m
 kf:∀b,b<n->b≠p->b≠o->K.get b=H0.get b
 kp:K.get p=some (eg s e)
 kn:K.get n=aG 2 (lC ns ts)
 kq:K.get (n+1)=aG 15 q.cells
 ko:K.get o=aG 25 (C.out vi vn vk)
 oi:au K m vi R c 8
 on:au K m vn (cK.l N) c 1
 ok:au K m vk (cQ.l Ks) c 1
 di:∀b,blk vi=some b->n+2<=b/\blk vn≠some b/\blk vk≠some b
 dn:∀b,blk vn=some b->n+2<=b/\blk vk≠some b
 dk:∀b,blk vk=some b->n+2<=b
 fz:∀h,bh h R (eX.l E)
 hE:E.length=c
 hN:N.length=c
 hK:Ks.length=c
section
variable {H0:Hp}{n p o:Nat}{s:bB}{ns:List (List Nat)}{ts:List bo}{q:cM}{C:QC}{e:Int}{c:Nat}{E:List Ex}{N:List (List Nat)}{Ks:List Int}{vi vn vk:AV}{R:List AV}{K:Hp}{m:Nat}
theorem OE.next (M:OE H0 n p o s ns ts q C e c E N Ks vi vn vk R K m)(hpn:p<n)(hon:o<n)(hpo:p≠o){K':Hp}{m':Nat}{e':Int}(hm:m<=m')(ht:cA K' m')(hk:∀b,b<m->b≠p->K'.get b=K.get b)(hp:K'.get p=some (eg s e')):OE H0 n p o s ns ts q C e' c E N Ks vi vn vk R K' m':=by
 have hm0:=M.hm
 exact⟨by omega,ht,λ b h1 h2 h3=>(hk b (by omega) h2).trans (M.kf b h1 h2 h3),hp,(hk n (by omega) (by omega)).trans M.kn,(hk (n+1) (by omega) (by omega)).trans M.kq,(hk o (by omega) (by omega)).trans M.ko,
  M.oi.frame hm λ b hb=>hk b (M.oi.bg hb) (by have:=(M.di b hb).1;omega),M.on.frame hm λ b hb=>hk b (M.on.bg hb) (by have:=(M.dn b hb).1;omega),M.ok.frame hm λ b hb=>hk b (M.ok.bg hb) (by have:=M.dk b hb;omega),M.di,M.dn,M.dk,M.fz,M.hE,M.hN,M.hK⟩
end
structure StF (n p o:Nat)(ts:List bo)(i:Nat)(F:Fr):Prop where
 f0:F.get 0=some (.ptr p 0)
 f3:F.get 3=some (.ptr o 0)
 f5:F.get 5=some (.ptr n 0)
 f6:F.get 6=some (.ptr (n+1) 0)
 f32:F.get 32=some (aA.ds ts)
 f33:F.get 33=some (zI (ts.length:Int))
 f34:F.get 34=some (zI (i:Int))
def namesT (ts:List bo):List (List Nat):=ts.flatMap λ t=>t.cols.map (·.name)
theorem To (n p o:Nat) (hpn:p<n) (hon:o<n) (hpo:p≠o) (H0:Hp) (s:bB) (ns:List (List Nat)) (ts:List bo) (q:cM) (C:QC) (hC:C.fr.one=true/\C.on.one=true/\C.w.one=true/\C.od.one=true) (e:Int) (i:Nat) (t:bo) (c0:Nat) (hlim:c0+t.cols.length<=aM) (E0:List Ex) (N0:List (List Nat)) (ZR:List Int) (hE0:E0=iK c0)
  (F:Fr)(K:Hp)(m:Nat)(Q:QA)(vi vn vk:AV)(R:List AV)(hF:StF n p o ts i F)(HC:F.get 39=some (bL.ds t.cols))(h40:F.get 40=some (zI (t.cols.length:Int)))(h41:F.get 41=some (zI 0))(M:OE H0 n p o s ns ts q C e c0 E0 N0 ZR vi vn vk R K m)
  (hQ:∀vi vn vk R F K m,StF n p o ts i F->OE H0 n p o s ns ts q C e (c0+t.cols.length) (iK (c0+t.cols.length)) (N0++t.cols.map (·.name)) (ZR++t.cols.map (·.kind)) vi vn vk R K m->Q .normal F K m []):aE Du pG F K m [] (fy 2 Q):=by
 subst hE0;unfold aM at hlim;obtain⟨hC1,hC2,hC3,hC4⟩:=hC;refine aE.of (λ g F K m ms=>∃(j:Nat) (vi vn vk:AV) (R:List AV),g=t.cols.length - j/\j<=t.cols.length/\StF n p o ts i F/\F.get 39=some (bL.ds t.cols)/\F.get 40=some (zI (t.cols.length:Int))/\F.get 41=some (zI (j:Int))/\OE H0 n p o s ns ts q C e (c0+j) (iK (c0+j)) (N0++(t.cols.take j).map (·.name)) (ZR++(t.cols.take j).map (·.kind)) vi vn vk R K m/\ms=[]) t.cols.length ⟨0,vi,vn,vk,R,by simp,by omega,hF,HC,h40,h41,by simpa using M,rfl⟩ ?_;clear hF HC h40 h41 M F K m vi vn vk R;rintro g F K m ms ⟨j,vi,vn,vk,R,rfl,hj,⟨f0,f3,f5,f6,f32,f33,f34⟩,f39,f40,f41,M,rfl⟩;have hm:=M.hm
 by_cases hlt:j<t.cols.length
 ·have hxx:=bL.ix (ik:=.i64) hlt;have hld:=λ H=>bL.mf t.cols[j] (bL.l (t.cols.drop (j+1))) H;simp[Du,f39,f40,f41,hlt,hxx,hld,aL.av];generalize hK1:Tr.put _ m _=K1;have g1:∀b,b<m->K1.get b=K.get b:=λ b hb=>by rw[<-hK1];simp[ga hb]
  have x1:K1.get m=aG 3 (bL.cells t.cols[j]):=by rw[<-hK1];simp
  have t1:cA K1 (m+1):=λ b hb=>by
   have e1:¬b=m:=by omega
   rw[<-hK1];simp[e1,M.tp b (by omega)]
  clear hK1;have M1:=M.next hpn hon hpo (Nat.le_succ m) t1 (λ b h1 _=>g1 b h1) ((g1 p (by omega)).trans M.kp);have hvi:∀b,blk vi=some b->b<m:=λ b h=>M.oi.bg h;have hvn:∀b,blk vn=some b->b<m:=λ b h=>M.on.bg h;have hvk:∀b,blk vk=some b->b<m:=λ b h=>M.ok.bg h;clear M g1;obtain⟨c,hc⟩:∃c,c=c0+j:=⟨_,rfl⟩;rw[<-hc]at M1;have ko:=M1.ko;simp only[QC.out,jU]at ko;have hlv:=M1.oi.asX;have tm:=t1 (m+1) (aP _);simp only[NY,kZ];refine cj.of (cN (P:=pG)) ?_;simp[ab,f3,ko,hlv,cG,dj,tm];generalize hK2:Tr.put K1 (m+1) _=K2;have g2:∀b,b<m+1->K2.get b=K1.get b:=λ b hb=>by rw[<-hK2];simp[ga hb]
  have x2:K2.get (m+1)=aG 8 [zI 0,zI 0,zI 0,.str [],.str [],.str [],zI 0,.al (.slice none 0 0)]:=by rw[<-hK2];simp
  have t2:cA K2 (m+1+1):=λ b hb=>by
   have e1:¬b=m+1:=by omega
   rw[<-hK2];simp[e1,t1 b (by omega)]
  clear hK2;have oi2:au K2 (m+1+1) vi R c 8:=M1.oi.frame (by omega) λ b hb=>g2 b (M1.oi.bg hb);refine au.Bv (k:=1) (new:=[zI 0,zI 0,zI 0,.str [],.str [],.str [],zI 0,.al (.slice none 0 0)]) oi2 (aR x2) (by simp) (by simp) (by omega) (by omega) (by unfold big;omega) (by omega) (by simp) λ K3 o3 g3=>?_;have g3':∀b,b≠m+1+1->blk vi≠some b->K3.get b=K2.get b:=λ b h1 h2=>g3 b h1 λ e=>h2 (by rw[e];rfl);have nvi:∀b,b<n+2->blk vi≠some b:=λ b h1 h2=>by have:=(M1.di b h2).1;omega
  obtain⟨hRl,⟨e,_⟩|⟨b,kb,hb,_,hkb,hob⟩⟩:=o3
  ·cases e
  injection hb with hb;subst hb;have ahs:R.length=c*8:=M1.oi.1;have hix:=LS (b:=m+1+1) (o:=0) (len:=c+1) (sz:=8) (i:=c) (k:=.i64) (by omega);rw[qw]at hix;obtain⟨y,gw,hoy⟩:=aaP (b:=m+1+1) (k:=8) (o:=c*8) (v:=.agg (Qf c) 8) hob rfl rfl (by omega) (by simp[Qf]) (by simp[ahs]);simp only[Qf]at gw;have ob:=(g3' o (by omega) (nvi o (by omega))).trans ((g2 o (by omega)).trans ko);have om:(o=m+1+1)=False:=by simp only[eq_iff_iff,iff_false];omega
  simp[hix,gw,hkb,om,ob];have k4:∀b,b≠o->b≠m+1+1->((Tr.put K3 (m+1+1) (some y)).put o (aG 25 (C.out (.sl (m+1+1) 0 (c+1) 8) vn vk))).get b=K3.get b:=λ b h1 h2=>by simp[h1,h2]
  have o4:((Tr.put K3 (m+1+1) (some y)).put o (aG 25 (C.out (.sl (m+1+1) 0 (c+1) 8) vn vk))).get o=aG 25 (C.out (.sl (m+1+1) 0 (c+1) 8) vn vk):=by simp
  have y4:((Tr.put K3 (m+1+1) (some y)).put o (aG 25 (C.out (.sl (m+1+1) 0 (c+1) 8) vn vk))).get (m+1+1)=some y:=by simp[show ¬m+1+1=o by omega]
  simp only[QC.out,jU]at k4 o4 y4;generalize Tr.put (Tr.put K3 (m+1+1) (some y)) o _=K4 at k4 o4 y4 ⊢;have bk4:∀b,b<m+1->b≠o->blk vi≠some b->K4.get b=K1.get b:=λ b h1 h2 h3=>(k4 b h2 (by omega)).trans ((g3' b (by omega) h3).trans (g2 b h1));have t4:cA K4 (m+1+1+1):=λ b hb=>(k4 b (by omega) (by omega)).trans ((g3' b (by omega) λ h=>by have:=M1.oi.bg h;omega).trans (t2 b (by omega)));have nn2:∀b,blk vn=some b->blk vi≠some b:=λ b h1 h2=>(M1.di b h2).2.1 h1;have nk2:∀b,blk vk=some b->blk vi≠some b:=λ b h1 h2=>(M1.di b h2).2.2 h1;have on4:au K4 (m+1+1+1) vn (cK.l (N0++(t.cols.take j).map (·.name))) c 1:=M1.on.frame (by omega) λ b hb=>bk4 b (M1.on.bg hb) (by have:=(M1.dn b hb).1;omega) (nn2 b hb);have ok4:au K4 (m+1+1+1) vk (cQ.l (ZR++(t.cols.take j).map (·.kind))) c 1:=M1.ok.frame (by omega) λ b hb=>bk4 b (M1.ok.bg hb) (by have:=M1.dk b hb;omega) (nk2 b hb);have x4:=(bk4 m (by omega) (by omega) λ h=>by have:=hvi m h;omega).trans x1;rw[nY]at x4;have tm4:=t4 (m+1+1+1) (aP _);simp only[NX,kZ];refine cj.of (cN (P:=pG)) ?_;simp[ab,f3,o4,x4,cG,dj,tm4];generalize hK5:Tr.put K4 (m+1+1+1) _=K5;have g5:∀b,b<m+1+1+1->K5.get b=K4.get b:=λ b hb=>by rw[<-hK5];simp[ga hb]
  have x5:K5.get (m+1+1+1)=aG 1 [.str t.cols[j].name]:=by rw[<-hK5];simp
  have t5:cA K5 (m+1+1+1+1):=λ b hb=>by
   have e1:¬b=m+1+1+1:=by omega
   rw[<-hK5];simp[e1,t4 b (by omega)]
  clear hK5;have on5:au K5 (m+1+1+1+1) vn (cK.l (N0++(t.cols.take j).map (·.name))) c 1:=on4.frame (by omega) λ b hb=>g5 b (by have:=hvn b hb;omega);refine au.Bv (k:=1) (new:=[.str t.cols[j].name]) on5 (aR x5) (by simp) (by simp) (by omega) (by omega) (by unfold big;omega) (by omega) (by simp) λ K6 o6 g6=>?_;have Z1:∀b,b≠m+1+1+1+1->blk vn≠some b->K6.get b=K5.get b:=λ b h1 h2=>g6 b h1 λ e=>h2 (by rw[e];rfl);have SJ:∀b,b<n+2->blk vn≠some b:=λ b h1 h2=>by have:=(M1.dn b h2).1;omega
  have ob6:=(Z1 o (by omega) (SJ o (by omega))).trans ((g5 o (by omega)).trans o4);have x6:=(Z1 m (by omega) λ h=>by have:=hvn m h;omega).trans ((g5 m (by omega)).trans x4);have tm6:K6.get (m+1+1+1+1+1)=none:=(Z1 _ (by omega) λ h=>by have:=hvn _ h;omega).trans (t5 _ (by omega));have aqE:K4.get (m+1+1+1+1+1)=none:=t4 _ (by omega);simp[ab,f3,o4,x4,ob6,x6,cG,dj,tm6,aqE];generalize hK7:Tr.put K6 (m+1+1+1+1+1) _=K7;have g7:∀b,b<m+1+1+1+1+1->K7.get b=K6.get b:=λ b hb=>by rw[<-hK7];simp[ga hb]
  have x7:K7.get (m+1+1+1+1+1)=aG 1 [zI t.cols[j].kind]:=by rw[<-hK7];simp
  have t6:cA K6 (m+1+1+1+1+1):=λ b hb=>(Z1 b (by omega) λ h=>by have:=hvn b h;omega).trans (t5 b (by omega))
  have t7:cA K7 (m+1+1+1+1+1+1):=λ b hb=>by
   have e1:¬b=m+1+1+1+1+1:=by omega
   rw[<-hK7];simp[e1,t6 b (by omega)]
  clear hK7;have nkn:∀b,blk vk=some b->blk vn≠some b:=λ b h1 h2=>(M1.dn b h2).2 h1;have ok7:au K7 (m+1+1+1+1+1+1) vk (cQ.l (ZR++(t.cols.take j).map (·.kind))) c 1:=ok4.frame (by omega) λ b hb=>(g7 b (by have:=hvk b hb;omega)).trans ((Z1 b (by have:=hvk b hb;omega) (nkn b hb)).trans (g5 b (by have:=hvk b hb;omega)));refine au.Bv (k:=1) (new:=[zI t.cols[j].kind]) ok7 (aR x7) (by simp) (by simp) (by omega) (by omega) (by unfold big;omega) (by omega) (by simp) λ K8 o8 g8=>?_;have g8':∀b,b≠m+1+1+1+1+1+1->blk vk≠some b->K8.get b=K7.get b:=λ b h1 h2=>g8 b h1 λ e=>h2 (by rw[e];rfl);have nvk:∀b,b<n+2->blk vk≠some b:=λ b h1 h2=>by have:=M1.dk b h2;omega
  have ob8:=(g8' o (by omega) (nvk o (by omega))).trans ((g7 o (by omega)).trans ob6);simp[ab,f3,ob8];generalize hK9:Tr.put (Tr.put K8 o _) o _=K9;have g9:∀b,b≠o->K9.get b=K8.get b:=λ b hb=>by rw[<-hK9];simp[hb]
  have o9:K9.get o=aG 25 (C.out (.sl (m+1+1) 0 (c+1) 8) (.sl (m+1+1+1+1) 0 (c+1) 1) (.sl (m+1+1+1+1+1+1) 0 (c+1) 1)):=by rw[<-hK9];simp[QC.out,jU]
  clear hK9;simp[NW,ab,f41,aC j (by omega)];have bk8:∀b,b<m+1+1+1->blk vn≠some b->blk vk≠some b->K8.get b=K4.get b:=λ b h1 h2 h3=>(g8' b (by omega) h3).trans ((g7 b (by omega)).trans ((Z1 b (by omega) h2).trans (g5 b h1)));have bkA:∀b,b<m+1->b≠o->blk vi≠some b->blk vn≠some b->blk vk≠some b->K9.get b=K1.get b:=λ b h1 h2 h3 h4 h5=>(g9 b h2).trans ((bk8 b (by omega) h4 h5).trans (bk4 b h1 h2 h3));have hcj:c0+(j+1)=c+1:=by omega
  refine⟨_,by omega,j+1,rfl,hlt,⟨by simp[ab,f0],by simp[ab,f3],by simp[ab,f5],by simp[ab,f6],by simp[ab,f32],by simp[ab,f33],by simp[ab,f34]⟩,by simp[f39],by simp[f40],by simp,.sl (m+1+1) 0 (c+1) 8,.sl (m+1+1+1+1) 0 (c+1) 1,.sl (m+1+1+1+1+1+1) 0 (c+1) 1,splice (R++[zI 0,zI 0,zI 0,.str [],.str [],.str [],zI 0,.al (.slice none 0 0)]) (Qf c) (c*8),?_⟩;rw[hcj];have etk:t.cols.take (j+1)=t.cols.take j++[t.cols[j]]:=by rw[take_add_one,cE hlt];rfl
  refine⟨by omega,λ b hb=>?_,λ b h1 h2 h3=>?_,?_,?_,?_,o9,⟨?_,.inr ⟨m+1+1,y,rfl,by omega,?_,hoy⟩⟩,?_,?_,λ b hb=>by simp at hb;simp;omega,λ b hb=>by simp at hb;simp;omega,λ b hb=>by simp at hb;omega,λ h=>?_,by simp,?_,?_⟩
  ·exact(g9 b (by omega)).trans ((g8' b (by omega) λ h=>by have:=hvk b h;omega).trans (t7 b (by omega)))
  ·exact(bkA b (by omega) h3 (nvi b (by omega)) (SJ b (by omega)) (nvk b (by omega))).trans (M1.kf b h1 h2 h3)
  ·exact(bkA p (by omega) (by omega) (nvi p (by omega)) (SJ p (by omega)) (nvk p (by omega))).trans M1.kp
  ·exact(bkA n (by omega) (by omega) (nvi n (by omega)) (SJ n (by omega)) (nvk n (by omega))).trans M1.kn
  ·exact(bkA (n+1) (by omega) (by omega) (nvi (n+1) (by omega)) (SJ (n+1) (by omega)) (nvk (n+1) (by omega))).trans M1.kq
  ·rw[qo (by simp[ahs,Qf])];simp[ahs];omega
  ·exact(g9 _ (by omega)).trans ((bk8 _ (by omega) (λ h=>by have:=hvn _ h;omega) (λ h=>by have:=hvk _ h;omega)).trans y4)
  ·have e1:cK.l (N0++(List.map (·.name) t.cols).take (j+1))=cK.l (N0++(t.cols.take j).map (·.name))++[.str t.cols[j].name]:=by
    rw[<-map_take,etk,map_append,<-append_assoc,aL.dV];rfl
   rw[e1];refine o6.frame (by omega) λ b hb=>?_;simp at hb;subst hb;exact(g9 _ (by omega)).trans ((g8' _ (by omega) λ h=>by have:=hvk _ h;omega).trans (g7 _ (by omega)))
  ·have e1:cQ.l (ZR++(List.map (·.kind) t.cols).take (j+1))=cQ.l (ZR++(t.cols.take j).map (·.kind))++[zI t.cols[j].kind]:=by
    rw[<-map_take,etk,map_append,<-append_assoc,aL.dV];rfl
   rw[e1];refine o8.frame (by omega) λ b hb=>?_;simp at hb;subst hb;exact g9 _ (by omega)
  ·have e:=aL.ag0 eX (iK c) [zI 0,zI 0,zI 0,.str [],.str [],.str [],zI 0,.al (.slice none 0 0)] rfl (ab7 c);have hfz:=M1.fz h;rw[H7,<-e,Qe];exact(hfz.append (bh.pure (by simp))).splice _ (UE h c)
  ·have:=M1.hN;simp at this ⊢;omega
  have:=M1.hK;simp at this ⊢;omega
 have hje:j=t.cols.length:=by omega
 subst hje;rw[take_length]at M;simp[Du,f40,f41];exact hQ vi vn vk R _ K m ⟨by simp[f0],by simp[f3],by simp[f5],by simp[f6],by simp[f32],by simp[f33],by simp[f34]⟩ M
end Go.Abs
namespace Go.Abs
open List
open Go.Proofs
open Classical
set_option maxRecDepth 100000
theorem Ep {l:List bo}{i:Nat}(h:i<l.length):namesT (l.take (i+1))=namesT (l.take i)++l[i].cols.map (·.name):=by
 rw[take_add_one,cE h];simp only[namesT,flatMap_append,Option.toList,flatMap_cons,flatMap_nil,append_nil]
theorem Tn (n p o:Nat)(hpn:p<n)(hon:o<n)(hpo:p≠o)(H0:Hp)(s:bB)(ns:List (List Nat))(ts:List bo)(q:cM)(C:QC)(hC:C.fr.one=true/\C.on.one=true/\C.w.one=true/\C.od.one=true)(e:Int)(hl:(aB ts).length<=aM)(ht:ts.length<=aM)
  (F:Fr)(K:Hp)(m:Nat)(Q:QA)(vi vn vk:AV)(R:List AV)(hF:StF n p o ts 0 F)(M:OE H0 n p o s ns ts q C e 0 [] [] [] vi vn vk R K m)
  (hQ:∀vi vn vk R F K m,StF n p o ts ts.length F->OE H0 n p o s ns ts q C e (aB ts).length (iK (aB ts).length) (namesT ts) (aB ts) vi vn vk R K m->Q .normal F K m []):aE Dq pG F K m [] (fy 0 Q):=by
 unfold aM at hl ht;refine aE.of (λ g F K m ms=>∃(i:Nat) (vi vn vk:AV) (R:List AV),g=ts.length - i/\i<=ts.length/\StF n p o ts i F/\OE H0 n p o s ns ts q C e (aB (ts.take i)).length (iK (aB (ts.take i)).length) (namesT (ts.take i)) (aB (ts.take i)) vi vn vk R K m/\ms=[]) ts.length ⟨0,vi,vn,vk,R,by simp,by omega,hF,by simpa[aB,namesT,iK]using M,rfl⟩ ?_;clear hF M F K m vi vn vk R;rintro g F K m ms ⟨i,vi,vn,vk,R,rfl,hi,⟨f0,f3,f5,f6,f32,f33,f34⟩,M,rfl⟩;have hm:=M.hm
 by_cases hlt:i<ts.length
 ·have hxx:=aA.ix (ik:=.i64) hlt;have hld:=λ H=>aA.mf ts[i] (aA.l (ts.drop (i+1))) H;simp[Dq,f32,f33,f34,hlt,hxx,hld,aL.av];generalize hK1:Tr.put _ m _=K1;have g1:∀b,b<m->K1.get b=K.get b:=λ b hb=>by rw[<-hK1];simp[ga hb]
  have t1:cA K1 (m+1):=λ b hb=>by
   have e1:¬b=m:=by omega
   rw[<-hK1];simp[e1,M.tp b (by omega)]
  clear hK1;have M1:=M.next hpn hon hpo (Nat.le_succ m) t1 (λ b h1 _=>g1 b h1) ((g1 p (by omega)).trans M.kp);simp[dB,aL.aD];have qb:=pe ts (i+1);have hkt:=jy hlt;have hkc:ts[i].kinds.length=ts[i].cols.length:=by simp[bo.kinds]
  have hkl2:(aB (ts.take i)).length+ts[i].cols.length=(aB (ts.take (i+1))).length:=by rw[hkt,length_append,hkc]
  refine To n p o hpn hon hpo H0 s ns ts q C hC e i ts[i] (aB (ts.take i)).length (by unfold aM;omega) _ _ _ rfl _ K1 (m+1) _ vi vn vk R ⟨by simp[f0],by simp[f3],by simp[f5],by simp[f6],by simp[f32],by simp[f33],by simp[f34]⟩ (by simp) (by simp) (by simp) M1 λ vi vn vk R F K m S M=>?_;have f34:=S.f34;simp[NU,f34,aC i (by omega)];refine⟨_,by omega,i+1,rfl,hlt,⟨by simp[S.f0],by simp[S.f3],by simp[S.f5],by simp[S.f6],by simp[S.f32],by simp[S.f33],by simp⟩,vi,vn,vk,R,?_⟩;rw[hkl2]at M;rw[Ep hlt,hkt];rw[hkt]at M;exact M
 have hie:i=ts.length:=by omega
 subst hie;rw[take_length]at M;simp[Dq,f33,f34];exact hQ vi vn vk R _ K m ⟨by simp[f0],by simp[f3],by simp[f5],by simp[f6],by simp[f32],by simp[f33],by simp[f34]⟩ M
def Ex.nm:Ex->List Nat
 |.mk _ _ _ m _ _=>m
def Ex.op:Ex->Int
 |.mk op _ _ _ _ _=>op
def OD.nm (x:OD):List Nat:=if x.name=[]/\x.e.op=2 then x.e.nm else x.name
def zh (ns:List (List Nat))(ts:List bo):List OD->Int->List Ex×List Int×Int
 |[],err=>([],[],err)
 |x::r,err=>((x.e.bd ns ts err).1::(zh ns ts r (x.e.bd ns ts err).2.2).1,(x.e.bd ns ts err).2.1::(zh ns ts r (x.e.bd ns ts err).2.2).2.1,(zh ns ts r (x.e.bd ns ts err).2.2).2.2)
structure ItF (n p o:Nat)(q:cM)(i:Nat)(F:Fr):Prop where
 f0:F.get 0=some (.ptr p 0)
 f3:F.get 3=some (.ptr o 0)
 f5:F.get 5=some (.ptr n 0)
 f6:F.get 6=some (.ptr (n+1) 0)
 f86:F.get 86=some (Fg.ds q.items)
 f87:F.get 87=some (zI (q.items.length:Int))
 f88:F.get 88=some (zI (i:Int))
def L76 (q:cM):Prop:=∀(n p o:Nat) (_hpn:p<n) (_hon:o<n) (_hpo:p≠o) (H0:Hp) (s:bB) (ns:List (List Nat)) (ts:List bo) (_hn:ns.length=ts.length) (_hl:(aB ts).length<=aM) (_ht:ts.length<=aM) (_hcl:∀t∈ts,t.cols.length<=aM) (C:QC) (_hC:C.fr.one=true/\C.on.one=true/\C.w.one=true/\C.od.one=true) (e0:Int) (c0:Nat) (_hlim:c0+q.items.length<=aM) (E0:List Ex) (N0:List (List Nat)) (ZR:List Int)
  (F:Fr)(K:Hp)(m:Nat)(Q:QA)(vi vn vk:AV)(R:List AV)(_hF:ItF n p o q 0 F)(_M:OE H0 n p o s ns ts q C e0 c0 E0 N0 ZR vi vn vk R K m)
  (_hQ:∀vi vn vk R F K m,ItF n p o q q.items.length F->OE H0 n p o s ns ts q C (zh ns ts q.items e0).2.2 (c0+q.items.length) (E0++(zh ns ts q.items e0).1) (N0++q.items.map OD.nm) (ZR++(zh ns ts q.items e0).2.1) vi vn vk R K m->Q .normal F K m []),aE Dp pG F K m [] (fy 4 Q)
theorem Tm {q:cM}(h0:q.items=[]):L76 q:=by
 intro n p o hpn hon hpo H0 s ns ts hn hl ht hcl C hC e0 c0 hlim E0 N0 ZR F K m Q vi vn vk R hF M hQ;refine aE.Py 0 (eE.step ?_);have h87:=hF.f87;rw[h0]at h87;simp[Dp,h87,hF.f88];obtain⟨f0,f3,f5,f6,f86,f87,f88⟩:=hF;refine hQ vi vn vk R _ K m ⟨by simp[f0],by simp[f3],by simp[f5],by simp[f6],by simp[f86],by simp[f87],by simp[f88,h0]⟩ ?_;simpa[h0,zh]using M
def bX (ns:List (List Nat))(ts:List bo)(q:cM)(err:Int):List Ex×List (List Nat)×List Int×Int:=
 if q.star=true then (iK (aB ts).length++(zh ns ts q.items (keep (keep err 200 (decide (ts=[]))) 3 (decide ((16:Int)<((aB ts).length:Int))))).1,namesT ts++q.items.map OD.nm,aB ts++(zh ns ts q.items (keep (keep err 200 (decide (ts=[]))) 3 (decide ((16:Int)<((aB ts).length:Int))))).2.1,(zh ns ts q.items (keep (keep err 200 (decide (ts=[]))) 3 (decide ((16:Int)<((aB ts).length:Int))))).2.2)
 else ((zh ns ts q.items err).1,q.items.map OD.nm,(zh ns ts q.items err).2.1,(zh ns ts q.items err).2.2)
theorem cM.c1 (q:cM)(h:1<q.cells.length):q.cells[1]=.bool q.star:=by simp[cM.cells]
theorem cM.c2 (q:cM)(h:2<q.cells.length):q.cells[2]=Fg.ds q.items:=by simp[cM.cells]
theorem cM.c3 (q:cM)(h:3<q.cells.length):q.cells[3]=gA.ds q.ay:=by simp[cM.cells]
theorem cM.c0 (q:cM)(h:0<q.cells.length):q.cells[0]=.bool q.sS:=by simp[cM.cells]
def cM.av (q:cM):AV:=.agg q.cells 15
def I76 (q:cM):Prop:=∀(ns:List (List Nat))(ts:List bo)(_hn:ns.length=ts.length)(_hl:(aB ts).length<=aM)(_ht:ts.length<=aM)(_hcl:∀t∈ts,t.cols.length<=aM)(s:bB)(_hlim:(aB ts).length+q.items.length<=aM)(C:QC)(_hC:C.fr.one=true/\C.on.one=true/\C.w.one=true/\C.od.one=true)(p o:Nat)(err:Int)(H:Hp)(n:Nat)(_hpn:p<n)(_hon:o<n)(_hpo:p≠o)(_hr:cT n [C.fr,C.on,C.w,C.od])(_hp:H.get p=some (eg s err))(_ho:H.get o=aG 25 (C.out (.al (.slice none 0 0)) (.al (.slice none 0 0)) (.al (.slice none 0 0)))),bc pG 133 [.ptr p 0,.agg (lC ns ts) 2,q.av,.ptr o 0] H n (.aX []) ((H.put p (some (eg s (bX ns ts q err).2.2.2))).put o (aG 25 (C.out (eX.ds (bX ns ts q err).1) (cK.ds (bX ns ts q err).2.1) (cQ.ds (bX ns ts q err).2.2.1)))) n
theorem abD (ns:List (List Nat))(ts:List bo)(hn:ns.length=ts.length)(hl:(aB ts).length<=aM)(ht:ts.length<=aM)(hcl:∀t∈ts,t.cols.length<=aM)(s:bB)(q:cM)(hlim:(aB ts).length+q.items.length<=aM)(hL:L76 q)(C:QC)(hC:C.fr.one=true/\C.on.one=true/\C.w.one=true/\C.od.one=true)(p o:Nat)(err:Int)(H:Hp)(n:Nat)(hpn:p<n)(hon:o<n)(hpo:p≠o)(hr:cT n [C.fr,C.on,C.w,C.od])(hp:H.get p=some (eg s err))(ho:H.get o=aG 25 (C.out (.al (.slice none 0 0)) (.al (.slice none 0 0)) (.al (.slice none 0 0)))):
  bc pG 133 [.ptr p 0,.agg (lC ns ts) 2,q.av,.ptr o 0] H n (.aX []) ((H.put p (some (eg s (bX ns ts q err).2.2.2))).put o (aG 25 (C.out (eX.ds (bX ns ts q err).1) (cK.ds (bX ns ts q err).2.1) (cQ.ds (bX ns ts q err).2.2.1)))) n:=by
 have hr':=hr;simp only[gZ,RQ,and_true]at hr';obtain⟨r1,r2,r3,r4⟩:=hr';refine ais (args:=[.agg (lC ns ts) 2,q.av]) c133 (by simp[A133]) (by simp[lC,cM.av,cM.pure]) hpn hon hpo hp ho (by simp[QC.out,jU,r1,r2,r3,r4]) (by simp[QC.out,jU,r1,r2,r3,r4,Pure.jI]) λ F H0 hF htop hp0 ho0=>?_;have q':=KT hpn;have r':=KT hon
 have fin:∀(c:Nat) (E:List Ex) (N:List (List Nat)) (Ks:List Int) (e:Int) (vi vn vk:AV) (R:List AV) (K:Hp) (m:Nat),bX ns ts q err=(E,N,Ks,e)->OE H0 n p o s ns ts q C e c E N Ks vi vn vk R K m->eY (above n K) (.aX []) (.aX [])/\(∀c,c<n->c≠p->c≠o->K.get c=H0.get c)/\K.get p=some (eg s (bX ns ts q err).2.2.2)/\∃l,K.get o=aG 25 l/\l.length=25/\nw (above n K) l (C.out (eX.ds (bX ns ts q err).1) (cK.ds (bX ns ts q err).2.1) (cQ.ds (bX ns ts q err).2.2.1)):=by
  intro c E N Ks e vi vn vk R K m hb M;rw[hb];refine⟨.pure _ (by simp),M.kf,M.kp,_,M.ko,rfl,?_⟩
  have z1:eY (above n K) vi (eX.ds E):=by
   have:=M.oi.EV (n0:=n) (λ b hb=>by have:=(M.di b hb).1;omega) (M.fz _) (by omega);rw[aL.ds,M.hE];exact this
  have z2:eY (above n K) vn (cK.ds N):=by
   have:=M.on.EV (n0:=n) (λ b hb=>by have:=(M.dn b hb).1;omega) (bh.pure (cK.nR N)) (by omega);rw[aL.ds,M.hN];exact this
  have z3:eY (above n K) vk (cQ.ds Ks):=by
   have:=M.ok.EV (n0:=n) (λ b hb=>by have:=M.dk b hb;omega) (bh.pure (cQ.nR Ks)) (by omega);rw[aL.ds,M.hK];exact this
  simp[QC.out,jU];exact⟨.inr z1,.inr z2,.inr z3⟩
 have start:∀(K:Hp) (m:Nat) (e:Int),n+2<=m->cA K m->(∀c,c<n->c≠p->K.get c=H0.get c)->K.get p=some (eg s e)->K.get n=aG 2 (lC ns ts)->K.get (n+1)=aG 15 q.cells->OE H0 n p o s ns ts q C e 0 [] [] [] (.al (.slice none 0 0)) (.al (.slice none 0 0)) (.al (.slice none 0 0)) [] K m:=by
  intro K m e h1 h2 h3 h4 h5 h6;exact⟨h1,h2,λ b h1 h2 _=>h3 b h1 h2,h4,h5,h6,(h3 o hon (by omega)).trans ho0,by simpa using au.nil _ _ 8,by simpa using au.nil _ _ 1,by simpa using au.nil _ _ 1,by simp,by simp,by simp,λ h=>by simpa using bh.nil,rfl,rfl,rfl⟩
 have rest:∀(c:Nat) (E:List Ex) (N:List (List Nat)) (Ks:List Int) (e:Int) (vi vn vk:AV) (R:List AV) (F:Fr) (K:Hp) (m:Nat),F.get 0=some (.ptr p 0)->F.get 3=some (.ptr o 0)->F.get 5=some (.ptr n 0)->F.get 6=some (.ptr (n+1) 0)->c+q.items.length<=aM->OE H0 n p o s ns ts q C e c E N Ks vi vn vk R K m->bX ns ts q err=(E++(zh ns ts q.items e).1,N++q.items.map OD.nm,Ks++(zh ns ts q.items e).2.1,(zh ns ts q.items e).2.2) ->
   VC pG (CQ.seq (CT.block 4 Dp.loop)) F K m [] (iO [] λ v K x=>eY (above n K) v (.aX [])/\(∀c,c<n->c≠p->c≠o->K.get c=H0.get c)/\K.get p=some (eg s (bX ns ts q err).2.2.2)/\∃l,K.get o=aG 25 l/\l.length=25/\nw (above n K) l (C.out (eX.ds (bX ns ts q err).1) (cK.ds (bX ns ts q err).2.1) (cQ.ds (bX ns ts q err).2.2.1))):=by
  intro c E N Ks e vi vn vk R F K m f0 f3 f5 f6 hc M hb;have kq:=M.kq;simp[CQ,f6,kq,cM.c2,aL.aD];refine hL n p o hpn hon hpo H0 s ns ts hn hl ht hcl C hC e c hc E N Ks _ K m _ vi vn vk R ⟨by simp[f0],by simp[f3],by simp[f5],by simp[f6],by simp,by simp,by simp⟩ M λ vi vn vk R F K m S M=>?_;simpa using fin _ _ _ _ _ vi vn vk R K m hb M
 simp[A133,hF,cM.av,cM.c1];generalize hK:Tr.put _ (n+1) _=K0;have k0:∀c,c<n->K0.get c=H0.get c:=λ c hc=>by rw[<-hK];simp[ga hc]
 have kn:K0.get n=aG 2 (lC ns ts):=by rw[<-hK];simp
 have kq:K0.get (n+1)=aG 15 q.cells:=by rw[<-hK];simp
 have kt:cA K0 (n+1+1):=λ c hc=>by
  have e1:¬c=n:=by omega
  have e2:¬c=n+1:=by omega
  rw[<-hK];simp[e1,e2,htop c (by omega)]
 clear hK
 cases gw:q.star with
 |false =>
  simp;have:=rest 0 [] [] [] err _ _ _ [] (Fp 18 (.bool false) (Fp 17 (.ptr (n+1) 1) (Fp 6 (.ptr (n+1) 0) (Fp 5 (.ptr n 0) F)))) K0 (n+1+1) (by simp[hF]) (by simp[hF]) (by simp) (by simp) (by omega) (start K0 (n+1+1) err (by omega) kt (λ c hc _=>k0 c hc) ((k0 p hpn).trans hp0) kn kq) (by simp[bX,gw]);simpa using this
 |true =>
  have Dx:=kn;simp only[lC]at Dx;simp[Zc,hF,Dx,aL.aD];refine aw.ok (tY p s err 200 (decide (ts=[])) K0 _ (by omega) ((k0 p hpn).trans hp0)) ?_;generalize hE1:keep err 200 (decide (ts=[]))=e1;have j2:∀c,c≠p->(K0.put p (some (eg s e1))).get c=K0.get c:=λ c hc=>by simp[hc]
  have jp:(K0.put p (some (eg s e1))).get p=some (eg s e1):=by simp
  generalize K0.put p (some (eg s e1))=K1 at j2 jp ⊢;have kn1:=(j2 n (by omega)).trans kn;simp[Zb,hF,kn1];refine aw.pure (EF ns ts hl ht hcl) ?_;simp;refine aw.ok (tY p s e1 3 (decide ((16:Int)<((aB ts).length:Int))) K1 _ (by omega) jp) ?_;generalize hE2:keep e1 3 (decide ((16:Int)<((aB ts).length:Int)))=e2;have j3:∀c,c≠p->(K1.put p (some (eg s e2))).get c=K1.get c:=λ c hc=>by simp[hc]
  have jp3:(K1.put p (some (eg s e2))).get p=some (eg s e2):=by simp
  generalize K1.put p (some (eg s e2))=K2 at j3 jp3 ⊢;have kn2:=(j3 n (by omega)).trans kn1;have kq2:=(j3 (n+1) (by omega)).trans ((j2 (n+1) (by omega)).trans kq);simp only[lC]at kn2;simp[Za,kn2,aL.aD]
  have hb:bX ns ts q err=(iK (aB ts).length++(zh ns ts q.items e2).1,namesT ts++q.items.map OD.nm,aB ts++(zh ns ts q.items e2).2.1,(zh ns ts q.items e2).2.2):=by
   rw[<-hE2,<-hE1];simp[bX,gw]
  refine Tn n p o hpn hon hpo H0 s ns ts q C hC e2 hl ht _ K2 (n+1+1) _ (.al (.slice none 0 0)) (.al (.slice none 0 0)) (.al (.slice none 0 0)) [] ⟨by simp[hF],by simp[hF],by simp,by simp,by simp,by simp,by simp⟩ (start K2 (n+1+1) e2 (by omega) (λ c hc=>(j3 c (by omega)).trans ((j2 c (by omega)).trans (kt c hc))) (λ c h1 h2=>(j3 c h2).trans ((j2 c h2).trans (k0 c h1))) jp3 kn2 kq2) λ vi vn vk R F K m S M=>?_;have:=rest _ _ _ _ e2 vi vn vk R F K m S.f0 S.f3 S.f5 S.f6 (by omega) M hb;simpa using this
theorem Tq {q:cM}(hL:L76 q):I76 q:=λ ns ts hn hl ht hcl s hlim C hC p o err H n hpn hon hpo hr hp ho=>abD ns ts hn hl ht hcl s q hlim hL C hC p o err H n hpn hon hpo hr hp ho
def Src.nm (x:Src):List Nat:=if x.name=[]then x.table else x.name
def bB.tb (s:bB)(x:Src):bo:=(s.named x.table).1
def tK (l:List Src)(i:Nat):Src:=l.getD i ⟨[],[],.mk 0 ⟨0,0,[]⟩ [] [] 0 []⟩
theorem DV {l:List Src}{i:Nat}(h:i<l.length):tK l i=l[i]:=by simp[tK,h]
def mi (s:bB)(l:List Src):Nat->Int->Int
 |0,err=>err
 |i+1,err=>keep (keep (mi s l i err) 200 (!(s.named (tK l i).table).2)) 205 (decide ((tK l i).nm∈(l.take i).map Src.nm))
structure SrM (H0:Hp)(n p o:Nat)(s:bB)(q:cM)(kind:Int)(e:Int)(i:Nat)(vn vt:AV)(K:Hp)(m:Nat):Prop where
 hm:n+2<=m
 tp:cA K m
 kf:∀b,b<n->b≠p->b≠o->K.get b=H0.get b
 kp:K.get p=some (eg s e)
 kn:K.get n=aG 15 q.cells
 ks:K.get (n+1)=aG 2 [vn,vt]
 ko:K.get o=aG 25 (lj kind)
 on:au K m vn (cK.l ((q.ay.take i).map Src.nm)) i 1
 ot:au K m vt (aA.l ((q.ay.take i).map s.tb)) i 4
 dn:∀b,blk vn=some b->n+2<=b/\blk vt≠some b
 dt:∀b,blk vt=some b->n+2<=b
structure SrF (n p o:Nat)(q:cM)(i:Nat)(F:Fr):Prop where
 f0:F.get 0=some (.ptr p 0)
 f2:F.get 2=some (.ptr o 0)
 f4:F.get 4=some (.ptr n 0)
 f6:F.get 6=some (.ptr (n+1) 0)
 f17:F.get 17=some (gA.ds q.ay)
 f18:F.get 18=some (zI (q.ay.length:Int))
 f19:F.get 19=some (zI (i:Int))
theorem SrM.next {H0:Hp}{n p o:Nat}{s:bB}{q:cM}{kind e:Int}{i:Nat}{vn vt:AV}{K:Hp}{m:Nat}(M:SrM H0 n p o s q kind e i vn vt K m)(hpn:p<n)(hon:o<n)(hpo:p≠o){K':Hp}{m':Nat}{e':Int}(hm:m<=m')(ht:cA K' m')(hk:∀b,b<m->b≠p->K'.get b=K.get b)(hp:K'.get p=some (eg s e')):SrM H0 n p o s q kind e' i vn vt K' m':=by
 have hm0:=M.hm
 exact⟨by omega,ht,λ b h1 h2 h3=>(hk b (by omega) h2).trans (M.kf b h1 h2 h3),hp,(hk n (by omega) (by omega)).trans M.kn,(hk (n+1) (by omega) (by omega)).trans M.ks,(hk o (by omega) (by omega)).trans M.ko,
  M.on.frame hm λ b hb=>hk b (M.on.bg hb) (by have:=(M.dn b hb).1;omega),M.ot.frame hm λ b hb=>hk b (M.ot.bg hb) (by have:=M.dt b hb;omega),M.dn,M.dt⟩
theorem RX (n p o:Nat)(hpn:p<n)(hon:o<n)(_hpo:p≠o)(H0:Hp)(s:bB)(q:cM)(kind e:Int)(i:Nat)(hlt:i<q.ay.length)(hlim:i<aM)(a:Nat)
  (F:Fr)(K:Hp)(m:Nat)(Q:QA)(vn vt:AV)(hF:SrF n p o q i F)(f9:F.get 9=some (.ptr a 0))(f10:F.get 10=some (.str q.ay[i].nm))(ha:K.get a=aG 4 (aA.cells (s.tb q.ay[i])))(han:n+2<=a)(hav:blk vn≠some a)(M:SrM H0 n p o s q kind e i vn vt K m)
  (hQ:∀vn vt F K m,SrF n p o q i F->SrM H0 n p o s q kind e (i+1) vn vt K m->Q .normal F K m []):VC pG By F K m [] Q:=by
 unfold aM at hlim;obtain⟨f0,f2,f4,f6,f17,f18,f19⟩:=hF;have hm:=M.hm;have ks:=M.ks;have t0:=M.tp;have hvn:∀b,blk vn=some b->b<m:=λ b h=>M.on.bg h;have hvt:∀b,blk vt=some b->b<m:=λ b h=>M.ot.bg h;have SJ:∀b,b<n+2->blk vn≠some b:=λ b h1 h2=>by have:=(M.dn b h2).1;omega
 have nvt:∀b,b<n+2->blk vt≠some b:=λ b h1 h2=>by have:=M.dt b h2;omega
 have ntn:∀b,blk vt=some b->blk vn≠some b:=λ b h1 h2=>(M.dn b h2).2 h1;have ham:=M.tp.lt ha;simp only[By,kZ];refine cj.of (cN (P:=pG)) ?_;have tm:=t0 m (aP _);simp[ab,f6,f10,ks,cG,dj,tm];generalize hK1:Tr.put K m _=K1;have g1:∀b,b<m->K1.get b=K.get b:=λ b hb=>by rw[<-hK1];simp[ga hb]
 have x1:K1.get m=aG 1 [.str q.ay[i].nm]:=by rw[<-hK1];simp
 have t1:cA K1 (m+1):=λ b hb=>by
  have e1:¬b=m:=by omega
  rw[<-hK1];simp[e1,t0 b (by omega)]
 clear hK1;have on1:au K1 (m+1) vn (cK.l ((q.ay.take i).map Src.nm)) i 1:=M.on.frame (by omega) λ b hb=>g1 b (hvn b hb);refine au.Bv (k:=1) (new:=[.str q.ay[i].nm]) on1 (aR x1) (by simp) (by simp) (by omega) (by omega) (by unfold big;omega) (by omega) (by simp) λ K2 o2 g2=>?_;have g2':∀b,b≠m+1->blk vn≠some b->K2.get b=K1.get b:=λ b h1 h2=>g2 b h1 λ e=>h2 (by rw[e];rfl);clear g2;have t2:cA K2 (m+1+1):=λ b hb=>(g2' b (by omega) λ h=>by have:=hvn b h;omega).trans (t1 b (by omega));have ks2:=(g2' (n+1) (by omega) (SJ _ (by omega))).trans ((g1 (n+1) (by omega)).trans ks);have ha2:=(g2' a (by omega) hav).trans ((g1 a ham).trans ha);have tm2:=t2 (m+1+1) (aP _);have aqF:=t0 (m+1+1) (by omega);simp[ab,f6,f9,ks,ks2,ha,ha2,cG,dj,tm2,aqF];generalize hK3:Tr.put K2 (m+1+1) _=K3;have g3:∀b,b<m+1+1->K3.get b=K2.get b:=λ b hb=>by rw[<-hK3];simp[ga hb]
 have x3:K3.get (m+1+1)=aG 4 (aA.cells (s.tb q.ay[i])):=by rw[<-hK3];simp
 have t3:cA K3 (m+1+1+1):=λ b hb=>by
  have e1:¬b=m+1+1:=by omega
  rw[<-hK3];simp[e1,t2 b (by omega)]
 clear hK3;have ot3:au K3 (m+1+1+1) vt (aA.l ((q.ay.take i).map s.tb)) i 4:=M.ot.frame (by omega) λ b hb=>(g3 b (by have:=hvt b hb;omega)).trans ((g2' b (by have:=hvt b hb;omega) (ntn b hb)).trans (g1 b (hvt b hb)));refine au.Bv (k:=1) (new:=aA.cells (s.tb q.ay[i])) ot3 (aR x3) (by simp) (by simp) (by omega) (by omega) (by unfold big;omega) (by omega) (by simp) λ K4 o4 g4=>?_;have g4':∀b,b≠m+1+1+1->blk vt≠some b->K4.get b=K3.get b:=λ b h1 h2=>g4 b h1 λ e=>h2 (by rw[e];rfl);clear g4;have ks4:=(g4' (n+1) (by omega) (nvt _ (by omega))).trans ((g3 (n+1) (by omega)).trans ks2);simp[ab,f6,ks4];generalize hK9:Tr.put (Tr.put K4 (n+1) _) (n+1) _=K9;have g9:∀b,b≠n+1->K9.get b=K4.get b:=λ b hb=>by rw[<-hK9];simp[hb]
 have s9:K9.get (n+1)=aG 2 [.sl (m+1) 0 (i+1) 1,.sl (m+1+1+1) 0 (i+1) 4]:=by rw[<-hK9];simp
 clear hK9;have bkA:∀b,b<m->b≠n+1->blk vn≠some b->blk vt≠some b->K9.get b=K.get b:=λ b h1 h2 h3 h4=>(g9 b h2).trans ((g4' b (by omega) h4).trans ((g3 b (by omega)).trans ((g2' b (by omega) h3).trans (g1 b h1))));have etk:q.ay.take (i+1)=q.ay.take i++[q.ay[i]]:=by rw[take_add_one,cE hlt];rfl
 refine hQ (.sl (m+1) 0 (i+1) 1) (.sl (m+1+1+1) 0 (i+1) 4) _ K9 _ ⟨by simp[ab,f0],by simp[ab,f2],by simp[ab,f4],by simp[ab,f6],by simp[ab,f17],by simp[ab,f18],by simp[ab,f19]⟩ ⟨by omega,λ b hb=>?_,λ b h1 h2 h3=>?_,?_,?_,s9,?_,?_,?_,λ b hb=>by simp at hb;simp;omega,λ b hb=>by simp at hb;omega⟩
 ·exact(g9 b (by omega)).trans ((g4' b (by omega) λ h=>by have:=hvt b h;omega).trans (t3 b (by omega)))
 ·exact(bkA b (by omega) (by omega) (SJ b (by omega)) (nvt b (by omega))).trans (M.kf b h1 h2 h3)
 ·exact(bkA p (by omega) (by omega) (SJ p (by omega)) (nvt p (by omega))).trans M.kp
 ·exact(bkA n (by omega) (by omega) (SJ n (by omega)) (nvt n (by omega))).trans M.kn
 ·exact(bkA o (by omega) (by omega) (SJ o (by omega)) (nvt o (by omega))).trans M.ko
 ·rw[etk,map_append,aL.dV];refine o2.frame (by omega) λ b hb=>?_;simp at hb;subst hb;exact(g9 _ (by omega)).trans ((g4' _ (by omega) λ h=>by have:=hvt _ h;omega).trans (g3 _ (by omega)))
 rw[etk,map_append,aL.dV,map_cons,map_nil,aL.lP];refine o4.frame (by omega) λ b hb=>?_;simp at hb;subst hb;exact g9 _ (by omega)
theorem RZ (n p o:Nat) (hpn:p<n) (hon:o<n) (hpo:p≠o) (H0:Hp) (s:bB) (hs:s.dz) (q:cM) (hlim:q.ay.length<=aM) (kind e0:Int)
  (F:Fr)(K:Hp)(m:Nat)(Q:QA)(vn vt:AV)(hF:SrF n p o q 0 F)(M:SrM H0 n p o s q kind e0 0 vn vt K m)
  (hQ:∀vn vt F K m,SrF n p o q q.ay.length F->SrM H0 n p o s q kind (mi s q.ay q.ay.length e0) q.ay.length vn vt K m->Q .normal F K m []):aE Oo pG F K m [] (fy 0 Q):=by
 refine aE.of (λ g F K m ms=>∃(i:Nat) (vn vt:AV),g=q.ay.length - i/\i<=q.ay.length/\SrF n p o q i F/\SrM H0 n p o s q kind (mi s q.ay i e0) i vn vt K m/\ms=[]) q.ay.length ⟨0,vn,vt,by simp,by omega,hF,M,rfl⟩ ?_;clear hF M F K m vn vt;rintro g F K m ms ⟨i,vn,vt,rfl,hi,⟨f0,f2,f4,f6,f17,f18,f19⟩,M,rfl⟩;have hm:=M.hm
 by_cases hlt:i<q.ay.length
 ·have hxx:=gA.ix (ik:=.i64) hlt;have hld:=λ H=>gA.mf q.ay[i] (gA.l (q.ay.drop (i+1))) H;simp[Oo,f0,f17,f18,f19,hlt,hxx,hld,aL.av];generalize hK1:Tr.put _ m _=K1;have g1:∀b,b<m->K1.get b=K.get b:=λ b hb=>by rw[<-hK1];simp[ga hb]
  have x1:K1.get m=aG 10 (gA.cells q.ay[i]):=by rw[<-hK1];simp
  have t1:cA K1 (m+1):=λ b hb=>by
   have e1:¬b=m:=by omega
   rw[<-hK1];simp[e1,M.tp b (by omega)]
  clear hK1 hxx hld;rw[HO]at x1;simp[HO];have hvn:∀b,blk vn=some b->b<m:=λ b h=>M.on.bg h;refine aw.ok (zV s hs q.ay[i].table p _ K1 (m+1) (by omega) ((g1 p (by omega)).trans M.kp)) ?_;generalize hE1:keep (mi s q.ay i e0) 200 (!(s.named q.ay[i].table).2)=e1;have j2:∀b,b≠p->(K1.put p (some (eg s e1))).get b=K1.get b:=λ b hb=>by simp[hb]
  have jp:(K1.put p (some (eg s e1))).get p=some (eg s e1):=by simp
  generalize K1.put p (some (eg s e1))=K2 at j2 jp ⊢;have x2:=(j2 m (by omega)).trans x1;simp[aL.av];generalize hK3:Tr.put _ (m+1) _=K3;have g3:∀b,b<m+1->K3.get b=K2.get b:=λ b hb=>by rw[<-hK3];simp[ga hb]
  have x3:K3.get (m+1)=aG 4 (aA.cells (s.tb q.ay[i])):=by rw[<-hK3];simp[bB.tb]
  have t3:cA K3 (m+1+1):=λ b hb=>by
   have e1:¬b=m+1:=by omega
   rw[<-hK3];simp[e1,j2 b (by omega),t1 b (by omega)]
  clear hK3;have y3:=(g3 m (by omega)).trans x2;have M3:=M.next hpn hon hpo (m':=m+1+1) (by omega) t3 (λ b h1 h2=>(g3 b (by omega)).trans ((j2 b h2).trans (g1 b h1))) ((g3 p (by omega)).trans jp);have hct:=HY ((q.ay.take i).map Src.nm) q.ay[i].nm (by simp;omega)
  have hfz:eY K3.get vn (cK.ds ((q.ay.take i).map Src.nm)):=by
   have:=M3.on.nf (bh.pure (cK.nR _)) (by omega)
   have e:cK.ds ((q.ay.take i).map Src.nm)=.ds (cK.l ((q.ay.take i).map Src.nm)) i 1:=by
    rw[aL.ds];simp;omega
   rw[e];exact this
  have fin:∀F4:Fr,SrF n p o q i F4->F4.get 9=some (.ptr (m+1) 0)->F4.get 10=some (.str q.ay[i].nm)->VC pG (VU.seq By) F4 K3 (m+1+1) [] (fy 1 (pW pG II (uE (λ g F K m ms=>∃(i:Nat) (vn vt:AV),g=q.ay.length - i/\i<=q.ay.length/\SrF n p o q i F/\SrM H0 n p o s q kind (mi s q.ay i e0) i vn vt K m/\ms=[]) (q.ay.length - i) (fy 0 Q)))):=by
   intro F4 ⟨w0,w2,w4,w6,w17,w18,w19⟩ w9 w10;have ks3:=M3.ks;simp[VU,w0,w6,w10,ks3];refine aw.nf hct (by simp) (.cons _ _ _ _ hfz (.cons _ _ _ _ fp .nil)) ?_;simp;refine aw.ok (tY p s e1 205 _ K3 _ (by omega) M3.kp) ?_
   have hee:mi s q.ay (i+1) e0=keep e1 205 (decide (q.ay[i].nm∈(q.ay.map Src.nm).take i)):=by
    rw[mi,DV hlt,hE1,map_take]
   rw[<-hee];have j4:∀b,b≠p->(K3.put p (some (eg s (mi s q.ay (i+1) e0)))).get b=K3.get b:=λ b hb=>by simp[hb]
   have jp4:(K3.put p (some (eg s (mi s q.ay (i+1) e0)))).get p=some (eg s (mi s q.ay (i+1) e0)):=by simp
   generalize K3.put p (some (eg s (mi s q.ay (i+1) e0)))=K4 at j4 jp4 ⊢;have M4:=M3.next hpn hon hpo (aP _) (λ b hb=>(j4 b (by omega)).trans (t3 b hb)) (λ b h1 h2=>j4 b h2) jp4;refine RX n p o hpn hon hpo H0 s q kind _ i hlt (by omega) (m+1) _ K4 (m+1+1) _ vn vt ⟨by simp[w0],by simp[w2],by simp[w4],by simp[w6],by simp[w17],by simp[w18],by simp[w19]⟩ (by simp[w9]) (by simp[w10]) ((j4 _ (by omega)).trans x3) (by omega) (λ h=>by have:=hvn _ h;omega) M4 λ vn' vt' F5 K5 m5 S5 M5=>?_;have ast:=S5.f19;unfold aM at hlim;simp[II,ast,aC i (by omega)];exact⟨_,by omega,i+1,rfl,hlt,⟨by simp[S5.f0],by simp[S5.f2],by simp[S5.f4],by simp[S5.f6],by simp[S5.f17],by simp[S5.f18],by simp⟩,vn',vt',M5⟩
  simp[aes,y3]
  by_cases hnm:q.ay[i].name=[]
  ·simp[VV,y3,hnm];generalize QK:(Fp 31 _ _:Fr)=F5;have:=fin F5 (by rw[<-QK];exact⟨by simp[f0],by simp[f2],by simp[f4],by simp[f6],by simp[f17],by simp[f18],by simp[f19]⟩) (by rw[<-QK];simp) (by rw[<-QK];simp[Src.nm,hnm]);simpa using this
  simp[VV,aer,y3,hnm];generalize QK:(Fp 10 _ _:Fr)=F5;have:=fin F5 (by rw[<-QK];exact⟨by simp[f0],by simp[f2],by simp[f4],by simp[f6],by simp[f17],by simp[f18],by simp[f19]⟩) (by rw[<-QK];simp) (by rw[<-QK];simp[Src.nm,hnm]);simpa using this
 have hje:i=q.ay.length:=by omega
 subst hje;simp[Oo,f18,f19];exact hQ vn vt _ K m ⟨by simp[f0],by simp[f2],by simp[f4],by simp[f6],by simp[f17],by simp[f18],by simp[f19]⟩ M
end Go.Abs
