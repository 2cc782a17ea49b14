/- A part. -/
import Derived.Test.YtbdgioomddkglaaGreatBt12
noncomputable section
namespace Go.Abs
open List
open Go.Proofs
open Classical
set_option maxRecDepth 100000
theorem P8.uW {h:Hf}{φ:Ph}{D:Da}{w:World}(hr:Rel φ D h w):∀ {l l':List AV}{xs:List Value},P8 h l l'->cw φ D l xs->cw φ (Go.Abs.shut φ D h w) l' xs
 |[],[],_,_,.nil=>.nil
 |[],_::_,_,k,_=>by simp[P8]at k
 |_::_,[],_,k,_=>by simp[P8]at k
 |_::_,_::_,_,k,.cons _ _ _ _ h1 h2=>by
  simp only[LH]at k;exact .cons _ _ _ _ (k.1.vr hr h1) (P8.uW hr k.2 h2)
theorem ar.zb {P:Program}{g:FuncId}{args args':List AV}{h:Hf}{F F2:Fr}{H H2:Hp}{n:Nat}{R:AV->Hp->Nat->Prop}(s:jm h F H F2 H2)(ha:P8 h args args')(hc:ar P g args' H2 n R):ar P g args H n R:=
 ⟨hc.1,λ φ D w xs hr hv hf RR hR=>hc.2 φ (Go.Abs.shut φ D h w) w xs (s.rel hr) (ha.uW (hr.sub s.sub) hv) hf RR λ v H' n' φ' D' w' x r e k hx=>hR v H' n' φ' D' w' x r (s.ext.trans e) k hx⟩
theorem au.zb {f:FuncId}{vs vs':List AV}{pd:Pd}{r:List (Option GO)}{P:Program}{h:Hf}{F F1 F2:Fr}{H H2:Hp}{n:Nat}{m:List Dm}{Q:QA}(s:jm h F1 H F2 H2)(ha:P8 h vs vs')(hc:au f vs' pd r P F H2 n m Q):au f vs pd r P F H n m Q:=ar.zb s ha hc
structure L4 (c:aU)(w:er)(b q:Nat)(K:Hp)(m:Nat):Prop where
 k0:K.get 0=cl 3 c.cells
 k1:K.get 1=cl 3 (bw.cells w)
 k2:K.get 2=cl 3 (bw.cells w)
 kq:K.get q=cl 3 [iI c.aA,iI c.cur,.sl b 0 c.l.length 15]
 ow:aC K m (.sl b 0 c.l.length 15) (ew c.l) c.l.length 15
 ne:b≠q
 b3:3<=b
 q3:3<=q
 qm:q<m
theorem L4.shut {c:aU}{w:er}{b q:Nat}{K:Hp}{m:Nat}(L:L4 c w b q K m):jm (λ x=>if x=b then K.get x else none) .nil K .nil ((K.put b none).put q (cl 3 c.cells))/\fW (λ x=>if x=b then K.get x else none) (.sl b 0 c.l.length 15) (.ds (ew c.l) c.l.length 15):=by
 have hz:fW (λ x=>if x=b then K.get x else none) (.sl b 0 c.l.length 15) (.ds (ew c.l) c.l.length 15):=by
  obtain⟨h0,⟨h1,_⟩|⟨b',y,h1,h2,h3,h4⟩⟩:=L.ow
  ·cases h1
  injection h1 with h1;subst h1;obtain⟨u,z,bs,t,rfl,hg⟩:=h4.ju (o:=0) (c:=c.l.length*15) (by omega);refine .sl _ _ _ _ _ _ _ _ _ _ (by simp[h3]) hg ?_;rw[drop_zero,eS (by omega)];exact cM.pure (pC _)
 refine⟨⟨λ x k hx=>?_,λ x hx=>?_,λ t v hv=>by simp at hv,λ x y hy=>?_⟩,hz⟩
 ·by_cases e:x=b
  ·simpa[e]using hx
  simp[e]at hx
 ·by_cases e:x=b
  ·subst e;simp[L.ne]
  simp[e]at hx
 by_cases e:x=q
 ·subst e;simp at hy;subst hy;refine⟨_,L.kq,.inr ⟨3,[],_,.nil,c.cells,rfl,rfl,rfl,λ i v' hv=>?_⟩⟩
  match i,hv with
  |0,hv=>simp[aU.cells]at hv;subst hv;exact⟨_,by simp,.inl rfl⟩
  |1,hv=>simp[aU.cells]at hv;subst hv;exact⟨_,by simp,.inl rfl⟩
  |2,hv=>simp[aU.cells]at hv;subst hv;exact⟨_,by simp,.inr hz⟩
  |i+3,hv=>simp[aU.cells]at hv
 by_cases e2:x=b
 ·subst e2;simp[e]at hy
 exact⟨y,by simpa[e,e2]using hy,.inl rfl⟩
theorem adn {c:aU}{w:er}(hw:w.aO)(hcl:c.l.length<=bm){f:Int}{o:Out}{e:Int}(ho:o.aO)(r14:ah pG 14 [c.av,bw.av w,iI f] (.aW [o.av,iI e]))(r16:ah pG 16 [c.av,bw.av w,iI f] (.aW [o.av,iI e]))
  {b q:Nat}{K:Hp}{m:Nat}(L:L4 c w b q K m) (F:Fr) (f3:F.get 3=some (.ptr 0 0)) (f4:F.get 4=some (.ptr 1 0)) (f7:F.get 7=some (iI f)) (f8:F.get 8=some (.ptr 2 0)) (f9:F.get 9=some (.ptr q 0)):
  VC pG (.seq VV (.seq VU (.seq (.seq VT (.cond (ao 80) (.seq acD .ret) .skip)) (.seq (.seq Gf (.block 0 (.loop P4))) (.seq Ge .ret))))) F K m [] (fQ [aB 6] λ v H' _=>fW H'.get v (.bool true)):=by
 have aw:=aw7;have s15:=agY o ho;have s17:=aal w hw;obtain⟨sh,hz⟩:=L.shut;have b3:=L.b3;have q3:=L.q3;have qm:=L.qm;have hcv:c.av=.agg [iI c.aA,iI c.cur,.ds (ew c.l) c.l.length 15] 3:=rfl;have hwv:bw.av w=.agg (bw.cells w) 3:=rfl;have hwl:(bw.cells w).length=3:=by simp
 have hov:o.av=.agg o.cells 5:=rfl;have kq:=L.kq;have k2:=L.k2;rw[hwv]at s17;rw[hov]at s15;unfold bm at hcl;simp[VV,f7,f8,f9,kq,k2]
 refine au.zb sh (vs':=[c.av,bw.av w,iI f]) (by
  simp only[LH,anv,aiv,and_true];exact⟨.inr (.agg _ _ _ (.cons _ _ _ _ fp (.cons _ _ _ _ fp (.cons _ _ _ _ hz .nil)))),.inl rfl⟩) (au.pure r14 ?_)
 have g0:((K.put b none).put q (cl 3 c.cells):Hp).get 0=cl 3 c.cells:=by simp[show ¬ 0=q by omega,show ¬ 0=b by omega,L.k0]
 have g1:((K.put b none).put q (cl 3 c.cells):Hp).get 1=cl 3 (bw.cells w):=by simp[show ¬ 1=q by omega,show ¬ 1=b by omega,L.k1]
 have g2:((K.put b none).put q (cl 3 c.cells):Hp).get 2=cl 3 (bw.cells w):=by simp[show ¬ 2=q by omega,show ¬ 2=b by omega,L.k2]
 have gq:((K.put b none).put q (cl 3 c.cells):Hp).get q=cl 3 c.cells:=by simp
 generalize (K.put b none).put q (cl 3 c.cells)=K2 at *;clear sh hz kq k2 L;simp only[aU.cells]at g0 gq;rw[hov]at r16 ⊢;have hol:o.cells.length=5:=rfl;have hoo:aX o.cells=true:=by simp[Out.cells,bV]
 rw[hcv,hwv]at r16;simp[hol,hoo];generalize hK3:Tr.put _ m _=K3;have p0:K3.get 0=_:=(by rw[<-hK3];simp[show ¬ 0=m by omega]:K3.get 0=K2.get 0).trans g0;have p1:K3.get 1=_:=(by rw[<-hK3];simp[show ¬ 1=m by omega]:K3.get 1=K2.get 1).trans g1;have p2:K3.get 2=_:=(by rw[<-hK3];simp[show ¬ 2=m by omega]:K3.get 2=K2.get 2).trans g2;have pq:K3.get q=_:=(by rw[<-hK3];simp[show ¬q=m by omega]:K3.get q=K2.get q).trans gq;have pm:K3.get m=cl 5 o.cells:=by rw[<-hK3];simp
 clear hK3 g0 g1 g2 gq;simp[VU,f3,f4,f7,p0,p1];refine au.pure r16 ?_;simp[hol,hoo];generalize hK4:Tr.put _ (m+1) _=K4;have s0:K4.get 0=_:=(by rw[<-hK4];simp:K4.get 0=K3.get 0).trans p0;have s1:K4.get 1=_:=(by rw[<-hK4];simp[show ¬m=0 by omega]:K4.get 1=K3.get 1).trans p1;have s2:K4.get 2=_:=(by rw[<-hK4];simp[show ¬m=1 by omega]:K4.get 2=K3.get 2).trans p2;have sq:K4.get q=_:=(by rw[<-hK4];simp[show ¬q=m+1 by omega]:K4.get q=K3.get q).trans pq;have sm:K4.get m=cl 5 o.cells:=(by rw[<-hK4];simp:K4.get m=K3.get m).trans pm;have sn:K4.get (m+1)=cl 5 o.cells:=by rw[<-hK4];simp
 clear hK4 p0 p1 p2 pq pm;simp[VT,sm,sn];refine au.pure s15 ?_;simp[f8,f4,s2,s1];refine au.pure s17 ?_;simp[f9,f3,sq,s0,Gf]
 refine aG.of (λ t F K m ms=>∃i:Nat,t=c.l.length - i/\i<=c.l.length/\F.get 3=some (.ptr 0 0)/\F.get 9=some (.ptr q 0)/\F.get 14=some (iI (i:Int))/\K.get 0=cl 3 [iI c.aA,iI c.cur,.ds (ew c.l) c.l.length 15]/\K.get q=cl 3 [iI c.aA,iI c.cur,.ds (ew c.l) c.l.length 15]/\ms=[]) c.l.length
  ⟨0,rfl,by omega,by simp[f3],by simp[f9],by simp,s0,sq,rfl⟩ ?_
 clear f3 f4 f7 f8 f9 s0 s1 s2 sq sm sn;rintro t F K m ms ⟨i,rfl,hi,f3,f9,f14,k0,kq,rfl⟩
 by_cases h:i<c.l.length
 ·have hx:=rP (k:=.i64) h;have hld:=λ H=>wz c.l[i] (ew (c.l.drop (i+1))) H;have hq:=anH c.l[i];generalize c.l[i]=x at *;generalize x.av=xv at *;generalize x.cells=xc at *;simp[P4,f3,f14,k0,h];simp only[afb];refine bD.of (bh (P:=pG)) ?_;simp[ab,f3,f9,f14,k0,kq,hx,hld,hq,afa,ax i (by omega)];exact⟨_,by omega,i+1,rfl,by omega,by simp⟩
 obtain rfl:i=c.l.length:=by omega
 simp[P4,f3,f14,k0,Ge];refine au.pure aw ?_;simp;exact fp
theorem both (c:aU)(w:er)(hw:w.aO)(hxr:∀x∈c.l,x.v.jA)(f:Int)(hf:f<=30000):∃(o:Out)(e:Int),o.aO/\ah pG 14 [c.av,bw.av w,iI f] (.aW [o.av,iI e])/\ah pG 16 [c.av,bw.av w,iI f] (.aW [o.av,iI e]):=by
 by_cases h:c.chk≠0∨¬fL w∨f<0
 ·exact⟨Bd,1,⟨by simp[Bd,bm],by simp[Bd],by simp[Bd,bm],by simp[Bd]⟩,QF hw h,QE hw h⟩
 have hc:c.chk=0:=by
  by_cases h1:c.chk=0
  ·exact h1
  exact aj (.inl h1) h
 have hok:fL w:=by
  by_cases h1:fL w
  ·exact h1
  exact aj (.inr (.inl h1)) h
 have h0:¬f<0:=λ h1=>h (.inr (.inr h1));obtain⟨k,rfl⟩:∃k:Nat,f=(k:Int):=⟨f.toNat,by omega⟩;exact⟨AK c w k,0,Rk (adz c w hc hw (by omega)).aO,alw c w hw hc hok k (by omega),alv hc hw hok hxr (by omega)⟩
theorem alu (c:aU) (w:er) (f:Int) (hw:w.aO) (hcl:c.l.length<=bm) (hxr:∀x∈c.l,x.v.jA):ah pG 4 [c.av,bw.av w,iI f] (.bool true):=by
 refine pv c4 λ F hF=>?_;have aw:=aw7;have adu:=amn w hw.l;have hcopy:=an2 w hw;have ass:=hcl;unfold bm at ass;obtain⟨o,e,ho,r14,r16⟩:=both c w hw hxr (min f 30000) (by omega);have hcv:c.av=.agg [iI c.aA,iI c.cur,.ds (ew c.l) c.l.length 15] 3:=rfl;have hwv:bw.av w=.agg (bw.cells w) 3:=rfl;have hwl:(bw.cells w).length=3:=by simp
 have hwo:aX (bw.cells w)=true:=bw.one w;rw[hcv,hwv]at hF;rw[hwv]at adu hcopy;have hB:A4.code=.seq ajC (.seq (.seq ajB (.cond (ao 28) (.seq acH .ret) .skip)) (.seq acG (.seq acF (.seq acE (.seq VV (.seq VU (.seq (.seq VT (.cond (ao 80) (.seq acD .ret) .skip)) (.seq (.seq Gf (.block 0 (.loop P4))) (.seq Ge .ret))))))))):=rfl;rw[hB]
 have rest:∀(F:Fr) (K:Hp),F.get 2=some (iI f)->F.get 3=some (.ptr 0 0)->F.get 4=some (.ptr 1 0)->K.get 0=cl 3 [iI c.aA,iI c.cur,.ds (ew c.l) c.l.length 15]->K.get 1=cl 3 (bw.cells w)->gJ K 2 ->
   VC pG (.seq acG (.seq acF (.seq acE (.seq VV (.seq VU (.seq (.seq VT (.cond (ao 80) (.seq acD .ret) .skip)) (.seq (.seq Gf (.block 0 (.loop P4))) (.seq Ge .ret)))))))) F K 2 [] (fQ A4.res λ v1 H' _=>fW (Tr.get H') v1 (.bool true)):=by
  intro F K f2 f3 f4 k0 k1 kt;simp[acG,f2,HT,ED,acF,f4,k1,hwl];refine au.pure hcopy ?_;simp[hwl,hwo];generalize hK:Tr.put (Tr.put K 2 _) 2 _=K2;have g0:K2.get 0=_:=(by rw[<-hK];simp:K2.get 0=K.get 0).trans k0;have g1:K2.get 1=_:=(by rw[<-hK];simp:K2.get 1=K.get 1).trans k1;have g2:K2.get 2=cl 3 (bw.cells w):=by rw[<-hK];simp
  have gt:gJ K2 3:=λ b hb=>by rw[<-hK];simp[show ¬b=2 by omega,kt b (by omega)]
  clear hK k0 k1 kt;have tn:=gt.none;simp only[acE];refine bD.of (bh (P:=pG)) ?_;simp[ab,f3,g0,br,bI,tn];have go:aC (K2.put 3 (cl 0 [])) 4 (.sl 3 0 0 15) [] 0 15:=⟨by simp,.inr ⟨3,_,rfl,by omega,by simp,OwnB.list rfl⟩⟩;have hsl:∀H:Hp,aS H 15 (.ds (ew c.l) c.l.length 15)=some (ew c.l):=λ H=>by simp[aS]
  rcases Nat.eq_zero_or_pos c.l.length with h0|h0
  ·have e2:fP 15 120 4 (.sl 3 0 0 15) (.ds (ew c.l) c.l.length 15) (K2.put 3 (cl 0 []))=.val (.sl 3 0 0 15):=by
    unfold Go.Abs.fP;rw[hsl];simp[nP,h0]
   rw[e2];simp[ab,f3,g0,br,bI,tn];rw[<-eh];refine adn (b:=3) (q:=4) hw hcl ho r14 r16 ⟨by simp[g0,aU.cells],by simp[g1],by simp[g2],by simp[h0],?_,by omega,by omega,by omega,by omega⟩ _ (by simp[ab,f3]) (by simp[ab,f4]) (by simp[ab]) (by simp[ab]) (by simp);have hn:ew c.l=[]:=by rw[eq_nil_of_length_eq_zero h0];rfl
   rw[hn,h0];exact go.frame (by omega) λ x hx=>by simp at hx;simp[<-hx]
  refine aC.PQ (k:=c.l.length) (new:=ew c.l) go (hsl _) (by simp) (RZ _) (by omega) h0 (by unfold big;omega) (by omega) (EM _) λ K4 o4 g4=>?_;rw[gz,nil_append]at o4;rw[gz]
  have q:∀b,b≠4->b≠3->K4.get b=K2.get b:=λ b h1 h2=>by
   rw[g4 b h1 (by simp;omega)];simp[h2]
  have q0:=(q 0 (by omega) (by omega)).trans g0;have q5:=(q 5 (by omega) (by omega)).trans (gt 5 (by omega));have t5:=gt 5 (by omega);simp[ab,f3,q0,g0,br,bI,q5,t5];rw[<-eh];refine adn (b:=4) (q:=5) hw hcl ho r14 r16 ⟨by simp[q0,aU.cells],by simp[q 1 (by omega) (by omega),g1],by simp[q 2 (by omega) (by omega),g2],by simp,?_,by omega,by omega,by omega,by omega⟩ _ (by simp[ab,f3]) (by simp[ab,f4]) (by simp[ab]) (by simp[ab]) (by simp);exact o4.frame (by omega) λ x hx=>by simp at hx;simp[<-hx]
 simp[ajC,ajB,hF];refine au.pure adu ?_
 have awk:∀F K m,VC pG (.seq acH .ret) F K m [] (fQ A4.res λ v1 H' _=>fW (Tr.get H') v1 (.bool true)):=λ F K m=>by
  simp[acH];refine au.pure aw ?_;simp[A4];exact fp
 have kt:gJ ((Tr.nil.put 0 (cl 3 [iI c.aA,iI c.cur,.ds (ew c.l) c.l.length 15])).put 1 (cl 3 (bw.cells w)):Hp) 2:=λ b hb=>by simp[show ¬b=0 by omega,show ¬b=1 by omega]
 cases hmb:RF w with
 |true =>
  simp;rw[<-eh];exact awk _ _ _
 |false =>
  by_cases SC:(2000:Int)<(c.l.length:Int)
  ·by_cases ady:(c.l.length:Int)<=8192
   ·simp[SC,ady];rw[<-eh];exact awk _ _ _
   simp[SC,ady];rw[<-eh];exact rest _ _ (by simp[hF]) (by simp) (by simp) (by simp) (by simp) kt
  simp[SC];rw[<-eh];exact rest _ _ (by simp[hF]) (by simp) (by simp) (by simp) (by simp) kt
end Go.Abs
