/- A part. -/
import Derived.Test.YtlhafglnokpioaaGreatBt3
noncomputable section
namespace Go.Abs
open List
open Go.Proofs
open Classical
set_option maxRecDepth 100000
structure bI.gG (s:cn)(q:bI):Prop where
 k:(aF (q.ao.map s.tb)).length+q.items.length<=aU
 s:q.ao.length<=aU
 o:q.order.length<=aU
 it:∀x∈q.items,x.e.sz<=aU/\x.e.may=true
 sr:∀x∈q.ao,x.cond.sz<=aU/\x.cond.maybe=true
 cz:q.cond.sz<=aU
 cm:q.cond.maybe=true
theorem JG (ns:List (List Nat))(ts:List bK)(q:bI)(e:Int):(cg ns ts q e).2.1.length<=(aF ts).length+q.items.length:=by
 have hn:(namesT ts).length=(aF ts).length:=by simp[namesT,aF,bK.kinds,length_flatMap]
 unfold cg
 split
 ·simp[hn]
 simp
theorem aeE (s:cn)(hs:s.gG)(q:bI)(hq:q.gG s)(hC:C25 q.cond)(hS:∀x∈q.ao,C25 x.cond)(hI:I76 q)(hO:O28 q)(kind:Int)(p o:Nat)(err:Int)(H:Hp)(n:Nat)(hpn:p<n)(hon:o<n)(hpo:p≠o)(hp:H.get p=some (gu s err))(ho:H.get o=aR 25 (oU kind)):
  bu pG 56 [.ptr p 0,q.av,.ptr o 0] H n (.bo []) ((H.put p (some (gu s (fQ s q kind err).2))).put o (some (.cells 25 [] (fQ s q kind err).1.cells .nil))) n:=by
 refine ar6 (args:=[q.av]) c56 (by simp[A56]) (by simp[bI.av,bI.pure]) hpn hon hpo hp ho (aP.jU (by simp[oU])) (aP.jU ah) λ F H0 hF htop hp0 ho0=>?_;have q1:=ky hpn;have q':=Vj hpn;have r':=Vj hon
 have hcl:∀t∈q.ao.map s.tb,t.cols.length<=aU:=by
  intro t ht;obtain⟨x,_,rfl⟩:=mem_map.1 ht;exact lG (Q:=λ t:bK=>t.cols.length<=aU) (by simp[bK.zero]) hs.tc
 simp[A56,hF,bI.av,bI.c3,aZ.aM];generalize hK:Tr.put _ (n+1) _=K0;have k0:∀c,c<n->K0.get c=H0.get c:=λ c hc=>by rw[<-hK];simp[ky hc]
 have kn:K0.get n=aR 15 q.cells:=by rw[<-hK];simp
 have ks:K0.get (n+1)=aR 2 [.aV (.slice none 0 0),.aV (.slice none 0 0)]:=by rw[<-hK];simp
 have kt:dh K0 (n+1+1):=λ c hc=>by
  have e1:¬c=n:=ae;have e2:¬c=n+1:=ae;rw[<-hK];simp[e1,e2,htop c ae]
 clear hK;refine WY n p o hpn hon hpo H0 s hs q hq.s kind err _ K0 (n+1+1) _ (.aV (.slice none 0 0)) (.aV (.slice none 0 0)) ⟨by simp[hF],by simp[hF],ah,ah,ah,ah,ah⟩ ⟨ae,kt,λ b h1 _ _=>k0 b h1,(k0 p hpn).trans hp0,kn,ks,(k0 o hon).trans ho0,by simpa using aC.nil _ _ 1,by simpa using aC.nil _ _ 4,ah,ah⟩ λ vn vt F1 K1 m1 S1 M1=>?_;clear hF k0 kn ks kt htop hp0 ho0;obtain⟨f0,f2,f4,f6,_,_,_⟩:=S1;have kp1:=M1.kp;have ks1:=M1.ks;have ko1:=M1.ko;have hm1:=M1.hm;have ala:=M1.on;have Yl:=M1.ot;rw[take_length]at ala Yl;have ag':K1.get p=aR 3 [aH.ds s.tables,bp.ds s.indexes,zI (kH s q.ao q.ao.length err)]:=kp1
 have hqb:fQ s q kind err=if kH s q.ao q.ao.length err≠0 then ({kind:=kind},kH s q.ao q.ao.length err)else (fQ s q kind err):=by
  unfold fQ;split<;>rfl
 by_cases h0:kH s q.ao q.ao.length err=0
 ·simp only[oU]at ko1;obtain⟨hl1,hl2⟩:=Yl.avN;have hl3:=Yl.fS;have wV:=M1.kn;have no:(n=o)=False:=by simp only[eq_iff_iff,iff_false];omega
  simp[KY,aai,aah,f0,f2,f4,f6,ag',h0,ks1,ko1,hl1,hl2,hl3,no,wV,bI.c3,aZ.aM];have g2:∀b,b≠o->(K1.put o (aR 25 (kK kind vt (.aV (.slice none 0 0)) (.aV (.slice none 0 0)) (.aV (.slice none 0 0)) (.aV (.slice none 0 0)) (.aV (.slice none 0 0)) (.aV (.slice none 0 0)) false false 0))).get b=K1.get b:=λ b hb=>by simp[hb]
  have o2:(K1.put o (aR 25 (kK kind vt (.aV (.slice none 0 0)) (.aV (.slice none 0 0)) (.aV (.slice none 0 0)) (.aV (.slice none 0 0)) (.aV (.slice none 0 0)) (.aV (.slice none 0 0)) false false 0))).get o=aR 25 (kK kind vt (.aV (.slice none 0 0)) (.aV (.slice none 0 0)) (.aV (.slice none 0 0)) (.aV (.slice none 0 0)) (.aV (.slice none 0 0)) (.aV (.slice none 0 0)) false false 0):=ah;simp only[kK]at g2 o2;generalize Tr.put K1 o _=K2 at g2 o2 ⊢;generalize hF2:(Fp 66 _ _:Fr)=F2;have w0:F2.get 0=some (.ptr p 0):=by rw[<-hF2];simp[f0]
  have w2:F2.get 2=some (.ptr o 0):=by rw[<-hF2];simp[f2]
  have w4:F2.get 4=some (.ptr n 0):=by rw[<-hF2];simp[f4]
  have w6:F2.get 6=some (.ptr (n+1) 0):=by rw[<-hF2];simp[f6]
  have Gv:F2.get 64=some (gf.ds q.ao):=by rw[<-hF2];simp
  have w65:F2.get 65=some (zI (q.ao.length:Int)):=by rw[<-hF2];simp
  have w66:F2.get 66=some (zI ((0:Nat):Int)):=by rw[<-hF2];simp
  clear hF2;have dn:=M1.dn;have dt:=M1.dt
  obtain⟨hh,K3,hsh,s3,o3,g3⟩:=aoA (F:=F2) (F2:=yt F2 [0,2,4,6,64,65,66]) (K:=K2) (m:=m1) (n:=n) (o:=o) (kind:=kind) (ns:=q.ao.map Src.nm) (ts:=q.ao.map s.tb) (vn:=vn) (vt:=vt) ae (λ t v hv=>Ua hv) ((g2 (n+1) ae).trans ks1) o2
   (by rw[length_map];exact ala.frame (aK _) λ c hc=>g2 c (by have:=(dn c hc).1;omega)) (by rw[length_map];exact Yl.frame (aK _) λ c hc=>g2 c (by have:=dt c hc;omega)) (λ b hb=>by have:=(dn b hb).1;omega) (λ b hb=>by have:=dt b hb;omega)
  have bk3:∀b,b<n+2->b≠n+1->b≠o->K3.get b=K1.get b:=λ b h1 h2 h3=>by
   rw[g3 b h2 h3,ai,g2 b h3];rintro(h|h)
   ·have:=(dn b h).1;omega
   have:=dt b h;omega
  have t3:dh K3 m1:=λ b hb=>by
   rw[g3 b ae ae]
   split
   ·rfl
   rw[g2 b ae];exact M1.tp b hb
  have Q3:QyM H0 n p o s (q.ao.map Src.nm) (q.ao.map s.tb) q 0 K3 m1:=⟨hm1,t3,λ b h1 h2 h3=>(bk3 b ae ae h3).trans (M1.kf b h1 h2 h3),by rw[bk3 p ae ae hpo,kp1,h0],(bk3 n ae ae ae).trans wV,s3⟩;have hkl:(aF (q.ao.map s.tb)).length<=aU:=by have:=hq.k;omega
  refine WX n p o hpn hon hpo H0 s (q.ao.map Src.nm) (q.ao.map s.tb) ah hkl (by simpa using hq.s) hcl q ah hS kind 0 _ K2 m1 _ ⟨hh,_,K3,hsh,.aV (.slice none 0 0),rfl,⟨(ly ah).trans w0,(ly ah).trans w2,(ly ah).trans w4,(ly ah).trans w6,(ly ah).trans Gv,(ly ah).trans w65,(ly ah).trans w66⟩,⟨Q3,o3,by simpa using aC.nil _ _ 1,ah⟩,rfl⟩ λ zU F4 K4 m4 S4 M4=>?_;have hb0:fQ s q kind err=fQ s q kind err:=rfl;rw[fQ,ai (by simpa using h0)];have hnl:=JG (q.ao.map Src.nm) (q.ao.map s.tb) q (qB (q.ao.map Src.nm) (q.ao.map s.tb) q.ao q.ao.length 0).2;have hkq:=hq.k;have hlq:(q.ao.map Src.nm).length=(q.ao.map s.tb).length:=ah;have hsq:=hq.s;have ap9:(q.ao.map s.tb).length<=aU:=by simpa using hsq
  have hol:=Db (q.ao.map Src.nm) (q.ao.map s.tb) q.ao 0 q.ao.length;generalize q.ao.map Src.nm=ns at *;generalize q.ao.map s.tb=ts at *;clear hsh g3 bk3 t3 Q3 s3 o3 w0 w2 w4 w6 Gv w65 w66 g2 o2 K3 K2 dn dt ala Yl M1 f0 f2 f4 f6;generalize qB ns ts q.ao q.ao.length 0=ON at *;obtain⟨L,e4⟩:=ON;obtain⟨f0,f2,f4,f6,_,_,_⟩:=S4;have N4:=M4.mem;have hm4:=N4.hm;have ks4:=N4.ks;have kn4:=N4.kn;have ko4:=M4.ko;simp only at hol hnl M4 N4 ko4 ⊢;simp only[oN]at ks4;simp[aae,f0,f2,f4,f6,ks4,kn4];have oa4:=M4.oa;have da4:=M4.da;have hv1:=oa4.fS
  have hvl:dJ m4 [aH.ds ts,zU,(.aV (.slice none 0 0)),(.aV (.slice none 0 0))]:=by
   obtain⟨_,⟨rfl,_⟩|⟨b,k,rfl,hb,_⟩⟩:=oa4
   ·simp[Pure.jU]
   simp[Pure.jU,hb]
  have hit:=hI ns ts hlq hkl ap9 hcl s hkq ⟨kind,aH.ds ts,zU,(.aV (.slice none 0 0)),(.aV (.slice none 0 0)),false,false,0⟩ ⟨ah,hv1,ah,ah⟩ p o e4 K4 m4 ae ae hpo hvl N4.kp ko4;refine aB.ok hit ?_;generalize cg ns ts q e4=IT at *;obtain⟨E,N,Ks,e5⟩:=IT;simp only[QC.out]at hnl ⊢;have g5:∀b,b≠p->b≠o->((K4.put p (some (gu s e5))).put o (aR 25 (kK kind (aH.ds ts) zU (.aV (.slice none 0 0)) (jg.ds E) (dy.ds N) (dA.ds Ks) (.aV (.slice none 0 0)) false false 0))).get b=K4.get b:=λ b h1 h2=>by simp[h1,h2]
  have p5:((K4.put p (some (gu s e5))).put o (aR 25 (kK kind (aH.ds ts) zU (.aV (.slice none 0 0)) (jg.ds E) (dy.ds N) (dA.ds Ks) (.aV (.slice none 0 0)) false false 0))).get p=some (gu s e5):=by simp[hpo]
  have o5:((K4.put p (some (gu s e5))).put o (aR 25 (kK kind (aH.ds ts) zU (.aV (.slice none 0 0)) (jg.ds E) (dy.ds N) (dA.ds Ks) (.aV (.slice none 0 0)) false false 0))).get o=aR 25 (kK kind (aH.ds ts) zU (.aV (.slice none 0 0)) (jg.ds E) (dy.ds N) (dA.ds Ks) (.aV (.slice none 0 0)) false false 0):=ah;generalize Tr.put (K4.put p _) o _=K5 at g5 p5 o5 ⊢;have N5:=N4.next hpn hon (aK _) (λ b hb=>(g5 b ae ae).trans (N4.tp b hb)) (λ b _ h2 h3=>g5 b h2 h3) p5;have oa5:aC K5 m4 zU (oY.l L) q.ao.length 1:=oa4.frame (aK _) λ b hb=>g5 b (by have:=da4 b hb;omega) (by have:=da4 b hb;omega);have ks5:=N5.ks;have kn5:=N5.kn;simp only[oN]at ks5;simp only[kK]at o5;have hcd:=hC ns ts hlq hkl ap9 hcl s p e5 K5 m4 ae p5;have hav:q.cond.av=.agg q.cond.cells 8:=Eq.trans rfl rfl;rw[hav]at hcd;simp only[oN]at hcd;simp[aad,f0,f2,f4,f6,ks5,kn5,bI.cc];refine aB.ok hcd ?_;generalize dU ns ts q.cond e5=CD at *;obtain⟨W,e6⟩:=CD;simp only;have op:(o=p)=False:=by simp[Ne.symm hpo]
  have no:(n=o)=False:=by simp only[eq_iff_iff,iff_false];omega
  have np:(n=p)=False:=by simp only[eq_iff_iff,iff_false];omega
  simp[op,o5,aac,f4,no,np,kn5,bI.c12,aZ.aM];generalize hK6:Tr.put (K5.put p _) o _=K6;have g6:∀b,b≠p->b≠o->K6.get b=K5.get b:=λ b h1 h2=>by rw[<-hK6];simp[h1,h2]
  have p6:K6.get p=some (gu s e6):=by rw[<-hK6];simp[hpo]
  have o6:K6.get o=aR 25 (aeS kind ts zU W E N Ks (.aV (.slice none 0 0))):=by rw[<-hK6];simp[aeS,kK]
  clear hK6;have N6:=N5.next hpn hon (aK _) (λ b hb=>(g6 b ae ae).trans (N5.tp b hb)) (λ b _ h2 h3=>g6 b h2 h3) p6
  have oa6:aC K6 m4 zU (oY.l L) L.length 1:=by
   rw[hol];exact oa5.frame (aK _) λ b hb=>g6 b (by have:=da4 b hb;omega) (by have:=da4 b hb;omega)
  refine hO n p o hpn hon hpo H0 s ns ts kind L W E N ae Ks zU hv1 e6 _ K6 m4 _ (.aV (.slice none 0 0)) ⟨by simp[f0],by simp[f2],by simp[f4],by simp[f6],ah,ah,ah⟩ ⟨N6,o6,oa6,da4,by simpa using aC.nil _ _ 2,ah⟩ λ va F7 K7 m7 S7 M7=>?_;have hor:=G6 N q.order e6 q.order.length;generalize Ad N q.order q.order.length e6=OR at *;obtain⟨O,e7⟩:=OR;simp only at hor M7 ⊢;obtain⟨f0,f2,f4,f6,_,_,_⟩:=S7;have kn7:=M7.mem.kn;have ko7:=M7.ko;simp only[aeS,kK]at ko7;have zv:e_ (above n K7) zU (oY.ds L):=M7.ov.UC (λ b hb=>by have:=M7.dv b hb;omega) (bc.pure (oY.r5 L)) ae
  have zo:e_ (above n K7) va (JZ.ds O):=by
   have:=M7.oa.UC (n0:=n) (λ b hb=>by have:=(M7.da b hb).1;omega) (bc.pure (JZ.r5 O)) ae;rw[aZ.ds,hor];exact this
  simp only[pF,aab,pz];refine bC.of (bh (P:=pG)) ?_;simp[ab,f2,f4,kn7,ko7,no,bI.c0,bI.c13,bI.c14];have zm:∀K':Hp,(∀b,b≠o->K'.get b=K7.get b)->e_ (above n K') zU (oY.ds L)/\e_ (above n K') va (JZ.ds O):=λ K' h=>⟨zv.mono (Iz λ b k h1 h2=>⟨h1,(h b ae).trans h2⟩),zo.mono (Iz λ b k h1 h2=>⟨h1,(h b ae).trans h2⟩)⟩;refine⟨.pure _ ah,λ c h1 h2 h3=>by simp[h3,M7.mem.kf c h1 h2 h3],by simp[hpo];exact M7.mem.kp,?_⟩;generalize hK9:Tr.put (Tr.put (Tr.put K7 o _) o _) o _=K9;have zz:=zm K9 λ b hb=>by rw[<-hK9];simp[hb]
  simp[oH.cells,bK.zero,pf.zero];exact⟨.inr zz.1,.inr zz.2⟩
 rw[hqb];simp[KY,f0,ag',h0];exact⟨.pure _ ah,M1.kf,rfl,_,ko1,rfl,by simp[oU,oH.cells,bK.zero,pf.zero]⟩
theorem bI.g1 (q:bI):q.cells[1]?=some (.bool q.star):=by simp[bI.cells]
theorem bI.g2 (q:bI):q.cells[2]?=some (tV.ds q.items):=by simp[bI.cells]
theorem bI.g3 (q:bI):q.cells[3]?=some (gf.ds q.ao):=by simp[bI.cells]
theorem bI.JO (q:bI):q.cells[12]?=some (tU.ds q.order):=by
 simp only[bI.cells];rw[getElem?_append_right ah];simp
theorem bI.Vm (q:bI):q.cells[13]?=some (.bool q.limited):=by
 simp only[bI.cells];rw[getElem?_append_right ah];simp
theorem bI.g14 (q:bI):q.cells[14]?=some (zI q.limit):=by
 simp only[bI.cells];rw[getElem?_append_right ah];simp
def bI.Jy (q:bI):Bool:=q.cond.maybe&&decide (q.ao.length<=4)&&decide (q.order.length<=16)&&decide (0<=q.limit)&&(q.limited||decide (q.limit=0))
def bI.XQ (q:bI):Bool:=if q.star then decide (q.items.length=0)else decide (1<=q.items.length/\q.items.length<=16)
theorem WO (q:bI) (hc:q.cond.sz<=aU) (F:Fr) (K:Hp) (n:Nat) (Q:QA) (h1:F.get 1=some (.ptr 0 0)) (k0:K.get 0=aR 15 q.cells)
  (hQ:∀F' b,F'.get 1=some (.ptr 0 0)->F'.get 3=some (.bool b)->b=q.Jy->Q .normal F' K n []):VC pG MX F K n [] Q:=by
 have hm:=afi q.cond hc;have hav:q.cond.av=.agg q.cond.cells 8:=Eq.trans rfl rfl;rw[hav]at hm
 have e4:(q.cells.drop 4).take 8=q.cond.cells:=by
  simp only[bI.cells,cons_append,nil_append,drop_succ_cons,drop_zero];rw[take_append_of_le_length ah];simp
 have g3:=q.g3;have JO:=q.JO;have Vm:=q.Vm;have g14:=q.g14;have hl:=q.bq;generalize q.cells=cs at *;simp[MX,h1,k0,hl,e4];refine aB.pure hm ?_
 cases hcm:q.cond.maybe with
 |false =>
  simp;refine hQ _ false ?_ ?_ ?_
  ·simp[h1]
  ·simp
  simp[bI.Jy,hcm]
 |true =>
  by_cases h4:(q.ao.length:Int)<=4
  ·have h4':q.ao.length<=4:=ae
   by_cases lP:(q.order.length:Int)<=16
   ·have afM:q.order.length<=16:=ae
    by_cases hl0:0<=q.limit
    ·cases hlm:q.limited with
     |true =>
      simp[h1,k0,g3,JO,Vm,g14,aZ.aM,h4,lP,hl0,hlm];refine hQ _ true ?_ ?_ ?_
      ·simp[h1]
      ·simp
      simp[bI.Jy,hcm,h4',afM,hl0,hlm]
     |false =>
      simp[h1,k0,g3,JO,Vm,g14,aZ.aM,h4,lP,hl0,hlm];refine hQ _ (decide (q.limit=0)) ?_ ?_ ?_
      ·simp[h1]
      ·simp
      simp[bI.Jy,hcm,h4',afM,hl0,hlm]
    simp[h1,k0,g3,JO,g14,aZ.aM,h4,lP,hl0];refine hQ _ false ?_ ?_ ?_
    ·simp[h1]
    ·simp
    simp[bI.Jy,hl0]
   simp[h1,k0,g3,JO,aZ.aM,h4,lP];refine hQ _ false ?_ ?_ ?_
   ·simp[h1]
   ·simp
   have afM:¬q.order.length<=16:=ae;simp[bI.Jy,afM]
  simp[h1,k0,g3,aZ.aM,h4];refine hQ _ false ?_ ?_ ?_
  ·simp[h1]
  ·simp
  have h4':¬q.ao.length<=4:=ae;simp[bI.Jy,h4']
theorem WN (q:bI) (b:Bool) (F:Fr) (K:Hp) (n:Nat) (Q:QA) (h1:F.get 1=some (.ptr 0 0)) (h3:F.get 3=some (.bool b)) (k0:K.get 0=aR 15 q.cells)
  (hQ:∀F' c,F'.get 1=some (.ptr 0 0)->F'.get 3=some (.bool c)->c=(b&&q.XQ)->Q .normal F' K n []):VC pG s5 F K n [] (qf pG (.cond (aA 40) zK FB) Q):=by
 have g1:=q.g1;have g2:=q.g2;generalize q.cells=cs at *
 cases hst:q.star with
 |true =>
  cases b with
  |true =>
   by_cases hl:q.items.length=0
   ·simp[s5,zK,h1,h3,k0,g1,g2,hst,aZ.aM,hl];exact hQ _ true (by simp[h1]) ah (by simp[bI.XQ,hst,hl])
   simp[s5,zK,h1,h3,k0,g1,g2,hst,aZ.aM,hl];have hl':¬q.items=[]:=by simpa using hl
   first
   |exact hQ _ false (by simp[h1]) ah (by simp[bI.XQ,hst,hl])
   |(simp[hl'];exact hQ _ false (by simp[h1]) ah (by simp[bI.XQ,hst,hl]))
  |false =>
   simp[s5,zK,h1,h3,k0,g1,hst];exact hQ _ false (by simp[h1]) ah ah
 |false =>
  cases b with
  |true =>
   simp[s5,FB,h1,h3,k0,g1,g2,hst,aZ.aM];refine aB.pure (ajz (q.items.length:Int) 16) ?_;simp;refine hQ _ (decide ((1:Int)<=(q.items.length:Int))&&decide ((q.items.length:Int)<=16)) ?_ ?_ ?_
   ·simp[h1]
   ·simp
   simp[bI.XQ,hst]
   congr 1
   ·simp;omega
   simp;omega
  |false =>
   simp[s5,FB,h1,h3,k0,g1,hst];exact hQ _ false (by simp[h1]) ah ah
theorem aeD (q:bI)(hc:q.cond.sz<=aU)(ho:q.order.length<=aU)(hs:q.ao.length<=aU)(hi:q.items.length<=aU)(hz1:∀x∈q.items,x.e.sz<=aU)(hz2:∀x∈q.ao,x.cond.sz<=aU):aj pG 113 [.agg q.cells 15] (.bool q.may):=by
 refine gW c113 (by simp[bI.pure]) ah (by simp[A113]) λ F hF=>?_;simp[A113,hF];have k0:(Tr.nil.put 0 (some (bG.cells 15 [] q.cells Ov.nil)):Hp).get 0=aR 15 q.cells:=ah;refine WO q hc _ _ _ _ ?_ k0 λ F' b g1 g3 hb=>?_
 ·simp
 simp only[pF,uD];refine WN q b F' _ _ _ g1 g3 k0 λ F2 c g1 g3 hc=>?_;have:=WQ q ho hs hi hz1 hz2 c F2 _ 1 g1 g3 k0 ae;have hm:q.may=((((c&&q.items.all zR.ok)&&ju q.ao)&&q.order.all Ord.ok)):=by rw[hc,hb];rfl
 rw[hm];simp only[pF,uD];simp only[uD]at this;exact this
theorem dE.g0 (x:dE):x.cells[0]?=some (zI x.kind):=by simp[dE.cells]
theorem dE.g1 (x:dE):x.cells[1]?=some (.str x.table):=by simp[dE.cells]
theorem dE.g2 (x:dE):x.cells[2]?=some (.str x.name):=by simp[dE.cells]
theorem dE.g3 (x:dE):x.cells[3]?=some (dL.ds x.cols):=by simp[dE.cells]
theorem dE.g4 (x:dE):x.cells[4]?=some (dy.ds x.on):=by simp[dE.cells]
theorem dE.g5 (x:dE):x.cells[5]?=some (.bool x.uniq):=by simp[dE.cells]
theorem dE.g6 (x:dE):x.cells[6]?=some (oY.ds x.rows):=by simp[dE.cells]
theorem dE.g7 (x:dE):x.cells[7]?=some (arb.ds x.sets):=by simp[dE.cells]
theorem dE.g8 (x:dE):x.cells[8]?=some (zI x.cond.op):=by
 obtain⟨_,_,_,_,_,_,_,_,⟨op,v,t,m,cG,args⟩,_⟩:=x;simp[dE.cells,Ex.cells,Ex.op]
theorem bI.g0 (q:bI):q.cells[0]?=some (.bool q.mD):=by simp[bI.cells]
theorem bI.g4 (q:bI):q.cells[4]?=some (zI q.cond.op):=by
 obtain⟨_,_,_,_,⟨op,v,t,m,cG,args⟩,_⟩:=q;simp[bI.cells,Ex.cells,Ex.op]
theorem dE.tq (x:dE):(x.cells.drop 16).take 15=x.q.cells:=by rw[dE.cq,fN ah]
def vW (a b:Ex):Bool:=decide (a.op=b.op)&&(decide (b.op≠0)||decide (a.bare 0))
def GK (x t:dE):Bool:=decide (x.table=t.table)&&(decide (x.name=t.name)&&(decide (x.cols.length=t.cols.length)&&(decide (x.on.length=t.on.length)&&((x.uniq == t.uniq)&&(decide (x.rows.length=t.rows.length)&&(decide (x.sets.length=t.sets.length)&&(vW x.cond t.cond &&
 ((x.q.mD == t.q.mD)&&((x.q.star == t.q.star)&&(decide (x.q.items.length=t.q.items.length)&&(decide (x.q.ao.length=t.q.ao.length)&&(vW x.q.cond t.q.cond&&(decide (x.q.order.length=t.q.order.length)&&((x.q.limited == t.q.limited)&&decide (x.q.limit=t.q.limit)))))))))))))))
set_option maxHeartbeats 4000000 in
theorem ajP (x t:dE):aj pG 114 [.agg x.cells 31,.agg t.cells 31] (.bool (GK x t)):=by
 refine pv c114 λ F hF=>?_;have la:=wU x.cond;have lb:=wU x.q.cond;have ax:br x.q.cells=true:=by simp[bI.cells]
 have at':br t.q.cells=true:=by simp[bI.cells]
 have hav:x.cond.av=.agg x.cond.cells 8:=Eq.trans rfl rfl;have hbv:x.q.cond.av=.agg x.q.cond.cells 8:=Eq.trans rfl rfl;rw[hav]at la;rw[hbv]at lb;have x1:=x.g1;have x2:=x.g2;have x3:=x.g3;have x4:=x.g4;have x5:=x.g5;have x6:=x.g6;have x7:=x.g7;have x8:=x.g8;have xc:=x.cc;have xq:=x.tq;have xl:=x.bq;have t1:=t.g1;have t2:=t.g2;have t3:=t.g3;have t4:=t.g4;have t5:=t.g5;have t6:=t.g6;have t7:=t.g7;have t8:=t.g8;have tq:=t.tq;have tl:=t.bq;have y0:=x.q.g0;have y1:=x.q.g1;have y2:=x.q.g2;have y3:=x.q.g3;have y4:=x.q.g4;have y12:=x.q.JO;have y13:=x.q.Vm;have y14:=x.q.g14;have yc:=x.q.cc;have yl:=x.q.bq;have z0:=t.q.g0;have z1:=t.q.g1;have z2:=t.q.g2;have z3:=t.q.g3;have z4:=t.q.g4;have z12:=t.q.JO;have z13:=t.q.Vm;have z14:=t.q.g14;have zl:=t.q.bq;generalize hr:GK x t=R;unfold GK vW at hr;generalize x.cells=xs at *;generalize t.cells=ts at *;generalize x.q.cells=xqs at *;generalize t.q.cells=tqs at *;simp[A114,hF];simp only[adk,pz];refine bC.of (bh (P:=pG)) ?_;simp[ab,xl,tl,xq,tq,yl,zl,cN,dm,ax,at'];generalize hK:(Tr.put (Tr.put _ 2 _) 3 _:Hp)=K;have k0:K.get 0=aR 31 xs:=by rw[<-hK];simp
 have k1:K.get 1=aR 31 ts:=by rw[<-hK];simp
 have k2:K.get 2=aR 15 xqs:=by rw[<-hK];simp
 have k3:K.get 3=aR 15 tqs:=by rw[<-hK];simp
 clear hK;generalize hF0:(Fp 10 _ _:Fr)=F0;have f2:F0.get 2=some (.ptr 0 0):=by rw[<-hF0];simp[ab]
 have f3:F0.get 3=some (.ptr 1 0):=by rw[<-hF0];simp[ab]
 have f5:F0.get 5=some (.ptr 2 0):=by rw[<-hF0];simp
 have f6:F0.get 6=some (.ptr 3 0):=by rw[<-hF0];simp
 clear hF0 hF F;simp[adi,f2,f3,k0,k1,x1,t1]
 by_cases h1n:¬x.table=t.table
 ·simp[h1n];exact .bool (by rw[<-hr];simp[h1n])
 have h1:=Classical.not_not.1 h1n;clear h1n;simp[f2,f3,k0,k1,x2,t2,h1]
 by_cases h2n:¬x.name=t.name
 ·simp[h2n];exact .bool (by rw[<-hr];simp[h2n])
 have h2:=Classical.not_not.1 h2n;clear h2n;simp[f2,f3,k0,k1,x3,t3,aZ.aM,h2]
 by_cases h3n:¬x.cols.length=t.cols.length
 ·simp[h3n];exact .bool (by rw[<-hr];simp[h3n])
 have h3:=Classical.not_not.1 h3n;clear h3n;simp[f2,f3,k0,k1,x4,t4,aZ.aM,h3]
 by_cases h4n:¬x.on.length=t.on.length
 ·simp[h4n];exact .bool (by rw[<-hr];simp[h4n])
 have h4:=Classical.not_not.1 h4n;clear h4n;simp[f2,f3,k0,k1,x5,t5,h4]
 by_cases h5n:¬(x.uniq == t.uniq)=true
 ·simp[h5n];exact .bool (by rw[<-hr];simp[h5n])
 have h5:=Classical.not_not.1 h5n;clear h5n;simp[f2,f3,k0,k1,x6,t6,aZ.aM,h5]
 by_cases h6n:¬x.rows.length=t.rows.length
 ·simp[h6n];exact .bool (by rw[<-hr];simp[h6n])
 have h6:=Classical.not_not.1 h6n;clear h6n;simp[f2,f3,k0,k1,x7,t7,aZ.aM,h6]
 by_cases h7n:¬x.sets.length=t.sets.length
 ·simp[h7n];exact .bool (by rw[<-hr];simp[h7n])
 have h7:=Classical.not_not.1 h7n;clear h7n;simp[f2,f3,k0,k1,x8,t8,h7]
 by_cases h8n:¬x.cond.op=t.cond.op
 ·simp[h8n];exact .bool (by rw[<-hr];simp[h8n])
 have h8:=Classical.not_not.1 h8n;clear h8n;simp[f3,k1,t8,h8]
 by_cases w8:t.cond.op=0
 ·simp[f2,k0,xc,w8,xl];refine aB.pure la ?_
  by_cases b8:¬x.cond.bare 0
  ·simp[b8];exact .bool (by rw[<-hr];simp[h8,w8,b8])
  have b8':=Classical.not_not.1 b8;clear b8;simp[f5,f6,k2,k3,y0,z0,b8']
  by_cases h9n:¬(x.q.mD == t.q.mD)=true
  ·simp[h9n];exact .bool (by rw[<-hr];simp[h9n])
  have h9:=Classical.not_not.1 h9n;clear h9n;simp[f5,f6,k2,k3,y1,z1,h9]
  by_cases DJ:¬(x.q.star == t.q.star)=true
  ·simp[DJ];exact .bool (by rw[<-hr];simp[DJ])
  have h10:=Classical.not_not.1 DJ;clear DJ;simp[f5,f6,k2,k3,y2,z2,aZ.aM,h10]
  by_cases DI:¬x.q.items.length=t.q.items.length
  ·simp[DI];exact .bool (by rw[<-hr];simp[DI])
  have h11:=Classical.not_not.1 DI;clear DI;simp[f5,f6,k2,k3,y3,z3,aZ.aM,h11]
  by_cases DG:¬x.q.ao.length=t.q.ao.length
  ·simp[DG];exact .bool (by rw[<-hr];simp[DG])
  have h12:=Classical.not_not.1 DG;clear DG;simp[f5,f6,k2,k3,y4,z4,h12]
  by_cases DF:¬x.q.cond.op=t.q.cond.op
  ·simp[DF];exact .bool (by rw[<-hr];simp[DF])
  have h13:=Classical.not_not.1 DF;clear DF;simp[f6,k3,z4,h13]
  by_cases Vs:t.q.cond.op=0
  ·simp[f5,k2,yc,Vs,yl];refine aB.pure lb ?_
   by_cases b13:¬x.q.cond.bare 0
   ·simp[b13];exact .bool (by rw[<-hr];simp[h13,Vs,b13])
   have Ze:=Classical.not_not.1 b13;clear b13;simp[f5,f6,k2,k3,y12,z12,aZ.aM,Ze]
   by_cases nT:¬x.q.order.length=t.q.order.length
   ·simp[nT];exact .bool (by rw[<-hr];simp[nT])
   have uS:=Classical.not_not.1 nT;clear nT;simp[f5,f6,k2,k3,y13,z13,uS]
   by_cases nR:¬(x.q.limited == t.q.limited)=true
   ·simp[nR];exact .bool (by rw[<-hr];simp[nR])
   have h15:=Classical.not_not.1 nR;clear nR;simp[f5,f6,k2,k3,y14,z14,h15]
   by_cases nQ:¬x.q.limit=t.q.limit
   ·simp[nQ];exact .bool (by rw[<-hr];simp[nQ])
   have lP:=Classical.not_not.1 nQ;clear nQ;simp[lP];exact .bool (by rw[<-hr];simp[h1,h2,h3,h4,h5,h6,h7,h8,w8,b8',h9,h10,h11,h12,h13,Vs,Ze,uS,h15,lP])
  simp[f5,f6,k2,k3,y12,z12,aZ.aM,Vs]
  by_cases nT:¬x.q.order.length=t.q.order.length
  ·simp[nT];exact .bool (by rw[<-hr];simp[nT])
  have uS:=Classical.not_not.1 nT;clear nT;simp[f5,f6,k2,k3,y13,z13,uS]
  by_cases nR:¬(x.q.limited == t.q.limited)=true
  ·simp[nR];exact .bool (by rw[<-hr];simp[nR])
  have h15:=Classical.not_not.1 nR;clear nR;simp[f5,f6,k2,k3,y14,z14,h15]
  by_cases nQ:¬x.q.limit=t.q.limit
  ·simp[nQ];exact .bool (by rw[<-hr];simp[nQ])
  have lP:=Classical.not_not.1 nQ;clear nQ;simp[lP];exact .bool (by rw[<-hr];simp[h1,h2,h3,h4,h5,h6,h7,h8,w8,b8',h9,h10,h11,h12,h13,Vs,uS,h15,lP])
 simp[f5,f6,k2,k3,y0,z0,w8]
 by_cases h9n:¬(x.q.mD == t.q.mD)=true
 ·simp[h9n];exact .bool (by rw[<-hr];simp[h9n])
 have h9:=Classical.not_not.1 h9n;clear h9n;simp[f5,f6,k2,k3,y1,z1,h9]
 by_cases DJ:¬(x.q.star == t.q.star)=true
 ·simp[DJ];exact .bool (by rw[<-hr];simp[DJ])
 have h10:=Classical.not_not.1 DJ;clear DJ;simp[f5,f6,k2,k3,y2,z2,aZ.aM,h10]
 by_cases DI:¬x.q.items.length=t.q.items.length
 ·simp[DI];exact .bool (by rw[<-hr];simp[DI])
 have h11:=Classical.not_not.1 DI;clear DI;simp[f5,f6,k2,k3,y3,z3,aZ.aM,h11]
 by_cases DG:¬x.q.ao.length=t.q.ao.length
 ·simp[DG];exact .bool (by rw[<-hr];simp[DG])
 have h12:=Classical.not_not.1 DG;clear DG;simp[f5,f6,k2,k3,y4,z4,h12]
 by_cases DF:¬x.q.cond.op=t.q.cond.op
 ·simp[DF];exact .bool (by rw[<-hr];simp[DF])
 have h13:=Classical.not_not.1 DF;clear DF;simp[f6,k3,z4,h13]
 by_cases Vs:t.q.cond.op=0
 ·simp[f5,k2,yc,Vs,yl];refine aB.pure lb ?_
  by_cases b13:¬x.q.cond.bare 0
  ·simp[b13];exact .bool (by rw[<-hr];simp[h13,Vs,b13])
  have Ze:=Classical.not_not.1 b13;clear b13;simp[f5,f6,k2,k3,y12,z12,aZ.aM,Ze]
  by_cases nT:¬x.q.order.length=t.q.order.length
  ·simp[nT];exact .bool (by rw[<-hr];simp[nT])
  have uS:=Classical.not_not.1 nT;clear nT;simp[f5,f6,k2,k3,y13,z13,uS]
  by_cases nR:¬(x.q.limited == t.q.limited)=true
  ·simp[nR];exact .bool (by rw[<-hr];simp[nR])
  have h15:=Classical.not_not.1 nR;clear nR;simp[f5,f6,k2,k3,y14,z14,h15]
  by_cases nQ:¬x.q.limit=t.q.limit
  ·simp[nQ];exact .bool (by rw[<-hr];simp[nQ])
  have lP:=Classical.not_not.1 nQ;clear nQ;simp[lP];exact .bool (by rw[<-hr];simp[h1,h2,h3,h4,h5,h6,h7,h8,w8,h9,h10,h11,h12,h13,Vs,Ze,uS,h15,lP])
 simp[f5,f6,k2,k3,y12,z12,aZ.aM,Vs]
 by_cases nT:¬x.q.order.length=t.q.order.length
 ·simp[nT];exact .bool (by rw[<-hr];simp[nT])
 have uS:=Classical.not_not.1 nT;clear nT;simp[f5,f6,k2,k3,y13,z13,uS]
 by_cases nR:¬(x.q.limited == t.q.limited)=true
 ·simp[nR];exact .bool (by rw[<-hr];simp[nR])
 have h15:=Classical.not_not.1 nR;clear nR;simp[f5,f6,k2,k3,y14,z14,h15]
 by_cases nQ:¬x.q.limit=t.q.limit
 ·simp[nQ];exact .bool (by rw[<-hr];simp[nQ])
 have lP:=Classical.not_not.1 nQ;clear nQ;simp[lP];exact .bool (by rw[<-hr];simp[h1,h2,h3,h4,h5,h6,h7,h8,w8,h9,h10,h11,h12,h13,Vs,uS,h15,lP])
def oS.ok (c:oS):Bool:=decide (bQ c.name)&&(decide (1<=c.kind)&&decide (c.kind<=3))
def St1.ok (x:St1):Bool:=decide (bQ x.name)&&x.e.may
structure MyF (x:dE)(tc:List AV)(b:Bool)(F:Fr)(K:Hp)(n:Nat):Prop where
 f1:F.get 1=some (.ptr 0 0)
 f3:F.get 3=some (.ptr 1 0)
 f4:F.get 4=some (.bool b)
 k0:K.get 0=aR 31 x.cells
 k1:K.get 1=aR 31 tc
 hn:2<=n
def rowOk (r:List Ex):Bool:=decide (1<=r.length/\r.length<=16)&&r.all Ex.may
@[simp] theorem asf (e:Eff)(F:Fr)(n:Nat)(A B C D:Hp)(As:List Hp):fD e F n 4 (A::B::C::D::As)=(vE (e F A n)).bind λ v=>eqA v ((vE (e F B n)).bind λ v=>eqA v ((vE (e F C n)).bind λ v=>eqA v (vE (e F D n)))):=by rw[jC e F n 2,jC e F n 1,jC e F n 0,oh]
def NV (v v':AV):Prop:=v=v'∨(v=.aV (.slice none 0 0)/\∃k,v'=.ds [] 0 (k+1))
def NL:List AV->List AV->Prop
 |[],[]=>True
 |v::l,v'::l'=>NV v v'/\NL l l'
 |_,_=>False
@[simp] theorem ayA:NL [] []=True:=by simp[NL]
@[simp] theorem XF (v v':AV)(l l':List AV):NL (v::l) (v'::l')=(NV v v'/\NL l l'):=by simp[NL]
@[simp] theorem ayw (v:AV):NV v v=True:=by simp[NV]
@[simp] theorem ayx {α:Type}{k:Nat}(E:aZ α (k+1)):NV (.aV (.slice none 0 0)) (E.ds [])=True:=by
 simp only[eq_iff_iff,iff_true];exact .inr ⟨rfl,k,rfl⟩
theorem akr:NV (.aV (.slice none 0 0)) (.ds (Ex.aT []) 0 8):=.inr ⟨rfl,7,by simp[Ex.aT]⟩
theorem NV.vr {φ:Ph}{D:Da}{v v':AV}{x:Value}(h:NV v v')(hx:VR φ D v x):VR φ D v' x:=by
 rcases h with rfl|⟨rfl,k,rfl⟩
 ·exact hx
 cases hx;exact .tW _
theorem NL.len:∀ {l l':List AV},NL l l'->l'.length=l.length
 |[],[],_=>rfl
 |[],_::_,k=>by simp[NL]at k
 |_::_,[],k=>by simp[NL]at k
 |_::_,_::_,k=>by simp only[XF]at k;simp[NL.len k.2]
theorem NL.uy {φ:Ph}{D:Da}:∀ {l l':List AV}{xs:List Value},NL l l'->bW φ D l xs->bW φ D l' xs
 |[],[],_,_,h=>h
 |[],_::_,_,k,_=>by simp[NL]at k
 |_::_,[],_,k,_=>by simp[NL]at k
 |_::_,_::_,_,k,.cons _ _ _ _ h1 h2=>by
  simp only[XF]at k;exact .cons _ _ _ _ (k.1.vr h1) (NL.uy k.2 h2)
theorem aj.conv {P:Program}{g:FuncId}{args args':List AV}{v:AV}(h:aj P g args' v)(hp:aP args)(hc:∀D xs,bW mJ D args xs->bW mJ D args' xs):aj P g args v:=
 ⟨h.body,hp,h.ao0,λ D w xs hd hv=>h.run D w xs hd (hc D xs hv)⟩
def wE:Ex:=.mk 0 ⟨0,0,[]⟩ [] [] 0 []
def avi:bI:=⟨false,false,[],[],wE,[],false,0⟩
def dE.z (k:Int):dE:=⟨k,[],[],[],[],false,[],[],wE,avi⟩
def dE.cut (x:dE):dE:=
 if x.kind=1 then {dE.z x.kind with table:=x.table,cols:=x.cols}
 else if x.kind=2 then {dE.z x.kind with table:=x.table}
 else if x.kind=3 then {dE.z x.kind with table:=x.table,name:=x.name,on:=x.on,uniq:=x.uniq}
 else if x.kind=4 then {dE.z x.kind with name:=x.name}
 else if x.kind=5 then {dE.z x.kind with table:=x.table,rows:=x.rows}
 else if x.kind=6 then {dE.z x.kind with table:=x.table,cond:=x.cond}
 else if x.kind=7 then {dE.z x.kind with table:=x.table,sets:=x.sets,cond:=x.cond}
 else if x.kind=8 then {dE.z x.kind with q:=x.q}
 else dE.z x.kind
def dE.ok (x:dE):Bool:=
 if x.kind=1 then decide (bQ x.table)&&decide (1<=x.cols.length/\x.cols.length<=16)&&x.cols.all oS.ok
 else if x.kind=2 then decide (bQ x.table)
 else if x.kind=3 then decide (bQ x.table)&&decide (bQ x.name)&&decide (1<=x.on.length/\x.on.length<=16)&&x.on.all λ s=>decide (bQ s)
 else if x.kind=4 then decide (bQ x.name)
 else if x.kind=5 then decide (bQ x.table)&&decide (0<x.rows.length)&&x.rows.all rowOk
 else if x.kind=6 then decide (bQ x.table)&&x.cond.maybe
 else if x.kind=7 then decide (bQ x.table)&&decide (1<=x.sets.length/\x.sets.length<=16)&&x.cond.maybe&&x.sets.all St1.ok
 else if x.kind=8 then x.q.may
 else decide (x.kind=9∨x.kind=10∨x.kind=11)
structure dE.sm (x:dE):Prop where
 cols:x.cols.length<=aU
 on:x.on.length<=aU
 rows:x.rows.length<=aU
 row:∀r∈x.rows,r.length<=aU/\∀y∈r,y.sz<=aU
 sets:x.sets.length<=aU
 set:∀y∈x.sets,y.e.sz<=aU
 cond:x.cond.sz<=aU
 items:x.q.items.length<=aU
 item:∀y∈x.q.items,y.e.sz<=aU
 ao:x.q.ao.length<=aU
 src:∀y∈x.q.ao,y.cond.sz<=aU
 order:x.q.order.length<=aU
 qc:x.q.cond.sz<=aU
def tcZ (kind:Int):List AV:=[(zI kind),(.str []),(.str []),(.aV (.slice none 0 0)),(.aV (.slice none 0 0)),(.bool false),(.aV (.slice none 0 0)),(.aV (.slice none 0 0)),(zI 0),(zI 0),(zI 0),(.str []),(.str []),(.str []),(zI 0),(.aV (.slice none 0 0)),(.bool false),(.bool false),(.aV (.slice none 0 0)),(.aV (.slice none 0 0)),(zI 0),(zI 0),(zI 0),(.str []),(.str []),(.str []),(zI 0),(.aV (.slice none 0 0)),(.aV (.slice none 0 0)),(.bool false),(zI 0)]
def M17:CT:=(.seq aas (.cond (aA 20) (.seq ail (.seq aik (.seq aij (.block 1 (.loop ajc))))) (.seq Lo (.cond (aA 61) (.seq aaE aaD) (.seq Ln (.cond (aA 69) (.seq aaC (.seq aaB (.seq aaA (.block 3 (.loop ajb))))) (.seq Lm (.cond (aA 110) (.seq aay aax) (.seq Ll (.cond (aA 118) (.seq aaw (.seq aav (.seq aau (.block 5 (.loop aja))))) (.seq Lj (.cond (aA 161) (.seq aar aaq) (.seq Lh (.cond (aA 177) (.seq aap (.seq aao (.seq aan (.block 9 (.loop ai'))))) (.seq Ld (.cond (aA 221) (.seq Lc La) (.seq (.seq aam (.cond (aA 229) .skip (.seq aal (.cond (aA 229) .skip aak)))) (.cond (aA 229) aaj .skip))))))))))))))))))
theorem b17:A45.code=(.seq aaG (.seq aaF (.seq aaz (.seq (.seq aat (.block 0 M17)) (.seq vl .ret))))):=rfl
structure adP (x:dE)(F:Fr)(K:Hp):Prop where
 f1:F.get 1=some (.ptr 0 0)
 f3:F.get 3=some (.ptr 1 0)
 f4:F.get 4=some (.bool false)
 f19:F.get 19=some (zI x.kind)
 k0:K.get 0=aR 31 x.cells
 k1:K.get 1=aR 31 (tcZ x.kind)
structure aso (x:dE)(tc:List AV):Prop where
 len:tc.length=31
 pure:aP tc
 cut:NL tc x.cut.cells
def adO (x:dE)(Q:QA):Prop:=∀F' K' n' tc b,MyF x tc b F' K' n'->aso x tc->b=x.ok->Q .normal F' K' n' []
theorem apE {α:Type}:∀ {l:List α},l.length=15->∃a b c d e f g h i j k m n o p,l=[a,b,c,d,e,f,g,h,i,j,k,m,n,o,p]
 |[a,b,c,d,e,f,g,h,i,j,k,m,n,o,p],_=>⟨a,b,c,d,e,f,g,h,i,j,k,m,n,o,p,rfl⟩
theorem afk (x:dE)(_hs:x.sm)(hmy:aj pG 113 [.agg x.q.cells 15] (.bool x.q.may))(hk:x.kind=8)(F:Fr)(K:Hp)(Q:QA)(E:adP x F K)(hQ:adO x Q):VC pG M17 F K 2 [] Q:=by
 obtain⟨f1,f3,f4,f19,k0,k1⟩:=E;rw[hk]at f19 k1;have xq:=x.tq;have xl:=x.bq;obtain⟨a0,a1,a2,a3,a4,a5,a6,a7,a8,a9,a10,a11,a12,a13,a14,hce⟩:=apE x.q.bq;have hpc:=x.q.pure;have ho:br x.q.cells=true:=by simp[bI.cells]
 rw[hce]at xq hmy hpc ho;simp at hpc ho;generalize hxs:x.cells=xs at *;have hg:jN 31 [] xs .nil 16 15=some [a0,a1,a2,a3,a4,a5,a6,a7,a8,a9,a10,a11,a12,a13,a14]:=by simp[xl,xq]
 clear xl;simp[M17,f19,aas,Lo,Ln,Lm,Ll,Lj,Lh,Ld,Lc,f1,f3,k0,k1,hg,tcZ,ho];generalize hK2:Tr.put _ 1 _=K2;obtain⟨tc,g1,ht⟩:∃tc,K2.get 1=aR 31 tc/\aso x tc:=⟨_,by rw[<-hK2];exact(Tr.get_put _ _ _ _).trans (aw rfl),ah,by simp[hpc],by simp only[dE.cut,hk,dE.cells,dE.z];simp[hce,wE,Ex.cells,akr]⟩;have g0:K2.get 0=aR 31 xs:=by rw[<-hK2];simp[k0]
 clear hK2;generalize hF2:(Fp 225 _ _:Fr)=F2;have h1:F2.get 1=some (.ptr 0 0):=by rw[<-hF2];simp[f1]
 have h3:F2.get 3=some (.ptr 1 0):=by rw[<-hF2];simp[f3]
 clear hF2 f1 f3 f4 f19 k0 k1 F;have fin:∀(F':Fr) (b:Bool),F'.get 1=some (.ptr 0 0)->F'.get 3=some (.ptr 1 0)->F'.get 4=some (.bool b)->b=x.ok->Q .normal F' K2 2 []:=λ F' b w1 w3 w4 hb=>hQ _ _ _ _ _ ⟨w1,w3,w4,by rw[hxs];exact g0,g1,ae⟩ ht hb;simp[La,h1,g0,hg];refine aB.pure hmy ?_;simp;generalize hF3:(Fp 4 _ _:Fr)=F3;exact fin F3 _ (by rw[<-hF3];simp[h1]) (by rw[<-hF3];simp[h3]) (by rw[<-hF3];simp;rfl) (by simp[dE.ok,hk])
def dE.may (x:dE):Bool:=x.ok&&GK x x.cut
theorem akA (x:dE) (_hs:x.sm) (hb:∀(F:Fr) (K:Hp) (Q:QA),adP x F K->adO x Q->VC pG M17 F K 2 [] Q):aj pG 45 [x.av] (.bool x.may):=by
 refine pv c45 λ F hF=>?_;have x0:=x.g0;have xl:=x.bq
 have fin:adO x (jE 0 (qf pG (.seq vl .ret) (kU [aG 2] λ v1 H' _=>e_ H'.get v1 (.bool x.may)))):=by
  intro F' K' n' tc b ⟨f1,f3,f4,k0,k1,hn⟩ ⟨htl,hpt,hnl⟩ hb
  cases b with
  |false =>
   simp[vl,f4,dE.may,<-hb];exact .bool rfl
  |true =>
   simp[vl,f1,f3,f4,k0,k1,dE.may,<-hb];have hr:=ajP x x.cut;refine aB.pure (hr.conv ?_ λ D xs hv=>?_) ?_
   ·simp[hpt]
   ·cases hv with
    |cons _ y0 _ ys h0 hv =>
    cases hv with
    |cons _ y1 _ ys h1 hv =>
    refine .cons _ _ _ _ h0 (.cons _ _ _ _ ?_ hv)
    cases h1 with
    |agg _ l _ a b=>exact .agg _ _ _ (hnl.uy a) ah
   simp;exact .bool rfl
 have hcx:x.av=.agg x.cells 31:=Eq.trans rfl rfl;rw[hcx]at hF
 have body:∀(F:Fr) (K:Hp),adP x F K->VC pG M17 F K 2 [] (jE 0 (qf pG (.seq vl .ret) (kU [aG 2] λ v1 H' _=>e_ H'.get v1 (.bool x.may)))):=by
  exact λ F K E=>hb F K _ E fin
 clear fin hb;have xp:=x.pure;generalize hxs:x.cells=xs at hF x0 xl xp;simp only[b17];simp[aaG,hF];simp[aaF,aaz,aat,x0];generalize hK:Tr.put _ 1 _=K;have k0:K.get 0=aR 31 xs:=by rw[<-hK];simp
 have k1:K.get 1=aR 31 (tcZ x.kind):=by rw[<-hK];simp[tcZ]
 clear hK;refine body _ K ⟨?_,?_,?_,?_,by rw[hxs];exact k0,k1⟩
 all_goals simp
theorem aov (d t:bK)(b:Nat)(H:Hp)(n:Nat)(hb:H.get b=aR 4 (aH.cells t))(ht:dh H n):ak pG 84 [aH.av d,.ptr b 0] H n (λ u K k=>u=.bool (decide (d.name=t.name))/\K=H/\k=n):=by
 refine ak.forget ah (ak.of c84 (by simp[A84]) λ F hF=>?_);have q:¬b=n:=by have:=ht.lt hb;omega
 simp[A84,hF,aZ.av,eK,q,hb];rintro c hc rfl;exact ar (ht _ (aK _)) hc
theorem apV (d t:pf)(b:Nat)(H:Hp)(n:Nat)(hb:H.get b=aR 6 (bp.cells t))(ht:dh H n):ak pG 87 [bp.av d,.ptr b 0] H n (λ u K k=>u=.bool (decide (d.name=t.name))/\K=H/\k=n):=by
 refine ak.forget ah (ak.of c87 (by simp[A87]) λ F hF=>?_);have q:¬b=n:=by have:=ht.lt hb;omega
 simp[A87,hF,aZ.av,iT,q,hb];rintro c hc rfl;exact ar (ht _ (aK _)) hc
theorem alQ {f:FuncId}{first cap:List AV}{p:bK->Bool}{H:Hp}{n:Nat}(l:List bK)(hl:l.length<=aU)(hp:∀x∈l,ak pG f (first++([aH.av x]++cap)) H n (λ u K k=>u=.bool (p x)/\K=H/\k=n)):
  ak pG 83 [aH.ds l,.fn (.func f) first cap] H n (λ u K k=>u=.bool (l.any p)/\K=H/\k=n):=
 za c83 (r_ (el:=aH.av) c161 hl (aH.aM _) (λ i h=>⟨_,aH.ix h,λ F H n uS=>by simp[uS,aH.pQ]⟩) hp)
theorem alR {f:FuncId}{first cap:List AV}{p:pf->Bool}{H:Hp}{n:Nat}(l:List pf)(hl:l.length<=aU)(hp:∀x∈l,ak pG f (first++([bp.av x]++cap)) H n (λ u K k=>u=.bool (p x)/\K=H/\k=n)):
  ak pG 86 [bp.ds l,.fn (.func f) first cap] H n (λ u K k=>u=.bool (l.any p)/\K=H/\k=n):=
 za c86 (r_ (el:=bp.av) c163 hl (bp.aM _) (λ i h=>⟨_,bp.ix h,λ F H n uS=>by simp[uS,bp.pQ]⟩) hp)
def fX (t:bK)(l:List Int):Prop:=l≠[]/\l.length<=16/\∀i (h:i<l.length),0<=l[i]/\l[i]<(t.cols.length:Int)/\l[i]∉l.take i
theorem W7 (t:bK) (l:List Int) (_hc:t.cols.length<=aU):aj pG 85 [aH.av t,dA.ds l] (.bool (decide (fX t l))):=by
 refine pv c85 λ F hF=>?_
 by_cases h0:l=[]
 ·have:¬fX t l:=λ h=>h.1 h0;simp[A85,hF,aZ.av,aZ.aM,h0];exact .bool (by subst h0;simp[this])
 by_cases lP:l.length<=16
 ·simp[A85,hF,aZ.av,aZ.aM,h0,show ¬(16:Int)<(l.length:Int) by omega,eK];generalize hK:Tr.put _ 0 _=K;have k0:K.get 0=aR 4 [.int .u32 t.id,.str t.name,dL.ds t.cols,.int .u32 t.head]:=by rw[<-hK];simp
  clear hK;refine aE.of (λ q F K' n ms=>∃i,q=l.length - i/\i<=l.length/\F.get 1=some (dA.ds l)/\F.get 2=some (.ptr 0 0)/\F.get 15=some (dA.ds l)/\F.get 16=some (zI (l.length:Int))/\F.get 17=some (zI (i:Int))/\ms=[]/\K'=K/\∀k (h:k<i) (h2:k<l.length),0<=l[k]/\l[k]<(t.cols.length:Int)/\l[k]∉l.take k) l.length ⟨0,ah,ah,by simp[hF],ah,ah,ah,ah,rfl,rfl,λ k h=>ae⟩ ?_;rintro q F K' n ms ⟨i,rfl,hi,f1,f2,f15,f16,f17,rfl,rfl,hk⟩
  by_cases hlt:i<l.length
  ·have hx:=dA.ix (ik:=.i64) hlt;rw[YQ]at hx;have hsl:=dA.Jj (l:=l) (i:=i) hi;have no:∀P:Prop,(fX t l->P)->¬P->¬fX t l:=λ P h1 h2 h3=>h2 (h1 h3);simp[adr,f16,f17,hlt,f15,hx]
   by_cases hn:l[i]<0
   ·have:=no (0<=l[i]) (λ h=>(h.2.2 i hlt).1) ae;simp[hn,Qs];exact .bool (by simp[this])
   by_cases hb:(t.cols.length:Int)<=l[i]
   ·have:=no (l[i]<(t.cols.length:Int)) (λ h=>(h.2.2 i hlt).2.1) ae;simp[hn,f2,k0,aZ.aM,hb,Qs];exact .bool (by simp[this])
   simp[hn,f2,k0,aZ.aM,hb,f1,wH,vM,hsl];refine aB.pure (J9 (l.take i) l[i] (by simp;unfold aU;omega)) ?_
   by_cases hm:l[i]∈l.take i
   ·have:=no (l[i]∉l.take i) (λ h=>(h.2.2 i hlt).2.2) (by simpa using hm);simp[hm,Qs];exact .bool (by simp[this])
   simp[hm,ahW,f1,f2,f15,f16,f17,aD i ae];refine⟨l.length - (i+1),ae,i+1,rfl,hlt,rfl,λ k h h2=>?_⟩
   by_cases e:k=i
   ·subst e;exact⟨ae,ae,hm⟩
   exact hk k ae h2
  obtain rfl:i=l.length:=ae;have:fX t l:=⟨h0,lP,λ j h=>hk j h h⟩;simp[adr,f16,f17,ahV];exact .bool (by simp[this])
 have:¬fX t l:=λ h=>lP h.2.1;simp[A85,hF,aZ.av,aZ.aM,h0,show (16:Int)<(l.length:Int) by omega];exact .bool (by simp[this])
end Go.Abs
namespace Go.Abs
open List
open Go.Proofs
open Classical
set_option maxRecDepth 100000
section
variable {F:Fr}{H:Hp}{n:Nat}
@[simp] theorem auy (q:LK)(m k v:G):lI q m k v F H n=oE (m.f F) λ m=>oE (k.f F) λ k=>oE (v.f F) λ v=>rE q m k v H:=by
 unfold lI oE
 cases m.f F with
 |none=>rfl
 |some a=>dsimp only;cases k.f F with
  |none=>rfl
  |some b=>dsimp only;cases v.f F<;>rfl
@[simp] theorem anF (q:LK)(z:AV)(ok:Bool)(m k:G):jF q z ok m k F H n=oE (m.f F) λ m=>oE (k.f F) λ k=>fo q z ok m k H:=by
 unfold jF oE
 cases m.f F with
 |none=>rfl
 |some a=>dsimp only;cases k.f F<;>rfl
end
def OU:Nat->List Int->List (AV×AV×Nat)
 |_,[]=>[]
 |i,x::r=>(.int .u32 x,zI 1,i)::OU (i+1) r
theorem Di (x:Int):∀(l:List Int)(i:Nat),OU i (l++[x])=OU i l++[(.int .u32 x,zI 1,i+l.length)]
 |[],i=>by simp[OU]
 |y::r,i=>by simp[OU,Di x r (i+1)];omega
theorem pV (a b:Int):dY .i (.int .u32 a) (.int .u32 b)=some (decide (a=b)):=by
 simp only[dY,if_true]
 congr 1
theorem uV (k:Int):∀(l:List Int)(i:Nat),findKey .i (.int .u32 k) (OU i l)=some (if k∈l then some (zI 1)else none)
 |[],i=>rfl
 |y::r,i=>by
  simp only[OU,findKey,pV]
  by_cases h:k=y
  ·simp[h]
  simp[h,uV k r (i+1)]
theorem agO (k:Int)(v:AV):∀(l:List Int)(i:Nat),k∉l->iM .i (.int .u32 k) v (OU i l)=some none
 |[],i,_=>rfl
 |y::r,i,h=>by
  simp only[mem_cons,not_or]at h;simp only[OU,iM,pV];simp[h.1,agO k v r (i+1) h.2]
theorem agN (k:Int)(v:AV):∀(l:List Int)(i:Nat),k∈l->∃es,iM .i (.int .u32 k) v (OU i l)=some (some es)/\findKey .i (.int .u32 k) es=some (some v)
 |[],i,h=>by simp at h
 |y :: r,i,h=>by
  simp only[OU,iM,pV]
  by_cases e:k=y
  ·subst e;simp[findKey,pV]
  have h2:k∈r:=by simpa[e]using h
  obtain⟨es,h3,h4⟩:=agN k v r (i+1) h2;simp[e,h3,findKey,pV,h4]
theorem YC (k:Int)(l:List Int)(i:Nat)(_h:k∉l):findKey .i (.int .u32 k) (OU i l++[(.int .u32 k,zI 1,i+l.length)])=some (some (zI 1)):=by
 rw[<-Di,uV];simp
structure S85 (s:cn)(Fo:Fr)(l:List Int)(K:Hp)(n:Nat):Prop where
 k0:K.get 0=aR 2 (kQ.cells s)
 k1:K.get 1=aR 1 [.bool false]
 k2:K.get 2=some (.map (OU 0 l) l.length)
 k3:K.get 3=aR 1 [.map 2]
 k4:K.get 4=aR 2 (kQ.cells s)
 k5:K.get 5=some (.loop .ready .normal 120 Fo [25] CC.1 CC.2)
 k6:K.get 6=some .jS
 n7:7<=n
 top:dh K n
structure X85 (Fo:Fr)(K:Hp):Prop where
 k1:K.get 1=aR 1 [.bool false]
 k5:∃nt G ps a b,K.get 5=some (.loop .done .ret nt G ps a b)
 k6:K.get 6=some .jS
theorem G0 (s:cn) (Fo:Fr) (l:List Int) (x:Int){K:Hp}{n:Nat}{pd:Pd}{r:List (Option GO)}{F:Fr}{Q:QA}(f2:Fo.get 2=some (.ptr 1 0)) (f3:Fo.get 3=some (.ptr 3 0)) (S:S85 s Fo l K n)
  (h1:x≠0->x∉l->∀K' n',S85 s Fo (l++[x]) K' n'->fE pG r (pd.f (.bool true) F) K' n' [] Q)
  (h2:(x=0∨x∈l)->∀K' n',X85 Fo K'->fE pG r (pd.f (.bool false) F) K' n' [] Q):IA 5 [.int .u32 x] pd r pG F K n [] Q:=by
 obtain⟨k0,k1,k2,k3,k4,k5,k6,n7,top⟩:=S;refine IA.of k5 (by simp[mU];rfl) ?_;rw[ajq];simp[aiz,k5];refine⟨_,_,_,_,_,_,⟨rfl,rfl,rfl,rfl,rfl,rfl⟩,?_⟩;rw[ajp]
 by_cases hx:x∈l
 ·obtain⟨es,hs1,hs2⟩:=agN x (zI 2) l 0 hx
  by_cases h0:x=0
  ·subst h0;simp[IG,f2,f3,k1,k2,k3,fo,rE,isKey,uV,hx,hs1,IE,ID];unfold vj;refine⟨_,_,_,_,_,_,_,(by simp;exact⟨rfl,rfl,rfl,rfl,rfl,rfl,rfl⟩),?_⟩;refine h2 ah _ _ ⟨ah,⟨_,_,_,_,_,by simp;exact⟨rfl,rfl,rfl,rfl,rfl⟩⟩,by simp[k6]⟩
  simp[IG,f2,f3,k1,k2,k3,fo,rE,isKey,uV,hx,hs1,hs2,IE,h0,ID];unfold vj;refine⟨_,_,_,_,_,_,_,(by simp;exact⟨rfl,rfl,rfl,rfl,rfl,rfl,rfl⟩),?_⟩;refine h2 (by simp[hx]) _ _ ⟨ah,⟨_,_,_,_,_,by simp;exact⟨rfl,rfl,rfl,rfl,rfl⟩⟩,by simp[k6]⟩
 have hs1:=agO x (zI 1) l 0 hx;have hs2:=YC x l 0 hx;simp only[q7]at hs2
 by_cases h0:x=0
 ·subst h0;simp[IG,f2,f3,k1,k2,k3,fo,rE,isKey,uV,hx,hs1,IE,ID];unfold vj;refine⟨_,_,_,_,_,_,_,(by simp;exact⟨rfl,rfl,rfl,rfl,rfl,rfl,rfl⟩),?_⟩;refine h2 ah _ _ ⟨ah,⟨_,_,_,_,_,by simp;exact⟨rfl,rfl,rfl,rfl,rfl⟩⟩,by simp[k6]⟩
 simp[IG,f3,k2,k3,fo,rE,isKey,uV,hx,hs1,hs2,IE,h0,ID];unfold vj;refine⟨_,_,_,_,_,_,_,(by simp;exact⟨rfl,rfl,rfl,rfl,rfl,rfl,rfl⟩),?_⟩;refine h1 h0 hx _ _ ⟨?_,?_,?_,?_,?_,?_,?_,n7,?_⟩
 ·simp[k0]
 ·simp[k1]
 ·simp[Di]
 ·simp[k3]
 ·simp[k4]
 ·simp
 ·simp[k6]
 intro b hb;have e2:¬b=2:=ae;have e5:¬b=5:=ae;simp[e2,e5,top b hb]
end Go.Abs
namespace Go.Abs
open List
open Go.Proofs
open Classical
set_option maxRecDepth 100000
def vw (l:List Int):Prop:=l.Nodup/\0∉l
def cn.pages (s:cn):List Int:=s.tables.map (·.head)++s.indexes.map (·.root)
theorem vw.add {l:List Int}{x:Int}(h:vw l)(h0:x≠0)(hx:x∉l):vw (l++[x]):=by
 refine⟨nodup_append.2 ⟨h.1,ah,λ a ha b hb=>?_⟩,?_⟩
 ·simp at hb;subst hb;intro e;subst e;exact hx ha
 simp only[mem_append,mi,not_or];exact⟨h.2,Ne.symm h0⟩
theorem vw.bad {l r:List Int}{x:Int}(h:x=0∨x∈l):¬vw (l++(x::r)):=by
 rintro⟨h1,h2⟩
 rcases h with rfl|h
 ·exact h2 ah
 exact(nodup_append.1 h1).2.2 x h x ah rfl
theorem S85.alloc {s:cn}{Fo:Fr}{l:List Int}{K:Hp}{n:Nat}(S:S85 s Fo l K n)(y z:bG):S85 s Fo l ((K.put n (some y)).put n (some z)) (n+1):=by
 obtain⟨k0,k1,k2,k3,k4,k5,k6,n7,top⟩:=S;refine⟨?_,?_,?_,?_,?_,?_,?_,ae,?_⟩
 ·simp[show ¬ 0=n by omega,k0]
 ·simp[show ¬ 1=n by omega,k1]
 ·simp[show ¬ 2=n by omega,k2]
 ·simp[show ¬ 3=n by omega,k3]
 ·simp[show ¬ 4=n by omega,k4]
 ·simp[show ¬ 5=n by omega,k5]
 ·simp[show ¬ 6=n by omega,k6]
 intro b hb;simp[show ¬b=n by omega,top b ae]
def cn.pg (s:cn)(i j:Nat):List Int:=(s.tables.take i).map (·.head)++(s.indexes.take j).map (·.root)
theorem ao_ (s:cn):s.pg 0 0=[]:=by simp[cn.pg]
theorem ao7 {s:cn}{i:Nat}(h:i<s.tables.length):s.pg (i+1) 0=s.pg i 0++[s.tables[i].head]:=by
 unfold cn.pg;rw[take_add_one,cX h];simp only[map_append,Option.toList,map_cons,map_nil,take_zero,append_nil]
theorem ao9 {s:cn}{i j:Nat}(h:j<s.indexes.length):s.pg i (j+1)=s.pg i j++[s.indexes[j].root]:=by
 unfold cn.pg;rw[take_add_one (l:=s.indexes),cX h];simp only[map_append,Option.toList,map_cons,map_nil,append_assoc]
theorem aj6 (s:cn):s.pg s.tables.length s.indexes.length=s.pages:=by simp[cn.pg,cn.pages]
theorem ao6 {s:cn}{i:Nat}(h:i<s.tables.length):∃r,s.pages=s.pg i 0++(s.tables[i].head::r):=by
 refine⟨(s.tables.drop (i+1)).map (·.head)++s.indexes.map (·.root),?_⟩;unfold cn.pages cn.pg
 conv=>lhs;rw[<-take_append_drop i s.tables,ga h]
 simp only[map_append,map_cons,map_nil,take_zero,append_nil,append_assoc,cons_append]
theorem ao8 {s:cn}{j:Nat}(h:j<s.indexes.length):∃r,s.pages=s.pg s.tables.length j++(s.indexes[j].root::r):=by
 refine⟨(s.indexes.drop (j+1)).map (·.root),?_⟩;unfold cn.pages cn.pg
 conv=>lhs;rw[<-take_append_drop j s.indexes,ga h]
 simp only[map_append,map_cons,append_assoc,take_length]
theorem aeP (s:cn) (hs:s.gG) (Fo:Fr) (K:Hp) (n:Nat) (f2:Fo.get 2=some (.ptr 1 0)) (f3:Fo.get 3=some (.ptr 3 0)) (S:S85 s Fo [] K n):
  ak pG 160 [.jd 5,.ptr 4 0] K n (λ _ K' n'=>(vw s.pages/\S85 s Fo s.pages K' n')∨(¬vw s.pages/\X85 Fo K')):=by
 have ht:=hs.t;have hi:=hs.i;unfold aU at ht hi;refine ak.of c160 (by simp[A160]) λ F hF=>?_;have k4:=S.k4;rw[fm]at k4;simp[A160,hF,k4,aZ.aM];refine aE.of (λ t F K n ms=>∃i,t=s.tables.length - i/\i<=s.tables.length/\F.get 0=some (.jd 5)/\F.get 1=some (.ptr 4 0)/\F.get 8=some (aH.ds s.tables)/\F.get 9=some (zI (s.tables.length:Int))/\F.get 10=some (zI (i:Int))/\S85 s Fo (s.pg i 0) K n/\vw (s.pg i 0)/\ms=[]) s.tables.length ⟨0,ah,ah,by simp[hF],by simp[hF],ah,ah,ah,by rw[ao_];exact S,by simp[ao_,vw],rfl⟩ ?_;clear S k4 hF F K n;rintro t F K n ms ⟨i,rfl,hil,f0,f1,f8,f9,f10,S,hP,rfl⟩
 by_cases hlt:i<s.tables.length
 ·have hx:=aH.ix (ik:=.i64) hlt;have hld:=λ H=>aH.pQ s.tables[i] (aH.l (s.tables.drop (i+1))) H;have S1:=S.alloc (.cells 4 [] [.int .u32 0,.str [],.aV (.slice none 0 0),.int .u32 0] .nil) (.cells 4 [] (aH.cells s.tables[i]) .nil);obtain⟨rr,hrr⟩:=ao6 hlt;simp[NR,f8,f9,f10,hlt,hx,hld,aZ.av];generalize hK1:Tr.put (Tr.put K n _) n _=K1 at S1 ⊢;have kn:K1.get n=aR 4 (aH.cells s.tables[i]):=by rw[<-hK1];simp
  rw[eK]at kn;clear hK1;simp[acR,f0,kn];refine G0 s Fo (s.pg i 0) s.tables[i].head f2 f3 S1 (λ h0 hx K' n' S'=>?_) (λ hb K' n' X=>?_)
  ·simp[acQ,f0,f1,f8,f9,f10,aD i ae];refine⟨_,ae,i+1,rfl,hlt,rfl,?_,?_⟩
   ·rw[ao7 hlt];exact S'
   rw[ao7 hlt];exact hP.add h0 hx
  simp;exact .inr ⟨by rw[hrr];exact vw.bad hb,X⟩
 obtain rfl:i=s.tables.length:=ae;have k4:=S.k4;rw[fm]at k4;simp[NR,f9,f10,acP,f1,k4,aZ.aM];refine aE.of (λ t F K n ms=>∃i,t=s.indexes.length - i/\i<=s.indexes.length/\F.get 0=some (.jd 5)/\F.get 1=some (.ptr 4 0)/\F.get 21=some (bp.ds s.indexes)/\F.get 22=some (zI (s.indexes.length:Int))/\F.get 23=some (zI (i:Int))/\S85 s Fo (s.pg s.tables.length i) K n/\vw (s.pg s.tables.length i)/\ms=[]) s.indexes.length ⟨0,ah,ah,by simp[f0],by simp[f1],ah,ah,ah,S,hP,rfl⟩ ?_;clear S hP hil k4 f0 f1 f8 f9 f10 F K n;rintro t F K n ms ⟨i,rfl,hil,f0,f1,f8,f9,f10,S,hP,rfl⟩
 by_cases hlt:i<s.indexes.length
 ·have hx:=bp.ix (ik:=.i64) hlt;have hld:=λ H=>bp.pQ s.indexes[i] (bp.l (s.indexes.drop (i+1))) H;have S1:=S.alloc (.cells 6 [] [.int .u32 0,.int .u32 0,.str [],.aV (.slice none 0 0),.bool false,.int .u32 0] .nil) (.cells 6 [] (bp.cells s.indexes[i]) .nil);obtain⟨rr,hrr⟩:=ao8 hlt;simp[NQ,f8,f9,f10,hlt,hx,hld,aZ.av];generalize hK1:Tr.put (Tr.put K n _) n _=K1 at S1 ⊢;have kn:K1.get n=aR 6 (bp.cells s.indexes[i]):=by rw[<-hK1];simp
  rw[iT]at kn;clear hK1;simp[acO,f0,kn];refine G0 s Fo (s.pg s.tables.length i) s.indexes[i].root f2 f3 S1 (λ h0 hx K' n' S'=>?_) (λ hb K' n' X=>?_)
  ·simp[acN,f0,f1,f8,f9,f10,aD i ae];refine⟨_,ae,i+1,rfl,hlt,rfl,?_,?_⟩
   ·rw[ao9 hlt];exact S'
   rw[ao9 hlt];exact hP.add h0 hx
  simp;exact .inr ⟨by rw[hrr];exact vw.bad hb,X⟩
 obtain rfl:i=s.indexes.length:=ae;rw[aj6]at S hP;simp[NQ,f9,f10];exact .inl ⟨hP,S⟩
theorem aeQ (s:cn)(H:Hp)(n:Nat):ak pG 80 [kQ.av s] H n (λ v K k=>v=.fn (.func 160) [] [.ptr n 0]/\K=H.put n (aR 2 (kQ.cells s))/\k=n+1):=by
 refine ak.of c80 (by simp[A80]) λ F hF=>?_;simp[A80,hF,aZ.av]
structure KI (s:cn)(K:Hp)(n:Nat):Prop where
 k0:K.get 0=aR 2 (kQ.cells s)
 k1:K.get 1=aR 1 [.bool false]
 k6:K.get 6=some .jS
 n7:7<=n
 top:dh K n
theorem KI.alloc {s:cn}{K:Hp}{n:Nat}(S:KI s K n)(y z:bG):KI s ((K.put n (some y)).put n (some z)) (n+1):=by
 obtain⟨k0,k1,k6,n7,top⟩:=S;refine⟨?_,?_,?_,ae,?_⟩
 ·simp[show ¬ 0=n by omega,k0]
 ·simp[show ¬ 1=n by omega,k1]
 ·simp[show ¬ 6=n by omega,k6]
 intro b hb;simp[show ¬b=n by omega,top b ae]
theorem KI.re {s:cn}{K:Hp}{n:Nat}(S:KI s K n):KI s (K.put 1 (aR 1 [.bool false])) n:=by
 obtain⟨k0,k1,k6,n7,top⟩:=S;refine⟨by simp[k0],ah,by simp[k6],n7,λ b hb=>?_⟩;simp[show ¬b=1 by omega,top b hb]
def yH (l:List bK)(i:Nat):Int:=match (l.take i).getLast? with
 |some t=>t.id
 |none=>0
theorem Dq (l:List bK):yH l 0=0:=by simp[yH]
theorem Dn {l:List bK}{i:Nat}(h:i<l.length):yH l (i+1)=l[i].id:=by
 unfold yH;rw[take_add_one,cX h];simp only[Option.toList,getLast?_concat]
structure Zv (l:List bK)(i:Nat)(h:i<l.length):Prop where
 id:yH l i<l[i].id
 name:fF l[i].name
 cols:kg l[i].cols
 new:∀t∈l.take i,t.name≠l[i].name
def zx (l:List bK):Prop:=∀i h,Zv l i h
theorem akC (s:cn)(hs:s.gG)(F:Fr)(K:Hp)(n:Nat)(Q:QA)(S:KI s K n)(f1:F.get 1=some (.ptr 0 0))(f2:F.get 2=some (.ptr 1 0))(f5:F.get 5=some (.int .u32 0))(f39:F.get 39=some (aH.ds s.tables))(f40:F.get 40=some (zI (s.tables.length:Int)))(f41:F.get 41=some (zI 0))
  (hok:zx s.tables->∀F' K' n',KI s K' n'->F'.get 1=some (.ptr 0 0)->F'.get 2=some (.ptr 1 0)->Q .normal F' K' n' [.cG 6])
  (hbad:¬zx s.tables->∀F' K' n',KI s K' n'->F'.get 2=some (.ptr 1 0)->Q .ret F' K' n' [.cG 6]):aE S0 pG F K n [.cG 6] (jE 2 Q):=by
 have ht:=hs.t;unfold aU at ht;refine aE.of (λ t F K n ms=>∃i,t=s.tables.length - i/\i<=s.tables.length/\F.get 1=some (.ptr 0 0)/\F.get 2=some (.ptr 1 0)/\F.get 5=some (.int .u32 (yH s.tables i))/\F.get 39=some (aH.ds s.tables)/\F.get 40=some (zI (s.tables.length:Int))/\F.get 41=some (zI (i:Int))/\KI s K n/\(∀k,(h:k<s.tables.length)->k<i->Zv s.tables k h)/\ms=[.cG 6]) s.tables.length ⟨0,ah,ah,f1,f2,by simp[Dq,f5],f39,f40,by simp[f41],S,λ k _ h=>ae,rfl⟩ ?_;clear S f1 f2 f5 f39 f40 f41 F K n;rintro t F K n ms ⟨i,rfl,hil,f1,f2,f5,f39,f40,f41,S,hP,rfl⟩
 by_cases hlt:i<s.tables.length
 ·have hx := aH.ix (ik:=.i64) hlt;have hld:=λ H=>aH.pQ s.tables[i] (aH.l (s.tables.drop (i+1))) H;have S1:=S.alloc (.cells 4 [] [.int .u32 0,.str [],.aV (.slice none 0 0),.int .u32 0] .nil) (.cells 4 [] (aH.cells s.tables[i]) .nil);have hsl:=aH.Jj (l:=s.tables) (i:=i) hil;simp[S0,f39,f40,f41,hlt,hx,hld,aZ.av];generalize hK1:Tr.put (Tr.put K n _) n _=K1 at S1 ⊢;have kn:K1.get n=aR 4 (aH.cells s.tables[i]):=by rw[<-hK1];simp
  clear hK1;have Bw:=kn;rw[eK]at Bw;have k0:=S1.k0;rw[fm]at k0;have no:¬Zv s.tables i hlt->¬zx s.tables:=λ h h2=>h (h2 i hlt);have k1:=S1.k1;have hne:∀b,b<n->¬b=n:=λ b h=>ae
  by_cases h1:s.tables[i].id<=yH s.tables i
  ·simp[Lx,Bw,f5,h1,zB,f2,k1];refine hbad (no λ h=>ar h.id ae) _ _ _ S1.re ?_;simp[f2]
  simp[Lx,Bw,f5,h1];refine aB.pure (name44 s.tables[i].name) ?_
  by_cases h2:fF s.tables[i].name
  ·simp[h2,Bw];refine aB.pure (ag2 s.tables[i].cols) ?_
   by_cases h3:kg s.tables[i].cols
   ·simp[h3,f1,k0,wH,vM,hsl];refine aB.same (alQ (p:=λ d=>decide (d.name=s.tables[i].name)) (first:=[]) (cap:=[.ptr n 0]) (s.tables.take i) (by simp;unfold aU;omega) λ d _=>aov d s.tables[i] n K1 (n+1) kn S1.top) ?_
    by_cases h4:∃t∈s.tables.take i,t.name=s.tables[i].name
    ·have h4':((s.tables.take i).any λ d=>decide (d.name=s.tables[i].name))=true:=by simpa using h4
     simp[h4',zB,f2,k1];refine hbad (no λ h=>?_) _ _ _ S1.re ?_
     ·obtain⟨t,ht1,ht2⟩:=h4;exact h.new t ht1 ht2
     simp[f2]
    have h4':((s.tables.take i).any λ d=>decide (d.name=s.tables[i].name))=false:=by
     rw[Bool.eq_false_iff];intro h;exact h4 (by simpa using h)
    simp[h4',aa2,aa1,Bw,f1,f2,f39,f40,f41,aD i ae];refine⟨_,ae,i+1,rfl,hlt,by simp[Dn hlt],rfl,S1,λ k h hk=>?_⟩
    by_cases e:k=i
    ·subst e;exact⟨ae,h2,h3,λ t ht1 ht2=>h4 ⟨t,ht1,ht2⟩⟩
    exact hP k h ae
   simp[h3,zB,f2,k1];refine hbad (no λ h=>h3 h.cols) _ _ _ S1.re ?_;simp[f2]
  simp[h2,zB,f2,k1];refine hbad (no λ h=>h2 h.name) _ _ _ S1.re ?_;simp[f2]
 obtain rfl:i=s.tables.length:=ae;simp[S0,f40,f41];refine hok (λ k h=>hP k h h) _ _ _ S ?_ ?_
 ·simp[f1]
 simp[f2]
def yI (l:List pf)(i:Nat):Int:=match (l.take i).getLast? with
 |some t=>t.id
 |none=>0
theorem afp (l:List pf):yI l 0=0:=by simp[yI]
theorem afo {l:List pf}{i:Nat}(h:i<l.length):yI l (i+1)=l[i].id:=by
 unfold yI;rw[take_add_one,cX h];simp only[Option.toList,getLast?_concat]
structure amS (s:cn)(i:Nat)(h:i<s.indexes.length):Prop where
 id:yI s.indexes i<s.indexes[i].id
 name:fF s.indexes[i].name
 table:(s.table s.indexes[i].table).2=true
 cols:fX (s.table s.indexes[i].table).1 s.indexes[i].cols
 new:∀t∈s.indexes.take i,t.name≠s.indexes[i].name
def To (s:cn):Prop:=∀i h,amS s i h
theorem akB (s:cn)(hs:s.gG)(F:Fr)(K:Hp)(n:Nat)(Q:QA)(S:KI s K n)(f1:F.get 1=some (.ptr 0 0))(f2:F.get 2=some (.ptr 1 0))(f5:F.get 5=some (.int .u32 0))(f39:F.get 74=some (bp.ds s.indexes))(f40:F.get 75=some (zI (s.indexes.length:Int)))(f41:F.get 76=some (zI 0))
  (hok:To s->∀F' K' n',KI s K' n'->F'.get 1=some (.ptr 0 0)->F'.get 2=some (.ptr 1 0)->Q .normal F' K' n' [.cG 6])
  (hbad:¬To s->∀F' K' n',KI s K' n'->F'.get 2=some (.ptr 1 0)->Q .ret F' K' n' [.cG 6]):aE SZ pG F K n [.cG 6] (jE 4 Q):=by
 have ht:=hs.i;unfold aU at ht;refine aE.of (λ t F K n ms=>∃i,t=s.indexes.length - i/\i<=s.indexes.length/\F.get 1=some (.ptr 0 0)/\F.get 2=some (.ptr 1 0)/\F.get 5=some (.int .u32 (yI s.indexes i))/\F.get 74=some (bp.ds s.indexes)/\F.get 75=some (zI (s.indexes.length:Int))/\F.get 76=some (zI (i:Int))/\KI s K n/\(∀k,(h:k<s.indexes.length)->k<i->amS s k h)/\ms=[.cG 6]) s.indexes.length ⟨0,ah,ah,f1,f2,by simp[afp,f5],f39,f40,by simp[f41],S,λ k _ h=>ae,rfl⟩ ?_;clear S f1 f2 f5 f39 f40 f41 F K n;rintro t F K n ms ⟨i,rfl,hil,f1,f2,f5,f39,f40,f41,S,hP,rfl⟩
 by_cases hlt:i<s.indexes.length
 ·have hx := bp.ix (ik:=.i64) hlt;have hld:=λ H=>bp.pQ s.indexes[i] (bp.l (s.indexes.drop (i+1))) H;have S1:=S.alloc (.cells 6 [] [.int .u32 0,.int .u32 0,.str [],.aV (.slice none 0 0),.bool false,.int .u32 0] .nil) (.cells 6 [] (bp.cells s.indexes[i]) .nil);have hsl:=bp.Jj (l:=s.indexes) (i:=i) hil;simp[SZ,f39,f40,f41,hlt,hx,hld,aZ.av];generalize hK1:Tr.put (Tr.put K n _) n _=K1 at S1 ⊢;have kn:K1.get n=aR 6 (bp.cells s.indexes[i]):=by rw[<-hK1];simp
  clear hK1;have Bw:=kn;rw[iT]at Bw;have k0:=S1.k0;rw[fm]at k0;have no:¬amS s i hlt->¬To s:=λ h h2=>h (h2 i hlt);have h23:=aed s hs s.indexes[i].table;have hav:kQ.av s=.agg [aH.ds s.tables,bp.ds s.indexes] 2:=rfl;rw[hav]at h23;simp[aaY,f1,k0,Bw];refine aB.pure h23 ?_;have hcl:(s.table s.indexes[i].table).1.cols.length<=aU:=lG (Q:=λ t:bK=>t.cols.length<=aU) (by simp[bK.zero,aU]) hs.tc;have h48:=λ c=>W7 (s.table s.indexes[i].table).1 c hcl;generalize hT:s.table s.indexes[i].table=T at h48 hcl ⊢;obtain⟨t,ok⟩:=T;have S2:=S1.alloc (.cells 4 [] [.int .u32 0,.str [],.aV (.slice none 0 0),.int .u32 0] .nil) (.cells 4 [] (aH.cells t) .nil);simp[aZ.av];generalize hK2:Tr.put (Tr.put K1 (n+1) _) (n+1) _=K2 at S2 ⊢;have kn2:K2.get n=aR 6 (bp.cells s.indexes[i]):=by rw[<-hK2];simp[kn]
  have kt:K2.get (n+1)=aR 4 (aH.cells t):=by rw[<-hK2];simp
  clear hK2 kn Bw k0 S1;have Bw:=kn2;rw[iT]at Bw;have k0:=S2.k0;rw[fm]at k0;have k1:=S2.k1;have h48':=h48 s.indexes[i].cols;simp only[aZ.av]at h48'
  by_cases h1:s.indexes[i].id<=yI s.indexes i
  ·simp[Lu,Bw,f5,h1,vo,f2,k1];refine hbad (no λ h=>ar h.id ae) _ _ _ S2.re ?_;simp[f2]
  simp[Lu,Bw,f5,h1];refine aB.pure (name44 s.indexes[i].name) ?_
  by_cases h2:fF s.indexes[i].name
  ·cases ok with
   |false =>
    simp[h2,vo,f2,k1];refine hbad (no λ h=>?_) _ _ _ S2.re ?_
    ·have:=h.table;rw[hT]at this;simp at this
    simp[f2]
   |true =>
   simp[h2,Bw,kt];refine aB.pure h48' ?_
   by_cases h3:fX t s.indexes[i].cols
   ·simp[h3,f1,k0,wH,vM,hsl];refine aB.same (alR (p:=λ d=>decide (d.name=s.indexes[i].name)) (first:=[]) (cap:=[.ptr n 0]) (s.indexes.take i) (by simp;unfold aU;omega) λ d _=>apV d s.indexes[i] n K2 (n+1+1) kn2 S2.top) ?_
    by_cases h4:∃t∈s.indexes.take i,t.name=s.indexes[i].name
    ·have h4':((s.indexes.take i).any λ d=>decide (d.name=s.indexes[i].name))=true:=by simpa using h4
     simp[h4',vo,f2,k1];refine hbad (no λ h=>?_) _ _ _ S2.re ?_
     ·obtain⟨t,ht1,ht2⟩:=h4;exact h.new t ht1 ht2
     simp[f2]
    have h4':((s.indexes.take i).any λ d=>decide (d.name=s.indexes[i].name))=false:=by
     rw[Bool.eq_false_iff];intro h;exact h4 (by simpa using h)
    simp[h4',aaX,aaW,Bw,f1,f2,f39,f40,f41,aD i ae];refine⟨_,ae,i+1,rfl,hlt,by simp[afo hlt],rfl,S2,λ k h hk=>?_⟩
    by_cases e:k=i
    ·subst e;exact⟨ae,h2,by rw[hT],by rw[hT];exact h3,λ t ht1 ht2=>h4 ⟨t,ht1,ht2⟩⟩
    exact hP k h ae
   simp[h3,vo,f2,k1];refine hbad (no λ h=>h3 ?_) _ _ _ S2.re ?_
   ·have:=h.cols;rwa [hT]at this
   simp[f2]
  simp[h2,vo,f2,k1];refine hbad (no λ h=>h2 h.name) _ _ _ S2.re ?_;simp[f2]
 obtain rfl:i=s.indexes.length:=ae;simp[SZ,f40,f41];refine hok (λ k h=>hP k h h) _ _ _ S ?_ ?_
 ·simp[f1]
 simp[f2]
@[simp] theorem atr (b:Nat):(AV.map b).len=1:=rfl
@[simp] theorem ank (b:Nat):(AV.map b).cells=[.map b]:=rfl
@[simp] theorem atq (b:Nat):(AV.map b).one=true:=rfl
structure eW (s:cn):Prop where
 t:s.tables.length<=32
 i:s.indexes.length<=64
 pages:vw s.pages
 tabs:zx s.tables
 ixs:To s
theorem ag4 (s:cn) (hs:s.gG):aj pG 37 [kQ.av s] (.bool (decide (eW s))):=by
 refine pv c37 λ F hF=>?_
 by_cases h1:32<s.tables.length
 ·have:¬eW s:=λ h=>ar h.t ae;simp[A37,hF,aZ.av,fm,aZ.aM,show (32:Int)<(s.tables.length:Int) by omega];exact .bool (by simp[this])
 have h1':¬(32:Int)<(s.tables.length:Int):=ae
 by_cases h2:64<s.indexes.length
 ·have:¬eW s:=λ h=>ar h.i ae;simp[A37,hF,aZ.av,fm,aZ.aM,h1',show (64:Int)<(s.indexes.length:Int) by omega];exact .bool (by simp[this])
 have h2':¬(64:Int)<(s.indexes.length:Int):=ae;simp[A37,hF,aZ.av,fm,aZ.aM,h1',h2',lJ];refine aB.of (aeQ s _ _) ?_;rintro v K n ⟨rfl,rfl,rfl⟩;simp;refine KJ.of ?_;generalize hF1:(Fp 24 _ _:Fr)=F1;have f1:F1.get 1=some (.ptr 0 0):=by rw[<-hF1];simp
 have f2:F1.get 2=some (.ptr 1 0):=by rw[<-hF1];simp
 have f3:F1.get 3=some (.ptr 3 0):=by rw[<-hF1];simp
 clear hF1 hF F;refine ak.mono (aeP s hs F1 _ _ f2 f3 ?_) ?_
 ·refine⟨by simp[fm],ah,by simp[OU],ah,ah,ah,ah,ae,λ b hb=>?_⟩;simp[show ¬b=0 by omega,show ¬b=1 by omega,show ¬b=2 by omega,show ¬b=3 by omega,show ¬b=4 by omega,show ¬b=5 by omega,show ¬b=6 by omega]
 rintro v K n (⟨hp,S⟩|⟨hp,X⟩)
 ·refine⟨_,_,_,_,_,_,_,S.k5,ah,ah,?_⟩
  have S1:KI s (K.put 5 none) n:=⟨by simp[S.k0],by simp[S.k1],by simp[S.k6],S.n7,λ b hb=>by
   have:=S.n7;simp[show ¬b=5 by omega,S.top b hb]⟩
  clear S;generalize Tr.put K 5 none=K1 at S1 ⊢;have k0:=S1.k0;rw[fm]at k0;simp[aiy,aa3,f1,k0,aZ.aM];refine akC s hs _ _ _ _ S1 (by simp[f1]) (by simp[f2]) ah ah ah ah (λ ht F' K' n' S' g1 g2=>?_) (λ ht F' K' n' S' g2=>?_)
  ·have k0:=S'.k0;rw[fm]at k0;simp[aa0,aaZ,g1,k0,aZ.aM];refine akB s hs _ _ _ _ S' (by simp[g1]) (by simp[g2]) ah ah ah ah (λ hi F3 K3 n3 S3 w1 w2=>?_) (λ hi F3 K3 n3 S3 w2=>?_)
   ·have:eW s:=⟨ae,ae,hp,ht,hi⟩;have k1:=S3.k1;have k6:=S3.k6;simp[aaV,w2,k1,k6];exact .bool (by simp[this])
   have:¬eW s:=λ h=>hi h.ixs;have k1:=S3.k1;have k6:=S3.k6;simp[w2,k1,k6];exact .bool (by simp[this])
  have:¬eW s:=λ h=>ht h.tabs;have k1:=S'.k1;have k6:=S'.k6;simp[g2,k1,k6];exact .bool (by simp[this])
 obtain⟨k1,⟨nt,G,ps,a,b,k5⟩,k6⟩:=X;have:¬eW s:=λ h=>hp h.pages;refine⟨_,_,_,_,_,_,_,k5,ah,ah,?_⟩;simp[f2,k1,k6];exact .bool (by simp[this])
end Go.Abs
