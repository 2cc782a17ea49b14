/- A part. -/
import Derived.Test.YtfdoeenlgkkaiaaGreatBt3
noncomputable section
namespace Go.Abs
open List
open Go.Proofs
open Classical
set_option maxRecDepth 100000
structure WkI (H0:Hp)(n b w p:Nat)(v1 v2:AV)(op:Int)(ec:List AV)(args:List Ex)(A:List Ex×List Int×Int)(i:Nat)(va vk:AV)(F:Fr)(K:Hp)(mm:Nat):Prop where
 hi:i<=args.length
 f2:F.get 2=some (.ptr b 0)
 f4:F.get 4=some (.ptr w 0)
 f5:F.get 5=some (.ptr n 0)
 f6:F.get 6=some (.ptr (n+1) 0)
 f10:F.get 10=some (.ptr (n+2) 0)
 f11:F.get 11=some vk
 f55:F.get 55=some (.ds (Ex.aI args) args.length 8)
 f56:F.get 56=some (.int .i64 (args.length:Int))
 f57:F.get 57=some (.int .i64 (i:Int))
 hmm:n+3<=mm
 tp:cS K mm
 kf:∀c,c<n->c≠p->K.get c=H0.get c
 kp:K.get p=some (rL v1 v2 A.2.2)
 kn:K.get n=some (.cells 8 [] ec .nil)
 kr:K.get (n+1)=some (.cells 8 [] [.int .i64 0,.int .i64 0,.int .i64 0,.str [],.str [],.str [],.int .i64 0,.ak (.slice none 0 0)] .nil)
 ko:K.get (n+2)=some (.cells 8 [] [.int .i64 op,.int .i64 0,.int .i64 0,.str [],.str [],.str [],.int .i64 0,va] .nil)
 oa:ar K mm va (Ex.aI A.1) i 8
 ok:ar K mm vk (bU A.2.1) i 1
 da:∀c,blk va=some c->n+3<=c/\blk vk≠some c
 dk:∀c,blk vk=some c->n+3<=c
theorem O5 (ns:List (List Nat)) (ts:List aR) (v1 v2:AV) (hv1:Pure v1) (hv2:Pure v2) (hn:ns.length=ts.length) (hl:(aj ts).length<=lim) (ht:ts.length<=lim) (hc:∀t∈ts,t.ae.length<=lim):
  ∀(N:Nat) (e:Ex) (err:Int) (H:Hp) (n s b k w p:Nat),e.sz<=N->N<=lim->e.may=true->WkS H n ns ts s b k w p v1 v2 err ->
   bT pG 106 [e.av,.ptr s 0,.ptr b 0,.ptr k 0,.ptr w 0] H n (.bg [(e.bd ns ts err).1.av,.int .i64 (e.bd ns ts err).2.1]) (H.put p (some (rL v1 v2 (e.bd ns ts err).2.2))) n
 | 0,e,_,_,_,_,_,_,_,_,h,_,_,_=>by have:=Ex.gd e;omega
 | N + 1,.mk op v t m cu args,err,H,n,s,b,k,w,p,hsz,hN,iK,hs=>by
  obtain⟨ns1,ns2,ns3,ns4⟩:=hs.ne;have hlt:=hs.ls;have hlb:=hs.lb;have hlk:=hs.lk;have hlw:=hs.lw;have hlp:=hs.lp;have hpu:=Ex.oU (.mk op v t m cu args);refine aH.okB (p:=p) [s,b,k,w,p] (by simp) (by simp[Ex.av,hpu.kA,hlt,hlb,hlk,hlw]) (by simp[hlt,hlb,hlk,hlw,hlp]) ?_ (dT (by simp[hv1.kA,hv2.kA])) ?_
  ·intro c hm y hy;simp only[mem_cons,not_mem_nil,or_false]at hm
   rcases hm with rfl | rfl | rfl | rfl | rfl
   ·rw[hs.hs]at hy;injection hy with hy;subst hy;exact dT (aL.kA (by simp[ju]))
   ·rw[hs.hb]at hy;injection hy with hy;subst hy;exact dT (by simp[hlp])
   ·rw[hs.hk]at hy;injection hy with hy;subst hy;exact dT (aL.kA (by simp))
   ·rw[hs.hw]at hy;injection hy with hy;subst hy;exact dT (by simp[ky,hlt,hlb,hlk,hlw])
   rw[hs.hp]at hy;injection hy with hy;subst hy;exact dT (by simp[hv1.kA,hv2.kA])
  intro H0 htop hin;have hs0:WkS H0 n ns ts s b k w p v1 v2 err:=⟨(hin _ (by simp)).trans hs.hs,(hin _ (by simp)).trans hs.hb,(hin _ (by simp)).trans hs.hk,(hin _ (by simp)).trans hs.hw,(hin _ (by simp)).trans hs.hp,hlt,hlb,hlk,hlw,hlp⟩;clear hin hs;have ps:=dj hlt;have pb:=dj hlb;have pk:=dj hlk;have pp:=dj hlp;have pp':=Aj hlp
  by_cases h2:op=2
  ·have hpl:=aak ns ts t m hn hl ht hc;refine aH.of c106 (by simp[A106]) λ F hF=>?_;simp[A106,B106,CK,CJ,Y3,hF,Ex.av,Ex.cells,h2,hs0.hs,ps];refine ao.pure hpl ?_;have hpS:eN t m (ns.zip ts) 0 (-1) false=iE ns ts t m:=rfl;rw[hpS];generalize hq:iE ns ts t m=q;obtain⟨q1,q2⟩:=q;simp[Y2,hF,hs0.hb,pb];generalize hH1:Tr.put _ (n+1) _=H1;have k1:∀c,c<n->H1.get c=H0.get c:=λ c hc=>by rw[<-hH1];simp[dj hc]
   have k2:H1.get n=some (.cells 8 [] (Ex.mk 2 v t m cu args).cells .nil):=by rw[<-hH1];simp[Ex.cells]
   have k3:H1.get (n+1)=some (.cells 8 [] [.int .i64 0,.int .i64 0,.int .i64 0,.str [],.str [],.str [],.int .i64 0,.ak (.slice none 0 0)] .nil):=by rw[<-hH1];simp
   clear hH1;refine ao.ok (Gb p v1 v2 err q2 (!decide (q2=0)) H1 (n+1+1) hv1 hv2 (by omega) ((k1 p hlp).trans hs0.hp)) ?_
   by_cases hf:q2=0
   ·subst hf;have hlt2:=yC hn (table:=t) (name:=m) (by rw[hq]);rw[hq]at hlt2;obtain⟨hq1,hq3⟩:=hlt2;obtain⟨i,hi⟩:∃i:Nat,q1=(i:Int):=⟨q1.toNat,by omega⟩;subst hi;have hil:i<(aj ts).length:=by simp at hq3;omega
    have kb1:=(k1 k hlk).trans hs0.hk;simp[Ja];refine bY.of (bH (P:=pG)) ?_;simp[aa,hF,pp,pp',pk,ns3,k3,kb1,lI hil];have hb:(Ex.mk 2 v t m cu args).bd ns ts err=(.mk 3 ⟨0,0,[]⟩ [] [] (i:Int) [],(aj ts)[i],err):=by simp[Ex.bd,hq,getD,hil]
    rw[hb];refine⟨Ex.aoR (Ex.uw (v:=⟨0,0,[]⟩) (.nil 7)),λ c h1 h3=>?_,.inl (by simp[rL,keep])⟩;simp[dj h1,h3,k1 c h1]
   simp[Ja,Y1,hf,k2,k3,pp',Ex.cells];have hb:(Ex.mk 2 v t m cu args).bd ns ts err=(.mk 2 v t m cu args,0,keep err q2 true):=by simp[Ex.bd,hq,hf]
   rw[hb];refine⟨.pure _ (by simp),λ c h1 h3=>?_,rL v1 v2 (keep err q2 true),by simp[pp,rL],.inl rfl⟩;simp[dj h1,h3,k1 c h1]
  by_cases h1:op=1
  ·have hb:(Ex.mk op v t m cu args).bd ns ts err=(.mk op v t m cu args,v.kind,err):=by simp[Ex.bd,h1]
   rw[hb];refine aH.of c106 (by simp[A106]) λ F hF=>?_;simp[A106,B106,CK,CJ,I9,hF,Ex.av,Ex.cells,h1];refine bY.of (bH (P:=pG)) ?_;simp[aa];subst h1;refine⟨.pure _ (by simp),λ c h1 h3=>?_,rL v1 v2 err,by simp[pp,hs0.hp],.inl rfl⟩;simp[dj h1]
  have hb:(Ex.mk op v t m cu args).bd ns ts err=(.mk op ⟨0,0,[]⟩ [] [] 0 (Ex.ig ns ts args err).1,(dA op).1.kind,keep (Ex.ig ns ts args err).2.2 203 (!(dA op).1.fits (Ex.ig ns ts args err).2.1)):=by rw[Ex.bd,if_neg h2,if_neg h1]
  rw[hb];have hla:=Ex.jf args
  have hml:Ex.oJ args=true/\(args.length:Int)=(if op<=7 then 1 else 2)/\4<=op/\op<=21:=by
   rw[Ex.may,if_neg h1,if_neg h2]at iK;simp only[Bool.and_eq_true,decide_eq_true_eq]at iK;exact⟨iK.2.2.2,iK.2.1,iK.1⟩
  obtain⟨hma,hln,ho1,ho2⟩:=hml;simp only[Ex.sz]at hsz;unfold lim at hN;refine aH.of c106 (by simp[A106]) λ F hF=>?_;simp[A106,B106,CK,CJ,I9,Y0,Ms,Mr,hF,Ex.av,Ex.cells,h1,h2];generalize hH1:Tr.put _ (n+1+1) _=H1;have k0:∀c,c<n->H1.get c=H0.get c:=λ c hc=>by rw[<-hH1];simp[dj hc]
  have k1:H1.get n=some (.cells 8 [] (Ex.mk op v t m cu args).cells .nil):=by rw[<-hH1];simp[Ex.cells]
  have k2:H1.get (n+1)=some (.cells 8 [] [.int .i64 0,.int .i64 0,.int .i64 0,.str [],.str [],.str [],.int .i64 0,.ak (.slice none 0 0)] .nil):=by rw[<-hH1];simp
  have k3:H1.get (n+2)=some (.cells 8 [] [.int .i64 op,.int .i64 0,.int .i64 0,.str [],.str [],.str [],.int .i64 0,.ak (.slice none 0 0)] .nil):=by rw[<-hH1];simp
  have k4:cS H1 (n+3):=λ c hc=>by
   have q1:¬c=n:=by omega
   have q2:¬c=n+1:=by omega
   have q3:¬c=n+2:=by omega
   rw[<-hH1];simp[q1,q2,q3,htop c (by omega)]
  clear hH1
  refine au.of (λ q F K mm ms=>∃(i:Nat) (va vk:AV),q=args.length - i/\WkI H0 n b w p v1 v2 op ((Ex.mk op v t m cu args).cells) args (Ex.ig ns ts (args.take i) err) i va vk F K mm/\ms=[]) args.length
   ⟨0,.ak (.slice none 0 0),.ak (.slice none 0 0),by simp,⟨by simp,by simp[hF],by simp[hF],by simp,by simp,by simp,by simp,by simp,by simp,by simp,by omega,k4,λ c hc _=>k0 c hc,by simpa[Ex.ig]using(k0 p hlp).trans hs0.hp,k1,k2,k3,by simpa[Ex.ig,Ex.aI]using ar.nil _ _ 8,by simpa[Ex.ig,bU]using ar.nil _ _ 1,by simp,by simp⟩,rfl⟩ ?_
  clear hF F k0 k1 k2 k3 k4 H1;rintro q F K mm ms ⟨i,va,vk,rfl,I,rfl⟩;have f2:=I.f2;have f4:=I.f4;have f5:=I.f5;have f6:=I.f6;have f10:=I.f10;have f11:=I.f11;have f55:=I.f55;have f56:=I.f56;have f57:=I.f57;have hmm:=I.hmm
  by_cases hlt2:i<args.length
  ·have hx:=jM (k:=.i64) hlt2;have hsm:=Ex.lr (getElem_mem hlt2);have hwk:=(I.kf w hlw ns4).trans hs0.hw;have mw:=dj (show w<mm by omega);simp[Jm,CI,Mq,Mp,f4,f55,f56,f57,hlt2,hx,hwk,mw];generalize hK1:Tr.put _ mm (some (bI.cells 8 [] args[i].cells Ov.nil))=K1;have g1:∀c,c<mm->K1.get c=K.get c:=λ c hc=>by rw[<-hK1];simp[dj hc]
   have t1:cS K1 (mm+1):=λ c hc=>by
    have q1:¬c=mm:=by omega
    rw[<-hK1];simp[q1,I.tp c (by omega)]
   clear hK1;have hs1:WkS K1 (mm+1) ns ts s b k w p v1 v2 (Ex.ig ns ts (args.take i) err).2.2:=hs0.next (by omega) (λ c h3 h4=>(g1 c (by omega)).trans (I.kf c h3 h4)) ((g1 p (by omega)).trans I.kp);refine ao.ok (O5 ns ts v1 v2 hv1 hv2 hn hl ht hc N args[i] _ K1 (mm+1) s b k w p (by omega) (by unfold lim;omega) (Ex.Dy hma i hlt2) hs1) ?_;have htk:=Ex.Es ns ts hlt2 err;have hlen:=Ex.uA ns ts (args.take i) err;generalize hA:Ex.ig ns ts (args.take i) err=A at I hs1 htk hlen ⊢;generalize hX:args[i].bd ns ts A.2.2=X at htk ⊢;obtain⟨x1,kd,er⟩:=X;obtain⟨xs,ks,er0⟩:=A;simp only at htk hlen;have oa:=I.oa;have ok:=I.ok;have NX:=(g1 (n+2) (by omega)).trans I.ko;have q1:(n+2=p)=False:=by simp only[eq_iff_iff,iff_false];omega
   have q2:(n+1=mm)=False:=by simp only[eq_iff_iff,iff_false];omega
   simp[Mo,f10,NX,q1,q2];generalize hK3:Tr.put _ (mm+1+1) _=K3;have e3:∀c,c<mm->c≠p->K3.get c=K.get c:=λ c h3 h4=>by rw[<-hK3];simp[dj h3,h4,g1 c h3]
   have p3:K3.get p=some (rL v1 v2 er):=by rw[<-hK3];simp[dj (show p<mm by omega)]
   have x3:K3.get (mm+1+1)=some (.cells 8 [] x1.cells .nil):=by rw[<-hK3];simp
   have t3:cS K3 (mm+1+1+1):=λ c hc=>by
    have r1:¬c=mm+1+1:=by omega
    have r2:¬c=mm+1:=by omega
    have r3:¬c=p:=by omega
    rw[<-hK3];simp[r1,r2,r3,t1 c (by omega)]
   clear hK3;have oa3:ar K3 (mm+1+1+1) va (Ex.aI xs) i 8:=oa.frame (by omega) λ c hc=>e3 c (oa.aK hc) (by have:=(I.da c hc).1;omega);have ok3:ar K3 (mm+1+1+1) vk (bU ks) i 1:=ok.frame (by omega) λ c hc=>e3 c (ok.aK hc) (by have:=I.dk c hc;omega);refine ar.jr (k:=1) (new:=x1.cells) oa3 (aB x3) (by simp) (by simp) (by omega) (by omega) (by unfold big;omega) (by omega) (by simp) λ K4 o4 g4=>?_;have ok4:ar K4 (mm+1+1+1) vk (bU ks) i 1:=ok3.frame (by omega) λ c hc=>g4 c (by have:=ok.aK hc;omega) λ h=>(I.da c h).2 hc;have e4:∀c,c<mm->c≠p->blk va≠some c->K4.get c=K.get c:=λ c h3 h4 h5=>(g4 c (by omega) h5).trans (e3 c h3 h4);have p4:K4.get p=some (rL v1 v2 er):=(g4 p (by omega) λ h=>by have:=(I.da p h).1;omega).trans p3;have t4:cS K4 (mm+1+1+1+1):=λ c hc=>(g4 c (by omega) λ h=>by have:=oa.aK h;omega).trans (t3 c (by omega));clear g4 e3 p3 x3 t3 oa3 ok3;simp[f11];generalize j8:Tr.put K4 (mm+1+1+1+1) _=K5;have g5:∀c,c<mm+1+1+1+1->K5.get c=K4.get c:=λ c h3=>by rw[<-j8];simp[dj h3]
   have x5:K5.get (mm+1+1+1+1)=some (.cells 1 [] (bU [kd]) .nil):=by rw[<-j8];simp[bU]
   have t5:cS K5 (mm+1+1+1+1+1):=λ c hc=>by
    have r1:¬c=mm+1+1+1+1:=by omega
    rw[<-j8];simp[r1,t4 c (by omega)]
   clear j8;have JG:ar K5 (mm+1+1+1+1+1) (.sl (mm+1+1+1) 0 (i+1) 8) (Ex.aI xs++x1.cells) (i+1) 8:=o4.frame (by omega) λ c hc=>g5 c (by simp at hc;omega);have ok5:ar K5 (mm+1+1+1+1+1) vk (bU ks) i 1:=ok4.frame (by omega) λ c hc=>g5 c (by have:=ok.aK hc;omega);refine ar.jr (k:=1) (new:=bU [kd]) ok5 (by rw[fU x5 (fe.list (by simp)) (by simp)];simp[bU]) (by simp) (by simp) (by omega) (by omega) (by unfold big;omega) (by omega) (by simp) λ K6 o6 g6=>?_;have Qu:ar K6 (mm+1+1+1+1+1+1) (.sl (mm+1+1+1) 0 (i+1) 8) (Ex.aI xs++x1.cells) (i+1) 8:=JG.frame (by omega) λ c hc=>g6 c (by simp at hc;omega) λ h=>by have:=ok.aK h;simp at hc;omega
   have e6:∀c,c<mm->c≠p->blk va≠some c->blk vk≠some c->K6.get c=K.get c:=λ c h3 h4 h5 h6=>(g6 c (by omega) h6).trans ((g5 c (by omega)).trans (e4 c h3 h4 h5));have p6:K6.get p=some (rL v1 v2 er):=(g6 p (by omega) λ h=>by have:=I.dk p h;omega).trans ((g5 p (by omega)).trans p4);have t6:cS K6 (mm+1+1+1+1+1+1):=λ c hc=>(g6 c (by omega) λ h=>by have:=ok.aK h;omega).trans (t5 c (by omega));have na:∀c,c<n+3->blk va≠some c:=λ c h3 h=>by have:=(I.da c h).1;omega
   have nk:∀c,c<n+3->blk vk≠some c:=λ c h3 h=>by have:=I.dk c h;omega
   have ko6:=(e6 (n+2) (by omega) (by omega) (na _ (by omega)) (nk _ (by omega))).trans I.ko;clear g6 g5 JG ok5 t5 t4 p4 e4 ok4 o4;simp[ko6,f10,Mn,f57,ah i (by omega)];have qq:∀c,c≠n+2->(K6.put (n+2) (some (bI.cells 8 [] [.int .i64 op,.int .i64 0,.int .i64 0,.str [],.str [],.str [],.int .i64 0,.sl (mm+1+1+1) 0 (i+1) 8] .nil))).get c=K6.get c:=λ c h3=>by simp[h3]
   refine⟨args.length - (i+1),by omega,i+1,rfl,.sl (mm+1+1+1) 0 (i+1) 8,.sl (mm+1+1+1+1+1) 0 (i+1) 1,?_⟩;rw[htk];refine⟨hlt2,by simp[f2],by simp[f4],by simp[f5],by simp[f6],by simp[f10],by simp,by simp[f55],by simp[f56],by simp,by omega,λ c h3=>(qq c (by omega)).trans (t6 c h3),λ c h3 h4=>(qq c (by omega)).trans ((e6 c (by omega) h4 (na c (by omega)) (nk c (by omega))).trans (I.kf c h3 h4)),(qq p (by omega)).trans p6,(qq n (by omega)).trans ((e6 n (by omega) (by omega) (na n (by omega)) (nk n (by omega))).trans I.kn),(qq (n+1) (by omega)).trans ((e6 (n+1) (by omega) (by omega) (na (n+1) (by omega)) (nk (n+1) (by omega))).trans I.kr),by simp,?_,?_,by simp;omega,by simp;omega⟩
   ·have:=Qu.frame (H':=(K6.put (n+2) (some (bI.cells 8 [] [.int .i64 op,.int .i64 0,.int .i64 0,.str [],.str [],.str [],.int .i64 0,.sl (mm+1+1+1) 0 (i+1) 8] .nil)))) (Nat.le_refl _) λ c hc=>qq c (by simp at hc;omega);simpa[Ex.fZ,Ex.aI]using this
   have:=o6.frame (H':=(K6.put (n+2) (some (bI.cells 8 [] [.int .i64 op,.int .i64 0,.int .i64 0,.str [],.str [],.str [],.int .i64 0,.sl (mm+1+1+1) 0 (i+1) 8] .nil)))) (Nat.le_refl _) λ c hc=>qq c (by simp at hc;omega);simpa[qU]using this
  have hie:i=args.length:=by have:=I.hi;omega
  subst hie;rw[take_length]at I;have hlen:=Ex.uA ns ts args err
  have hfit:(dA op).1.any=true->(dA op).1.alike=true->2<=(Ex.ig ns ts args err).2.1.length:=by
   intro ha hk;rw[hlen.2]
   by_cases h7:op<=7
   ·have:op=4∨op=5∨op=6∨op=7:=by omega
    rcases this with h | h | h | h<;>subst h<;>simp[dA]at ha hk
   rw[if_neg h7]at hln;omega
  generalize hA:Ex.ig ns ts args err=A at I hlen hfit ⊢;obtain⟨xs,ks,er⟩:=A;have ft:=ajP (dA op).1 ks (by simp at hlen;rw[hlen.2];unfold lim;omega) hfit;have hwp:=CZ op;simp[Jm,CI,Mm,f56,f57,f5,I.kn,Ex.cells];refine ao.pure hwp ?_;generalize hw:dA op=W at ft ⊢;obtain⟨⟨w1,w2,w3,w4,w5⟩,wb⟩:=W;simp[Want.av];generalize Oc:Tr.put _ mm (some (bI.cells 5 [] [.int .i64 w1,.int .i64 w2,.int .i64 w3,.bool w4,.bool w5] .nil))=K7;have g7:∀c,c<mm->K7.get c=K.get c:=λ c hc=>by rw[<-Oc];simp[dj hc]
  have x7:K7.get mm=some (.cells 5 [] [.int .i64 w1,.int .i64 w2,.int .i64 w3,.bool w4,.bool w5] .nil):=by rw[<-Oc];simp
  have t7:cS K7 (mm+1):=λ c hc=>by
   have q1:¬c=mm:=by omega
   rw[<-Oc];simp[q1,I.tp c (by omega)]
  clear Oc;have oa7:ar K7 (mm+1) va (Ex.aI xs) args.length 8:=I.oa.frame (by omega) λ c hc=>g7 c (I.oa.aK hc);have ok7:ar K7 (mm+1) vk (bU ks) args.length 1:=I.ok.frame (by omega) λ c hc=>g7 c (I.ok.aK hc);have hb7:=(g7 b (by omega)).trans ((I.kf b hlb ns2).trans hs0.hb);have p7:=(g7 p (by omega)).trans I.kp;have o7:=(g7 (n+2) (by omega)).trans I.ko;have r7:=(g7 (n+1) (by omega)).trans I.kr;have pp7:(p=mm)=False:=by simp only[eq_iff_iff,iff_false];omega
  have pp8:(mm=p)=False:=by simp only[eq_iff_iff,iff_false];omega
  have bp8:(b=p)=False:=by simp[ns2]
  simp only at hlen;rw[hlen.2]at ft;have hfl:=Gb p v1 v2 er 203 (!(Want.mk w1 w2 w3 w4 w5).fits ks) K7 (mm+1) hv1 hv2 (by omega) p7;simp only[Ml,cH];refine bY.of (fP (l:=[⟨109,[Want.av ⟨w1,w2,w3,w4,w5⟩,vk],K7,mm+1,.bool ((Want.mk w1 w2 w3 w4 w5).fits ks),K7,mm+1⟩,⟨16,[.ptr p 0,.int .i64 203,.bool (!(Want.mk w1 w2 w3 w4 w5).fits ks)],K7,mm+1,.bg [],K7.put p (some (rL v1 v2 (keep er 203 (!(Want.mk w1 w2 w3 w4 w5).fits ks)))),mm+1⟩]) ?_) ?_
  ·simp only[mem_cons,not_mem_nil,or_false];rintro c (rfl | rfl)
   ·exact ft.abz (by simp) _ (.cons _ _ _ _ (.pure _ (by simp)) (.cons _ _ _ _ (ok7.uw (aN.pure (by simp)) (by omega)) .nil))
   exact hfl
  have e2:∀l c1 c2,(Kk [⟨109,l,K7,mm+1,.bool ((Want.mk w1 w2 w3 w4 w5).fits ks),K7,mm+1⟩,⟨16,[.ptr p 0,.int .i64 203,.bool (!(Want.mk w1 w2 w3 w4 w5).fits ks)],K7,mm+1,.bg [],K7.put p (some (rL v1 v2 (keep er 203 (!(Want.mk w1 w2 w3 w4 w5).fits ks)))),mm+1⟩]).call 16 c1 K7 c2=(Kk [⟨16,[.ptr p 0,.int .i64 203,.bool (!(Want.mk w1 w2 w3 w4 w5).fits ks)],K7,mm+1,.bg [],K7.put p (some (rL v1 v2 (keep er 203 (!(Want.mk w1 w2 w3 w4 w5).fits ks)))),mm+1⟩]).call 16 c1 K7 c2:=λ l c1 c2=>Bh (by decide);simp[aa,f2,f11,x7,hb7,Want.av,fQ,e2];generalize (keep er 203 (!(Want.mk w1 w2 w3 w4 w5).fits ks))=er';have k8:∀c,c≠p->(K7.put p (some (rL v1 v2 er'))).get c=K7.get c:=λ c hc=>by simp[hc]
  have p8:(K7.put p (some (rL v1 v2 er'))).get p=some (rL v1 v2 er'):=by simp
  generalize K7.put p (some (rL v1 v2 er'))=K8 at k8 p8 ⊢;have o8:=(k8 (n+2) (by omega)).trans o7;have r8:=(k8 (n+1) (by omega)).trans r7;have x8:=(k8 mm (by omega)).trans x7;have q1:(mm=n+1)=False:=by simp only[eq_iff_iff,iff_false];omega
  have q2:(p=n+1)=False:=by simp only[eq_iff_iff,iff_false];omega
  simp only[Mk,cH];refine bY.of (bH (P:=pG)) ?_;simp[aa,f6,f10,o8,r8,x8,q1,q2,p8,I.oa.dO];refine⟨Ex.aoR (Ex.uw (v:=⟨0,0,[]⟩) ?_),λ c h3 h4=>?_,.inl rfl⟩
  ·have oa8:ar (K8.put (n+1) (some (bI.cells 8 [] [.int .i64 op,.int .i64 0,.int .i64 0,.str [],.str [],.str [],.int .i64 0,va] .nil))) (mm+1) va (Ex.aI xs) args.length 8:=oa7.frame (Nat.le_refl _) λ c hc=>by
    have:=(I.da c hc).1;have r1:¬c=n+1:=by omega
    simp[r1,k8 c (by omega)]
   rw[hlen.1];exact oa8.vK (λ c hc=>by have:=(I.da c hc).1;omega) (aN.pure (Ex.u3 xs)) (by omega)
  have r1:¬c=n+1:=by omega
  simp[r1,k8 c h4,g7 c (by omega),I.kf c h3 h4]
def clC (z:List AV)(sz jV:Nat):CF:={res:=[aP 2],code:=.seq (.reg [oP (aM 2) (eF (aF (.ak (.slice none 0 0))))]) (.seq (.seq (.reg [oP (aM 3) (eF (aC 0)),oP (aM 4) (e2 (bl false .slice) (aC 3) (aF (.ak (.slice none 0 0))))]) (.cond (aC 4) (.seq (.reg [oP (aM 2) (eF (aF (.ak (.slice none 0 0))))]) .ret) .skip)) (.seq (.reg [oP (aM 5) (aO z 0 sz []),oP (aM 6) (eF (aC 0)),oP (aM 7) (dG sz jV (aC 5) (aC 6)),oP (aM 2) (eF (aC 7))]) .ret)),nt:=8}
theorem El {g:FuncId}{z:List AV}{sz jV:Nat}(hc:cG pG g=some (clC z sz jV))(hs:0<sz)(hz:sz<=64)(hby:jV<=4096)(cs:List AV)(len:Nat)(hl:len<=lim)(hcs:cs.length=len*sz)(hp:aL cs)(h1:bm cs=true):ai pG g [.ds cs len sz] (.ds cs len sz):=by
 refine ai.ofR (by simp[hp]) (by simp[hp]) ?_
 have A:len=0->aH pG g [.ak (.slice none 0 0)] .nil 0 (λ v1 H' _=>dU H'.get v1 (.ds cs len sz)):=λ h0=>by
  subst h0;have:cs=[]:=by simpa using hcs
  subst this;obtain⟨k,rfl⟩:∃k,sz=k+1:=⟨sz - 1,by omega⟩;refine aH.of hc (by simp[clC]) λ F hF=>?_;simp[clC,hF,bl,mq];exact .nil _
 have B:len=0->aH pG g [.ds [] 0 0] .nil 0 (λ v1 H' _=>dU H'.get v1 (.ds cs len sz)):=λ h0=>by
  subst h0;have:cs=[]:=by simpa using hcs
  subst this;refine aH.of hc (by simp[clC]) λ F hF=>?_;simp[clC,hF,bl,mq,lU,bZ,sliceLen,tK];exact .sl 0 0 0 sz 0 [] [] .nil [] [] (by simp) (by simp) .nil
 have C:0<len->aH pG g [.ds cs len sz] .nil 0 (λ v1 H' _=>dU H'.get v1 (.ds cs len sz)):=λ h0=>by
  refine aH.of hc (by simp[clC]) λ F hF=>?_;obtain⟨len,rfl⟩:∃k,len=k+1:=⟨len - 1,by omega⟩;unfold lim at hl;simp[clC,hF,bl,mq];have ow:ar (Tr.put Tr.nil 0 (some (bI.cells 0 [] [] .nil))) 1 (.sl 0 0 0 sz) [] 0 sz:=⟨by simp,.inr ⟨0,.cells 0 [] [] .nil,rfl,by omega,by simp,.list rfl⟩⟩;refine ar.app (x:=.ds cs (len+1) sz) (new:=cs) (k:=len+1) ow (by simp[bZ]) (by simp[sliceLen]) hcs hs h0 (by unfold big;omega) hby h1 λ H' ho hk=>?_;simp;simp only[nil_append,Nat.zero_add]at ho;exact ho.uw (aN.pure hp) hs
 by_cases h0:len=0
 ·have A:=A h0;have B:=B h0;refine⟨A.1,λ φ D w xs hrel hv hf RR hR=>?_⟩
  cases hv with
  | cons _ y _ ys h1 h2 =>
  cases h2
  have h0:(∃ad cap,y=.slice (some ad) 0 cap)∨y=.slice none 0 0:=by
   subst h0
   cases h1 with
   | ds=>exact .inl ⟨_,_,rfl⟩
   | rK=>exact .inl ⟨_,_,rfl⟩
   | sC=>exact .inr rfl
  rcases h0 with⟨ad,cap,rfl⟩ | rfl
  ·exact B.2 φ D w _ hrel (.cons _ _ _ _ (.rK _ _ _) .nil) hf RR hR
  exact A.2 φ D w _ hrel (.cons _ _ _ _ (.ak _ rfl) .nil) hf RR hR
 exact C (by omega)
theorem J9 (l:List eW)(hl:l.length<=lim):ai pG 55 [aW.ds l] (aW.ds l):=El (z:=[.str [],.int .i64 0,.bool false]) (sz:=3) (jV:=32) c55 (by omega) (by omega) (by omega) _ _ hl (by simp) (by simp) (by simp)
theorem abo (l:List Int)(hl:l.length<=lim):ai pG 104 [bR.ds l] (bR.ds l):=El (z:=[.int .i64 0]) (sz:=1) (jV:=8) c104 (by omega) (by omega) (by omega) _ _ hl (by simp) (by simp) (by simp)
def RA (z:List AV)(sz:Nat):CF:={res:=[dm 4 sz,aP 5],code:=(.seq (.reg [oP (aM 4) (ay z sz),oP (aM 5) (eF (aF (.bool false)))]) (.seq (.seq (.reg [oP (aM 9) (eF (aC 0)),oP (aM 10) (e1 aX (aC 9)),oP (aM 11) (eF (aF (.int .i64 0)))]) (.block 0 (.loop (.seq (.reg [oP (aM 12) (e2 (aV .lss) (aC 11) (aC 10))]) (.seq (.cond (aC 12) .skip (.exit 0)) (.seq (.block 1 (.seq (.reg [oP (aM 13) (e2 (cO sz) (aC 9) (aC 11)),oP (aM 14) (kE sz (aC 13)),oP (aM 7) (ay z sz),oP Ab (ej sz (aC 7) (aC 14))]) (.seq (.reg [oP (aM 15) (eF (aC 1)),oP (aM 16) (kE sz (aC 7)),vP (aM 17) (aC 15) [(aC 16)]]) (.cond (aC 17) (.seq (.reg [oP (aM 18) (kE sz (aC 7)),oP Ab (ej sz (aC 4) (aC 18)),oP (aM 5) (eF (aF (.bool true)))]) .ret) .skip)))) (.reg [oP (aM 19) (e2 (aV .add) (aC 11) (aF (.int .i64 1))),oP (aM 11) (eF (aC 19))]))))))) (.seq (.reg [oP (aM 8) (ay z sz)]) (.seq (.reg [oP (aM 20) (kE sz (aC 8)),oP Ab (ej sz (aC 4) (aC 20)),oP (aM 5) (eF (aF (.bool false)))]) .ret)))),nt:=21}
theorem a68:A63=RA [(.int .u32 0),(.str []),(.ak (.slice none 0 0)),(.int .u32 0)] 4:=rfl
theorem a65:A60=RA [(.int .u32 0),(.int .u32 0),(.str []),(.ak (.slice none 0 0)),(.bool false),(.int .u32 0)] 6:=rfl
def e8 {α:Type}(zero:α)(p:α->Bool)(l:List α):α×Bool:=match l.find? p with
 | some x=>(x,true)
 | none=>(zero,false)
theorem vM {α:Type}{sz:Nat}(E:al α sz){g:FuncId}{z:List AV}(hc:cG pG g=some (RA z sz)) (_hs:1<sz) (hs2:sz<=64) (hz:z.length=sz) (h1:bm z=true){zero:α}(hzz:∀h,aN h z (E.cells zero)){f:FuncId}{b:Nat}{y:bI}{p:α->Bool}(xs:List α) (hl:xs.length<=lim) (H:Hp) (n:Nat) (hb:b<n) (hy:H.get b=some y) (hr:xV n y)
  (hp:∀x∈xs,∀(K:Hp)(k:Nat),K.get b=some y->cS K k->aH pG f [E.av x,.ptr b 0] K k (λ u K' k'=>u=.bool (p x)/\K'=K/\k'=k)):
  bT pG g [E.ds xs,.fn (.func f) [] [.ptr b 0]] H n (.bg [E.av (e8 zero p xs).1,.bool (e8 zero p xs).2]) H n:=by
 refine aH.okN [b] (by simp[ky,hb,Pure.kA]) (by simpa using hb) (λ c hm k hk=>?_) λ H0 ht hin=>?_
 ·simp at hm;subst hm;rw[hy]at hk;injection hk with hk;subst hk;exact hr
 have hb0:=(hin b (by simp)).trans hy;refine aH.of hc (by simp[RA]) λ F hF=>?_;simp[RA,hF,al.ag];unfold lim at hl;refine au.of (λ q F K m ms=>∃i,q=xs.length - i/\i<=xs.length/\F.get 1=some (.fn (.func f) [] [.ptr b 0])/\F.get 4=some (.ptr n 0)/\F.get 9=some (E.ds xs)/\F.get 10=some (.int .i64 (xs.length:Int))/\F.get 11=some (.int .i64 (i:Int))/\n<m/\cS K m/\(∀c,c<n->K.get c=H0.get c)/\K.get n=some (.cells sz [] z .nil)/\(∀j (h:j<xs.length),j<i->p xs[j]=false)/\ms=[]) xs.length ⟨0,by simp,by simp,by simp[hF],by simp,by simp,by simp,by simp,by omega,λ c h3=>?_,λ c h3=>?_,by simp,by simp,rfl⟩ ?_
 ·have q1:¬c=n:=by omega
  simp[q1,ht c (by omega)]
 ·have q1:¬c=n:=by omega
  simp[q1]
 clear hF F;rintro q F K m ms ⟨i,rfl,hi,f1,f4,f9,f10,f11,hm,tp,kf,kn,hj,rfl⟩;have hEl:(E.av zero).len=sz:=Eq.trans rfl rfl
 by_cases hlt:i<xs.length
 ·have hx:=E.ix (ik:=.i64) hlt;have hld:=λ H=>E.gM xs[i] (E.l (xs.drop (i+1))) H;have gN:∀a,(E.av a).len=sz:=λ a=>Eq.trans rfl rfl;have hac:∀a,(E.av a).cells=E.cells a:=λ a=>Eq.trans rfl rfl;simp[f1,f9,f10,f11,hlt,hx,hld,hz,hs2,gN,hac];generalize hK1:Tr.put _ m (some (bI.cells sz [] (E.cells xs[i]) .nil))=K1;have g1:∀c,c<m->K1.get c=K.get c:=λ c hc=>by rw[<-hK1];simp[dj hc]
  have x1:K1.get m=some (.cells sz [] (E.cells xs[i]) .nil):=by rw[<-hK1];simp
  have t1:cS K1 (m+1):=λ c hc=>by
   have q1:¬c=m:=by omega
   rw[<-hK1];simp[q1,tp c (by omega)]
  clear hK1;have b1:=(g1 b (by omega)).trans ((kf b hb).trans hb0);refine ao.same (hp xs[i] (getElem_mem hlt) K1 (m+1) b1 t1) ?_;have q1:(n=m)=False:=by simp only[eq_iff_iff,iff_false];omega
  have q2:(m=n)=False:=by simp only[eq_iff_iff,iff_false];omega
  cases hpx:p xs[i]with
  | true =>
   have hf:e8 zero p xs=(xs[i],true):=by
    unfold e8;rw[find?_eq_some_iff_getElem.2 ⟨hpx,i,hlt,rfl,λ j h2=>by simp[hj j (by omega) h2]⟩]
   rw[hf];have kn1:=(g1 n hm).trans kn;simp[f4,x1,kn1,hz,hs2];refine⟨.pure _ (by simp),λ c h3=>?_⟩;have q3:¬c=n:=by omega
   simp[q3,g1 c (by omega),kf c h3]
  | false =>
   simp[f1,f4,f9,f10,f11,ah i (by omega)];refine⟨_,by omega,i+1,rfl,hlt,rfl,by omega,t1,λ c h3=>(g1 c (by omega)).trans (kf c h3),(g1 n hm).trans kn,λ j h h2=>?_⟩
   by_cases e:j=i
   ·subst e;exact hpx
   exact hj j h (by omega)
 have hie:i=xs.length:=by omega
 subst hie
 have hf:e8 zero p xs=(zero,false):=by
  unfold e8;rw[find?_eq_none.2 λ x hx=>?_];obtain⟨j,h2,rfl⟩:=getElem_of_mem hx;simp[hj j h2 h2]
 rw[hf];have q1:(n=m)=False:=by simp only[eq_iff_iff,iff_false];omega
 simp[f4,f10,f11,hz,h1,kn,q1,hs2];refine⟨.bg _ _ (.cons _ _ _ _ (.agg _ _ _ (hzz _)) (.cons _ _ _ _ (.pure _ (by simp)) .nil)),λ c h3=>?_⟩;have q3:¬c=n:=by omega
 have q4:¬c=m:=by omega
 simp[q3,q4,kf c h3]
def aR.zero:aR:=⟨0,[],[],0⟩
def jb.zero:jb:=⟨0,0,[],[],false,0⟩
theorem acz (t:aR)(b:Bool)(h:t.ae.length<=lim):ai pG 62 [aG.av t,.bool b] (.bg [aG.av t,.bool b]):=by
 refine bf c62 (by simp) (by simp) (by simp[A62]) λ F hF=>?_;simp[A62,B62,afH,afG,afF,hF,al.av,aU];refine ao.pure (J9 t.ae h) ?_;simp[hF,al.ds];exact .pure _ (by simp)
theorem anv (x:jb)(b:Bool)(h:x.ae.length<=lim):ai pG 59 [bC.av x,.bool b] (.bg [bC.av x,.bool b]):=by
 refine bf c59 (by simp) (by simp) (by simp[A59]) λ F hF=>?_;simp[A59,B59,afM,afL,afK,hF,al.av,eG];refine ao.pure (abo x.ae h) ?_;simp[hF,al.ds];exact .pure _ (by simp)
theorem aaF (t:aR)(s:List Nat)(b:Nat)(H:Hp)(n:Nat)(hb:H.get b=some (.cells 1 [] [.str s] .nil))(ht:cS H n):aH pG 103 [aG.av t,.ptr b 0] H n (λ u K k=>u=.bool (decide (t.name=s))/\K=H/\k=n):=by
 refine aH.forget (by simp) (aH.of c103 (by simp[A103]) λ F hF=>?_);have q:¬b=n:=by have:=ht.lt hb;omega
 simp[A103,B103,Zb,Za,hF,al.av,aU,q,hb];rintro c hc rfl;exact absurd (ht _ (Nat.le_refl _)) hc
theorem amR (t:aR)(i:Int)(b:Nat)(H:Hp)(n:Nat)(hb:H.get b=some (.cells 1 [] [.int .u32 i] .nil))(ht:cS H n):aH pG 64 [aG.av t,.ptr b 0] H n (λ u K k=>u=.bool (decide (t.id=i))/\K=H/\k=n):=by
 refine aH.forget (by simp) (aH.of c64 (by simp[A64]) λ F hF=>?_);have q:¬b=n:=by have:=ht.lt hb;omega
 simp[A64,B64,afE,afD,hF,al.av,aU,q,hb];rintro c hc rfl;exact absurd (ht _ (Nat.le_refl _)) hc
theorem aoe (x:jb)(s:List Nat)(b:Nat)(H:Hp)(n:Nat)(hb:H.get b=some (.cells 1 [] [.str s] .nil))(ht:cS H n):aH pG 61 [bC.av x,.ptr b 0] H n (λ u K k=>u=.bool (decide (x.name=s))/\K=H/\k=n):=by
 refine aH.forget (by simp) (aH.of c61 (by simp[A61]) λ F hF=>?_);have q:¬b=n:=by have:=ht.lt hb;omega
 simp[A61,B61,afJ,afI,hF,al.av,eG,q,hb];rintro c hc rfl;exact absurd (ht _ (Nat.le_refl _)) hc
def bD.named (s:bD)(name:List Nat):aR×Bool:=e8 aR.zero (λ t:aR=>decide (t.name=name)) s.tables
def bD.table (s:bD)(i:Int):aR×Bool:=e8 aR.zero (λ t:aR=>decide (t.id=i)) s.tables
def bD.index (s:bD)(name:List Nat):jb×Bool:=e8 jb.zero (λ x:jb=>decide (x.name=name)) s.indexes
theorem cE {α:Type}{zero:α}{p:α->Bool}{l:List α}{Q:α->Prop}(h0:Q zero)(hl:∀x∈l,Q x):Q (e8 zero p l).1:=by
 unfold e8
 split
 ·rename_i x hx;exact hl x (mem_of_find?_eq_some hx)
 exact h0
structure bD.dE (s:bD):Prop where
 t:s.tables.length<=lim
 i:s.indexes.length<=lim
 tc:∀t∈s.tables,t.ae.length<=lim
 ic:∀x∈s.indexes,x.ae.length<=lim
theorem ZS (h:Hf):aN h [(.int .u32 0),(.str []),(.ak (.slice none 0 0)),(.int .u32 0)] (aG.cells aR.zero):=
 .cons _ _ _ _ (.pure _ (by simp)) (.cons _ _ _ _ (.pure _ (by simp)) (.cons _ _ _ _ (.nil 2) (.cons _ _ _ _ (.pure _ (by simp)) .nil)))
theorem amH (h:Hf):aN h [(.int .u32 0),(.int .u32 0),(.str []),(.ak (.slice none 0 0)),(.bool false),(.int .u32 0)] (bC.cells jb.zero):=
 .cons _ _ _ _ (.pure _ (by simp)) (.cons _ _ _ _ (.pure _ (by simp)) (.cons _ _ _ _ (.pure _ (by simp)) (.cons _ _ _ _ (.nil 0) (.cons _ _ _ _ (.pure _ (by simp)) (.cons _ _ _ _ (.pure _ (by simp)) .nil)))))
theorem JK (s:bD)(hs:s.dE)(name:List Nat):ai pG 52 [cw.av s,.str name] (.bg [aG.av (s.named name).1,.bool (s.named name).2]):=by
 refine bf c52 (by simp) (by simp) (by simp[A52]) λ F hF=>?_;simp[A52,B52,afU,afT,hF,al.av,cC];refine ao.ok (vM aG (a68▸c63) (by omega) (by omega) rfl rfl ZS (p:=λ t:aR=>decide (t.name=name)) (y:=.cells 1 [] [.str name] .nil) s.tables hs.t _ _ (by omega) (by simp) (dT (by simp)) λ x _ K k hb ht=>aaF x name _ K k hb ht) ?_;simp;refine ao.pure (acz _ _ (cE (Q:=λ t:aR=>t.ae.length<=lim) (by simp[aR.zero]) hs.tc)) ?_;simp[al.av];exact .pure _ (by simp)
theorem Jt (s:bD)(hs:s.dE)(i:Int):ai pG 17 [cw.av s,.int .u32 i] (.bg [aG.av (s.table i).1,.bool (s.table i).2]):=by
 refine bf c17 (by simp) (by simp) (by simp[A17]) λ F hF=>?_;simp[A17,B17,ahM,ahL,hF,al.av,cC];refine ao.ok (vM aG (a68▸c63) (by omega) (by omega) rfl rfl ZS (p:=λ t:aR=>decide (t.id=i)) (y:=.cells 1 [] [.int .u32 i] .nil) s.tables hs.t _ _ (by omega) (by simp) (dT (by simp)) λ x _ K k hb ht=>amR x i _ K k hb ht) ?_;simp;refine ao.pure (acz _ _ (cE (Q:=λ t:aR=>t.ae.length<=lim) (by simp[aR.zero]) hs.tc)) ?_;simp[al.av];exact .pure _ (by simp)
theorem J0 (s:bD)(hs:s.dE)(name:List Nat):ai pG 15 [cw.av s,.str name] (.bg [bC.av (s.index name).1,.bool (s.index name).2]):=by
 refine bf c15 (by simp) (by simp) (by simp[A15]) λ F hF=>?_;simp[A15,B15,ahP,ahO,hF,al.av,cC];refine ao.ok (vM bC (a65▸c60) (by omega) (by omega) rfl rfl amH (p:=λ x:jb=>decide (x.name=name)) (y:=.cells 1 [] [.str name] .nil) s.indexes hs.i _ _ (by omega) (by simp) (dT (by simp)) λ x _ K k hb ht=>aoe x name _ K k hb ht) ?_;simp;refine ao.pure (anv _ _ (cE (Q:=λ t:jb=>t.ae.length<=lim) (by simp[jb.zero]) hs.ic)) ?_;simp[al.av];exact .pure _ (by simp)
def bV (s:bD)(err:Int):bI:=rL (aG.ds s.tables) (bC.ds s.indexes) err
theorem uz (s:bD)(err:Int)(n:Nat):xV n (bV s err):=dT (aL.kA (by simp))
theorem abM {g:FuncId}{c:CF}{args:List AV}{H:Hp}{n p:Nat}{v0:AV}{s:bD}{err Ee:Int}(hc:cG pG g=some c)(hl:(AV.ptr p 0::args).length<=c.nt)(hp:aL args)(hpn:p<n)(hb:H.get p=some (bV s err))
  (h:∀(F:Fr)(H0:Hp),(∀i,F.get i=(AV.ptr p 0::args)[i]?)->cS H0 n->H0.get p=some (bV s err)->VC pG c.code F H0 n [] (iR c.res λ v K _=>dU (above n K) v v0/\(∀c,c<n->c≠p->K.get c=H0.get c)/\K.get p=some (bV s Ee))):
  bT pG g (.ptr p 0::args) H n v0 (H.put p (some (bV s Ee))) n:=by
 refine aH.okB (p:=p) [p] (by simp) (by simp[hpn,hp.kA]) (by simpa using hpn) (λ b hm k hk=>?_) (uz _ _ _) λ H0 ht hin=>?_
 ·simp at hm;subst hm;rw[hb]at hk;injection hk with hk;subst hk;exact uz _ _ _
 refine(aH.of hc hl λ F hF=>h F H0 hF ht ((hin p (by simp)).trans hb)).mono λ v K k ⟨h1,h2,h3⟩=>⟨h1,h2,_,h3,.inl rfl⟩
theorem fL (p:Nat)(s:bD)(err e:Int)(is:Bool)(H:Hp)(n:Nat)(hpn:p<n)(hp:H.get p=some (bV s err)):
  bT pG 16 [.ptr p 0,.int .i64 e,.bool is] H n (.bg []) (H.put p (some (bV s (keep err e is)))) n:=Gb p _ _ err e is H n (by simp) (by simp) hpn hp
theorem nR (s:bD)(hs:s.dE)(name:List Nat)(p:Nat)(err:Int)(H:Hp)(n:Nat)(hpn:p<n)(hp:H.get p=some (bV s err)):
  bT pG 13 [.ptr p 0,.str name] H n (aG.av (s.named name).1) (H.put p (some (bV s (keep err 200 (!(s.named name).2))))) n:=by
 refine abM c13 (by simp[A13]) (by simp) hpn hp λ F H0 hF ht hp0=>?_;have q:=dj hpn;have q':=Aj hpn;simp only[bV,rL]at hp0;simp[A13,B13,ah2,ah1,hF,hp0,q];refine ao.pure (JK s hs name) ?_;generalize s.named name=t;simp[ah0,hF,al.av];refine ao.ok (fL p s err 200 (!t.2) _ _ (by omega) (by simp[q,hp0,bV,rL])) ?_;simp[ahZ,q,q'];refine⟨.pure _ (by simp),λ c h1 h2=>?_⟩;simp[h2,dj h1]
theorem Gc (ns:List (List Nat))(ts:List aR)(hn:ns.length=ts.length)(hl:(aj ts).length<=lim)(ht:ts.length<=lim)(hc:∀t∈ts,t.ae.length<=lim)(s:bD)(e:Ex)(he:e.sz<=lim)(hm:e.may=true)(p:Nat)(err:Int)(H:Hp)(n:Nat)(hpn:p<n)(hp:H.get p=some (bV s err)):
  bT pG 66 [.ptr p 0,.agg (ju ns ts) 2,e.av] H n (.bg [(e.bd ns ts err).1.av,.int .i64 (e.bd ns ts err).2.1]) (H.put p (some (bV s (e.bd ns ts err).2.2))) n:=by
 refine abM c66 (by simp[A66]) (by simp[ju,Ex.av]) hpn hp λ F H0 hF htop hp0=>?_;have q:=dj hpn;have q':=Aj hpn;simp[A66,B66,afA,afz,hF,ju];refine ao.pure (DG ns ts hl ht hc) ?_;simp[afy,afx,afw];refine ao.ok (O5 ns ts (aG.ds s.tables) (bC.ds s.indexes) (by simp) (by simp) hn hl ht hc lim e err _ _ (n+1) n (n+1+1+1+1) (n+1+1+1+1+1) p he (Nat.le_refl _) hm ⟨by simp[ju],by simp,by simp,by simp,by simp[q,hp0];rfl,by omega,by omega,by omega,by omega,by omega⟩) ?_;generalize e.bd ns ts err=X;obtain⟨x1,kd,er⟩:=X;have q3:(n+1+1+1=p)=False:=by simp only[eq_iff_iff,iff_false];omega
 simp[q3,q];refine⟨.pure _ (by simp),λ c h1 h2=>?_,rfl⟩;simp[h2,dj h1]
theorem aj4 (e:Ex)(h:e.sz<=lim):ai pG 67 [e.av] (dz.ds e.split):=by
 refine ai.ofR (by simp[Ex.av]) (by simp) ((aj5 e h .nil 0).iB.mono λ v H' n' ⟨h1,h2,h3⟩=>?_);subst h1 h2;rw[al.ds,RJ];exact .sl _ _ _ _ (e.split.length*8) [] (Ex.aI e.split) .nil (Ex.aI e.split) _ (by simp) (by simp) (aN.pure (Ex.u3 _))
def cQ (ns:List (List Nat))(ts:List aR)(e:Ex)(err:Int):List Ex×Int:=
 if e.bare 0 then ([],err)else ((e.bd ns ts err).1.split,keep (e.bd ns ts err).2.2 203 (decide ((e.bd ns ts err).2.1≠3)&&decide ((e.bd ns ts err).2.1≠0)))
mutual
theorem Ex.wq (ns:List (List Nat)) (ts:List aR):∀(e:Ex) (err:Int),(e.bd ns ts err).1.sz<=e.sz
 | .mk op v t m cu args,err=>by
  unfold Ex.bd
  split
  ·split
   ·simp[Ex.sz,Ex.mB]
   exact Nat.le_refl _
  split
  ·exact Nat.le_refl _
  have:=Ex.Si ns ts args err;simp only[Ex.sz];omega
theorem Ex.Si (ns:List (List Nat))(ts:List aR):∀(l:List Ex)(err:Int),Ex.mB (Ex.ig ns ts l err).1<=Ex.mB l
 | [],err=>by simp[Ex.ig]
 | e::r,err=>by
  have h1:=Ex.wq ns ts e err;have h2:=Ex.Si ns ts r (e.bd ns ts err).2.2;simp only[Ex.ig,Ex.mB];omega
end
theorem Bc (ns:List (List Nat)) (ts:List aR) (hn:ns.length=ts.length) (hl:(aj ts).length<=lim) (ht:ts.length<=lim) (hc:∀t∈ts,t.ae.length<=lim) (s:bD) (e:Ex) (he:e.sz<=lim) (hm:e.maybe=true) (p:Nat) (err:Int) (H:Hp) (n:Nat) (hpn:p<n) (hp:H.get p=some (bV s err)):
  bT pG 19 [.ptr p 0,.agg (ju ns ts) 2,e.av] H n (dz.ds (cQ ns ts e err).1) (H.put p (some (bV s (cQ ns ts e err).2))) n:=by
 refine abM c19 (by simp[A19]) (by simp[ju,Ex.av]) hpn hp λ F H0 hF htop hp0=>?_;have q:=dj hpn;have q':=Aj hpn
 by_cases h0:e.bare 0
 ·have hb:cQ ns ts e err=([],err):=by simp[cQ,h0]
  rw[hb];obtain⟨op,v,t,m,cu,args⟩:=e;have hop:op=0:=h0.1;simp[A19,B19,W0,WZ,ahD,hF,ju,Ex.av,Ex.cells,hop,q,hp0];refine⟨.nil 7,λ c h1 h2=>?_⟩;simp[dj h1]
 have iK:e.may=true:=by simpa[Ex.maybe,h0]using hm
 have hop:∀op v t m cu args,e=.mk op v t m cu args->¬op=0:=by
  rintro op v t m cu args rfl rfl;simp[Ex.may]at iK
 have hsz:=Ex.wq ns ts e err;have hx:=Gc ns ts hn hl ht hc s e he iK p err;have hb:cQ ns ts e err=((e.bd ns ts err).1.split,keep (e.bd ns ts err).2.2 203 (decide ((e.bd ns ts err).2.1≠3)&&decide ((e.bd ns ts err).2.1≠0))):=by simp[cQ,h0]
 rw[hb];generalize e.bd ns ts err=X at hx hsz ⊢;obtain⟨x1,kd,er⟩:=X;have hcj:=aj4 x1 (by simp at hsz;omega);obtain⟨op,v,t,m,cu,args⟩:=e;have hop:=hop op v t m cu args rfl;have hx:=λ H n=>hx H n;simp only[Ex.av,Ex.cells]at hx;simp[A19,B19,W0,WZ,ahC,hF,ju,Ex.av,Ex.cells,hop];refine ao.ok (hx _ _ (by omega) (by simpa[q]using hp0)) ?_
 by_cases h3:kd=3
 ·simp[Lf,hF,h3];refine ao.ok (fL p s er 203 false _ _ (by omega) (by simp[q])) ?_;simp[Le,q'];refine ao.pure hcj ?_;simp;refine⟨.pure _ (by simp),λ c h1 h2=>?_⟩;simp[h2,dj h1]
 by_cases h4:kd=0
 ·simp[Lf,hF,h4];refine ao.ok (fL p s er 203 false _ _ (by omega) (by simp[q])) ?_;simp[Le,q'];refine ao.pure hcj ?_;simp;refine⟨.pure _ (by simp),λ c h1 h2=>?_⟩;simp[h2,dj h1]
 simp[Lf,hF,h3,h4];refine ao.ok (fL p s er 203 true _ _ (by omega) (by simp[q])) ?_;simp[Le,q'];refine ao.pure hcj ?_;simp;refine⟨.pure _ (by simp),λ c h1 h2=>?_⟩;simp[h2,dj h1]
theorem acO (ns:List (List Nat))(ts:List aR)(hn:ns.length=ts.length)(hl:(aj ts).length<=lim)(ht:ts.length<=lim)(hc:∀t∈ts,t.ae.length<=lim)(s:bD)(e:Ex)(he:e.sz<=lim)(hm:e.may=true)(kind:Int)(p:Nat)(err:Int)(H:Hp)(n:Nat)(hpn:p<n)(hp:H.get p=some (bV s err)):
  bT pG 65 [.ptr p 0,.agg (ju ns ts) 2,e.av,.int .i64 kind] H n (e.bd ns ts err).1.av (H.put p (some (bV s (keep (e.bd ns ts err).2.2 203 (decide ((e.bd ns ts err).2.1≠0)&&decide ((e.bd ns ts err).2.1≠kind)))))) n:=by
 refine abM c65 (by simp[A65]) (by simp[ju,Ex.av]) hpn hp λ F H0 hF htop hp0=>?_;have q:=dj hpn;have q':=Aj hpn;have hx:=λ H n=>Gc ns ts hn hl ht hc s e he hm p err H n;generalize e.bd ns ts err=X at hx ⊢;obtain⟨x1,kd,er⟩:=X;have gN:e.av=.agg e.cells 8:=Eq.trans rfl rfl;simp only[gN]at hx;simp[A65,B65,afC,afB,hF,ju];refine ao.ok (hx _ _ (by omega) (by simp[q,hp0])) ?_
 by_cases h3:kd=0
 ·simp[KL,hF,h3];refine ao.ok (fL p s er 203 false _ _ (by omega) (by simp[q])) ?_;simp[KJ,q',q];refine⟨.pure _ (by simp),λ c h1 h2=>?_⟩;simp[h2,dj h1]
 by_cases h4:kd=kind
 ·subst h4;simp[KL,hF,h3];refine ao.ok (fL p s er 203 false _ _ (by omega) (by simp[q])) ?_;simp[KJ,q',q];refine⟨.pure _ (by simp),λ c h1 h2=>?_⟩;simp[h2,dj h1]
 simp[KL,hF,h3,h4];refine ao.ok (fL p s er 203 true _ _ (by omega) (by simp[q])) ?_;simp[KJ,q',q];refine⟨.pure _ (by simp),λ c h1 h2=>?_⟩;simp[h2,dj h1]
theorem Kt (t:aR):ai pG 20 [aG.av t] (.agg (ju [t.name] [t]) 2):=by
 refine bf c20 (by simp) (by simp[ju]) (by simp[A20]) λ F hF=>?_;simp[A20,B20,ahB,ahA,hF,al.av,aU];exact .agg _ _ _ (.cons _ _ _ _ (.sl 2 0 1 1 1 [] [.str t.name] .nil [.str t.name] _ (by simp) (by simp) (aN.pure (by simp))) (.cons _ _ _ _ (.sl 3 0 1 4 4 [] [.int .u32 t.id,.str t.name,aW.ds t.ae,.int .u32 t.head] .nil [.int .u32 t.id,.str t.name,aW.ds t.ae,.int .u32 t.head] _ (by simp) (by simp) (aN.pure (by simp))) .nil))
def dw:al (List Ex) 1:=⟨λ l=>[dz.ds l],λ _=>rfl,λ _=>by simp,λ _=>by simp[al.ds]⟩
def sA:al (Int×Bool) 2:=⟨λ k=>[.int .i64 k.1,.bool k.2],λ _=>rfl,λ _=>by simp,λ _=>by simp⟩
theorem jR (l:List Ex):dw.cells l=[dz.ds l]:=rfl
theorem Gj (k:Int×Bool):sA.cells k=[.int .i64 k.1,.bool k.2]:=rfl
theorem qe (x:ku):eQ.cells x=.str x.name::x.e.cells:=rfl
theorem vV (x:fK):jq.cells x=x.e.cells++[.str x.name]:=rfl
theorem qd (x:Src):gq.cells x=.str x.table::.str x.name::x.cond.cells:=rfl
theorem vU (x:Ord):jm.cells x=[.str x.name,.bool x.desc]:=rfl
theorem nj (e:Ex):dz.cells e=e.cells:=rfl
@[simp] theorem al.atC {α:Type}{k:Nat}(E:al α k)(l:List α):(E.ds l).len=1:=Eq.trans rfl rfl
@[simp] theorem al.al6 {α:Type}{k:Nat}(E:al α k)(l:List α):(E.ds l).cells=[E.ds l]:=Eq.trans rfl rfl
@[simp] theorem al.awJ {α:Type}{k:Nat}(E:al α k)(l:List α):(E.ds l).one=true:=Eq.trans rfl rfl
structure aE where
 kind:Int
 table:List Nat
 name:List Nat
 ae:List eW
 on:List (List Nat)
 uniq:Bool
 rows:List (List Ex)
 sets:List ku
 cond:Ex
 q:aY
def aE.cells (x:aE):List AV:=.int .i64 x.kind::.str x.table::.str x.name::aW.ds x.ae::bB.ds x.on::.bool x.uniq::dw.ds x.rows::eQ.ds x.sets::(x.cond.cells++x.q.cells)
@[simp] theorem aY.akg (q:aY):q.cells.length=15:=q.aA
@[simp] theorem aE.aA (x:aE):x.cells.length=31:=by simp[aE.cells]
@[simp] theorem aE.pure (x:aE):aL x.cells:=by simp[aE.cells,aY.pure]
def aE.av (x:aE):AV:=.agg x.cells 31
@[simp] theorem aE.axq (x:aE):Pure x.av:=by simp[aE.av]
theorem aE.c1 (x:aE)(h:1<x.cells.length):x.cells[1]=.str x.table:=by simp[aE.cells]
theorem aE.c2 (x:aE)(h:2<x.cells.length):x.cells[2]=.str x.name:=by simp[aE.cells]
theorem aE.c3 (x:aE)(h:3<x.cells.length):x.cells[3]=aW.ds x.ae:=by simp[aE.cells]
theorem aE.c4 (x:aE)(h:4<x.cells.length):x.cells[4]=bB.ds x.on:=by simp[aE.cells]
theorem aE.c5 (x:aE)(h:5<x.cells.length):x.cells[5]=.bool x.uniq:=by simp[aE.cells]
theorem aE.c6 (x:aE)(h:6<x.cells.length):x.cells[6]=dw.ds x.rows:=by simp[aE.cells]
theorem aE.c7 (x:aE)(h:7<x.cells.length):x.cells[7]=eQ.ds x.sets:=by simp[aE.cells]
theorem aE.cc (x:aE):(x.cells.drop 8).take 8=x.cond.cells:=by
 simp only[aE.cells,drop_succ_cons,drop_zero];rw[take_append_of_le_length (by simp),take_of_length_le (by simp)]
theorem aE.cq (x:aE):x.cells.drop 16=x.q.cells:=by
 simp only[aE.cells,drop_succ_cons];rw[drop_append_of_le_length (by simp),drop_eq_nil_of_le (by simp),nil_append]
structure ew where
 kind:Int
 name:List Nat:=[]
 table:aR:=aR.zero
 index:jb:=jb.zero
 ae:List eW:=[]
 rows:List (List Ex):=[]
 new:List Ex:=[]
 Fa:List aR:=[]
 on:List (List Ex):=[]
 cond:List Ex:=[]
 items:List Ex:=[]
 names:List (List Nat):=[]
 kinds:List Int:=[]
 order:List (Int×Bool):=[]
 jA:Bool:=false
 limited:Bool:=false
 limit:Int:=0
def ew.cells (b:ew):List AV:=[.int .i64 b.kind,.str b.name,.int .u32 b.table.id,.str b.table.name,aW.ds b.table.ae,.int .u32 b.table.head,.int .u32 b.index.id,.int .u32 b.index.table,.str b.index.name,bR.ds b.index.ae,.bool b.index.uniq,.int .u32 b.index.root,
 aW.ds b.ae,dw.ds b.rows,dz.ds b.new,aG.ds b.Fa,dw.ds b.on,dz.ds b.cond,dz.ds b.items,bB.ds b.names,bR.ds b.kinds,sA.ds b.order,.bool b.jA,.bool b.limited,.int .i64 b.limit]
@[simp] theorem ew.pure (b:ew):aL b.cells:=by simp[ew.cells]
def aS:AV:=.ak (.slice none 0 0)
def br (kind:Int):List AV:=[.int .i64 kind,.str [],.int .u32 0,.str [],.ak (.slice none 0 0),.int .u32 0,.int .u32 0,.int .u32 0,.str [],.ak (.slice none 0 0),.bool false,.int .u32 0,
 .ak (.slice none 0 0),.ak (.slice none 0 0),.ak (.slice none 0 0),.ak (.slice none 0 0),.ak (.slice none 0 0),.ak (.slice none 0 0),.ak (.slice none 0 0),.ak (.slice none 0 0),.ak (.slice none 0 0),.ak (.slice none 0 0),.bool false,.bool false,.int .i64 0]
def kP (h:Hf):List AV->List AV->Prop
 | [],[]=>True
 | v::l,v'::l'=>FI h v v'/\kP h l l'
 | _,_=>False
@[simp] theorem awj (h:Hf):kP h [] []=True:=by simp[kP]
@[simp] theorem AW (h:Hf)(v v':AV)(l l':List AV):kP h (v::l) (v'::l')=(FI h v v'/\kP h l l'):=by simp[kP]
@[simp] theorem ayd (h:Hf)(v:AV):FI h v v=True:=by simp[FI]
@[simp] theorem aye {α:Type}{k:Nat}(h:Hf)(E:al α (k+1)):FI h (.ak (.slice none 0 0)) (E.ds [])=True:=by
 simp only[eq_iff_iff,iff_true];exact .inr (.nil k)
theorem kP.at {h:Hf}:∀ {l l':List AV},kP h l l'->l'.length=l.length/\∀(i:Nat) v',l'[i]?=some v'->∃v,l[i]?=some v/\FI h v v'
 | [],[],_=>⟨rfl,λ i v' hv=>by simp at hv⟩
 | [],_::_,k=>by simp[kP]at k
 | _::_,[],k=>by simp[kP]at k
 | v::l,v'::l',k=>by
  simp only[AW]at k;obtain⟨h1,h2⟩:=kP.at k.2;refine⟨by simp[h1],λ i w hw=>?_⟩
  cases i with
  | zero=>simp at hw;subst hw;exact⟨v,rfl,k.1⟩
  | succ i=>simpa using h2 i w (by simpa using hw)
theorem kP.bz {h:Hf}{l l':List AV}{u:Nat}(k:kP h l l')(hu:l.length=u):BZ h (.cells u [] l .nil) (.cells u [] l' .nil):=by
 obtain⟨h1,h2⟩:=k.at;refine .inr ⟨u,[],l,.nil,l',rfl,rfl,by omega,λ i v' hv=>?_⟩;obtain⟨v,h3,h4⟩:=h2 i v' hv;refine⟨v,?_,h4⟩;rw[jG,if_pos (by have:=(List.getElem?_eq_some_iff.1 h3).1;omega)];exact h3
theorem kP.refl (h:Hf):∀l:List AV,kP h l l
 | []=>by simp
 | v::l=>by simp[kP.refl h l]
theorem OA {g:FuncId}{c:CF}{args:List AV}{H:Hp}{n p o:Nat}{v0:AV}{s:bD}{err Ee:Int}{l0 l1:List AV}(hc:cG pG g=some c)(hl:(AV.ptr p 0::(args++[.ptr o 0])).length<=c.nt)(hp:aL args)(hpn:p<n)(hon:o<n)(hpo:p≠o)(hb:H.get p=some (bV s err))(ho:H.get o=some (.cells 25 [] l0 .nil))(hr0:fB n l0)(hr1:fB n l1)
  (h:∀(F:Fr)(H0:Hp),(∀i,F.get i=(AV.ptr p 0::(args++[.ptr o 0]))[i]?)->cS H0 n->H0.get p=some (bV s err)->H0.get o=some (.cells 25 [] l0 .nil) ->
   VC pG c.code F H0 n [] (iR c.res λ v K _=>dU (above n K) v v0/\(∀c,c<n->c≠p->c≠o->K.get c=H0.get c)/\K.get p=some (bV s Ee)/\∃l,K.get o=some (.cells 25 [] l .nil)/\l.length=25/\kP (above n K) l l1)):
  bT pG g (.ptr p 0::(args++[.ptr o 0])) H n v0 ((H.put p (some (bV s Ee))).put o (some (.cells 25 [] l1 .nil))) n:=by
 refine aH.okZ [p,o] ?_ (by simp[hpn,hon]) (λ b hm k hk=>?_) (λ b hm k hk=>?_) (λ b hm=>?_) ?_
 ·simp only[iD,Z'];refine⟨hpn,fB.of λ v hv=>?_⟩
  rcases mem_append.1 hv with h1 | h1
  ·exact(hp.kA (n:=n)).mem v h1
  simp at h1;subst h1;simpa using hon
 ·simp only[mem_cons,not_mem_nil,or_false]at hm
  rcases hm with rfl | rfl
  ·rw[hb]at hk;injection hk with hk;subst hk;exact uz _ _ _
  rw[ho]at hk;injection hk with hk;subst hk;exact dT hr0
 ·simp only[mem_cons,not_mem_nil,or_false]at hm
  rcases hm with rfl | rfl
  ·simp[hpo]at hk;subst hk;exact uz _ _ _
  simp at hk;subst hk;exact dT hr1
 ·simp at hm;simp[hm.1,hm.2]
 refine(aH.of hc hl λ F hF=>h F _ hF (u5 (by simp[hpn,hon])) ((lD (by simp)).trans hb) ((lD (by simp)).trans ho)).mono λ v K k ⟨h1,h2,h3,l,h4,h5,h6⟩=>⟨h1,λ b hm y hy=>?_⟩;simp only[mem_cons,not_mem_nil,or_false]at hm
 rcases hm with rfl | rfl
 ·simp[hpo]at hy;subst hy;exact⟨_,h3,.inl rfl⟩
 simp at hy;subst hy;exact⟨_,h4,h6.bz h5⟩
theorem apo (d:eW)(c:eW)(b:Nat)(H:Hp)(n:Nat)(hb:H.get b=some (.cells 3 [] (aW.cells c) .nil))(ht:cS H n):aH pG 54 [aW.av d,.ptr b 0] H n (λ u K k=>u=.bool (decide (d.name=c.name))/\K=H/\k=n):=by
 refine aH.forget (by simp) (aH.of c54 (by simp[A54]) λ F hF=>?_);have q:¬b=n:=by have:=ht.lt hb;omega
 simp[A54,B54,afS,afR,hF,al.av,dQ,q,hb];rintro c hc rfl;exact absurd (ht _ (Nat.le_refl _)) hc
theorem apn (d:eW)(s:List Nat)(b:Nat)(H:Hp)(n:Nat)(hb:H.get b=some (.cells 1 [] [.str s] .nil))(ht:cS H n):aH pG 57 [aW.av d,.ptr b 0] H n (λ u K k=>u=.bool (decide (d.name=s))/\K=H/\k=n):=by
 refine aH.forget (by simp) (aH.of c57 (by simp[A57]) λ F hF=>?_);have q:¬b=n:=by have:=ht.lt hb;omega
 simp[A57,B57,afQ,afP,hF,al.av,dQ,q,hb];rintro c hc rfl;exact absurd (ht _ (Nat.le_refl _)) hc
theorem apm (d:eW)(x:ku)(b:Nat)(H:Hp)(n:Nat)(hb:H.get b=some (.cells 9 [] (eQ.cells x) .nil))(ht:cS H n):aH pG 68 [aW.av d,.ptr b 0] H n (λ u K k=>u=.bool (decide (d.name=x.name))/\K=H/\k=n):=by
 refine aH.forget (by simp) (aH.of c68 (by simp[A68]) λ F hF=>?_);have q:¬b=n:=by have:=ht.lt hb;omega
 simp[A68,B68,afu,aft,hF,al.av,dQ,qe,q,hb];rintro c hc rfl;exact absurd (ht _ (Nat.le_refl _)) hc
theorem amX (y:ku)(x:ku)(b:Nat)(H:Hp)(n:Nat)(hb:H.get b=some (.cells 9 [] (eQ.cells x) .nil))(ht:cS H n):aH pG 70 [eQ.av y,.ptr b 0] H n (λ u K k=>u=.bool (decide (y.name=x.name))/\K=H/\k=n):=by
 refine aH.forget (by simp) (aH.of c70 (by simp[A70]) λ F hF=>?_);have q:¬b=n:=by have:=ht.lt hb;omega
 simp[A70,B70,afs,afr,hF,al.av,qe,q,hb];rintro c hc rfl;exact absurd (ht _ (Nat.le_refl _)) hc
theorem FQ {f:FuncId}{first cap:List AV}{p:eW->Bool}{H:Hp}{n:Nat}(l:List eW)(hl:l.length<=lim)(hp:∀x∈l,aH pG f (first++([aW.av x]++cap)) H n (λ u K k=>u=.bool (p x)/\K=H/\k=n)):
  aH pG 56 [aW.ds l,.fn (.func f) first cap] H n (λ u K k=>u=.int .i64 (eE p l)/\K=H/\k=n):=
 rZ (el:=aW.av) c56 hl (aW.ag _) (λ i h=>⟨_,aW.ix h,λ F H n si=>by simp[si,aW.gM]⟩) hp
theorem aka {f:FuncId}{first cap:List AV}{p:eW->Bool}{H:Hp}{n:Nat}(l:List eW)(hl:l.length<=lim)(hp:∀x∈l,aH pG f (first++([aW.av x]++cap)) H n (λ u K k=>u=.bool (p x)/\K=H/\k=n)):
  aH pG 53 [aW.ds l,.fn (.func f) first cap] H n (λ u K k=>u=.bool (l.any p)/\K=H/\k=n):=
 v8 c53 (FQ l hl hp)
theorem ajp {f:FuncId}{first cap:List AV}{p:ku->Bool}{H:Hp}{n:Nat}(l:List ku)(hl:l.length<=lim)(hp:∀x∈l,aH pG f (first++([eQ.av x]++cap)) H n (λ u K k=>u=.bool (p x)/\K=H/\k=n)):
  aH pG 111 [eQ.ds l,.fn (.func f) first cap] H n (λ u K k=>u=.int .i64 (eE p l)/\K=H/\k=n):=
 rZ (el:=eQ.av) c111 hl (eQ.ag _) (λ i h=>⟨_,eQ.ix h,λ F H n si=>by simp[si,eQ.gM]⟩) hp
theorem aj_ {f:FuncId}{first cap:List AV}{p:ku->Bool}{H:Hp}{n:Nat}(l:List ku)(hl:l.length<=lim)(hp:∀x∈l,aH pG f (first++([eQ.av x]++cap)) H n (λ u K k=>u=.bool (p x)/\K=H/\k=n)):
  aH pG 69 [eQ.ds l,.fn (.func f) first cap] H n (λ u K k=>u=.bool (l.any p)/\K=H/\k=n):=
 v8 c69 (ajp l hl hp)
def keeps (e:Int)(p:Nat->Bool):Nat->Int->Int
 | 0,err=>err
 | n+1,err=>keep (keeps e p n err) e (p n)
def mr (l:List eW)(i:Nat):eW:=l.getD i ⟨[],0,false⟩
theorem kZ {l:List eW}{i:Nat}(h:i<l.length):mr l i=l[i]:=by simp[mr,h]
def fy (l:List eW)(i:Nat):Bool:=(l.take i).any λ d=>decide (d.name=(mr l i).name)
def cY (s:bD)(x:aE)(err:Int):ew×Int:=({kind:=x.kind,name:=x.table,ae:=x.ae},keeps 205 (fy x.ae) x.ae.length (keep err 200 (s.named x.table).2))
theorem RY (s:bD) (hs:s.dE) (x:aE) (hx:x.ae.length<=lim) (p o:Nat) (err:Int) (H:Hp) (n:Nat) (hpn:p<n) (hon:o<n) (hpo:p≠o) (hp:H.get p=some (bV s err)) (ho:H.get o=some (.cells 25 [] (br x.kind) .nil)):
  bT pG 12 [.ptr p 0,x.av,.ptr o 0] H n (.bg []) ((H.put p (some (bV s (cY s x err).2))).put o (some (.cells 25 [] (cY s x err).1.cells .nil))) n:=by
 refine OA (args:=[x.av]) c12 (by simp[A12]) (by simp) hpn hon hpo hp ho (aL.kA (by simp[br])) (aL.kA (by simp)) λ F H0 hF htop hp0 ho0=>?_;have hcr:cY s x err=({kind:=x.kind,name:=x.table,ae:=x.ae},keeps 205 (fy x.ae) x.ae.length (keep err 200 (s.named x.table).2)):=rfl;rw[hcr];have q:=dj hpn;have q':=Aj hpn;have r:=dj hon;have r':=Aj hon;have po:(p=o)=False:=by simp[hpo]
 have op:(o=p)=False:=by simp[hpo,eq_comm]
 have hnm:=JK s hs x.table;simp[A12,B12,ah_,hF,aE.av];simp only[ah9,cH];refine bY.of (iN (l:=[(52,[cw.av s,.str x.table],λ H n=>.mk (.bg [aG.av (s.named x.table).1,.bool (s.named x.table).2]) H n)]) ?_) ?_
 ·intro y hy;simp only[mem_cons,not_mem_nil,or_false]at hy;subst hy;exact eX hnm
 have hp1:H0.get p=some (.cells 3 [] [aG.ds s.tables,bC.ds s.indexes,.int .i64 err] .nil):=hp0;have hsv:cw.av s=.agg [aG.ds s.tables,bC.ds s.indexes] 2:=Eq.trans rfl rfl;simp[aa,hF,hp1,q,aE.c1,hsv];rw[fA];generalize s.named x.table=tt at *;have q1:(n+1=n)=False:=by simp
 have amQ:∀k:bI,(H0.put n (some k)).get (n+1)=none:=λ k=>by simp[htop (n+1) (by omega)]
 simp[al.av,bw,bL,amQ];simp[ah8,aa,hF];refine ao.ok (fL p s err 200 tt.2 _ _ (by omega) (by simp[q,hp0])) ?_;simp[ah7,aa,q',aE.c3,al.ag];generalize hK:Tr.put _ p _=K1;have k0:∀c,c<n->c≠p->K1.get c=H0.get c:=λ c h1 h2=>by rw[<-hK];simp[h2,dj h1]
 have kp:K1.get p=some (bV s (keep err 200 tt.2)):=by rw[<-hK];simp
 have kn:K1.get n=some (.cells 31 [] x.cells .nil):=by rw[<-hK];simp[q']
 have kt:cS K1 (n+2):=λ c hc=>by
  have e1:¬c=n:=by omega
  have e2:¬c=n+1:=by omega
  have e3:¬c=p:=by omega
  rw[<-hK];simp[e1,e2,e3,htop c (by omega)]
 clear hK amQ;unfold lim at hx;refine au.of (λ t F K m ms=>∃i,t=x.ae.length - i/\i<=x.ae.length/\F.get 0=some (.ptr p 0)/\F.get 2=some (.ptr o 0)/\F.get 4=some (.ptr n 0)/\F.get 24=some (aW.ds x.ae)/\F.get 25=some (.int .i64 (x.ae.length:Int))/\F.get 26=some (.int .i64 (i:Int))/\n+2<=m/\cS K m/\(∀c,c<n->c≠p->K.get c=H0.get c)/\K.get n=some (.cells 31 [] x.cells .nil)/\K.get p=some (bV s (keeps 205 (fy x.ae) i (keep err 200 tt.2)))/\ms=[]) x.ae.length ⟨0,by simp,by simp,by simp[aa,hF],by simp[aa,hF],by simp[aa],by simp,by simp,by simp,by omega,kt,k0,kn,kp,rfl⟩ ?_;clear hF F K1 k0 kp kn kt;rintro t F K m ms ⟨i,rfl,hi,f0,f2,f4,f24,f25,f26,hm,tp,kf,kn,kp,rfl⟩
 by_cases hlt:i<x.ae.length
 ·have hix:=aW.ix (ik:=.i64) hlt;have hld:=λ H=>aW.gM x.ae[i] (aW.l (x.ae.drop (i+1))) H;have hsl:=aW.xJ (show i<=x.ae.length by omega);have nm:=dj (show n<m by omega);simp[ZG,Xl,ah6,ah5,f0,f4,f24,f25,f26,hlt,hix,hld,kn,nm,aE.c3,hsl,al.av];generalize hK1:Tr.put _ m (some (bI.cells 3 [] (aW.cells x.ae[i]) .nil))=K1;have g1:∀c,c<m->K1.get c=K.get c:=λ c hc=>by rw[<-hK1];simp[dj hc]
  have x1:K1.get m=some (.cells 3 [] (aW.cells x.ae[i]) .nil):=by rw[<-hK1];simp
  have t1:cS K1 (m+1):=λ c hc=>by
   have e1:¬c=m:=by omega
   rw[<-hK1];simp[e1,tp c (by omega)]
  clear hK1;refine ao.same (aka (p:=λ d=>decide (d.name=x.ae[i].name)) (first:=[]) (cap:=[.ptr m 0]) (x.ae.take i) (by simp;unfold lim;omega) λ d _=>apo d _ m K1 (m+1) x1 t1) ?_;have hd:((x.ae.take i).any λ d=>decide (d.name=x.ae[i].name))=fy x.ae i:=by simp[fy,kZ hlt]
  rw[hd];simp;refine ao.ok (fL p s _ 205 (fy x.ae i) _ _ (by omega) ((g1 p (by omega)).trans kp)) ?_;simp[ah4,f26,ah i (by omega)];have k2:∀c,c≠p->(K1.put p (some (bV s (keep (keeps 205 (fy x.ae) i (keep err 200 tt.2)) 205 (fy x.ae i))))).get c=K1.get c:=λ c hc=>by simp[hc]
  exact⟨_,by omega,i+1,rfl,hlt,f0,f2,f4,f24,f25,by simp,by omega,λ c hc=>(k2 c (by omega)).trans (t1 c hc),λ c h1 h2=>by rw[if_neg h2];exact(g1 c (by omega)).trans (kf c h1 h2),by rw[if_neg (by omega)];exact(g1 n (by omega)).trans kn,by simp[keeps]⟩
 have hie:i=x.ae.length:=by omega
 subst hie;simp[ZG,Xl,f25,f26];simp only[ah3,cH];have ko:=(kf o hon (by omega)).trans ho0;have hcl:=J9 x.ae (by unfold lim;omega);refine bY.of (iN (l:=[(55,[aW.ds x.ae],λ H n=>.mk (aW.ds x.ae) H n)]) ?_) ?_
 ·intro y hy;simp only[mem_cons,not_mem_nil,or_false]at hy;subst hy;exact eX hcl
 have no:(n=o)=False:=by simp only[eq_iff_iff,iff_false];omega
 simp only[br]at ko;simp[aa,f4,kn,aE.c3];rw[fA];simp[aa,f2,f4,kn,ko,aE.c1,po];refine⟨.pure _ (by simp),λ c h1 h2 h3=>?_,?_,?_⟩
 ·simp[h3,kf c h1 h2]
 ·exact kp
 simp[ew.cells,aR.zero,jb.zero]
end Go.Abs
