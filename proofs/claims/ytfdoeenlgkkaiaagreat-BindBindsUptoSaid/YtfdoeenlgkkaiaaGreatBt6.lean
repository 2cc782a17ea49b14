/- A part. -/
import Derived.Test.YtfdoeenlgkkaiaaGreatBt5
noncomputable section
namespace Go.Abs
open List
open Go.Proofs
open Classical
set_option maxRecDepth 100000
def bK (kind:Int)(fr on w it nm kd od:AV)(d l:Bool)(m:Int):List AV:=[.int .i64 kind,.str [],.int .u32 0,.str [],.ak (.slice none 0 0),.int .u32 0,.int .u32 0,.int .u32 0,.str [],.ak (.slice none 0 0),.bool false,.int .u32 0,
 .ak (.slice none 0 0),.ak (.slice none 0 0),.ak (.slice none 0 0),fr,on,w,it,nm,kd,od,.bool d,.bool l,.int .i64 m]
structure QC where
 kind:Int
 fr:AV
 on:AV
 w:AV
 od:AV
 d:Bool
 l:Bool
 m:Int
def QC.out (q:QC)(it nm kd:AV):List AV:=bK q.kind q.fr q.on q.w it nm kd q.od q.d q.l q.m
structure CW (H0:Hp)(n p o:Nat)(s:bD)(ns:List (List Nat))(ts:List aR)(q:aY)(C:QC)(e:Int)(c:Nat)(E:List Ex)(N:List (List Nat))(Ks:List Int)(vi vn vk:AV)(R:List AV)(K:Hp)(m:Nat):Prop where
 hm:n+2<=m
 tp:cS K m
 kf:∀b,b<n->b≠p->b≠o->K.get b=H0.get b
 kp:K.get p=some (bV s e)
 kn:K.get n=some (.cells 2 [] (ju ns ts) .nil)
 kq:K.get (n+1)=some (.cells 15 [] q.cells .nil)
 ko:K.get o=some (.cells 25 [] (C.out vi vn vk) .nil)
 oi:ar K m vi R c 8
 on:ar K m vn (bB.l N) c 1
 ok:ar K m vk (bR.l Ks) c 1
 di:∀b,blk vi=some b->n+2<=b/\blk vn≠some b/\blk vk≠some b
 dn:∀b,blk vn=some b->n+2<=b/\blk vk≠some b
 dk:∀b,blk vk=some b->n+2<=b
 fz:∀h,aN h R (dz.l E)
 hE:E.length=c
 hN:N.length=c
 hK:Ks.length=c
section
variable {H0:Hp}{n p o:Nat}{s:bD}{ns:List (List Nat)}{ts:List aR}{q:aY}{C:QC}{e:Int}{c:Nat}{E:List Ex}{N:List (List Nat)}{Ks:List Int}{vi vn vk:AV}{R:List AV}{K:Hp}{m:Nat}
theorem CW.next (M:CW H0 n p o s ns ts q C e c E N Ks vi vn vk R K m)(hpn:p<n)(hon:o<n)(hpo:p≠o){K':Hp}{m':Nat}{e':Int}(hm:m<=m')(ht:cS K' m')(hk:∀b,b<m->b≠p->K'.get b=K.get b)(hp:K'.get p=some (bV s e')):CW H0 n p o s ns ts q C e' c E N Ks vi vn vk R K' m':=by
 have hm0:=M.hm
 exact⟨by omega,ht,λ b h1 h2 h3=>(hk b (by omega) h2).trans (M.kf b h1 h2 h3),hp,(hk n (by omega) (by omega)).trans M.kn,(hk (n+1) (by omega) (by omega)).trans M.kq,(hk o (by omega) (by omega)).trans M.ko,
  M.oi.frame hm λ b hb=>hk b (M.oi.aK hb) (by have:=(M.di b hb).1;omega),M.on.frame hm λ b hb=>hk b (M.on.aK hb) (by have:=(M.dn b hb).1;omega),M.ok.frame hm λ b hb=>hk b (M.ok.aK hb) (by have:=M.dk b hb;omega),M.di,M.dn,M.dk,M.fz,M.hE,M.hN,M.hK⟩
end
structure StF (n p o:Nat)(ts:List aR)(i:Nat)(F:Fr):Prop where
 f0:F.get 0=some (.ptr p 0)
 f3:F.get 3=some (.ptr o 0)
 f5:F.get 5=some (.ptr n 0)
 f6:F.get 6=some (.ptr (n+1) 0)
 f32:F.get 32=some (aG.ds ts)
 f33:F.get 33=some (.int .i64 (ts.length:Int))
 f34:F.get 34=some (.int .i64 (i:Int))
def gj (ts:List aR):List (List Nat):=ts.flatMap λ t=>t.ae.map (·.name)
theorem Q2 (n p o:Nat) (hpn:p<n) (hon:o<n) (hpo:p≠o) (H0:Hp) (s:bD) (ns:List (List Nat)) (ts:List aR) (q:aY) (C:QC) (hC:C.fr.one=true/\C.on.one=true/\C.w.one=true/\C.od.one=true) (e:Int) (i:Nat) (t:aR) (c0:Nat) (hlim:c0+t.ae.length<=lim) (E0:List Ex) (N0:List (List Nat)) (CV:List Int) (hE0:E0=cA c0)
  (F:Fr)(K:Hp)(m:Nat)(Q:QA)(vi vn vk:AV)(R:List AV)(hF:StF n p o ts i F)(h39:F.get 39=some (aW.ds t.ae))(h40:F.get 40=some (.int .i64 (t.ae.length:Int)))(h41:F.get 41=some (.int .i64 0))(M:CW H0 n p o s ns ts q C e c0 E0 N0 CV vi vn vk R K m)
  (hQ:∀vi vn vk R F K m,StF n p o ts i F->CW H0 n p o s ns ts q C e (c0+t.ae.length) (cA (c0+t.ae.length)) (N0++t.ae.map (·.name)) (CV++t.ae.map (·.kind)) vi vn vk R K m->Q .normal F K m []):au MJ pG F K m [] (bX 2 Q):=by
 subst hE0;unfold lim at hlim;obtain⟨hC1,hC2,hC3,hC4⟩:=hC;refine au.of (λ g F K m ms=>∃(j:Nat) (vi vn vk:AV) (R:List AV),g=t.ae.length - j/\j<=t.ae.length/\StF n p o ts i F/\F.get 39=some (aW.ds t.ae)/\F.get 40=some (.int .i64 (t.ae.length:Int))/\F.get 41=some (.int .i64 (j:Int))/\CW H0 n p o s ns ts q C e (c0+j) (cA (c0+j)) (N0++(t.ae.take j).map (·.name)) (CV++(t.ae.take j).map (·.kind)) vi vn vk R K m/\ms=[]) t.ae.length ⟨0,vi,vn,vk,R,by simp,by omega,hF,h39,h40,h41,by simpa using M,rfl⟩ ?_;clear hF h39 h40 h41 M F K m vi vn vk R;rintro g F K m ms ⟨j,vi,vn,vk,R,rfl,hj,⟨f0,f3,f5,f6,f32,f33,f34⟩,f39,f40,f41,M,rfl⟩;have hm:=M.hm
 by_cases hlt:j<t.ae.length
 ·have hZ:=aW.ix (ik:=.i64) hlt;have hld:=λ H=>aW.gM t.ae[j] (aW.l (t.ae.drop (j+1))) H;simp[MJ,UT,afj,f39,f40,f41,hlt,hZ,hld,al.av];generalize hK1:Tr.put _ m _=K1;have g1:∀b,b<m->K1.get b=K.get b:=λ b hb=>by rw[<-hK1];simp[dj hb]
  have x1:K1.get m=some (.cells 3 [] (aW.cells t.ae[j]) .nil):=by rw[<-hK1];simp
  have t1:cS K1 (m+1):=λ b hb=>by
   have e1:¬b=m:=by omega
   rw[<-hK1];simp[e1,M.tp b (by omega)]
  clear hK1;have M1:=M.next hpn hon hpo (Nat.le_succ m) t1 (λ b h1 _=>g1 b h1) ((g1 p (by omega)).trans M.kp);have hvi:∀b,blk vi=some b->b<m:=λ b h=>M.oi.aK h;have DU:∀b,blk vn=some b->b<m:=λ b h=>M.on.aK h;have hvk:∀b,blk vk=some b->b<m:=λ b h=>M.ok.aK h;clear M g1;obtain⟨c,hc⟩:∃c,c=c0+j:=⟨_,rfl⟩;rw[<-hc]at M1;have ko:=M1.ko;simp only[QC.out,bK]at ko;have hlv:=M1.oi.apv;have tm:=t1 (m+1) (Nat.le_refl _);simp only[U3,cH];refine bY.of (bH (P:=pG)) ?_;simp[aa,f3,ko,hlv,bw,bL,tm];generalize hK2:Tr.put K1 (m+1) _=K2;have g2:∀b,b<m+1->K2.get b=K1.get b:=λ b hb=>by rw[<-hK2];simp[dj hb]
  have x2:K2.get (m+1)=some (.cells 8 [] [.int .i64 0,.int .i64 0,.int .i64 0,.str [],.str [],.str [],.int .i64 0,.ak (.slice none 0 0)] .nil):=by rw[<-hK2];simp
  have t2:cS K2 (m+1+1):=λ b hb=>by
   have e1:¬b=m+1:=by omega
   rw[<-hK2];simp[e1,t1 b (by omega)]
  clear hK2;have oi2:ar K2 (m+1+1) vi R c 8:=M1.oi.frame (by omega) λ b hb=>g2 b (M1.oi.aK hb);refine ar.ru (k:=1) (new:=[.int .i64 0,.int .i64 0,.int .i64 0,.str [],.str [],.str [],.int .i64 0,.ak (.slice none 0 0)]) oi2 (aB x2) (by simp) (by simp) (by omega) (by omega) (by unfold big;omega) (by omega) (by simp) λ K3 o3 g3=>?_;have g3':∀b,b≠m+1+1->blk vi≠some b->K3.get b=K2.get b:=λ b h1 h2=>g3 b h1 λ e=>h2 (by rw[e];rfl);have Qw:∀b,b<n+2->blk vi≠some b:=λ b h1 h2=>by have:=(M1.di b h2).1;omega
  obtain⟨hRl,⟨e,_⟩ | ⟨b,kb,hb,_,hkb,ZP⟩⟩:=o3
  ·cases e
  injection hb with hb;subst hb;have FV:R.length=c*8:=M1.oi.1;have hix:=lT (b:=m+1+1) (o:=0) (len:=c+1) (sz:=8) (i:=c) (k:=.i64) (by omega);rw[Nat.zero_add]at hix;obtain⟨y,hst,hoy⟩:=qO (b:=m+1+1) (k:=8) (o:=c*8) (v:=.agg (jS c) 8) ZP rfl rfl (by omega) (by simp[jS]) (by simp[FV]);simp only[jS]at hst;have ob:=(g3' o (by omega) (Qw o (by omega))).trans ((g2 o (by omega)).trans ko);have om:(o=m+1+1)=False:=by simp only[eq_iff_iff,iff_false];omega
  simp[hix,hst,hkb,om,ob];have k4:∀b,b≠o->b≠m+1+1->((Tr.put K3 (m+1+1) (some y)).put o (some (.cells 25 [] (C.out (.sl (m+1+1) 0 (c+1) 8) vn vk) .nil))).get b=K3.get b:=λ b h1 h2=>by simp[h1,h2]
  have o4:((Tr.put K3 (m+1+1) (some y)).put o (some (.cells 25 [] (C.out (.sl (m+1+1) 0 (c+1) 8) vn vk) .nil))).get o=some (.cells 25 [] (C.out (.sl (m+1+1) 0 (c+1) 8) vn vk) .nil):=by simp
  have y4:((Tr.put K3 (m+1+1) (some y)).put o (some (.cells 25 [] (C.out (.sl (m+1+1) 0 (c+1) 8) vn vk) .nil))).get (m+1+1)=some y:=by simp[show ¬m+1+1=o by omega]
  simp only[QC.out,bK]at k4 o4 y4;generalize Tr.put (Tr.put K3 (m+1+1) (some y)) o _=K4 at k4 o4 y4 ⊢;have bk4:∀b,b<m+1->b≠o->blk vi≠some b->K4.get b=K1.get b:=λ b h1 h2 h3=>(k4 b h2 (by omega)).trans ((g3' b (by omega) h3).trans (g2 b h1));have t4:cS K4 (m+1+1+1):=λ b hb=>(k4 b (by omega) (by omega)).trans ((g3' b (by omega) λ h=>by have:=M1.oi.aK h;omega).trans (t2 b (by omega)));have nn2:∀b,blk vn=some b->blk vi≠some b:=λ b h1 h2=>(M1.di b h2).2.1 h1;have nk2:∀b,blk vk=some b->blk vi≠some b:=λ b h1 h2=>(M1.di b h2).2.2 h1;have on4:ar K4 (m+1+1+1) vn (bB.l (N0++(t.ae.take j).map (·.name))) c 1:=M1.on.frame (by omega) λ b hb=>bk4 b (M1.on.aK hb) (by have:=(M1.dn b hb).1;omega) (nn2 b hb);have ok4:ar K4 (m+1+1+1) vk (bR.l (CV++(t.ae.take j).map (·.kind))) c 1:=M1.ok.frame (by omega) λ b hb=>bk4 b (M1.ok.aK hb) (by have:=M1.dk b hb;omega) (nk2 b hb);have x4:=(bk4 m (by omega) (by omega) λ h=>by have:=hvi m h;omega).trans x1;rw[dQ]at x4;have tm4:=t4 (m+1+1+1) (Nat.le_refl _);simp only[U2,cH];refine bY.of (bH (P:=pG)) ?_;simp[aa,f3,o4,x4,bw,bL,tm4];generalize j8:Tr.put K4 (m+1+1+1) _=K5;have g5:∀b,b<m+1+1+1->K5.get b=K4.get b:=λ b hb=>by rw[<-j8];simp[dj hb]
  have x5:K5.get (m+1+1+1)=some (.cells 1 [] [.str t.ae[j].name] .nil):=by rw[<-j8];simp
  have t5:cS K5 (m+1+1+1+1):=λ b hb=>by
   have e1:¬b=m+1+1+1:=by omega
   rw[<-j8];simp[e1,t4 b (by omega)]
  clear j8;have on5:ar K5 (m+1+1+1+1) vn (bB.l (N0++(t.ae.take j).map (·.name))) c 1:=on4.frame (by omega) λ b hb=>g5 b (by have:=DU b hb;omega);refine ar.ru (k:=1) (new:=[.str t.ae[j].name]) on5 (aB x5) (by simp) (by simp) (by omega) (by omega) (by unfold big;omega) (by omega) (by simp) λ K6 o6 g6=>?_;have yY:∀b,b≠m+1+1+1+1->blk vn≠some b->K6.get b=K5.get b:=λ b h1 h2=>g6 b h1 λ e=>h2 (by rw[e];rfl);have Dv:∀b,b<n+2->blk vn≠some b:=λ b h1 h2=>by have:=(M1.dn b h2).1;omega
  have ob6:=(yY o (by omega) (Dv o (by omega))).trans ((g5 o (by omega)).trans o4);have x6:=(yY m (by omega) λ h=>by have:=DU m h;omega).trans ((g5 m (by omega)).trans x4);have tm6:K6.get (m+1+1+1+1+1)=none:=(yY _ (by omega) λ h=>by have:=DU _ h;omega).trans (t5 _ (by omega));have auo:K4.get (m+1+1+1+1+1)=none:=t4 _ (by omega);simp[aa,f3,o4,x4,ob6,x6,bw,bL,tm6,auo];generalize Oc:Tr.put K6 (m+1+1+1+1+1) _=K7;have g7:∀b,b<m+1+1+1+1+1->K7.get b=K6.get b:=λ b hb=>by rw[<-Oc];simp[dj hb]
  have x7:K7.get (m+1+1+1+1+1)=some (.cells 1 [] [.int .i64 t.ae[j].kind] .nil):=by rw[<-Oc];simp
  have t6:cS K6 (m+1+1+1+1+1):=λ b hb=>(yY b (by omega) λ h=>by have:=DU b h;omega).trans (t5 b (by omega))
  have t7:cS K7 (m+1+1+1+1+1+1):=λ b hb=>by
   have e1:¬b=m+1+1+1+1+1:=by omega
   rw[<-Oc];simp[e1,t6 b (by omega)]
  clear Oc;have nkn:∀b,blk vk=some b->blk vn≠some b:=λ b h1 h2=>(M1.dn b h2).2 h1;have ok7:ar K7 (m+1+1+1+1+1+1) vk (bR.l (CV++(t.ae.take j).map (·.kind))) c 1:=ok4.frame (by omega) λ b hb=>(g7 b (by have:=hvk b hb;omega)).trans ((yY b (by have:=hvk b hb;omega) (nkn b hb)).trans (g5 b (by have:=hvk b hb;omega)));refine ar.ru (k:=1) (new:=[.int .i64 t.ae[j].kind]) ok7 (aB x7) (by simp) (by simp) (by omega) (by omega) (by unfold big;omega) (by omega) (by simp) λ K8 o8 g8=>?_;have g8':∀b,b≠m+1+1+1+1+1+1->blk vk≠some b->K8.get b=K7.get b:=λ b h1 h2=>g8 b h1 λ e=>h2 (by rw[e];rfl);have Qv:∀b,b<n+2->blk vk≠some b:=λ b h1 h2=>by have:=M1.dk b h2;omega
  have ob8:=(g8' o (by omega) (Qv o (by omega))).trans ((g7 o (by omega)).trans ob6);simp[aa,f3,ob8];generalize Ob:Tr.put (Tr.put K8 o _) o _=K9;have g9:∀b,b≠o->K9.get b=K8.get b:=λ b hb=>by rw[<-Ob];simp[hb]
  have o9:K9.get o=some (.cells 25 [] (C.out (.sl (m+1+1) 0 (c+1) 8) (.sl (m+1+1+1+1) 0 (c+1) 1) (.sl (m+1+1+1+1+1+1) 0 (c+1) 1)) .nil):=by rw[<-Ob];simp[QC.out,bK]
  clear Ob;simp[U1,aa,f41,ah j (by omega)];have bk8:∀b,b<m+1+1+1->blk vn≠some b->blk vk≠some b->K8.get b=K4.get b:=λ b h1 h2 h3=>(g8' b (by omega) h3).trans ((g7 b (by omega)).trans ((yY b (by omega) h2).trans (g5 b h1)));have Km:∀b,b<m+1->b≠o->blk vi≠some b->blk vn≠some b->blk vk≠some b->K9.get b=K1.get b:=λ b h1 h2 h3 h4 h5=>(g9 b h2).trans ((bk8 b (by omega) h4 h5).trans (bk4 b h1 h2 h3));have hcj:c0+(j+1)=c+1:=by omega
  refine⟨_,by omega,j+1,rfl,hlt,⟨by simp[aa,f0],by simp[aa,f3],by simp[aa,f5],by simp[aa,f6],by simp[aa,f32],by simp[aa,f33],by simp[aa,f34]⟩,by simp[f39],by simp[f40],by simp,.sl (m+1+1) 0 (c+1) 8,.sl (m+1+1+1+1) 0 (c+1) 1,.sl (m+1+1+1+1+1+1) 0 (c+1) 1,splice (R++[.int .i64 0,.int .i64 0,.int .i64 0,.str [],.str [],.str [],.int .i64 0,.ak (.slice none 0 0)]) (jS c) (c*8),?_⟩;rw[hcj];have etk:t.ae.take (j+1)=t.ae.take j++[t.ae[j]]:=by rw[take_add_one,getElem?_eq_getElem hlt];rfl
  refine⟨by omega,λ b hb=>?_,λ b h1 h2 h3=>?_,?_,?_,?_,o9,⟨?_,.inr ⟨m+1+1,y,rfl,by omega,?_,hoy⟩⟩,?_,?_,λ b hb=>by simp at hb;simp;omega,λ b hb=>by simp at hb;simp;omega,λ b hb=>by simp at hb;omega,λ h=>?_,by simp,?_,?_⟩
  ·exact(g9 b (by omega)).trans ((g8' b (by omega) λ h=>by have:=hvk b h;omega).trans (t7 b (by omega)))
  ·exact(Km b (by omega) h3 (Qw b (by omega)) (Dv b (by omega)) (Qv b (by omega))).trans (M1.kf b h1 h2 h3)
  ·exact(Km p (by omega) (by omega) (Qw p (by omega)) (Dv p (by omega)) (Qv p (by omega))).trans M1.kp
  ·exact(Km n (by omega) (by omega) (Qw n (by omega)) (Dv n (by omega)) (Qv n (by omega))).trans M1.kn
  ·exact(Km (n+1) (by omega) (by omega) (Qw (n+1) (by omega)) (Dv (n+1) (by omega)) (Qv (n+1) (by omega))).trans M1.kq
  ·rw[iC (by simp[FV,jS])];simp[FV];omega
  ·exact(g9 _ (by omega)).trans ((bk8 _ (by omega) (λ h=>by have:=DU _ h;omega) (λ h=>by have:=hvk _ h;omega)).trans y4)
  ·have e1:bB.l (N0++(List.map (·.name) t.ae).take (j+1))=bB.l (N0++(t.ae.take j).map (·.name))++[.str t.ae[j].name]:=by
    rw[<-map_take,etk,map_append,<-append_assoc,al.bo];rfl
   rw[e1];refine o6.frame (by omega) λ b hb=>?_;simp at hb;subst hb;exact(g9 _ (by omega)).trans ((g8' _ (by omega) λ h=>by have:=hvk _ h;omega).trans (g7 _ (by omega)))
  ·have e1:bR.l (CV++(List.map (·.kind) t.ae).take (j+1))=bR.l (CV++(t.ae.take j).map (·.kind))++[.int .i64 t.ae[j].kind]:=by
    rw[<-map_take,etk,map_append,<-append_assoc,al.bo];rfl
   rw[e1];refine o8.frame (by omega) λ b hb=>?_;simp at hb;subst hb;exact g9 _ (by omega)
  ·have e:=al.QU dz (cA c) [.int .i64 0,.int .i64 0,.int .i64 0,.str [],.str [],.str [],.int .i64 0,.ak (.slice none 0 0)] rfl (Gp c);have hfz:=M1.fz h;rw[lR,<-e,sH];exact(hfz.append (aN.pure (by simp))).splice _ (rj h c)
  ·have:=M1.hN;simp at this ⊢;omega
  have:=M1.hK;simp at this ⊢;omega
 have J2:j=t.ae.length:=by omega
 subst J2;rw[take_length]at M;simp[MJ,UT,f40,f41];exact hQ vi vn vk R _ K m ⟨by simp[f0],by simp[f3],by simp[f5],by simp[f6],by simp[f32],by simp[f33],by simp[f34]⟩ M
end Go.Abs
namespace Go.Abs
open List
open Go.Proofs
open Classical
set_option maxRecDepth 100000
theorem tv {l:List aR}{i:Nat}(h:i<l.length):gj (l.take (i+1))=gj (l.take i)++l[i].ae.map (·.name):=by
 rw[take_add_one,getElem?_eq_getElem h];simp only[gj,flatMap_append,Option.toList,flatMap_cons,flatMap_nil,append_nil]
theorem Q1 (n p o:Nat)(hpn:p<n)(hon:o<n)(hpo:p≠o)(H0:Hp)(s:bD)(ns:List (List Nat))(ts:List aR)(q:aY)(C:QC)(hC:C.fr.one=true/\C.on.one=true/\C.w.one=true/\C.od.one=true)(e:Int)(hl:(aj ts).length<=lim)(ht:ts.length<=lim)
  (F:Fr)(K:Hp)(m:Nat)(Q:QA)(vi vn vk:AV)(R:List AV)(hF:StF n p o ts 0 F)(M:CW H0 n p o s ns ts q C e 0 [] [] [] vi vn vk R K m)
  (hQ:∀vi vn vk R F K m,StF n p o ts ts.length F->CW H0 n p o s ns ts q C e (aj ts).length (cA (aj ts).length) (gj ts) (aj ts) vi vn vk R K m->Q .normal F K m []):au MI pG F K m [] (bX 0 Q):=by
 unfold lim at hl ht;refine au.of (λ g F K m ms=>∃(i:Nat) (vi vn vk:AV) (R:List AV),g=ts.length - i/\i<=ts.length/\StF n p o ts i F/\CW H0 n p o s ns ts q C e (aj (ts.take i)).length (cA (aj (ts.take i)).length) (gj (ts.take i)) (aj (ts.take i)) vi vn vk R K m/\ms=[]) ts.length ⟨0,vi,vn,vk,R,by simp,by omega,hF,by simpa[aj,gj,cA]using M,rfl⟩ ?_;clear hF M F K m vi vn vk R;rintro g F K m ms ⟨i,vi,vn,vk,R,rfl,hi,⟨f0,f3,f5,f6,f32,f33,f34⟩,M,rfl⟩;have hm:=M.hm
 by_cases hlt:i<ts.length
 ·have hZ:=aG.ix (ik:=.i64) hlt;have hld:=λ H=>aG.gM ts[i] (aG.l (ts.drop (i+1))) H;simp[MI,UU,afl,afk,f32,f33,f34,hlt,hZ,hld,al.av];generalize hK1:Tr.put _ m _=K1;have g1:∀b,b<m->K1.get b=K.get b:=λ b hb=>by rw[<-hK1];simp[dj hb]
  have t1:cS K1 (m+1):=λ b hb=>by
   have e1:¬b=m:=by omega
   rw[<-hK1];simp[e1,M.tp b (by omega)]
  clear hK1;have M1:=M.next hpn hon hpo (Nat.le_succ m) t1 (λ b h1 _=>g1 b h1) ((g1 p (by omega)).trans M.kp);simp[aU,al.ag];have hkl:=gD ts (i+1);have hkt:=gC hlt;have hkc:ts[i].kinds.length=ts[i].ae.length:=by simp[aR.kinds]
  have avy:(aj (ts.take i)).length+ts[i].ae.length=(aj (ts.take (i+1))).length:=by rw[hkt,length_append,hkc]
  refine Q2 n p o hpn hon hpo H0 s ns ts q C hC e i ts[i] (aj (ts.take i)).length (by unfold lim;omega) _ _ _ rfl _ K1 (m+1) _ vi vn vk R ⟨by simp[f0],by simp[f3],by simp[f5],by simp[f6],by simp[f32],by simp[f33],by simp[f34]⟩ (by simp) (by simp) (by simp) M1 λ vi vn vk R F K m S M=>?_;have f34:=S.f34;simp[U0,f34,ah i (by omega)];refine⟨_,by omega,i+1,rfl,hlt,⟨by simp[S.f0],by simp[S.f3],by simp[S.f5],by simp[S.f6],by simp[S.f32],by simp[S.f33],by simp⟩,vi,vn,vk,R,?_⟩;rw[avy]at M;rw[tv hlt,hkt];rw[hkt]at M;exact M
 have hie:i=ts.length:=by omega
 subst hie;rw[take_length]at M;simp[MI,UU,f33,f34];exact hQ vi vn vk R _ K m ⟨by simp[f0],by simp[f3],by simp[f5],by simp[f6],by simp[f32],by simp[f33],by simp[f34]⟩ M
def Ex.nm:Ex->List Nat
 | .mk _ _ _ m _ _=>m
def Ex.op:Ex->Int
 | .mk op _ _ _ _ _=>op
def fK.nm (x:fK):List Nat:=if x.name=[]/\x.e.op=2 then x.e.nm else x.name
def eb (ns:List (List Nat))(ts:List aR):List fK->Int->List Ex×List Int×Int
 | [],err=>([],[],err)
 | x::r,err=>((x.e.bd ns ts err).1::(eb ns ts r (x.e.bd ns ts err).2.2).1,(x.e.bd ns ts err).2.1::(eb ns ts r (x.e.bd ns ts err).2.2).2.1,(eb ns ts r (x.e.bd ns ts err).2.2).2.2)
theorem DN (ns:List (List Nat))(ts:List aR)(a:fK):∀(l:List fK)(err:Int),eb ns ts (l++[a]) err=((eb ns ts l err).1++[(a.e.bd ns ts (eb ns ts l err).2.2).1],(eb ns ts l err).2.1++[(a.e.bd ns ts (eb ns ts l err).2.2).2.1],(a.e.bd ns ts (eb ns ts l err).2.2).2.2)
 | [],err=>by simp[eb]
 | e::r,err=>by simp[eb,DN ns ts a r]
theorem uo (ns:List (List Nat))(ts:List aR):∀(l:List fK)(err:Int),(eb ns ts l err).1.length=l.length/\(eb ns ts l err).2.1.length=l.length
 | [],err=>by simp[eb]
 | e::r,err=>by simp[eb,uo ns ts r]
theorem DL (ns:List (List Nat))(ts:List aR){l:List fK}{i:Nat}(h:i<l.length)(err:Int):eb ns ts (l.take (i+1)) err=((eb ns ts (l.take i) err).1++[(l[i].e.bd ns ts (eb ns ts (l.take i) err).2.2).1],(eb ns ts (l.take i) err).2.1++[(l[i].e.bd ns ts (eb ns ts (l.take i) err).2.2).2.1],(l[i].e.bd ns ts (eb ns ts (l.take i) err).2.2).2.2):=by
 rw[take_add_one,getElem?_eq_getElem h];exact DN ns ts l[i] (l.take i) err
structure ItF (n p o:Nat)(q:aY)(i:Nat)(F:Fr):Prop where
 f0:F.get 0=some (.ptr p 0)
 f3:F.get 3=some (.ptr o 0)
 f5:F.get 5=some (.ptr n 0)
 f6:F.get 6=some (.ptr (n+1) 0)
 f86:F.get 86=some (jq.ds q.items)
 f87:F.get 87=some (.int .i64 (q.items.length:Int))
 f88:F.get 88=some (.int .i64 (i:Int))
theorem QZ (n p o:Nat)(hpn:p<n)(hon:o<n)(hpo:p≠o)(H0:Hp)(s:bD)(ns:List (List Nat))(ts:List aR)(q:aY)(C:QC)(hC:C.fr.one=true/\C.on.one=true/\C.w.one=true/\C.od.one=true)(e:Int)(c:Nat)(hlim:c<lim)(E:List Ex)(N:List (List Nat))(Ks:List Int)(y1:Ex)(nm:List Nat)(kd:Int)(j a:Nat)
  (F:Fr)(K:Hp)(m:Nat)(Q:QA)(vi vn vk:AV)(R:List AV)(hF:ItF n p o q j F)(f14:F.get 14=some (.ptr a 0))(f15:F.get 15=some (.int .i64 kd))(f16:F.get 16=some (.str nm))(ha:K.get a=some (.cells 8 [] y1.cells .nil))(M:CW H0 n p o s ns ts q C e c E N Ks vi vn vk R K m)
  (hQ:∀vi vn vk R F K m,ItF n p o q j F->CW H0 n p o s ns ts q C e (c+1) (E++[y1]) (N++[nm]) (Ks++[kd]) vi vn vk R K m->Q .normal F K m []):VC pG Bt F K m [] Q:=by
 unfold lim at hlim;obtain⟨hC1,hC2,hC3,hC4⟩:=hC;obtain⟨f0,f3,f5,f6,f86,f87,f88⟩:=hF;have hm:=M.hm;have ko:=M.ko;simp only[QC.out,bK]at ko;have t0:=M.tp;have hvi:∀b,blk vi=some b->b<m:=λ b h=>M.oi.aK h;have DU:∀b,blk vn=some b->b<m:=λ b h=>M.on.aK h;have hvk:∀b,blk vk=some b->b<m:=λ b h=>M.ok.aK h;have Qw:∀b,b<n+2->blk vi≠some b:=λ b h1 h2=>by have:=(M.di b h2).1;omega
 have Dv:∀b,b<n+2->blk vn≠some b:=λ b h1 h2=>by have:=(M.dn b h2).1;omega
 have Qv:∀b,b<n+2->blk vk≠some b:=λ b h1 h2=>by have:=M.dk b h2;omega
 have nn2:∀b,blk vn=some b->blk vi≠some b:=λ b h1 h2=>(M.di b h2).2.1 h1;have nk2:∀b,blk vk=some b->blk vi≠some b:=λ b h1 h2=>(M.di b h2).2.2 h1;have nkn:∀b,blk vk=some b->blk vn≠some b:=λ b h1 h2=>(M.dn b h2).2 h1;simp only[Bt,cH];refine bY.of (bH (P:=pG)) ?_;have tm:=t0 m (Nat.le_refl _);simp[aa,f3,f14,ko,ha,bw,bL,tm];generalize hK1:Tr.put K m _=K1;have g1:∀b,b<m->K1.get b=K.get b:=λ b hb=>by rw[<-hK1];simp[dj hb]
 have x1:K1.get m=some (.cells 8 [] y1.cells .nil):=by rw[<-hK1];simp
 have t1:cS K1 (m+1):=λ b hb=>by
  have e1:¬b=m:=by omega
  rw[<-hK1];simp[e1,t0 b (by omega)]
 clear hK1;have oi1:ar K1 (m+1) vi R c 8:=M.oi.frame (by omega) λ b hb=>g1 b (hvi b hb);refine ar.ru (k:=1) (new:=y1.cells) oi1 (aB x1) (by simp) (by simp) (by omega) (by omega) (by unfold big;omega) (by omega) (by simp) λ K2 o2 g2=>?_;have g2':∀b,b≠m+1->blk vi≠some b->K2.get b=K1.get b:=λ b h1 h2=>g2 b h1 λ e=>h2 (by rw[e];rfl);clear g2;have t2:cS K2 (m+1+1):=λ b hb=>(g2' b (by omega) λ h=>by have:=hvi b h;omega).trans (t1 b (by omega));have JR:=(g2' o (by omega) (Qw o (by omega))).trans ((g1 o (by omega)).trans ko);have tm2:=t2 (m+1+1) (Nat.le_refl _);have aiB:=t0 (m+1+1) (by omega);simp[aa,f3,f16,ko,JR,bw,bL,tm2,aiB];generalize hK3:Tr.put K2 (m+1+1) _=K3;have g3:∀b,b<m+1+1->K3.get b=K2.get b:=λ b hb=>by rw[<-hK3];simp[dj hb]
 have x3:K3.get (m+1+1)=some (.cells 1 [] [.str nm] .nil):=by rw[<-hK3];simp
 have t3:cS K3 (m+1+1+1):=λ b hb=>by
  have e1:¬b=m+1+1:=by omega
  rw[<-hK3];simp[e1,t2 b (by omega)]
 clear hK3;have on3:ar K3 (m+1+1+1) vn (bB.l N) c 1:=M.on.frame (by omega) λ b hb=>(g3 b (by have:=DU b hb;omega)).trans ((g2' b (by have:=DU b hb;omega) (nn2 b hb)).trans (g1 b (DU b hb)));refine ar.ru (k:=1) (new:=[.str nm]) on3 (aB x3) (by simp) (by simp) (by omega) (by omega) (by unfold big;omega) (by omega) (by simp) λ K4 o4 g4=>?_;have g4':∀b,b≠m+1+1+1->blk vn≠some b->K4.get b=K3.get b:=λ b h1 h2=>g4 b h1 λ e=>h2 (by rw[e];rfl);clear g4;have t4:cS K4 (m+1+1+1+1):=λ b hb=>(g4' b (by omega) λ h=>by have:=DU b h;omega).trans (t3 b (by omega));have QW:=(g4' o (by omega) (Dv o (by omega))).trans ((g3 o (by omega)).trans JR);have tm4:=t4 (m+1+1+1+1) (Nat.le_refl _);have auq:=t2 (m+1+1+1+1) (by omega);have aus:=t0 (m+1+1+1+1) (by omega);simp[aa,f3,f15,ko,JR,QW,bw,bL,tm4,auq,aus];generalize j8:Tr.put K4 (m+1+1+1+1) _=K5;have g5:∀b,b<m+1+1+1+1->K5.get b=K4.get b:=λ b hb=>by rw[<-j8];simp[dj hb]
 have x5:K5.get (m+1+1+1+1)=some (.cells 1 [] [.int .i64 kd] .nil):=by rw[<-j8];simp
 have t5:cS K5 (m+1+1+1+1+1):=λ b hb=>by
  have e1:¬b=m+1+1+1+1:=by omega
  rw[<-j8];simp[e1,t4 b (by omega)]
 clear j8;have ok5:ar K5 (m+1+1+1+1+1) vk (bR.l Ks) c 1:=M.ok.frame (by omega) λ b hb=>(g5 b (by have:=hvk b hb;omega)).trans ((g4' b (by have:=hvk b hb;omega) (nkn b hb)).trans ((g3 b (by have:=hvk b hb;omega)).trans ((g2' b (by have:=hvk b hb;omega) (nk2 b hb)).trans (g1 b (hvk b hb)))));refine ar.ru (k:=1) (new:=[.int .i64 kd]) ok5 (aB x5) (by simp) (by simp) (by omega) (by omega) (by unfold big;omega) (by omega) (by simp) λ K6 o6 g6=>?_;have yY:∀b,b≠m+1+1+1+1+1->blk vk≠some b->K6.get b=K5.get b:=λ b h1 h2=>g6 b h1 λ e=>h2 (by rw[e];rfl);clear g6;have ko6:=(yY o (by omega) (Qv o (by omega))).trans ((g5 o (by omega)).trans QW);simp[aa,f3,ko6];generalize Ob:Tr.put (Tr.put (Tr.put K6 o _) o _) o _=K9;have g9:∀b,b≠o->K9.get b=K6.get b:=λ b hb=>by rw[<-Ob];simp[hb]
 have o9:K9.get o=some (.cells 25 [] (C.out (.sl (m+1) 0 (c+1) 8) (.sl (m+1+1+1) 0 (c+1) 1) (.sl (m+1+1+1+1+1) 0 (c+1) 1)) .nil):=by rw[<-Ob];simp[QC.out,bK]
 clear Ob;have Km:∀b,b<m->b≠o->blk vi≠some b->blk vn≠some b->blk vk≠some b->K9.get b=K.get b:=λ b h1 h2 h3 h4 h5=>(g9 b h2).trans ((yY b (by omega) h5).trans ((g5 b (by omega)).trans ((g4' b (by omega) h4).trans ((g3 b (by omega)).trans ((g2' b (by omega) h3).trans (g1 b h1))))));refine hQ (.sl (m+1) 0 (c+1) 8) (.sl (m+1+1+1) 0 (c+1) 1) (.sl (m+1+1+1+1+1) 0 (c+1) 1) (R++y1.cells) _ K9 _ ⟨by simp[aa,f0],by simp[aa,f3],by simp[aa,f5],by simp[aa,f6],by simp[aa,f86],by simp[aa,f87],by simp[aa,f88]⟩ ⟨by omega,λ b hb=>?_,λ b h1 h2 h3=>?_,?_,?_,?_,o9,?_,?_,?_,λ b hb=>by simp at hb;simp;omega,λ b hb=>by simp at hb;simp;omega,λ b hb=>by simp at hb;omega,λ h=>?_,by simp[M.hE],by simp[M.hN],by simp[M.hK]⟩
 ·exact(g9 b (by omega)).trans ((yY b (by omega) λ h=>by have:=hvk b h;omega).trans (t5 b (by omega)))
 ·exact(Km b (by omega) h3 (Qw b (by omega)) (Dv b (by omega)) (Qv b (by omega))).trans (M.kf b h1 h2 h3)
 ·exact(Km p (by omega) (by omega) (Qw p (by omega)) (Dv p (by omega)) (Qv p (by omega))).trans M.kp
 ·exact(Km n (by omega) (by omega) (Qw n (by omega)) (Dv n (by omega)) (Qv n (by omega))).trans M.kn
 ·exact(Km (n+1) (by omega) (by omega) (Qw (n+1) (by omega)) (Dv (n+1) (by omega)) (Qv (n+1) (by omega))).trans M.kq
 ·refine o2.frame (by omega) λ b hb=>?_;simp at hb;subst hb;exact(g9 _ (by omega)).trans ((yY _ (by omega) λ h=>by have:=hvk _ h;omega).trans ((g5 _ (by omega)).trans ((g4' _ (by omega) λ h=>by have:=DU _ h;omega).trans (g3 _ (by omega)))))
 ·rw[al.bo,al.dF,jQ];refine o4.frame (by omega) λ b hb=>?_;simp at hb;subst hb;exact(g9 _ (by omega)).trans ((yY _ (by omega) λ h=>by have:=hvk _ h;omega).trans (g5 _ (by omega)))
 ·rw[al.bo,al.dF,eR];refine o6.frame (by omega) λ b hb=>?_;simp at hb;subst hb;exact g9 _ (by omega)
 rw[al.bo,al.dF,nj];exact(M.fz h).append (aN.pure (Ex.oU y1))
theorem Q0 (n p o:Nat) (hpn:p<n) (hon:o<n) (hpo:p≠o) (H0:Hp) (s:bD) (ns:List (List Nat)) (ts:List aR) (hn:ns.length=ts.length) (hl:(aj ts).length<=lim) (ht:ts.length<=lim) (hcl:∀t∈ts,t.ae.length<=lim) (q:aY) (C:QC) (hC:C.fr.one=true/\C.on.one=true/\C.w.one=true/\C.od.one=true) (e0:Int) (c0:Nat) (hlim:c0+q.items.length<=lim) (E0:List Ex) (N0:List (List Nat)) (CV:List Int) (hz:∀x∈q.items,x.e.sz<=lim/\x.e.may=true)
  (F:Fr)(K:Hp)(m:Nat)(Q:QA)(vi vn vk:AV)(R:List AV)(hF:ItF n p o q 0 F)(M:CW H0 n p o s ns ts q C e0 c0 E0 N0 CV vi vn vk R K m)
  (hQ:∀vi vn vk R F K m,ItF n p o q q.items.length F->CW H0 n p o s ns ts q C (eb ns ts q.items e0).2.2 (c0+q.items.length) (E0++(eb ns ts q.items e0).1) (N0++q.items.map fK.nm) (CV++(eb ns ts q.items e0).2.1) vi vn vk R K m->Q .normal F K m []):au EY pG F K m [] (bX 4 Q):=by
 unfold lim at hlim;obtain⟨hC1,hC2,hC3,hC4⟩:=hC;refine au.of (λ g F K m ms=>∃(j:Nat) (vi vn vk:AV) (R:List AV),g=q.items.length - j/\j<=q.items.length/\ItF n p o q j F/\CW H0 n p o s ns ts q C (eb ns ts (q.items.take j) e0).2.2 (c0+j) (E0++(eb ns ts (q.items.take j) e0).1) (N0++(q.items.take j).map fK.nm) (CV++(eb ns ts (q.items.take j) e0).2.1) vi vn vk R K m/\ms=[]) q.items.length ⟨0,vi,vn,vk,R,by simp,by omega,hF,by simpa[eb]using M,rfl⟩ ?_;clear hF M F K m vi vn vk R;rintro g F K m ms ⟨j,vi,vn,vk,R,rfl,hj,⟨f0,f3,f5,f6,f86,f87,f88⟩,M,rfl⟩;have hm:=M.hm
 by_cases hlt:j<q.items.length
 ·have hZ:=jq.ix (ik:=.i64) hlt;have hld:=λ H=>jq.gM q.items[j] (jq.l (q.items.drop (j+1))) H;obtain⟨hz1,hz2⟩:=hz _ (getElem_mem hlt);have htk:=DL ns ts hlt e0;have kn:=M.kn;simp only[ju]at kn;have nm:=dj (show n<m by omega);simp[EY,G_,UZ,UY,f0,f5,f86,f87,f88,hlt,hZ,hld,al.av,kn,nm];generalize hK1:Tr.put _ m _=K1;have g1:∀b,b<m->K1.get b=K.get b:=λ b hb=>by rw[<-hK1];simp[dj hb]
  have x1:K1.get m=some (.cells 9 [] (jq.cells q.items[j]) .nil):=by rw[<-hK1];simp
  have t1:cS K1 (m+1):=λ b hb=>by
   have e1:¬b=m:=by omega
   rw[<-hK1];simp[e1,M.tp b (by omega)]
  clear hK1 hZ hld;have hvi:∀b,blk vi=some b->b<m:=λ b h=>M.oi.aK h;have DU:∀b,blk vn=some b->b<m:=λ b h=>M.on.aK h;have hvk:∀b,blk vk=some b->b<m:=λ b h=>M.ok.aK h;have hZ:=λ p err H n=>Gc ns ts hn hl ht hcl s q.items[j].e hz1 hz2 p err H n;have hnm:(q.items.take (j+1)).map fK.nm=(q.items.take j).map fK.nm++[q.items[j].nm]:=by rw[take_add_one,getElem?_eq_getElem hlt];simp only[map_append,Option.toList,map_cons,map_nil]
  have hei:=(uo ns ts (q.items.take j) e0);generalize eb ns ts (q.items.take j) e0=A at M htk hei;obtain⟨Ea,Ka,er0⟩:=A;simp only at M htk hei;have hZ:=hZ p er0 K1 (m+1) (by omega) ((g1 p (by omega)).trans M.kp);generalize q.items[j].e.bd ns ts er0=X at hZ htk;obtain⟨y1,kd,er⟩:=X;simp only at hZ htk;have M1:=λ(K':Hp) (m':Nat) (hm:m<=m') (ht:cS K' m') (hk:∀b,b<m->b≠p->K'.get b=K.get b) (hp:K'.get p=some (bV s er))=>M.next hpn hon hpo hm ht hk hp;generalize q.items[j]=it at hZ hnm x1;obtain⟨⟨op,v,tn,mn,cu,args⟩,JX⟩:=it;simp only[vV,Ex.cells,cons_append,nil_append]at x1;simp only[ju,Ex.av,Ex.cells]at hZ;simp[vV,Ex.cells];refine ao.ok hZ ?_;have k2:∀b,b≠p->(K1.put p (some (bV s er))).get b=K1.get b:=λ b hb=>by simp[hb]
  have p2:(K1.put p (some (bV s er))).get p=some (bV s er):=by simp
  generalize K1.put p (some (bV s er))=K2 at k2 p2 ⊢;have x2:=(k2 m (by omega)).trans x1;simp[UX,x2];generalize hK3:Tr.put _ (m+1) _=K3;have g3:∀b,b<m+1->K3.get b=K2.get b:=λ b hb=>by rw[<-hK3];simp[dj hb]
  have x3:K3.get (m+1)=some (.cells 8 [] y1.cells .nil):=by rw[<-hK3];simp
  have t3:cS K3 (m+1+1):=λ b hb=>by
   have e1:¬b=m+1:=by omega
   rw[<-hK3];simp[e1,k2 b (by omega),t1 b (by omega)]
  clear hK3;have x3':=(g3 m (by omega)).trans x2;have M3:=M1 K3 (m+1+1) (by omega) t3 (λ b h1 h2=>(g3 b (by omega)).trans ((k2 b h2).trans (g1 b h1))) ((g3 p (by omega)).trans p2);clear M1 M g1 k2 p2 x2 g3 x1 t1;generalize bN:(Fp 16 _ _:Fr)=F3;have w0:ItF n p o q j F3:=by rw[<-bN];exact⟨by simp[f0],by simp[f3],by simp[f5],by simp[f6],by simp[f86],by simp[f87],by simp[f88]⟩
  have Jq:F3.get 13=some (.ptr m 0):=by rw[<-bN];simp
  have w14:F3.get 14=some (.ptr (m+1) 0):=by rw[<-bN];simp
  have w15:F3.get 15=some (.int .i64 kd):=by rw[<-bN];simp
  have w16:F3.get 16=some (.str JX):=by rw[<-bN];simp
  clear bN;obtain⟨w0,w3,w5,w6,w86,w87,w88⟩:=w0
  have fin:∀(F4:Fr) (nm':List Nat),nm'=fK.nm ⟨.mk op v tn mn cu args,JX⟩->ItF n p o q j F4->F4.get 14=some (.ptr (m+1) 0)->F4.get 15=some (.int .i64 kd)->F4.get 16=some (.str nm')->VC pG Bt F4 K3 (m+1+1) [] (bX 5 (hJ pG G9 (mE (λ g F K m ms=>∃(j:Nat) (vi vn vk:AV) (R:List AV),g=q.items.length - j/\j<=q.items.length/\ItF n p o q j F/\CW H0 n p o s ns ts q C (eb ns ts (q.items.take j) e0).2.2 (c0+j) (E0++(eb ns ts (q.items.take j) e0).1) (N0++(q.items.take j).map fK.nm) (CV++(eb ns ts (q.items.take j) e0).2.1) vi vn vk R K m/\ms=[]) (q.items.length - j) (bX 4 Q)))):=by
   intro F4 nm' hnm' h0 si F6 h16;refine QZ n p o hpn hon hpo H0 s ns ts q C ⟨hC1,hC2,hC3,hC4⟩ er (c0+j) (by unfold lim;omega) _ _ _ y1 nm' kd j (m+1) F4 K3 (m+1+1) _ vi vn vk R h0 si F6 h16 x3 M3 λ vi' vn' vk' R' F5 K5 m5 h5 M5=>?_;have awk:=h5.f88;simp[G9,awk,ah j (by omega)];refine⟨_,by omega,j+1,rfl,hlt,⟨by simp[h5.f0],by simp[h5.f3],by simp[h5.f5],by simp[h5.f6],by simp[h5.f86],by simp[h5.f87],by simp⟩,vi',vn',vk',R',?_⟩;rw[htk,<-map_take,hnm,<-hnm'];simp only[<-append_assoc];exact M5
  by_cases hi0:JX=[]
  ·by_cases ho2:op=2
   ·simp[Bu,UW,Jq,w16,hi0,x3',ho2];have hx:=fin (Fp 16 (.str mn) (Fp 112 (.str mn) (Fp 111 (.ptr m 5) (Fp 110 (.ptr m 0) (Fp 109 (.bool true) (Fp 108 (.bool true) (Fp 107 (.int .i64 2) (Fp 106 (.ptr m 0) (Fp 105 (.ptr m 0) (Fp 104 (.bool true) (Fp 103 (.bool true) (Fp 102 (.str []) F3)))))))))))) mn (by simp[fK.nm,Ex.op,Ex.nm,hi0,ho2]) ⟨by simp[w0],by simp[w3],by simp[w5],by simp[w6],by simp[w86],by simp[w87],by simp[w88]⟩ (by simp[w14]) (by simp[w15]) (by simp);simpa using hx
   simp[Bu,Jq,w16,hi0,x3',ho2];have hx:=fin (Fp 109 (.bool false) (Fp 108 (.bool false) (Fp 107 (.int .i64 op) (Fp 106 (.ptr m 0) (Fp 105 (.ptr m 0) (Fp 104 (.bool true) (Fp 103 (.bool true) (Fp 102 (.str []) F3)))))))) [] (by simp[fK.nm,Ex.op,hi0,ho2]) ⟨by simp[w0],by simp[w3],by simp[w5],by simp[w6],by simp[w86],by simp[w87],by simp[w88]⟩ (by simp[w14]) (by simp[w15]) (by simp[w16,hi0]);simpa using hx
  simp[Bu,w16,hi0];have hx:=fin (Fp 109 (.bool false) (Fp 108 (.bg []) (Fp 107 (.bg []) (Fp 106 (.bg []) (Fp 105 (.bg []) (Fp 104 (.bool false) (Fp 103 (.bool false) (Fp 102 (.str JX) F3)))))))) JX (by simp[fK.nm,hi0]) ⟨by simp[w0],by simp[w3],by simp[w5],by simp[w6],by simp[w86],by simp[w87],by simp[w88]⟩ (by simp[w14]) (by simp[w15]) (by simp[w16]);simpa using hx
 have J2:j=q.items.length:=by omega
 subst J2;rw[take_length]at M;simp[EY,G_,f87,f88];exact hQ vi vn vk R _ K m ⟨by simp[f0],by simp[f3],by simp[f5],by simp[f6],by simp[f86],by simp[f87],by simp[f88]⟩ M
def aT (ns:List (List Nat))(ts:List aR)(q:aY)(err:Int):List Ex×List (List Nat)×List Int×Int:=
 if q.star=true then (cA (aj ts).length++(eb ns ts q.items (keep (keep err 200 (decide (ts=[]))) 3 (decide ((16:Int)<((aj ts).length:Int))))).1,gj ts++q.items.map fK.nm,aj ts++(eb ns ts q.items (keep (keep err 200 (decide (ts=[]))) 3 (decide ((16:Int)<((aj ts).length:Int))))).2.1,(eb ns ts q.items (keep (keep err 200 (decide (ts=[]))) 3 (decide ((16:Int)<((aj ts).length:Int))))).2.2)
 else ((eb ns ts q.items err).1,q.items.map fK.nm,(eb ns ts q.items err).2.1,(eb ns ts q.items err).2.2)
theorem aY.c1 (q:aY)(h:1<q.cells.length):q.cells[1]=.bool q.star:=by simp[aY.cells]
theorem aY.c2 (q:aY)(h:2<q.cells.length):q.cells[2]=jq.ds q.items:=by simp[aY.cells]
theorem aY.c3 (q:aY)(h:3<q.cells.length):q.cells[3]=gq.ds q.ab:=by simp[aY.cells]
theorem aY.c0 (q:aY)(h:0<q.cells.length):q.cells[0]=.bool q.jA:=by simp[aY.cells]
def aY.av (q:aY):AV:=.agg q.cells 15
theorem aa5 (ns:List (List Nat))(ts:List aR)(hn:ns.length=ts.length)(hl:(aj ts).length<=lim)(ht:ts.length<=lim)(hcl:∀t∈ts,t.ae.length<=lim)(s:bD)(q:aY)(hlim:(aj ts).length+q.items.length<=lim)(hz:∀x∈q.items,x.e.sz<=lim/\x.e.may=true)(C:QC)(hC:C.fr.one=true/\C.on.one=true/\C.w.one=true/\C.od.one=true)(p o:Nat)(err:Int)(H:Hp)(n:Nat)(hpn:p<n)(hon:o<n)(hpo:p≠o)(hr:fB n [C.fr,C.on,C.w,C.od])(hp:H.get p=some (bV s err))(ho:H.get o=some (.cells 25 [] (C.out (.ak (.slice none 0 0)) (.ak (.slice none 0 0)) (.ak (.slice none 0 0))) .nil)):
  bT pG 71 [.ptr p 0,.agg (ju ns ts) 2,q.av,.ptr o 0] H n (.bg []) ((H.put p (some (bV s (aT ns ts q err).2.2.2))).put o (some (.cells 25 [] (C.out (dz.ds (aT ns ts q err).1) (bB.ds (aT ns ts q err).2.1) (bR.ds (aT ns ts q err).2.2.1)) .nil))) n:=by
 have hr':=hr;simp only[iD,PR,and_true]at hr';obtain⟨r1,r2,r3,r4⟩:=hr';refine OA (args:=[.agg (ju ns ts) 2,q.av]) c71 (by simp[A71]) (by simp[ju,aY.av,aY.pure]) hpn hon hpo hp ho (by simp[QC.out,bK,r1,r2,r3,r4]) (by simp[QC.out,bK,r1,r2,r3,r4,Pure.kA]) λ F H0 hF htop hp0 ho0=>?_;have q':=Aj hpn;have r':=Aj hon
 have fin:∀(c:Nat) (E:List Ex) (N:List (List Nat)) (Ks:List Int) (e:Int) (vi vn vk:AV) (R:List AV) (K:Hp) (m:Nat),aT ns ts q err=(E,N,Ks,e)->CW H0 n p o s ns ts q C e c E N Ks vi vn vk R K m->dU (above n K) (.bg []) (.bg [])/\(∀c,c<n->c≠p->c≠o->K.get c=H0.get c)/\K.get p=some (bV s (aT ns ts q err).2.2.2)/\∃l,K.get o=some (.cells 25 [] l .nil)/\l.length=25/\kP (above n K) l (C.out (dz.ds (aT ns ts q err).1) (bB.ds (aT ns ts q err).2.1) (bR.ds (aT ns ts q err).2.2.1)):=by
  intro c E N Ks e vi vn vk R K m hb M;rw[hb];refine⟨.pure _ (by simp),M.kf,M.kp,_,M.ko,rfl,?_⟩
  have z1:dU (above n K) vi (dz.ds E):=by
   have:=M.oi.vK (n0:=n) (λ b hb=>by have:=(M.di b hb).1;omega) (M.fz _) (by omega);rw[al.ds,M.hE];exact this
  have z2:dU (above n K) vn (bB.ds N):=by
   have:=M.on.vK (n0:=n) (λ b hb=>by have:=(M.dn b hb).1;omega) (aN.pure (bB.mY N)) (by omega);rw[al.ds,M.hN];exact this
  have z3:dU (above n K) vk (bR.ds Ks):=by
   have:=M.ok.vK (n0:=n) (λ b hb=>by have:=M.dk b hb;omega) (aN.pure (bR.mY Ks)) (by omega);rw[al.ds,M.hK];exact this
  simp[QC.out,bK];exact⟨.inr z1,.inr z2,.inr z3⟩
 have start:∀(K:Hp) (m:Nat) (e:Int),n+2<=m->cS K m->(∀c,c<n->c≠p->K.get c=H0.get c)->K.get p=some (bV s e)->K.get n=some (.cells 2 [] (ju ns ts) .nil)->K.get (n+1)=some (.cells 15 [] q.cells .nil)->CW H0 n p o s ns ts q C e 0 [] [] [] (.ak (.slice none 0 0)) (.ak (.slice none 0 0)) (.ak (.slice none 0 0)) [] K m:=by
  intro K m e h1 h2 h3 h4 h5 h6;exact⟨h1,h2,λ b h1 h2 _=>h3 b h1 h2,h4,h5,h6,(h3 o hon (by omega)).trans ho0,by simpa using ar.nil _ _ 8,by simpa using ar.nil _ _ 1,by simpa using ar.nil _ _ 1,by simp,by simp,by simp,λ h=>by simpa using aN.nil,rfl,rfl,rfl⟩
 have rest:∀(c:Nat) (E:List Ex) (N:List (List Nat)) (Ks:List Int) (e:Int) (vi vn vk:AV) (R:List AV) (F:Fr) (K:Hp) (m:Nat),F.get 0=some (.ptr p 0)->F.get 3=some (.ptr o 0)->F.get 5=some (.ptr n 0)->F.get 6=some (.ptr (n+1) 0)->c+q.items.length<=lim->CW H0 n p o s ns ts q C e c E N Ks vi vn vk R K m->aT ns ts q err=(E++(eb ns ts q.items e).1,N++q.items.map fK.nm,Ks++(eb ns ts q.items e).2.1,(eb ns ts q.items e).2.2) ->
   VC pG (Ha.seq (CT.block 4 EY.loop)) F K m [] (iR [] λ v K x=>dU (above n K) v (.bg [])/\(∀c,c<n->c≠p->c≠o->K.get c=H0.get c)/\K.get p=some (bV s (aT ns ts q err).2.2.2)/\∃l,K.get o=some (.cells 25 [] l .nil)/\l.length=25/\kP (above n K) l (C.out (dz.ds (aT ns ts q err).1) (bB.ds (aT ns ts q err).2.1) (bR.ds (aT ns ts q err).2.2.1))):=by
  intro c E N Ks e vi vn vk R F K m f0 f3 f5 f6 hc M hb;have kq:=M.kq;simp[Ha,f6,kq,aY.c2,al.ag];refine Q0 n p o hpn hon hpo H0 s ns ts hn hl ht hcl q C hC e c hc E N Ks hz _ K m _ vi vn vk R ⟨by simp[f0],by simp[f3],by simp[f5],by simp[f6],by simp,by simp,by simp⟩ M λ vi vn vk R F K m S M=>?_;simpa using fin _ _ _ _ _ vi vn vk R K m hb M
 simp[A71,B71,afq,afp,hF,aY.av,aY.c1];generalize hK:Tr.put _ (n+1) _=K0;have k0:∀c,c<n->K0.get c=H0.get c:=λ c hc=>by rw[<-hK];simp[dj hc]
 have kn:K0.get n=some (.cells 2 [] (ju ns ts) .nil):=by rw[<-hK];simp
 have kq:K0.get (n+1)=some (.cells 15 [] q.cells .nil):=by rw[<-hK];simp
 have kt:cS K0 (n+1+1):=λ c hc=>by
  have e1:¬c=n:=by omega
  have e2:¬c=n+1:=by omega
  rw[<-hK];simp[e1,e2,htop c (by omega)]
 clear hK
 cases hst:q.star with
 | false =>
  simp;have:=rest 0 [] [] [] err _ _ _ [] (Fp 18 (.bool false) (Fp 17 (.ptr (n+1) 1) (Fp 6 (.ptr (n+1) 0) (Fp 5 (.ptr n 0) F)))) K0 (n+1+1) (by simp[hF]) (by simp[hF]) (by simp) (by simp) (by omega) (start K0 (n+1+1) err (by omega) kt (λ c hc _=>k0 c hc) ((k0 p hpn).trans hp0) kn kq) (by simp[aT,hst]);simpa using this
 | true =>
  have CU:=kn;simp only[ju]at CU;simp[afo,hF,CU,al.ag];refine ao.ok (fL p s err 200 (decide (ts=[])) K0 _ (by omega) ((k0 p hpn).trans hp0)) ?_;generalize hE1:keep err 200 (decide (ts=[]))=e1;have j2:∀c,c≠p->(K0.put p (some (bV s e1))).get c=K0.get c:=λ c hc=>by simp[hc]
  have jp:(K0.put p (some (bV s e1))).get p=some (bV s e1):=by simp
  generalize K0.put p (some (bV s e1))=K1 at j2 jp ⊢;have kn1:=(j2 n (by omega)).trans kn;simp[afn,hF,kn1];refine ao.pure (DG ns ts hl ht hcl) ?_;simp;refine ao.ok (fL p s e1 3 (decide ((16:Int)<((aj ts).length:Int))) K1 _ (by omega) jp) ?_;generalize hE2:keep e1 3 (decide ((16:Int)<((aj ts).length:Int)))=e2;have j3:∀c,c≠p->(K1.put p (some (bV s e2))).get c=K1.get c:=λ c hc=>by simp[hc]
  have E':(K1.put p (some (bV s e2))).get p=some (bV s e2):=by simp
  generalize K1.put p (some (bV s e2))=K2 at j3 E' ⊢;have kn2:=(j3 n (by omega)).trans kn1;have kq2:=(j3 (n+1) (by omega)).trans ((j2 (n+1) (by omega)).trans kq);simp only[ju]at kn2;simp[afm,kn2,al.ag]
  have hb:aT ns ts q err=(cA (aj ts).length++(eb ns ts q.items e2).1,gj ts++q.items.map fK.nm,aj ts++(eb ns ts q.items e2).2.1,(eb ns ts q.items e2).2.2):=by
   rw[<-hE2,<-hE1];simp[aT,hst]
  refine Q1 n p o hpn hon hpo H0 s ns ts q C hC e2 hl ht _ K2 (n+1+1) _ (.ak (.slice none 0 0)) (.ak (.slice none 0 0)) (.ak (.slice none 0 0)) [] ⟨by simp[hF],by simp[hF],by simp,by simp,by simp,by simp,by simp⟩ (start K2 (n+1+1) e2 (by omega) (λ c hc=>(j3 c (by omega)).trans ((j2 c (by omega)).trans (kt c hc))) (λ c h1 h2=>(j3 c h2).trans ((j2 c h2).trans (k0 c h1))) E' kn2 kq2) λ vi vn vk R F K m S M=>?_;have:=rest _ _ _ _ e2 vi vn vk R F K m S.f0 S.f3 S.f5 S.f6 (by omega) M hb;simpa using this
def Src.nm (x:Src):List Nat:=if x.name=[]then x.table else x.name
def bD.tb (s:bD)(x:Src):aR:=(s.named x.table).1
def yw (l:List Src)(i:Nat):Src:=l.getD i ⟨[],[],.mk 0 ⟨0,0,[]⟩ [] [] 0 []⟩
theorem mL {l:List Src}{i:Nat}(h:i<l.length):yw l i=l[i]:=by simp[yw,h]
def ep (s:bD)(l:List Src):Nat->Int->Int
 | 0,err=>err
 | i+1,err=>keep (keep (ep s l i err) 200 (!(s.named (yw l i).table).2)) 205 (decide ((yw l i).nm∈(l.take i).map Src.nm))
structure SrM (H0:Hp)(n p o:Nat)(s:bD)(q:aY)(kind:Int)(e:Int)(i:Nat)(vn vt:AV)(K:Hp)(m:Nat):Prop where
 hm:n+2<=m
 tp:cS K m
 kf:∀b,b<n->b≠p->b≠o->K.get b=H0.get b
 kp:K.get p=some (bV s e)
 kn:K.get n=some (.cells 15 [] q.cells .nil)
 ks:K.get (n+1)=some (.cells 2 [] [vn,vt] .nil)
 ko:K.get o=some (.cells 25 [] (br kind) .nil)
 on:ar K m vn (bB.l ((q.ab.take i).map Src.nm)) i 1
 ot:ar K m vt (aG.l ((q.ab.take i).map s.tb)) i 4
 dn:∀b,blk vn=some b->n+2<=b/\blk vt≠some b
 dt:∀b,blk vt=some b->n+2<=b
structure SrF (n p o:Nat)(q:aY)(i:Nat)(F:Fr):Prop where
 f0:F.get 0=some (.ptr p 0)
 f2:F.get 2=some (.ptr o 0)
 f4:F.get 4=some (.ptr n 0)
 f6:F.get 6=some (.ptr (n+1) 0)
 f17:F.get 17=some (gq.ds q.ab)
 f18:F.get 18=some (.int .i64 (q.ab.length:Int))
 f19:F.get 19=some (.int .i64 (i:Int))
theorem SrM.next {H0:Hp}{n p o:Nat}{s:bD}{q:aY}{kind e:Int}{i:Nat}{vn vt:AV}{K:Hp}{m:Nat}(M:SrM H0 n p o s q kind e i vn vt K m)(hpn:p<n)(hon:o<n)(hpo:p≠o){K':Hp}{m':Nat}{e':Int}(hm:m<=m')(ht:cS K' m')(hk:∀b,b<m->b≠p->K'.get b=K.get b)(hp:K'.get p=some (bV s e')):SrM H0 n p o s q kind e' i vn vt K' m':=by
 have hm0:=M.hm
 exact⟨by omega,ht,λ b h1 h2 h3=>(hk b (by omega) h2).trans (M.kf b h1 h2 h3),hp,(hk n (by omega) (by omega)).trans M.kn,(hk (n+1) (by omega) (by omega)).trans M.ks,(hk o (by omega) (by omega)).trans M.ko,
  M.on.frame hm λ b hb=>hk b (M.on.aK hb) (by have:=(M.dn b hb).1;omega),M.ot.frame hm λ b hb=>hk b (M.ot.aK hb) (by have:=M.dt b hb;omega),M.dn,M.dt⟩
theorem P5 (n p o:Nat)(hpn:p<n)(hon:o<n)(_hpo:p≠o)(H0:Hp)(s:bD)(q:aY)(kind e:Int)(i:Nat)(hlt:i<q.ab.length)(hlim:i<lim)(a:Nat)
  (F:Fr)(K:Hp)(m:Nat)(Q:QA)(vn vt:AV)(hF:SrF n p o q i F)(f9:F.get 9=some (.ptr a 0))(f10:F.get 10=some (.str q.ab[i].nm))(ha:K.get a=some (.cells 4 [] (aG.cells (s.tb q.ab[i])) .nil))(han:n+2<=a)(gN:blk vn≠some a)(M:SrM H0 n p o s q kind e i vn vt K m)
  (hQ:∀vn vt F K m,SrF n p o q i F->SrM H0 n p o s q kind e (i+1) vn vt K m->Q .normal F K m []):VC pG BI F K m [] Q:=by
 unfold lim at hlim;obtain⟨f0,f2,f4,f6,f17,f18,f19⟩:=hF;have hm:=M.hm;have ks:=M.ks;have t0:=M.tp;have DU:∀b,blk vn=some b->b<m:=λ b h=>M.on.aK h;have hvt:∀b,blk vt=some b->b<m:=λ b h=>M.ot.aK h;have Dv:∀b,b<n+2->blk vn≠some b:=λ b h1 h2=>by have:=(M.dn b h2).1;omega
 have nvt:∀b,b<n+2->blk vt≠some b:=λ b h1 h2=>by have:=M.dt b h2;omega
 have ntn:∀b,blk vt=some b->blk vn≠some b:=λ b h1 h2=>(M.dn b h2).2 h1;have ham:=M.tp.lt ha;simp only[BI,cH];refine bY.of (bH (P:=pG)) ?_;have tm:=t0 m (Nat.le_refl _);simp[aa,f6,f10,ks,bw,bL,tm];generalize hK1:Tr.put K m _=K1;have g1:∀b,b<m->K1.get b=K.get b:=λ b hb=>by rw[<-hK1];simp[dj hb]
 have x1:K1.get m=some (.cells 1 [] [.str q.ab[i].nm] .nil):=by rw[<-hK1];simp
 have t1:cS K1 (m+1):=λ b hb=>by
  have e1:¬b=m:=by omega
  rw[<-hK1];simp[e1,t0 b (by omega)]
 clear hK1;have on1:ar K1 (m+1) vn (bB.l ((q.ab.take i).map Src.nm)) i 1:=M.on.frame (by omega) λ b hb=>g1 b (DU b hb);refine ar.ru (k:=1) (new:=[.str q.ab[i].nm]) on1 (aB x1) (by simp) (by simp) (by omega) (by omega) (by unfold big;omega) (by omega) (by simp) λ K2 o2 g2=>?_;have g2':∀b,b≠m+1->blk vn≠some b->K2.get b=K1.get b:=λ b h1 h2=>g2 b h1 λ e=>h2 (by rw[e];rfl);clear g2;have t2:cS K2 (m+1+1):=λ b hb=>(g2' b (by omega) λ h=>by have:=DU b h;omega).trans (t1 b (by omega));have ks2:=(g2' (n+1) (by omega) (Dv _ (by omega))).trans ((g1 (n+1) (by omega)).trans ks);have ha2:=(g2' a (by omega) gN).trans ((g1 a ham).trans ha);have tm2:=t2 (m+1+1) (Nat.le_refl _);have aiB:=t0 (m+1+1) (by omega);simp[aa,f6,f9,ks,ks2,ha,ha2,bw,bL,tm2,aiB];generalize hK3:Tr.put K2 (m+1+1) _=K3;have g3:∀b,b<m+1+1->K3.get b=K2.get b:=λ b hb=>by rw[<-hK3];simp[dj hb]
 have x3:K3.get (m+1+1)=some (.cells 4 [] (aG.cells (s.tb q.ab[i])) .nil):=by rw[<-hK3];simp
 have t3:cS K3 (m+1+1+1):=λ b hb=>by
  have e1:¬b=m+1+1:=by omega
  rw[<-hK3];simp[e1,t2 b (by omega)]
 clear hK3;have ot3:ar K3 (m+1+1+1) vt (aG.l ((q.ab.take i).map s.tb)) i 4:=M.ot.frame (by omega) λ b hb=>(g3 b (by have:=hvt b hb;omega)).trans ((g2' b (by have:=hvt b hb;omega) (ntn b hb)).trans (g1 b (hvt b hb)));refine ar.ru (k:=1) (new:=aG.cells (s.tb q.ab[i])) ot3 (aB x3) (by simp) (by simp) (by omega) (by omega) (by unfold big;omega) (by omega) (by simp) λ K4 o4 g4=>?_;have g4':∀b,b≠m+1+1+1->blk vt≠some b->K4.get b=K3.get b:=λ b h1 h2=>g4 b h1 λ e=>h2 (by rw[e];rfl);clear g4;have ks4:=(g4' (n+1) (by omega) (nvt _ (by omega))).trans ((g3 (n+1) (by omega)).trans ks2);simp[aa,f6,ks4];generalize Ob:Tr.put (Tr.put K4 (n+1) _) (n+1) _=K9;have g9:∀b,b≠n+1->K9.get b=K4.get b:=λ b hb=>by rw[<-Ob];simp[hb]
 have s9:K9.get (n+1)=some (.cells 2 [] [.sl (m+1) 0 (i+1) 1,.sl (m+1+1+1) 0 (i+1) 4] .nil):=by rw[<-Ob];simp
 clear Ob;have Km:∀b,b<m->b≠n+1->blk vn≠some b->blk vt≠some b->K9.get b=K.get b:=λ b h1 h2 h3 h4=>(g9 b h2).trans ((g4' b (by omega) h4).trans ((g3 b (by omega)).trans ((g2' b (by omega) h3).trans (g1 b h1))));have etk:q.ab.take (i+1)=q.ab.take i++[q.ab[i]]:=by rw[take_add_one,getElem?_eq_getElem hlt];rfl
 refine hQ (.sl (m+1) 0 (i+1) 1) (.sl (m+1+1+1) 0 (i+1) 4) _ K9 _ ⟨by simp[aa,f0],by simp[aa,f2],by simp[aa,f4],by simp[aa,f6],by simp[aa,f17],by simp[aa,f18],by simp[aa,f19]⟩ ⟨by omega,λ b hb=>?_,λ b h1 h2 h3=>?_,?_,?_,s9,?_,?_,?_,λ b hb=>by simp at hb;simp;omega,λ b hb=>by simp at hb;omega⟩
 ·exact(g9 b (by omega)).trans ((g4' b (by omega) λ h=>by have:=hvt b h;omega).trans (t3 b (by omega)))
 ·exact(Km b (by omega) (by omega) (Dv b (by omega)) (nvt b (by omega))).trans (M.kf b h1 h2 h3)
 ·exact(Km p (by omega) (by omega) (Dv p (by omega)) (nvt p (by omega))).trans M.kp
 ·exact(Km n (by omega) (by omega) (Dv n (by omega)) (nvt n (by omega))).trans M.kn
 ·exact(Km o (by omega) (by omega) (Dv o (by omega)) (nvt o (by omega))).trans M.ko
 ·rw[etk,map_append,al.bo];refine o2.frame (by omega) λ b hb=>?_;simp at hb;subst hb;exact(g9 _ (by omega)).trans ((g4' _ (by omega) λ h=>by have:=hvt _ h;omega).trans (g3 _ (by omega)))
 rw[etk,map_append,al.bo,map_cons,map_nil,al.dF];refine o4.frame (by omega) λ b hb=>?_;simp at hb;subst hb;exact g9 _ (by omega)
theorem P8 (n p o:Nat) (hpn:p<n) (hon:o<n) (hpo:p≠o) (H0:Hp) (s:bD) (hs:s.dE) (q:aY) (hlim:q.ab.length<=lim) (kind e0:Int)
  (F:Fr)(K:Hp)(m:Nat)(Q:QA)(vn vt:AV)(hF:SrF n p o q 0 F)(M:SrM H0 n p o s q kind e0 0 vn vt K m)
  (hQ:∀vn vt F K m,SrF n p o q q.ab.length F->SrM H0 n p o s q kind (ep s q.ab q.ab.length e0) q.ab.length vn vt K m->Q .normal F K m []):au MS pG F K m [] (bX 0 Q):=by
 refine au.of (λ g F K m ms=>∃(i:Nat) (vn vt:AV),g=q.ab.length - i/\i<=q.ab.length/\SrF n p o q i F/\SrM H0 n p o s q kind (ep s q.ab i e0) i vn vt K m/\ms=[]) q.ab.length ⟨0,vn,vt,by simp,by omega,hF,M,rfl⟩ ?_;clear hF M F K m vn vt;rintro g F K m ms ⟨i,vn,vt,rfl,hi,⟨f0,f2,f4,f6,f17,f18,f19⟩,M,rfl⟩;have hm:=M.hm
 by_cases hlt:i<q.ab.length
 ·have hZ:=gq.ix (ik:=.i64) hlt;have hld:=λ H=>gq.gM q.ab[i] (gq.l (q.ab.drop (i+1))) H;simp[MS,Wz,aho,ahn,f0,f17,f18,f19,hlt,hZ,hld,al.av];generalize hK1:Tr.put _ m _=K1;have g1:∀b,b<m->K1.get b=K.get b:=λ b hb=>by rw[<-hK1];simp[dj hb]
  have x1:K1.get m=some (.cells 10 [] (gq.cells q.ab[i]) .nil):=by rw[<-hK1];simp
  have t1:cS K1 (m+1):=λ b hb=>by
   have e1:¬b=m:=by omega
   rw[<-hK1];simp[e1,M.tp b (by omega)]
  clear hK1 hZ hld;rw[qd]at x1;simp[qd];have DU:∀b,blk vn=some b->b<m:=λ b h=>M.on.aK h;refine ao.ok (nR s hs q.ab[i].table p _ K1 (m+1) (by omega) ((g1 p (by omega)).trans M.kp)) ?_;generalize hE1:keep (ep s q.ab i e0) 200 (!(s.named q.ab[i].table).2)=e1;have j2:∀b,b≠p->(K1.put p (some (bV s e1))).get b=K1.get b:=λ b hb=>by simp[hb]
  have jp:(K1.put p (some (bV s e1))).get p=some (bV s e1):=by simp
  generalize K1.put p (some (bV s e1))=K2 at j2 jp ⊢;have x2:=(j2 m (by omega)).trans x1;simp[al.av];generalize hK3:Tr.put _ (m+1) _=K3;have g3:∀b,b<m+1->K3.get b=K2.get b:=λ b hb=>by rw[<-hK3];simp[dj hb]
  have x3:K3.get (m+1)=some (.cells 4 [] (aG.cells (s.tb q.ab[i])) .nil):=by rw[<-hK3];simp[bD.tb]
  have t3:cS K3 (m+1+1):=λ b hb=>by
   have e1:¬b=m+1:=by omega
   rw[<-hK3];simp[e1,j2 b (by omega),t1 b (by omega)]
  clear hK3;have y3:=(g3 m (by omega)).trans x2;have M3:=M.next hpn hon hpo (m':=m+1+1) (by omega) t3 (λ b h1 h2=>(g3 b (by omega)).trans ((j2 b h2).trans (g1 b h1))) ((g3 p (by omega)).trans jp);have hct:=qh ((q.ab.take i).map Src.nm) q.ab[i].nm (by simp;omega)
  have hfz:dU K3.get vn (bB.ds ((q.ab.take i).map Src.nm)):=by
   have:=M3.on.uw (aN.pure (bB.mY _)) (by omega)
   have e:bB.ds ((q.ab.take i).map Src.nm)=.ds (bB.l ((q.ab.take i).map Src.nm)) i 1:=by
    rw[al.ds];simp;omega
   rw[e];exact this
  have fin:∀F4:Fr,SrF n p o q i F4->F4.get 9=some (.ptr (m+1) 0)->F4.get 10=some (.str q.ab[i].nm)->VC pG (Wx.seq BI) F4 K3 (m+1+1) [] (bX 1 (hJ pG HO (mE (λ g F K m ms=>∃(i:Nat) (vn vt:AV),g=q.ab.length - i/\i<=q.ab.length/\SrF n p o q i F/\SrM H0 n p o s q kind (ep s q.ab i e0) i vn vt K m/\ms=[]) (q.ab.length - i) (bX 0 Q)))):=by
   intro F4 ⟨w0,w2,w4,w6,w17,w18,w19⟩ w9 w10;have ks3:=M3.ks;simp[Wx,w0,w6,w10,ks3];refine ao.uw hct (by simp) (.cons _ _ _ _ hfz (.cons _ _ _ _ (.pure _ (by simp)) .nil)) ?_;simp;refine ao.ok (fL p s e1 205 _ K3 _ (by omega) M3.kp) ?_
   have hee:ep s q.ab (i+1) e0=keep e1 205 (decide (q.ab[i].nm∈(q.ab.map Src.nm).take i)):=by
    rw[ep,mL hlt,hE1,map_take]
   rw[<-hee];have j4:∀b,b≠p->(K3.put p (some (bV s (ep s q.ab (i+1) e0)))).get b=K3.get b:=λ b hb=>by simp[hb]
   have jp4:(K3.put p (some (bV s (ep s q.ab (i+1) e0)))).get p=some (bV s (ep s q.ab (i+1) e0)):=by simp
   generalize K3.put p (some (bV s (ep s q.ab (i+1) e0)))=K4 at j4 jp4 ⊢;have M4:=M3.next hpn hon hpo (Nat.le_refl _) (λ b hb=>(j4 b (by omega)).trans (t3 b hb)) (λ b h1 h2=>j4 b h2) jp4;refine P5 n p o hpn hon hpo H0 s q kind _ i hlt (by omega) (m+1) _ K4 (m+1+1) _ vn vt ⟨by simp[w0],by simp[w2],by simp[w4],by simp[w6],by simp[w17],by simp[w18],by simp[w19]⟩ (by simp[w9]) (by simp[w10]) ((j4 _ (by omega)).trans x3) (by omega) (λ h=>by have:=DU _ h;omega) M4 λ vn' vt' F5 K5 m5 S5 M5=>?_;have awl:=S5.f19;unfold lim at hlim;simp[HO,awl,ah i (by omega)];exact⟨_,by omega,i+1,rfl,hlt,⟨by simp[S5.f0],by simp[S5.f2],by simp[S5.f4],by simp[S5.f6],by simp[S5.f17],by simp[S5.f18],by simp⟩,vn',vt',M5⟩
  simp[ahm,y3]
  by_cases hnm:q.ab[i].name=[]
  ·simp[Wy,y3,hnm];generalize FX:(Fp 31 _ _:Fr)=F5;have:=fin F5 (by rw[<-FX];exact⟨by simp[f0],by simp[f2],by simp[f4],by simp[f6],by simp[f17],by simp[f18],by simp[f19]⟩) (by rw[<-FX];simp) (by rw[<-FX];simp[Src.nm,hnm]);simpa using this
  simp[Wy,ahl,y3,hnm];generalize FX:(Fp 10 _ _:Fr)=F5;have:=fin F5 (by rw[<-FX];exact⟨by simp[f0],by simp[f2],by simp[f4],by simp[f6],by simp[f17],by simp[f18],by simp[f19]⟩) (by rw[<-FX];simp) (by rw[<-FX];simp[Src.nm,hnm]);simpa using this
 have J2:i=q.ab.length:=by omega
 subst J2;simp[MS,Wz,f18,f19];exact hQ vn vt _ K m ⟨by simp[f0],by simp[f2],by simp[f4],by simp[f6],by simp[f17],by simp[f18],by simp[f19]⟩ M
def gB (ns:List (List Nat))(ts:List aR)(l:List Src):Nat->Int->List (List Ex)×Int
 | 0,err=>([],err)
 | i+1,err=>((gB ns ts l i err).1++[(cQ (ns.take (i+1)) (ts.take (i+1)) (yw l i).cond (gB ns ts l i err).2).1],(cQ (ns.take (i+1)) (ts.take (i+1)) (yw l i).cond (gB ns ts l i err).2).2)
theorem Ag (ns:List (List Nat))(ts:List aR)(l:List Src)(err:Int):∀i,(gB ns ts l i err).1.length=i
 | 0=>rfl
 | i+1=>by simp[gB,Ag ns ts l err i]
structure QyM (H0:Hp)(n p o:Nat)(s:bD)(ns:List (List Nat))(ts:List aR)(q:aY)(e:Int)(K:Hp)(m:Nat):Prop where
 hm:n+2<=m
 tp:cS K m
 kf:∀b,b<n->b≠p->b≠o->K.get b=H0.get b
 kp:K.get p=some (bV s e)
 kn:K.get n=some (.cells 15 [] q.cells .nil)
 ks:K.get (n+1)=some (.cells 2 [] (ju ns ts) .nil)
theorem QyM.next {H0:Hp}{n p o:Nat}{s:bD}{ns:List (List Nat)}{ts:List aR}{q:aY}{e:Int}{K:Hp}{m:Nat}(M:QyM H0 n p o s ns ts q e K m)(hpn:p<n)(hon:o<n){K':Hp}{m':Nat}{e':Int}(hm:m<=m')(ht:cS K' m')(hk:∀b,b<n+2->b≠p->b≠o->K'.get b=K.get b)(hp:K'.get p=some (bV s e')):QyM H0 n p o s ns ts q e' K' m':=by
 have hm0:=M.hm;exact⟨by omega,ht,λ b h1 h2 h3=>(hk b (by omega) h2 h3).trans (M.kf b h1 h2 h3),hp,(hk n (by omega) (by omega) (by omega)).trans M.kn,(hk (n+1) (by omega) (by omega) (by omega)).trans M.ks⟩
structure OnF (n p o:Nat)(q:aY)(i:Nat)(F:Fr):Prop where
 f0:F.get 0=some (.ptr p 0)
 f2:F.get 2=some (.ptr o 0)
 f4:F.get 4=some (.ptr n 0)
 f6:F.get 6=some (.ptr (n+1) 0)
 f64:F.get 64=some (gq.ds q.ab)
 f65:F.get 65=some (.int .i64 (q.ab.length:Int))
 f66:F.get 66=some (.int .i64 (i:Int))
def FA (kind:Int)(ts:List aR)(on:AV):List AV:=bK kind (aG.ds ts) on (.ak (.slice none 0 0)) (.ak (.slice none 0 0)) (.ak (.slice none 0 0)) (.ak (.slice none 0 0)) (.ak (.slice none 0 0)) false false 0
structure OnM (H0:Hp)(n p o:Nat)(s:bD)(ns:List (List Nat))(ts:List aR)(q:aY)(kind:Int)(e:Int)(i:Nat)(L:List (List Ex))(va:AV)(K:Hp)(m:Nat):Prop where
 mem:QyM H0 n p o s ns ts q e K m
 ko:K.get o=some (.cells 25 [] (FA kind ts va) .nil)
 oa:ar K m va (dw.l L) i 1
 da:∀b,blk va=some b->n+2<=b
theorem P7 (n p o:Nat)(hpn:p<n)(hon:o<n)(hpo:p≠o)(H0:Hp)(s:bD)(ns:List (List Nat))(ts:List aR)(hn:ns.length=ts.length)(hl:(aj ts).length<=lim)(ht:ts.length<=lim)(hcl:∀t∈ts,t.ae.length<=lim)(q:aY)(hlen:q.ab.length=ts.length)(hz:∀x∈q.ab,x.cond.sz<=lim/\x.cond.maybe=true)(kind e0:Int)
  (F:Fr)(K:Hp)(m:Nat)(Q:QA)(I0:Zs (λ g F K m ms=>∃va,g=q.ab.length/\OnF n p o q 0 F/\OnM H0 n p o s ns ts q kind e0 0 [] va K m/\ms=[]) q.ab.length F K m [])
  (hQ:∀va F K m,OnF n p o q q.ab.length F->OnM H0 n p o s ns ts q kind (gB ns ts q.ab q.ab.length e0).2 q.ab.length (gB ns ts q.ab q.ab.length e0).1 va K m->Q .normal F K m []):au MR pG F K m [] (bX 2 Q):=by
 have htl:=ht;unfold lim at ht;refine au.ofZ (λ g F K m ms=>∃(i:Nat) (va:AV),g=q.ab.length - i/\i<=q.ab.length/\OnF n p o q i F/\OnM H0 n p o s ns ts q kind (gB ns ts q.ab i e0).2 i (gB ns ts q.ab i e0).1 va K m/\ms=[]) q.ab.length ?_ ?_
 ·obtain⟨h,F2,K2,h1,va,_,h3,h4,h5⟩:=I0;exact⟨h,F2,K2,h1,0,va,by simp,by omega,h3,by simpa[gB]using h4,h5⟩
 clear I0 F K m;rintro g F K m ms ⟨i,va,rfl,hi,⟨f0,f2,f4,f6,f64,f65,f66⟩,M,rfl⟩;have hm:=M.mem.hm
 by_cases hlt:i<q.ab.length
 ·have hZ:=gq.ix (ik:=.i64) hlt;have hld:=λ H=>gq.gM q.ab[i] (gq.l (q.ab.drop (i+1))) H;obtain⟨hz1,hz2⟩:=hz _ (getElem_mem hlt);simp[MR,HM,WM,f64,f65,f66,hlt,hZ,hld,al.av];generalize hK1:Tr.put _ m _=K1;have g1:∀b,b<m->K1.get b=K.get b:=λ b hb=>by rw[<-hK1];simp[dj hb]
  have x1:K1.get m=some (.cells 10 [] (gq.cells q.ab[i]) .nil):=by rw[<-hK1];simp
  have t1:cS K1 (m+1):=λ b hb=>by
   have e1:¬b=m:=by omega
   rw[<-hK1];simp[e1,M.mem.tp b (by omega)]
  clear hK1 hZ hld;have hva:∀b,blk va=some b->b<m:=λ b h=>M.oa.aK h;have nva:∀b,b<n+2->blk va≠some b:=λ b h1 h2=>by have:=M.da b h2;omega
  have ks1:=(g1 (n+1) (by omega)).trans M.mem.ks;have NX:=(g1 o (by omega)).trans M.ko;simp only[ju]at ks1;simp only[FA,bK]at NX
  have hsl1:jZ 1 none (some (.int .i64 ((i:Int)+1))) none (bB.ds ns)=.val (bB.ds (ns.take (i+1))):=by
   have:=bB.xJ (l:=ns) (i:=i+1) (by omega);simpa using this
  have hsl2:jZ 4 none (some (.int .i64 ((i:Int)+1))) none (aG.ds ts)=.val (aG.ds (ts.take (i+1))):=by
   have:=aG.xJ (l:=ts) (i:=i+1) (by omega);simpa using this
  have hkl:=gD ts (i+1);have hcd:=Bc (ns.take (i+1)) (ts.take (i+1)) (by simp;omega) (by omega) (by simp;omega) (λ t h=>hcl t (mem_of_mem_take h)) s q.ab[i].cond hz1 hz2 p (gB ns ts q.ab i e0).2 K1 (m+1) (by omega) ((g1 p (by omega)).trans M.mem.kp);have gN:q.ab[i].cond.av=.agg q.ab[i].cond.cells 8:=Eq.trans rfl rfl;rw[gN]at hcd
  have aa_:gB ns ts q.ab (i+1) e0=((gB ns ts q.ab i e0).1++[(cQ (ns.take (i+1)) (ts.take (i+1)) q.ab[i].cond (gB ns ts q.ab i e0).2).1],(cQ (ns.take (i+1)) (ts.take (i+1)) q.ab[i].cond (gB ns ts q.ab i e0).2).2):=by
   rw[gB,mL hlt]
  generalize cQ (ns.take (i+1)) (ts.take (i+1)) q.ab[i].cond (gB ns ts q.ab i e0).2=cd at hcd aa_;obtain⟨cl,ce⟩:=cd;simp only[ju]at hcd;simp only at hcd aa_;simp only[WL,cH];refine bY.of (fP (l:=[⟨19,[.ptr p 0,.agg [bB.ds (ns.take (i+1)),aG.ds (ts.take (i+1))] 2,.agg q.ab[i].cond.cells 8],K1,m+1,dz.ds cl,K1.put p (some (bV s ce)),m+1⟩]) ?_) ?_
  ·simp only[mem_cons,not_mem_nil,or_false];rintro c rfl;exact hcd
  have aju:take 8 q.ab[i].cond.cells=q.ab[i].cond.cells:=take_of_length_le (by simp);rw[qd]at x1;simp[aa,f0,f2,f6,ks1,x1,ah i (by omega),hsl1,hsl2,aju,fQ];have op:(o=p)=False:=by simp[Ne.symm hpo]
  have n1:=t1 (m+1) (Nat.le_refl _);have n2:(K1.put p (some (bV s ce))).get (m+1)=none:=by simp[show ¬m+1=p by omega,n1]
  have j2:∀b,b≠p->(K1.put p (some (bV s ce))).get b=K1.get b:=λ b hb=>by simp[hb]
  have jp:(K1.put p (some (bV s ce))).get p=some (bV s ce):=by simp
  have JR:=(j2 o (by omega)).trans NX;simp[op,NX];generalize K1.put p (some (bV s ce))=K2 at n2 j2 jp JR ⊢;simp[bw,bL,n1,n2];generalize hK3:Tr.put K2 (m+1) _=K3;have g3:∀b,b<m+1->K3.get b=K2.get b:=λ b hb=>by rw[<-hK3];simp[dj hb]
  have x3:K3.get (m+1)=some (.cells 1 [] [dz.ds cl] .nil):=by rw[<-hK3];simp
  have t3:cS K3 (m+1+1):=λ b hb=>by
   have e1:¬b=m+1:=by omega
   rw[<-hK3];simp[e1,j2 b (by omega),t1 b (by omega)]
  clear hK3;have bk3:∀b,b<m->b≠p->K3.get b=K.get b:=λ b h1 h2=>(g3 b (by omega)).trans ((j2 b h2).trans (g1 b h1));have oa3:ar K3 (m+1+1) va (dw.l (gB ns ts q.ab i e0).1) i 1:=M.oa.frame (by omega) λ b hb=>bk3 b (hva b hb) (by have:=M.da b hb;omega);refine ar.ru (k:=1) (new:=[dz.ds cl]) oa3 (aB x3) (by simp) (by simp) (by omega) (by omega) (by unfold big;omega) (by omega) (by simp) λ K4 o4 g4=>?_;have g4':∀b,b≠m+1+1->blk va≠some b->K4.get b=K3.get b:=λ b h1 h2=>g4 b h1 λ e=>h2 (by rw[e];rfl);clear g4;have QW:=(g4' o (by omega) (nva o (by omega))).trans ((g3 o (by omega)).trans JR);simp[aa,f2,QW];generalize j8:Tr.put K4 o _=K5;have g5:∀b,b≠o->K5.get b=K4.get b:=λ b hb=>by rw[<-j8];simp[hb]
  have o5:K5.get o=some (.cells 25 [] (FA kind ts (.sl (m+1+1) 0 (i+1) 1)) .nil):=by rw[<-j8];simp[FA,bK]
  clear j8;simp[WK,aa,f66,ah i (by omega)];refine⟨q.ab.length - (i+1),by omega,Zs.refl ⟨i+1,rfl,hlt,⟨by simp[aa,f0],by simp[aa,f2],by simp[aa,f4],by simp[aa,f6],by simp[aa,f64],by simp[aa,f65],by simp⟩,⟨.sl (m+1+1) 0 (i+1) 1,M.mem.next hpn hon (by omega) (λ b hb=>?_) (λ b h1 h2 h3=>?_) ?_,o5,?_,λ b hb=>by simp at hb;omega⟩,rfl⟩⟩
  ·exact(g5 b (by omega)).trans ((g4' b (by omega) λ h=>by have:=hva b h;omega).trans (t3 b (by omega)))
  ·exact(g5 b h3).trans ((g4' b (by omega) (nva b h1)).trans (bk3 b (by omega) h2))
  ·rw[aa_];exact(g5 p (by omega)).trans ((g4' p (by omega) (nva p (by omega))).trans ((g3 p (by omega)).trans jp))
  rw[aa_,al.bo,al.dF,jR];refine o4.frame (by omega) λ b hb=>?_;simp at hb;subst hb;exact g5 _ (by omega)
 have J2:i=q.ab.length:=by omega
 subst J2;simp[MR,HM,f65,f66];exact hQ va _ K m ⟨by simp[f0],by simp[f2],by simp[f4],by simp[f6],by simp[f64],by simp[f65],by simp[f66]⟩ M
end Go.Abs
