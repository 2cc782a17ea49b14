/- A part. -/
import Derived.Test.YtfdoeenlgkkaiaaGreatBt4
noncomputable section
namespace Go.Abs
open List
open Go.Proofs
open Classical
set_option maxRecDepth 100000
def bS (t:aR)(name:List Nat):Int:=eE (λ c:eW=>decide (c.name=name)) t.ae
def onE (t:aR)(on:List (List Nat)):Nat->Int->Int
 | 0,err=>err
 | i+1,err=>keep (keep (onE t on i err) 201 (decide (bS t (on.getD i [])<0))) 205 (decide (on.getD i []∈on.take i))
def indexB (s:bD)(x:aE)(err:Int):ew×Int:=
 ({kind:=x.kind,table:=(s.named x.table).1,index:={id:=0,table:=(s.named x.table).1.id,name:=x.name,ae:=x.on.map (bS (s.named x.table).1),uniq:=x.uniq,root:=0}},onE (s.named x.table).1 x.on x.on.length (keep (keep err 200 (!(s.named x.table).2)) 202 (s.index x.name).2))
def ua (kind:Int)(t:aR)(name:List Nat)(u:Bool)(va:AV):List AV:=[.int .i64 kind,.str [],.int .u32 t.id,.str t.name,aW.ds t.ae,.int .u32 t.head,.int .u32 0,.int .u32 t.id,.str name,va,.bool u,.int .u32 0,
 .ak (.slice none 0 0),.ak (.slice none 0 0),.ak (.slice none 0 0),.ak (.slice none 0 0),.ak (.slice none 0 0),.ak (.slice none 0 0),.ak (.slice none 0 0),.ak (.slice none 0 0),.ak (.slice none 0 0),.ak (.slice none 0 0),.bool false,.bool false,.int .i64 0]
structure IxI (H0:Hp)(n p o:Nat)(s:bD)(t:aR)(x:aE)(e0:Int)(i:Nat)(va:AV)(F:Fr)(K:Hp)(m:Nat):Prop where
 hi:i<=x.on.length
 f0:F.get 0=some (.ptr p 0)
 f2:F.get 2=some (.ptr o 0)
 f4:F.get 4=some (.ptr n 0)
 f45:F.get 45=some (bB.ds x.on)
 f46:F.get 46=some (.int .i64 (x.on.length:Int))
 f47:F.get 47=some (.int .i64 (i:Int))
 hm:n<m
 tp:cS K m
 kf:∀c,c<n->c≠p->c≠o->K.get c=H0.get c
 kp:K.get p=some (bV s (onE t x.on i e0))
 kn:K.get n=some (.cells 31 [] x.cells .nil)
 ko:K.get o=some (.cells 25 [] (ua x.kind t x.name x.uniq va) .nil)
 oa:ar K m va (bR.l ((x.on.take i).map (bS t))) i 1
 da:∀c,blk va=some c->n<c
theorem aa8 (s:bD) (hs:s.dE) (x:aE) (hx:x.on.length<=lim) (p o:Nat) (err:Int) (H:Hp) (n:Nat) (hpn:p<n) (hon:o<n) (hpo:p≠o) (hp:H.get p=some (bV s err)) (ho:H.get o=some (.cells 25 [] (br x.kind) .nil)):
  bT pG 14 [.ptr p 0,x.av,.ptr o 0] H n (.bg []) ((H.put p (some (bV s (indexB s x err).2))).put o (some (.cells 25 [] (indexB s x err).1.cells .nil))) n:=by
 refine OA (args:=[x.av]) c14 (by simp[A14]) (by simp) hpn hon hpo hp ho (aL.kA (by simp[br])) (aL.kA (by simp)) λ F H0 hF htop hp0 ho0=>?_;have hcr:indexB s x err=({kind:=x.kind,table:=(s.named x.table).1,index:={id:=0,table:=(s.named x.table).1.id,name:=x.name,ae:=x.on.map (bS (s.named x.table).1),uniq:=x.uniq,root:=0}},onE (s.named x.table).1 x.on x.on.length (keep (keep err 200 (!(s.named x.table).2)) 202 (s.index x.name).2)):=rfl;rw[hcr];have q:=dj hpn;have q':=Aj hpn;have r:=dj hon;have r':=Aj hon;have po:(p=o)=False:=by simp[hpo]
 have op:(o=p)=False:=by simp[hpo,eq_comm]
 have hix:=J0 s hs x.name;have htc:(s.named x.table).1.ae.length<=lim:=cE (Q:=λ t:aR=>t.ae.length<=lim) (by simp[aR.zero]) hs.tc;simp[A14,B14,ahY,ahX,hF,aE.av,aE.c1];refine ao.ok (nR s hs x.table p err _ _ (by omega) (by simp[q,hp0])) ?_;generalize s.named x.table=tt at *;simp only[br]at ho0;simp[r,op,ho0,al.av,aU];generalize hK:Tr.put _ o _=K1;have k0:∀c,c<n->c≠p->c≠o->K1.get c=H0.get c:=λ c h1 h2 h3=>by rw[<-hK];simp[h2,h3,dj h1]
 have kp:K1.get p=some (bV s (keep err 200 (!tt.2))):=by rw[<-hK];simp[po]
 have kn:K1.get n=some (.cells 31 [] x.cells .nil):=by rw[<-hK];simp[q',r']
 have ko:K1.get o=some (.cells 25 [] [.int .i64 x.kind,.str [],.int .u32 tt.1.id,.str tt.1.name,aW.ds tt.1.ae,.int .u32 tt.1.head,.int .u32 0,.int .u32 0,.str [],.ak (.slice none 0 0),.bool false,.int .u32 0,
  .ak (.slice none 0 0),.ak (.slice none 0 0),.ak (.slice none 0 0),.ak (.slice none 0 0),.ak (.slice none 0 0),.ak (.slice none 0 0),.ak (.slice none 0 0),.ak (.slice none 0 0),.ak (.slice none 0 0),.ak (.slice none 0 0),.bool false,.bool false,.int .i64 0] .nil):=by rw[<-hK];simp
 have kt:cS K1 (n+1):=λ c hc=>by
  have e1:¬c=n:=by omega
  have e2:¬c=p:=by omega
  have e3:¬c=o:=by omega
  rw[<-hK];simp[e1,e2,e3,htop c (by omega)]
 clear hK;generalize keep err 200 (!tt.2)=e1 at *;simp only[ahW,cH];refine bY.of (iN (l:=[(15,[cw.av s,.str x.name],λ H n=>.mk (.bg [bC.av (s.index x.name).1,.bool (s.index x.name).2]) H n)]) ?_) ?_
 ·intro y hy;simp only[mem_cons,not_mem_nil,or_false]at hy;subst hy;exact eX hix
 have kp1:K1.get p=some (.cells 3 [] [aG.ds s.tables,bC.ds s.indexes,.int .i64 e1] .nil):=kp;have hsv:cw.av s=.agg [aG.ds s.tables,bC.ds s.indexes] 2:=Eq.trans rfl rfl;simp[aa,hF,kp1,kn,aE.c2,hsv];rw[fA];generalize s.index x.name=ii at *;have kt1:=kt (n+1) (Nat.le_refl _);simp[al.av,bw,bL,kt1];simp[ahV,aa,hF];refine ao.ok (fL p s e1 202 ii.2 _ _ (by omega) (by simp[dj (show p<n+1 by omega),kp])) ?_;simp only[ahU,gz,bA,cH,zO];refine bY.of (bH (P:=pG)) ?_;simp[aa,hF,ko,kn,op,r,q',aE.c2,aE.c5];generalize hK:Tr.put _ o _=K2;have j0:∀c,c<n->c≠p->c≠o->K2.get c=H0.get c:=λ c h1 h2 h3=>by rw[<-hK];simp[h2,h3,dj (show c<n+1 by omega),k0 c h1 h2 h3]
 have jp:K2.get p=some (bV s (keep e1 202 ii.2)):=by rw[<-hK];simp[po]
 have jn:K2.get n=some (.cells 31 [] x.cells .nil):=by rw[<-hK];simp[q',r',kn]
 have jo:K2.get o=some (.cells 25 [] (ua x.kind tt.1 x.name x.uniq (.ak (.slice none 0 0))) .nil):=by rw[<-hK];simp[ua]
 have jt:cS K2 (n+2):=λ c hc=>by
  have e1:¬c=n+1:=by omega
  have e2:¬c=p:=by omega
  have e3:¬c=o:=by omega
  rw[<-hK];simp[e1,e2,e3,kt c (by omega)]
 clear hK k0 kp kn ko kt kp1 kt1;generalize keep e1 202 ii.2=e2 at *;unfold lim at hx;simp[ahT,aa,jn,aE.c4,al.ag];refine au.of (λ t F K m ms=>∃(i:Nat) (va:AV),t=x.on.length - i/\IxI H0 n p o s tt.1 x e2 i va F K m/\ms=[]) x.on.length ⟨0,.ak (.slice none 0 0),by simp,⟨by simp,by simp[aa,hF],by simp[aa,hF],by simp[aa],by simp,by simp,by simp,by omega,jt,j0,jp,jn,jo,by simpa using ar.nil _ _ 1,by simp⟩,rfl⟩ ?_;clear hF F K2 j0 jp jn jo jt;rintro t F K m ms ⟨i,va,rfl,I,rfl⟩;have f0:=I.f0;have f2:=I.f2;have f4:=I.f4;have f45:=I.f45;have f46:=I.f46;have f47:=I.f47;have hm:=I.hm
 by_cases hlt:i<x.on.length
 ·have hZ:=bB.ix (ik:=.i64) hlt;rw[jQ]at hZ;have om:=dj (show o<m by omega);have ko:=I.ko;simp only[ua]at ko;simp[ZF,Xa,ahS,ahR,f2,f45,f46,f47,hlt,hZ,om,ko];generalize hK1:Tr.put _ m _=K1;have g1:∀c,c<m->K1.get c=K.get c:=λ c hc=>by rw[<-hK1];simp[dj hc]
  have x1:K1.get m=some (.cells 1 [] [.str x.on[i]] .nil):=by rw[<-hK1];simp
  have t1:cS K1 (m+1):=λ c hc=>by
   have e1:¬c=m:=by omega
   rw[<-hK1];simp[e1,I.tp c (by omega)]
  clear hK1;refine ao.same (FQ (p:=λ c=>decide (c.name=x.on[i])) (first:=[]) (cap:=[.ptr m 0]) tt.1.ae htc λ d _=>apn d _ m K1 (m+1) x1 t1) ?_;have hk:eE (λ c:eW=>decide (c.name=x.on[i])) tt.1.ae=bS tt.1 x.on[i]:=rfl;rw[hk];generalize hkk:bS tt.1 x.on[i]=k;simp[ahQ,f0];refine ao.ok (fL p s _ 201 (decide (k<0)) _ _ (by omega) ((g1 p (by omega)).trans I.kp)) ?_;simp only[Xd,gz,bA,cH,zO];generalize hE:keep (onE tt.1 x.on i e2) 201 (decide (k<0))=e3;have j2:∀c,c≠p->(K1.put p (some (bV s e3))).get c=K1.get c:=λ c hc=>by simp[hc]
  have jp:(K1.put p (some (bV s e3))).get p=some (bV s e3):=by simp
  generalize K1.put p (some (bV s e3))=K2 at j2 jp ⊢;have x2:=(j2 m (by omega)).trans x1;have n2:=(j2 n (by omega)).trans ((g1 n (by omega)).trans I.kn);have o2:=(j2 o (by omega)).trans ((g1 o (by omega)).trans I.ko);have t2:cS K2 (m+1):=λ c hc=>(j2 c (by omega)).trans (t1 c hc);have hct:=qh (x.on.take i) x.on[i] (by simp;unfold lim;omega);have hsl:=bB.xJ (show i<=x.on.length by omega);have hfl:=fL p s e3 205 (decide (x.on[i]∈x.on.take i)) K2 (m+1) (by omega) jp;refine bY.of (fP (l:=[⟨58,[bB.ds (x.on.take i),.str x.on[i]],K2,m+1,.bool (decide (x.on[i]∈x.on.take i)),K2,m+1⟩,⟨16,[.ptr p 0,.int .i64 205,.bool (decide (x.on[i]∈x.on.take i))],K2,m+1,.bg [],K2.put p (some (bV s (keep e3 205 (decide (x.on[i]∈x.on.take i))))),m+1⟩]) ?_) ?_
  ·simp only[mem_cons,not_mem_nil,or_false];rintro c (rfl | rfl)
   ·exact hct.gY _ _
   exact hfl
  have e2':∀l v c1 c2,(Kk [⟨58,l,K2,m+1,v,K2,m+1⟩,⟨16,[.ptr p 0,.int .i64 205,.bool (decide (x.on[i]∈x.on.take i))],K2,m+1,.bg [],K2.put p (some (bV s (keep e3 205 (decide (x.on[i]∈x.on.take i))))),m+1⟩]).call 16 c1 K2 c2=(Kk [⟨16,[.ptr p 0,.int .i64 205,.bool (decide (x.on[i]∈x.on.take i))],K2,m+1,.bg [],K2.put p (some (bV s (keep e3 205 (decide (x.on[i]∈x.on.take i))))),m+1⟩]).call 16 c1 K2 c2:=λ l v c1 c2=>Bh (by decide);simp[aa,f0,f4,n2,x2,aE.c4,hsl,fQ,e2']
  have avt:onE tt.1 x.on (i+1) e2=keep e3 205 (decide (x.on[i]∈x.on.take i)):=by
   simp only[onE,getD,getElem?_eq_getElem hlt,Option.getD_some,hkk,hE]
  rw[<-avt];have j3:∀c,c≠p->(K2.put p (some (bV s (onE tt.1 x.on (i+1) e2)))).get c=K2.get c:=λ c hc=>by simp[hc]
  have E':(K2.put p (some (bV s (onE tt.1 x.on (i+1) e2)))).get p=some (bV s (onE tt.1 x.on (i+1) e2)):=by simp
  generalize K2.put p (some (bV s (onE tt.1 x.on (i+1) e2)))=K3 at j3 E' ⊢;have o3:=(j3 o (by omega)).trans o2;simp only[ua]at o3;simp[Xc,aa,f2,o3];generalize hK4:Tr.put _ (m+1) _=K4;have g4:∀c,c<m+1->K4.get c=K3.get c:=λ c hc=>by rw[<-hK4];simp[dj hc]
  have x4:K4.get (m+1)=some (.cells 1 [] [.int .i64 k] .nil):=by rw[<-hK4];simp
  have t4:cS K4 (m+1+1):=λ c hc=>by
   have e1:¬c=m+1:=by omega
   rw[<-hK4];simp[e1,j3 c (by omega),t2 c (by omega)]
  clear hK4;have back:∀c,c<m->c≠p->K4.get c=K.get c:=λ c h1 h2=>(g4 c (by omega)).trans ((j3 c h2).trans ((j2 c h2).trans (g1 c h1)));have oa4:ar K4 (m+1+1) va (bR.l ((x.on.take i).map (bS tt.1))) i 1:=I.oa.frame (by omega) λ c hc=>back c (I.oa.aK hc) (by have:=I.da c hc;omega);have o4:=(g4 o (by omega)).trans o3;refine ar.jr (k:=1) (new:=[.int .i64 k]) oa4 (aB x4) (by simp) (by simp) (by omega) (by omega) (by unfold big;omega) (by omega) (by simp) λ K5 o5 g5=>?_;have na:∀c,c<=n->blk va≠some c:=λ c h1 h2=>by have:=I.da c h2;omega
  have ob:=(g5 o (by omega) (na o (by omega))).trans o4;simp[ob,aa,Xb,f47,ah i (by omega)];generalize xD:Tr.put K5 o _=K6;have g6:∀c,c≠o->K6.get c=K5.get c:=λ c hc=>by rw[<-xD];simp[hc]
  have ko6:K6.get o=some (.cells 25 [] (ua x.kind tt.1 x.name x.uniq (.sl (m+1+1) 0 (i+1) 1)) .nil):=by rw[<-xD];simp[ua]
  clear xD;have bk:∀c,c<m->c≠p->c≠o->blk va≠some c->K6.get c=K.get c:=λ c h1 h2 h3 h4=>(g6 c h3).trans ((g5 c (by omega) h4).trans (back c h1 h2));refine⟨_,by omega,i+1,rfl,.sl (m+1+1) 0 (i+1) 1,hlt,by simp[aa,f0],by simp[aa,f2],by simp[aa,f4],by simp[aa,f45],by simp[aa,f46],by simp,by omega,λ c hc=>?_,λ c h1 h2 h3=>?_,?_,?_,ko6,?_,λ c hc=>?_⟩
  ·exact(g6 c (by omega)).trans ((g5 c (by omega) λ h=>by have:=I.oa.aK h;omega).trans (t4 c (by omega)))
  ·exact(bk c (by omega) h2 h3 (na c (by omega))).trans (I.kf c h1 h2 h3)
  ·exact(g6 p (by omega)).trans ((g5 p (by omega) (na p (by omega))).trans ((g4 p (by omega)).trans E'))
  ·exact(bk n (by omega) (by omega) (by omega) (na n (by omega))).trans I.kn
  ·have h7:=o5.frame (H':=K6) (Nat.le_refl _) λ c hc=>g6 c (by simp at hc;omega)
   have e5:(x.on.take (i+1)).map (bS tt.1)=(x.on.take i).map (bS tt.1)++[k]:=by
    rw[take_add_one,getElem?_eq_getElem hlt,map_append];simp only[Option.toList,map_cons,map_nil,hkk]
   rw[e5,al.bo,al.dF];exact h7
  simp at hc;omega
 have hie:i=x.on.length:=by have:=I.hi;omega
 subst hie;have oa:=I.oa;rw[take_length]at oa;simp[ZF,Xa,f46,f47];refine⟨.pure _ (by simp),λ c h1 h2 h3=>I.kf c h1 h2 h3,I.kp,_,I.ko,rfl,?_⟩
 have hz:dU (above n K) va (bR.ds (x.on.map (bS tt.1))):=by
  rw[al.ds,length_map];exact oa.vK (λ c hc=>by have:=I.da c hc;omega) (aN.pure (by simp)) (by omega)
 simp[ua,ew.cells];exact .inr hz
theorem bT.conv {P:Program}{g:FuncId}{args args':List AV}{H H':Hp}{n n':Nat}{v:AV}(h:bT P g args' H n v H' n')(hc:∀ φ D xs,bW φ D args xs->bW φ D args' xs):bT P g args H n v H' n':=
 ⟨h.1,h.2.1,λ φ D w xs hr hv=>h.2.2 φ D w xs hr (hc φ D xs hv)⟩
theorem VR.anL {φ:Ph}{D:Da}{x:Value}{α:Type}{k:Nat}(E:al α (k+1))(h:VR φ D (.ak (.slice none 0 0)) x):VR φ D (E.ds []) x:=by
 cases h;exact .sC _
def qN (F:Fr):List Nat->Fr
 | []=>.nil
 | b::r=>(qN F r).put b (F.get b)
theorem yD (F:Fr)(L:List Nat)(c:Nat):(qN F L).get c=if c∈L then F.get c else none:=by
 induction L with
 | nil=>simp[qN]
 | cons b r ih =>
  simp only[qN,Tr.get_put,ih,mem_cons]
  by_cases h:c=b
  ·subst h;simp
  simp[h]
theorem dC {F:Fr}{L:List Nat}{c:Nat}(h:c∈L):(qN F L).get c=F.get c:=by rw[yD,if_pos h]
theorem rV {F:Fr}{L:List Nat}{c:Nat}{v:AV}(h:(qN F L).get c=some v):F.get c=some v:=by
 rw[yD]at h
 split at h
 ·exact h
 cases h
theorem C_ {F F2:Fr}{K:Hp}{m:Nat}{va x:AV}{l cs:List AV}{len k sz:Nat}(hF:∀(t:Nat) v,F2.get t=some v->F.get t=some v) (ha:ar K m va (l++[x]) (len+1) 1) (hx:ar K m x cs k sz) (hz:0<sz) (hcs:aL cs) (hd:∀c,blk va=some c->blk x≠some c):
  ∃h K2,eH h F K F2 K2/\ar K2 m va (l++[.ds cs k sz]) (len+1) 1/\∀c,blk va≠some c->blk x≠some c->K2.get c=K.get c:=by
 have hfz:∀h:Hf,(∀c,blk x=some c->h c=K.get c)->dU h x (.ds cs k sz):=by
  intro h hh;obtain⟨s',rfl⟩:∃s',sz=s'+1:=⟨sz - 1,by omega⟩;obtain⟨h0,⟨rfl,rfl⟩ | ⟨b,kk,rfl,hb,hk,ho⟩⟩:=hx
  ·have:cs=[]:=by simpa using h0
   subst this;exact .nil _
  obtain⟨u,z,bs,t,rfl,hg⟩:=ho.gJ (o:=0) (c:=k*(s'+1)) (by omega);refine .sl _ _ _ _ _ _ _ _ _ _ ((hh b rfl).trans hk) hg ?_;rw[drop_zero,take_of_length_le (by omega)];exact aN.pure hcs
 obtain⟨h0,⟨_,h1⟩ | ⟨b,kb,rfl,hb,hk,ho⟩⟩:=ha
 ·omega
 have hxb:blk x≠some b:=hd b rfl;obtain⟨u,z,bs,t,rfl,hu,hg,hi⟩:=ho
 refine⟨λ c=>if blk x=some c then K.get c else none,(match blk x with
  | some c=>K.put c none
  | none=>K).put b (some (.cells u [] (l++[AV.ds cs k sz]) .nil)),⟨λ c y hc=>?_,λ c hc=>?_,λ t v hv=>⟨v,hF t v hv,.inl rfl⟩,λ c y hc=>?_⟩,⟨by simpa using h0,.inr ⟨b,.cells u [] (l++[AV.ds cs k sz]) .nil,rfl,hb,by simp,fe.list (by simpa using hu)⟩⟩,λ c h3 h4=>?_⟩
 ·split at hc
  ·exact hc
  cases hc
 ·have hc:(if blk x=some c then K.get c else none)≠none:=hc
  by_cases he:blk x=some c
  ·have hcb:c≠b:=λ e=>hxb (by rw[he,e]);rw[he];simp[hcb]
  simp[he]at hc
 ·by_cases hcb:c=b
  ·subst hcb;simp at hc;subst hc;refine⟨_,hk,.inr ⟨u,z,bs,t,_,rfl,rfl,by simpa using hu.symm,λ i v' hv=>?_⟩⟩
   by_cases hil:i<l.length
   ·rw[getElem?_append_left hil]at hv;exact⟨v',by rw[hg,getElem?_append_left hil];exact hv,.inl rfl⟩
   rw[getElem?_append_right (by omega)]at hv
   have:i=l.length:=by
    have:=(List.getElem?_eq_some_iff.1 hv).1;simp at this;omega
   subst this;simp at hv;subst hv;refine⟨x,by rw[hg];simp,.inr (hfz _ λ c hc=>if_pos hc)⟩
  rw[Tr.get_put,if_neg hcb]at hc;refine⟨y,?_,.inl rfl⟩
  cases hbx:blk x with
  | none=>rw[hbx]at hc;exact hc
  | some d =>
   rw[hbx]at hc;simp only[Tr.get_put]at hc
   split at hc
   ·cases hc
   exact hc
 have h5:c≠b:=λ e=>h3 (by rw[e];rfl);rw[Tr.get_put,if_neg h5]
 cases hbx:blk x with
 | none=>rfl
 | some d =>
  have:c≠d:=λ e=>h4 (by rw[hbx,e]);simp[this]
theorem ar.oK {H:Hp}{n:Nat}{v:AV}{l:List AV}{len sz:Nat}(h:ar H n v l len sz):v.len=1/\v.cells=[v]:=by
 obtain⟨_,⟨rfl,_⟩ | ⟨b,k,rfl,_⟩⟩:=h<;>exact⟨rfl,rfl⟩
def nf (ns:List (List Nat))(ts:List aR)(e:Ex)(kind err:Int):Ex×Int:=((e.bd ns ts err).1,keep (e.bd ns ts err).2.2 203 (decide ((e.bd ns ts err).2.1≠0)&&decide ((e.bd ns ts err).2.1≠kind)))
def Gd (l:List Ex)(i:Nat):Ex:=l.getD i (.mk 0 ⟨0,0,[]⟩ [] [] 0 [])
theorem AX {l:List Ex}{i:Nat}(h:i<l.length):Gd l i=l[i]:=by simp[Gd,h]
def dY (ae:List eW)(r:List Ex):Nat->Int->List Ex×Int
 | 0,err=>([],err)
 | i+1,err=>((dY ae r i err).1++[(nf [] [] (Gd r i) (mr ae i).kind (dY ae r i err).2).1],(nf [] [] (Gd r i) (mr ae i).kind (dY ae r i err).2).2)
theorem qK (ae:List eW)(r:List Ex)(err:Int):∀i,(dY ae r i err).1.length=i
 | 0=>rfl
 | i+1=>by simp[dY,qK ae r err i]
def ij (t:aR):List (List Ex)->Int->List (List Ex)×Int
 | [],err=>([],err)
 | r::rs,err=>if keep err 204 (!decide (r.length=t.ae.length))≠0 then ([],keep err 204 (!decide (r.length=t.ae.length)))
  else ((dY t.ae r r.length (keep err 204 (!decide (r.length=t.ae.length)))).1::(ij t rs (dY t.ae r r.length (keep err 204 (!decide (r.length=t.ae.length)))).2).1,(ij t rs (dY t.ae r r.length (keep err 204 (!decide (r.length=t.ae.length)))).2).2)
def cV (s:bD)(x:aE)(err:Int):ew×Int:=
 ({kind:=x.kind,table:=(s.named x.table).1,rows:=(ij (s.named x.table).1 x.rows (keep err 200 (!(s.named x.table).2))).1},(ij (s.named x.table).1 x.rows (keep err 200 (!(s.named x.table).2))).2)
def lF (kind:Int)(t:aR)(va:AV):List AV:=[.int .i64 kind,.str [],.int .u32 t.id,.str t.name,aW.ds t.ae,.int .u32 t.head,.int .u32 0,.int .u32 0,.str [],.ak (.slice none 0 0),.bool false,.int .u32 0,
 .ak (.slice none 0 0),va,.ak (.slice none 0 0),.ak (.slice none 0 0),.ak (.slice none 0 0),.ak (.slice none 0 0),.ak (.slice none 0 0),.ak (.slice none 0 0),.ak (.slice none 0 0),.ak (.slice none 0 0),.bool false,.bool false,.int .i64 0]
theorem pM {h:Hf}{kind:Int}{t:aR}{va:AV}{L:List (List Ex)}(hz:dU h va (dw.ds L)):(lF kind t va).length=25/\kP h (lF kind t va) (ew.cells {kind:=kind,table:=t,rows:=L}):=by
 refine⟨rfl,?_⟩;simp[lF,ew.cells,jb.zero];exact .inr hz
structure InI (H0:Hp)(n p o:Nat)(s:bD)(t:aR)(x:aE)(e0:Int)(i:Nat)(L:List (List Ex))(e:Int)(va:AV)(F:Fr)(K:Hp)(m:Nat):Prop where
 hi:i<=x.rows.length
 hL:L.length=i
 f0:F.get 0=some (.ptr p 0)
 f2:F.get 2=some (.ptr o 0)
 f4:F.get 4=some (.ptr n 0)
 f19:F.get 19=some (dw.ds x.rows)
 f20:F.get 20=some (.int .i64 (x.rows.length:Int))
 f21:F.get 21=some (.int .i64 (i:Int))
 hm:n<m
 tp:cS K m
 kf:∀c,c<n->c≠p->c≠o->K.get c=H0.get c
 kp:K.get p=some (bV s e)
 kn:K.get n=some (.cells 31 [] x.cells .nil)
 ko:K.get o=some (.cells 25 [] (lF x.kind t va) .nil)
 oa:ar K m va (dw.l L) i 1
 da:∀c,blk va=some c->n<c
 he:ij t x.rows e0=(L++(ij t (x.rows.drop i) e).1,(ij t (x.rows.drop i) e).2)
structure InJ (K0:Hp)(m0 n p o:Nat)(s:bD)(t:aR)(x:aE)(r:List Ex)(e1:Int)(i j:Nat)(vl:AV)(F:Fr)(K:Hp)(m:Nat):Prop where
 hj:j<=r.length
 f0:F.get 0=some (.ptr p 0)
 f2:F.get 2=some (.ptr o 0)
 f4:F.get 4=some (.ptr n 0)
 f8:F.get 8=some vl
 f19:F.get 19=some (dw.ds x.rows)
 f20:F.get 20=some (.int .i64 (x.rows.length:Int))
 f21:F.get 21=some (.int .i64 (i:Int))
 f41:F.get 41=some (dz.ds r)
 f42:F.get 42=some (.int .i64 (r.length:Int))
 f43:F.get 43=some (.int .i64 (j:Int))
 hm:m0<=m
 tp:cS K m
 kf:∀c,c<m0->c≠p->K.get c=K0.get c
 kp:K.get p=some (bV s (dY t.ae r j e1).2)
 ol:ar K m vl (dz.l (dY t.ae r j e1).1) j 8
 dl:∀c,blk vl=some c->m0<=c
theorem AA {err e:Int}{b:Bool}(he:e≠0)(h:keep err e b=0):err=0/\b=false:=by
 unfold keep at h
 split at h
 ·exact absurd h he
 rename_i hc;cases b
 ·exact⟨h,rfl⟩
 exact absurd ⟨rfl,h⟩ hc
theorem Q7 (s:bD) (hs:s.dE) (x:aE) (hx:x.rows.length<=lim) (hr:∀r∈x.rows,r.length<=lim/\∀e∈r,e.sz<=lim/\e.may=true) (p o:Nat) (err:Int) (H:Hp) (n:Nat) (hpn:p<n) (hon:o<n) (hpo:p≠o) (hp:H.get p=some (bV s err)) (ho:H.get o=some (.cells 25 [] (br x.kind) .nil)):
  bT pG 18 [.ptr p 0,x.av,.ptr o 0] H n (.bg []) ((H.put p (some (bV s (cV s x err).2))).put o (some (.cells 25 [] (cV s x err).1.cells .nil))) n:=by
 refine OA (args:=[x.av]) c18 (by simp[A18]) (by simp) hpn hon hpo hp ho (aL.kA (by simp[br])) (aL.kA (by simp)) λ F H0 hF htop hp0 ho0=>?_;have hcr:cV s x err=({kind:=x.kind,table:=(s.named x.table).1,rows:=(ij (s.named x.table).1 x.rows (keep err 200 (!(s.named x.table).2))).1},(ij (s.named x.table).1 x.rows (keep err 200 (!(s.named x.table).2))).2):=rfl;rw[hcr];have q:=dj hpn;have q':=Aj hpn;have r:=dj hon;have r':=Aj hon;have po:(p=o)=False:=by simp[hpo]
 have op:(o=p)=False:=by simp[hpo,eq_comm]
 have htc:(s.named x.table).1.ae.length<=lim:=cE (Q:=λ t:aR=>t.ae.length<=lim) (by simp[aR.zero]) hs.tc;simp[A18,B18,ahK,ahJ,hF,aE.av,aE.c1];refine ao.ok (nR s hs x.table p err _ _ (by omega) (by simp[q,hp0])) ?_;generalize s.named x.table=tt at *;obtain⟨t,tb⟩:=tt;simp only at htc ⊢;generalize keep err 200 (!tb)=e0 at *;simp only[br]at ho0;simp[r,op,ho0,al.av,aU,ahI,q',r',aE.c6,al.ag];generalize hK:Tr.put _ o _=K1;have k0:∀c,c<n->c≠p->c≠o->K1.get c=H0.get c:=λ c h1 h2 h3=>by rw[<-hK];simp[h2,h3,dj h1]
 have kp:K1.get p=some (bV s e0):=by rw[<-hK];simp[po]
 have kn:K1.get n=some (.cells 31 [] x.cells .nil):=by rw[<-hK];simp[q',r']
 have ko:K1.get o=some (.cells 25 [] (lF x.kind t (.ak (.slice none 0 0))) .nil):=by rw[<-hK];simp[lF]
 have kt:cS K1 (n+1):=λ c hc=>by
  have e1:¬c=n:=by omega
  have e2:¬c=p:=by omega
  have e3:¬c=o:=by omega
  rw[<-hK];simp[e1,e2,e3,htop c (by omega)]
 clear hK;unfold lim at hx;refine au.ofZ (λ q F K m ms=>∃(i:Nat) (L:List (List Ex)) (e:Int) (va:AV),q=x.rows.length - i/\InI H0 n p o s t x e0 i L e va F K m/\ms=[]) x.rows.length (Zs.refl ⟨0,[],e0,.ak (.slice none 0 0),by simp,⟨by simp,by simp,by simp[hF],by simp[hF],by simp,by simp,by simp,by simp,by omega,kt,k0,kp,kn,ko,by simpa using ar.nil _ _ 1,by simp,by simp⟩,rfl⟩) ?_;clear hF F K1 k0 kp kn ko kt;rintro q1 F K m ms ⟨i,L,e,va,rfl,I,rfl⟩;have f0:=I.f0;have f2:=I.f2;have f4:=I.f4;have f19:=I.f19;have f20:=I.f20;have f21:=I.f21;have hm:=I.hm
 by_cases hlt:i<x.rows.length
 ·have hZ:=dw.ix (ik:=.i64) hlt;rw[jR]at hZ;obtain⟨hr1,hr2⟩:=hr _ (getElem_mem hlt);have ko:=I.ko;simp only[lF]at ko;have hdr:=drop_eq_getElem_cons hlt;have he:=I.he;rw[hdr,ij]at he;generalize x.rows[i]=rw at *;simp[ZD,W3,ahH,ahG,f0,f2,f19,f20,f21,hlt,hZ,ko,al.ag];refine ao.ok (fL p s e 204 (!decide (rw.length=t.ae.length)) K m (by omega) I.kp) ?_;generalize hE:keep e 204 (!decide (rw.length=t.ae.length))=e1 at he;have j2:∀c,c≠p->(K.put p (some (bV s e1))).get c=K.get c:=λ c hc=>by simp[hc]
  have jp:(K.put p (some (bV s e1))).get p=some (bV s e1):=by simp
  generalize K.put p (some (bV s e1))=K0 at j2 jp ⊢;have jp':K0.get p=some (.cells 3 [] [aG.ds s.tables,bC.ds s.indexes,.int .i64 e1] .nil):=jp;have t0:cS K0 m:=λ c hc=>(j2 c (by omega)).trans (I.tp c hc);have o0:=(j2 o (by omega)).trans I.ko;have oa0:ar K0 m va (dw.l L) i 1:=I.oa.frame (Nat.le_refl _) λ c hc=>j2 c (by have:=I.da c hc;omega)
  by_cases h1:e1=0
  ·have hlen:rw.length=t.ae.length:=by simpa using(AA (by omega) (hE.trans h1)).2
   simp[h1]at he;subst h1;simp[W2,ahF,ahE,f0,jp',al.ag];refine au.of (λ q F K m' ms=>∃(j:Nat) (vl:AV),q=rw.length - j/\InJ K0 m n p o s t x rw 0 i j vl F K m'/\ms=[]) rw.length ⟨0,.ak (.slice none 0 0),by simp,⟨by simp,by simp[f0],by simp[f2],by simp[f4],by simp,by simp[f19],by simp[f20],by simp[f21],by simp,by simp,by simp,by omega,t0,λ c _ _=>rfl,by simpa[dY]using jp,by simpa[dY]using ar.nil _ _ 8,by simp⟩,rfl⟩ ?_;clear f0 f2 f4 f19 f20 f21;have hda:=I.da;have hkf:=I.kf;have hkn:=I.kn;clear hZ ko;rintro q2 F K2 m2 ms ⟨j,vl,rfl,J,rfl⟩;have f0:=J.f0;have f2:=J.f2;have f4:=J.f4;have f8:=J.f8;have f19:=J.f19;have f20:=J.f20;have f21:=J.f21;have f41:=J.f41;have f42:=J.f42;have f43:=J.f43;have hmm:=J.hm;have JR:=(J.kf o (by omega) (by omega)).trans o0
   by_cases hlt2:j<rw.length
   ·have hZ:=dz.ix (ik:=.i64) hlt2;have hld:=λ H=>dz.gM rw[j] (dz.l (rw.drop (j+1))) H;have hcx:=aW.ix (ik:=.i64) (show j<t.ae.length by omega);obtain⟨hz,hm2⟩:=hr2 _ (getElem_mem hlt2);simp[ZE,W1,W9,f41,f42,f43,hlt2,hZ,nj];generalize hK1:Tr.put _ m2 (some (bI.cells 8 [] rw[j].cells .nil))=K3;have g3:∀c,c<m2->K3.get c=K2.get c:=λ c hc=>by rw[<-hK1];simp[dj hc]
    have x3:K3.get m2=some (.cells 8 [] rw[j].cells .nil):=by rw[<-hK1];simp
    have t3:cS K3 (m2+1):=λ c hc=>by
     have e1:¬c=m2:=by omega
     rw[<-hK1];simp[e1,J.tp c (by omega)]
    clear hK1;simp only[W8,cH];have p3:=(g3 p (by omega)).trans J.kp;have o3:=(g3 o (by omega)).trans JR;simp only[lF]at o3;have hft:=acO [] [] rfl (by simp[aj,lim]) (by simp[lim]) (by simp) s rw[j] hz hm2 t.ae[j].kind p _ K3 (m2+1) (by omega) p3
    have hfit:nf [] [] (Gd rw j) (mr t.ae j).kind (dY t.ae rw j 0).2=((rw[j].bd [] [] (dY t.ae rw j 0).2).1,keep (rw[j].bd [] [] (dY t.ae rw j 0).2).2.2 203 (decide ((rw[j].bd [] [] (dY t.ae rw j 0).2).2.1≠0)&&decide ((rw[j].bd [] [] (dY t.ae rw j 0).2).2.1≠t.ae[j].kind))):=by
     rw[AX hlt2,kZ (show j<t.ae.length by omega)];rfl
    have hrl:dY t.ae rw (j+1) 0=((dY t.ae rw j 0).1++[(nf [] [] (Gd rw j) (mr t.ae j).kind (dY t.ae rw j 0).2).1],(nf [] [] (Gd rw j) (mr t.ae j).kind (dY t.ae rw j 0).2).2):=rfl;rw[hfit]at hrl;generalize rw[j].bd [] [] (dY t.ae rw j 0).2=X at hft hrl;obtain⟨x1,kd,er⟩:=X;simp only at hft hrl;generalize keep er 203 (decide (kd≠0)&&decide (kd≠t.ae[j].kind))=Ge at hft hrl
    have hcv:bT pG 65 [.ptr p 0,.agg [.ak (.slice none 0 0),.ak (.slice none 0 0)] 2,.agg rw[j].cells 8,.int .i64 t.ae[j].kind] K3 (m2+1) (.agg x1.cells 8) (K3.put p (some (bV s Ge))) (m2+1):=by
     refine bT.conv hft λ φ D xs hv=>?_
     cases hv with
     | cons _ y0 _ ys h0 hv =>
     cases hv with
     | cons _ y1 _ ys h1 hv =>
     refine .cons _ _ _ _ h0 (.cons _ _ _ _ ?_ hv)
     cases h1 with
     | agg _ l _ a b =>
     cases a with
     | cons _ z0 _ zs a0 a =>
     cases a with
     | cons _ z1 _ zs a1 a =>
     cases a
     exact .agg _ _ _ (.cons _ _ _ _ (VR.anL bB a0) (.cons _ _ _ _ (VR.anL aG a1) .nil)) rfl
    refine bY.of (fP (l:=[⟨65,[.ptr p 0,.agg [.ak (.slice none 0 0),.ak (.slice none 0 0)] 2,.agg rw[j].cells 8,.int .i64 t.ae[j].kind],K3,m2+1,.agg x1.cells 8,K3.put p (some (bV s Ge)),m2+1⟩]) ?_) ?_
    ·simp only[mem_cons,not_mem_nil,or_false];rintro c rfl;exact hcv
    have n3:K3.get (m2+1)=none:=t3 _ (Nat.le_refl _);have n4:(K3.put p (some (bV s Ge))).get (m2+1)=none:=by simp[show ¬m2+1=p by omega,n3]
    have j4:∀c,c≠p->(K3.put p (some (bV s Ge))).get c=K3.get c:=λ c hc=>by simp[hc]
    have p4:(K3.put p (some (bV s Ge))).get p=some (bV s Ge):=by simp
    simp[aa,f0,f2,f8,o3,x3,hcx,dQ,fQ];generalize K3.put p (some (bV s Ge))=K4 at j4 p4 n4 ⊢;simp[bw,bL,n3,n4];generalize j8:Tr.put K4 (m2+1) _=K5;have g5:∀c,c<m2+1->K5.get c=K4.get c:=λ c hc=>by rw[<-j8];simp[dj hc]
    have x5:K5.get (m2+1)=some (.cells 8 [] x1.cells .nil):=by rw[<-j8];simp
    have t5:cS K5 (m2+1+1):=λ c hc=>by
     have e1:¬c=m2+1:=by omega
     rw[<-j8];simp[e1,j4 c (by omega),t3 c (by omega)]
    clear j8;have bk:∀c,c<m2->c≠p->K5.get c=K2.get c:=λ c h1 h2=>(g5 c (by omega)).trans ((j4 c h2).trans (g3 c h1));have ol5:ar K5 (m2+1+1) vl (dz.l (dY t.ae rw j 0).1) j 8:=J.ol.frame (by omega) λ c hc=>bk c (J.ol.aK hc) (by have:=J.dl c hc;omega);unfold lim at hr1;refine ar.ru (k:=1) (new:=x1.cells) ol5 (aB x5) (by simp) (by simp) (by omega) (by omega) (by unfold big;omega) (by omega) (by simp) λ K6 o6 g6=>?_;simp[aa,W7,f43,ah j (by omega)];have yY:∀c,c≠m2+1+1->blk vl≠some c->K6.get c=K5.get c:=λ c h1 h2=>g6 c h1 λ e=>h2 (by rw[e];rfl);have nl:∀c,c<m->blk vl≠some c:=λ c h1 h2=>by have:=J.dl c h2;omega
    refine⟨_,by omega,j+1,rfl,.sl (m2+1+1) 0 (j+1) 8,hlt2,by simp[aa,f0],by simp[aa,f2],by simp[aa,f4],by simp,by simp[aa,f19],by simp[aa,f20],by simp[aa,f21],by simp[aa,f41],by simp[aa,f42],by simp,by omega,λ c hc=>?_,λ c h1 h2=>?_,?_,?_,λ c hc=>by simp at hc;omega⟩
    ·exact(yY c (by omega) λ h=>by have:=J.ol.aK h;omega).trans (t5 c (by omega))
    ·exact(yY c (by omega) (nl c h1)).trans ((bk c (by omega) h2).trans (J.kf c h1 h2))
    ·rw[hrl];exact(yY p (by omega) (nl p (by omega))).trans ((g5 p (by omega)).trans p4)
    rw[hrl,al.bo,al.dF];exact o6
   have J2:j=rw.length:=by have:=J.hj;omega
   subst J2;have tp2:=J.tp;have kp2:=J.kp;have kn2:=(J.kf n hm (by omega)).trans ((j2 n (by omega)).trans hkn);have ol2:=J.ol;have dl2:=J.dl;have kf2:∀c,c<n->c≠p->c≠o->K2.get c=H0.get c:=λ c h1 h2 h3=>(J.kf c (by omega) h2).trans ((j2 c h2).trans (hkf c h1 h2 h3));have oa2:ar K2 m2 va (dw.l L) i 1:=oa0.frame (by omega) λ c hc=>J.kf c (oa0.aK hc) (by have:=hda c hc;omega);have hle:=I.hL;simp only[lF]at JR;have hone:=ol2.dO;obtain⟨hl1,hl2⟩:=ol2.oK;simp[ZE,W1,W6,f42,f43,f2,f8,JR,hl1,hl2];generalize hK3:Tr.put K2 m2 _=K3;have g3:∀c,c<m2->K3.get c=K2.get c:=λ c hc=>by rw[<-hK3];simp[dj hc]
   have x3:K3.get m2=some (.cells 1 [] [vl] .nil):=by rw[<-hK3];simp
   have t3:cS K3 (m2+1):=λ c hc=>by
    have e1:¬c=m2:=by omega
    rw[<-hK3];simp[e1,tp2 c (by omega)]
   clear hK3;have oa3:ar K3 (m2+1) va (dw.l L) i 1:=oa2.frame (by omega) λ c hc=>g3 c (oa2.aK hc);refine ar.jr (k:=1) (new:=[vl]) oa3 (aB x3) (by simp) (by simp) (by omega) (by omega) (by unfold big;omega) (by omega) (by simp[hone]) λ K4 o4 g4=>?_;have na:∀c,c<=n->blk va≠some c:=λ c h1 h2=>by have:=hda c h2;omega
   have ob:=(g4 o (by omega) (na o (by omega))).trans ((g3 o (by omega)).trans JR);simp[ob,W4,f21,ah i (by omega)];generalize j8:Tr.put K4 o _=K5;have g5:∀c,c≠o->K5.get c=K4.get c:=λ c hc=>by rw[<-j8];simp[hc]
   have ko5:K5.get o=some (.cells 25 [] (lF x.kind t (.sl (m2+1) 0 (i+1) 1)) .nil):=by rw[<-j8];simp[lF]
   clear j8;have bk:∀c,c<m2->c≠o->blk va≠some c->K5.get c=K2.get c:=λ c h1 h3 h4=>(g5 c h3).trans ((g4 c (by omega) h4).trans (g3 c h1));have JG:ar K5 (m2+1+1) (.sl (m2+1) 0 (i+1) 1) (dw.l L++[vl]) (i+1) 1:=o4.frame (by omega) λ c hc=>g5 c (by simp at hc;omega);have ol5:ar K5 (m2+1+1) vl (dz.l (dY t.ae rw rw.length 0).1) rw.length 8:=ol2.frame (by omega) λ c hc=>bk c (ol2.aK hc) (by have:=dl2 c hc;omega) λ h=>by have h1:=oa0.aK h;have h2:=dl2 c hc;omega
   generalize hF2:(Fp 21 _ _:Fr)=F2;have w0:F2.get 0=some (.ptr p 0):=by rw[<-hF2];simp[f0]
   have w2:F2.get 2=some (.ptr o 0):=by rw[<-hF2];simp[f2]
   have w4:F2.get 4=some (.ptr n 0):=by rw[<-hF2];simp[f4]
   have w19:F2.get 19=some (dw.ds x.rows):=by rw[<-hF2];simp[f19]
   have w20:F2.get 20=some (.int .i64 (x.rows.length:Int)):=by rw[<-hF2];simp[f20]
   have w21:F2.get 21=some (.int .i64 ((i+1:Nat):Int)):=by rw[<-hF2];simp
   clear hF2
   obtain⟨hh,K6,hsh,Qu,g6⟩:=C_ (F:=F2) (F2:=qN F2 [0,2,4,19,20,21]) (λ t v hv=>rV hv) JG ol5 (by omega) (by simp) (λ c hc hc2=>by
    have:=ol2.aK hc2;simp at hc;omega)
   have nb:∀c,c<m->blk (AV.sl (m2+1) 0 (i+1) 1)≠some c:=λ c h1 h2=>by simp at h2;omega
   have nl:∀c,c<m->blk vl≠some c:=λ c h1 h2=>by have:=dl2 c h2;omega
   refine⟨x.rows.length - (i+1),by omega,hh,_,K6,hsh,i+1,rfl,⟨L++[(dY t.ae rw rw.length 0).1],(dY t.ae rw rw.length 0).2,.sl (m2+1) 0 (i+1) 1,hlt,by simp[hle],(dC (by simp)).trans w0,(dC (by simp)).trans w2,(dC (by simp)).trans w4,(dC (by simp)).trans w19,(dC (by simp)).trans w20,(dC (by simp)).trans w21,by omega,λ c hc=>?_,λ c h1 h2 h3=>?_,?_,?_,?_,?_,λ c hc=>by simp at hc;omega,?_⟩,rfl⟩
   ·have e1:blk (AV.sl (m2+1) 0 (i+1) 1)≠some c:=λ h=>by simp at h;omega
    have e2:blk vl≠some c:=λ h=>by have:=ol2.aK h;omega
    exact(g6 c e1 e2).trans ((g5 c (by omega)).trans ((g4 c (by omega) λ h=>by have:=oa0.aK h;omega).trans (t3 c (by omega))))
   ·exact(g6 c (nb c (by omega)) (nl c (by omega))).trans ((bk c (by omega) h3 (na c (by omega))).trans (kf2 c h1 h2 h3))
   ·exact(g6 p (nb p (by omega)) (nl p (by omega))).trans ((bk p (by omega) (by omega) (na p (by omega))).trans kp2)
   ·exact(g6 n (nb n (by omega)) (nl n (by omega))).trans ((bk n (by omega) (by omega) (na n (by omega))).trans kn2)
   ·exact(g6 o (nb o (by omega)) (nl o (by omega))).trans ko5
   ·rw[al.bo,al.dF,jR,al.ds,qK];exact Qu
   rw[he];simp
  simp[h1]at he
  have hz:dU (above n K0) va (dw.ds L):=by
   have:=oa0.vK (n0:=n) (λ c hc=>by have:=I.da c hc;omega) (aN.pure (dw.mY L)) (by omega);rw[al.ds,I.hL];exact this
  have hkf:=I.kf;rw[he];simp[W2,f0,jp',h1];refine⟨.pure _ (by simp),λ c h1 h2 h3=>(j2 c h2).trans (hkf c h1 h2 h3),rfl,_,o0,pM hz⟩
 have hie:i=x.rows.length:=by have:=I.hi;omega
 subst hie;have he:=I.he;rw[drop_length,ij,append_nil]at he;rw[he];simp[ZD,W3,f20,f21];refine⟨.pure _ (by simp),λ c h1 h2 h3=>I.kf c h1 h2 h3,I.kp,_,I.ko,pM ?_⟩;have:=I.oa.vK (n0:=n) (λ c hc=>by have:=I.da c hc;omega) (aN.pure (by simp)) (by omega);rw[al.ds,I.hL];exact this
def splice (l vs:List AV)(o:Nat):List AV:=l.take o++(vs++l.drop (o+vs.length))
theorem iC {l vs:List AV}{o:Nat}(ho:o+vs.length<=l.length):(splice l vs o).length=l.length:=by
 simp[splice];omega
theorem uQ {l vs:List AV}{o:Nat}(ho:o+vs.length<=l.length)(j:Nat):(splice l vs o)[j]?=if o<=j/\j<o+vs.length then vs[j - o]? else l[j]?:=by
 unfold splice
 by_cases h1:j<o
 ·rw[getElem?_append_left (by simp;omega),getElem?_take,if_pos h1,if_neg (by omega)]
 rw[getElem?_append_right (by simp;omega)];have e:(l.take o).length=o:=by simp;omega
 rw[e]
 by_cases h2:j<o+vs.length
 ·rw[getElem?_append_left (by omega),if_pos ⟨by omega,h2⟩]
 rw[getElem?_append_right (by omega),getElem?_drop,if_neg (by omega)]
 congr 1;omega
theorem fe.stN {u:Nat}{z bs:List AV}{t:Ov AV}{l vs:List AV}(h:fe (.cells u z bs t) l){o:Nat}(hv:vs≠[]) (ho:o+vs.length<=l.length):fe (mi u z bs t vs o) (splice l vs o):=by
 obtain⟨u',z',bs',t',e,hu,hg,hl⟩:=h;injection e with e1 e2 e3 e4;subst e1 e2 e3 e4
 have hput:∀t:Ov AV,(Ov.bO vs o t)≠.nil:=by
  intro t e;have:=Ov.bG vs o t o;have hp:0<vs.length:=length_pos_iff.2 hv;rw[e,if_pos ⟨by omega,by omega⟩,Nat.sub_self,getElem?_eq_getElem hp]at this;simp at this
 have vC:fe (.cells u z bs (Ov.bO vs o t)) (splice l vs o):=by
  refine⟨u,z,bs,_,rfl,by rw[iC ho,hu],λ j=>?_,λ e=>absurd e (hput t)⟩;have hj:=hg j;rw[cW]at hj ⊢;rw[uQ ho,Ov.bG]
  by_cases hju:j<u
  ·rw[if_pos hju]at hj ⊢
   by_cases hin:o<=j/\j<o+vs.length
   ·rw[if_pos hin,if_pos hin,getElem?_eq_getElem (by omega)]
   rw[if_neg hin,if_neg hin];exact hj
  rw[if_neg hju]at hj ⊢;rw[if_neg (by omega)];exact hj
 unfold mi
 split
 ·split
  ·split
   ·split
    ·rename_i bs' hp;have hb:=hl rfl rfl;obtain⟨p1,_,p3⟩:=iF hp
     have:bs'=splice l vs o:=by
      apply ext_getElem?;intro j;rw[p3,uQ ho];have hj:=hg j;rw[jP]at hj
      by_cases hin:o<=j/\j<o+vs.length
      ·rw[if_pos hin,if_pos hin]
      rw[if_neg hin,if_neg hin,<-hj]
      split
      ·rfl
      rw[getElem?_eq_none (by omega)]
     rw[this];exact .list (by rw[iC ho,hu])
    exact vC
   exact vC
  exact vC
 ·exact vC
 exact vC
theorem qO {b o k:Nat}{kb:bI}{L:List AV}{v:AV}(ho:fe kb L)(hk:v.len=k)(hc:v.cells.length=k)(h0:0<k)(h1:bm v.cells=true)(hl:o+k<=L.length):∃y,stE k v (some kb) b o=.upd (.bg []) b y/\fe y (splice L v.cells o):=by
 have ho':=ho;obtain⟨u,z,bs,t,rfl,h3,h4,_⟩:=ho;refine⟨mi u z bs t v.cells o,?_,ho'.stN (by intro e;rw[e]at hc;simp at hc;omega) (by omega)⟩;have hu:o+k<=u:=by omega
 simp[hu,hk,h1]
theorem al.QR {α:Type}{k:Nat}(E:al α k){l:List α}{i:Nat}(h:i<l.length)(a:α):splice (E.l l) (E.cells a) (i*k)=E.l (l.set i a):=by
 unfold splice;have e1:i*k+(E.cells a).length=(i+1)*k:=by rw[E.len,Nat.add_mul];omega
 rw[E.QO,e1,E.JQ,<-E.lH,<-E.bo,set_eq_take_append_cons_drop,if_pos h]
theorem al.QU {α:Type}{k:Nat}(E:al α k)(l:List α)(z:List AV)(hz:z.length=k)(a:α):splice (E.l l++z) (E.cells a) (l.length*k)=E.l (l++[a]):=by
 unfold splice;rw[take_append_of_le_length (by simp),take_of_length_le (by simp),drop_eq_nil_of_le (by simp[hz]),append_nil,E.bo,E.dF]
theorem aN.take {h:Hf}:∀ {a b:List AV}(i:Nat),aN h a b->aN h (a.take i) (b.take i)
 | _,_,0,_=>by simpa using aN.nil
 | _,_,i+1,.nil=>by simpa using aN.nil
 | _,_,i+1,.cons _ _ _ _ x y=>by simpa using aN.cons _ _ _ _ x (aN.take i y)
theorem aN.drop {h:Hf}:∀ {a b:List AV}(i:Nat),aN h a b->aN h (a.drop i) (b.drop i)
 | _,_,0,k=>by simpa using k
 | _,_,i+1,.nil=>by simpa using aN.nil
 | _,_,i+1,.cons _ _ _ _ x y=>by simpa using aN.drop i y
theorem aN.splice {h:Hf}{a b c d:List AV}(o:Nat)(x:aN h a b)(y:aN h c d):aN h (Go.Abs.splice a c o) (Go.Abs.splice b d o):=by
 unfold Go.Abs.splice;rw[<-y.length];exact(x.take o).append (y.append (x.drop _))
theorem ar.apv {H:Hp}{n:Nat}{v:AV}{l:List AV}{len sz:Nat}(h:ar H n v l len sz):aX v=.val (.int .i64 (len:Int)):=by
 obtain⟨_,⟨rfl,rfl⟩ | ⟨b,k,rfl,_⟩⟩:=h<;>simp
def Gp (i:Nat):Ex:=.mk 3 ⟨0,0,[]⟩ [] [] (i:Int) []
def jS (i:Nat):List AV:=[.int .i64 3,.int .i64 0,.int .i64 0,.str [],.str [],.str [],.int .i64 (i:Int),.ak (.slice none 0 0)]
theorem rj (h:Hf)(i:Nat):aN h (jS i) (dz.cells (Gp i)):=Ex.uw (v:=⟨0,0,[]⟩) (.nil 7)
def cA (k:Nat):List Ex:=(List.range k).map Gp
theorem lR (k:Nat):cA (k+1)=cA k++[Gp k]:=by simp[cA,range_succ]
@[simp] theorem sH (k:Nat):(cA k).length=k:=by simp[cA]
def gQ (t:aR):List ku->List ku->List Ex->Int->List Ex×Int×Bool
 | _,[],new,err=>(new,err,true)
 | done,x::r,new,err =>
  if keep (keep err 201 (decide (bS t x.name<0))) 205 (done.any λ y=>decide (y.name=x.name))≠0 then (new,keep (keep err 201 (decide (bS t x.name<0))) 205 (done.any λ y=>decide (y.name=x.name)),false)
  else gQ t (done++[x]) r (new.set (bS t x.name).toNat (nf [t.name] [t] x.e (mr t.ae (bS t x.name).toNat).kind (keep (keep err 201 (decide (bS t x.name<0))) 205 (done.any λ y=>decide (y.name=x.name)))).1) (nf [t.name] [t] x.e (mr t.ae (bS t x.name).toNat).kind (keep (keep err 201 (decide (bS t x.name<0))) 205 (done.any λ y=>decide (y.name=x.name)))).2
def zP (kind:Int)(t:aR)(cond:Ex)(r:List Ex×Int×Bool):ew×Int:=
 if r.2.2=true then ({kind:=kind,table:=t,new:=r.1,cond:=(cQ [t.name] [t] cond r.2.1).1},(cQ [t.name] [t] cond r.2.1).2)else ({kind:=kind,table:=t,new:=r.1},r.2.1)
def gO (s:bD)(x:aE)(err:Int):ew×Int:=
 if keep err 200 (!(s.named x.table).2)≠0 then ({kind:=x.kind,table:=(s.named x.table).1},keep err 200 (!(s.named x.table).2))
 else zP x.kind (s.named x.table).1 x.cond (gQ (s.named x.table).1 [] x.sets (cA (s.named x.table).1.ae.length) (keep err 200 (!(s.named x.table).2)))
def iG (kind:Int)(t:aR)(va w:AV):List AV:=[.int .i64 kind,.str [],.int .u32 t.id,.str t.name,aW.ds t.ae,.int .u32 t.head,.int .u32 0,.int .u32 0,.str [],.ak (.slice none 0 0),.bool false,.int .u32 0,
 .ak (.slice none 0 0),.ak (.slice none 0 0),va,.ak (.slice none 0 0),.ak (.slice none 0 0),w,.ak (.slice none 0 0),.ak (.slice none 0 0),.ak (.slice none 0 0),.ak (.slice none 0 0),.bool false,.bool false,.int .i64 0]
theorem pz {h:Hf}{kind:Int}{t:aR}{va w:AV}{L C:List Ex}(hz:dU h va (dz.ds L))(hw:FI h w (dz.ds C)):(iG kind t va w).length=25/\kP h (iG kind t va w) (ew.cells {kind:=kind,table:=t,new:=L,cond:=C}):=by
 refine⟨rfl,?_⟩;simp[iG,ew.cells,jb.zero];exact⟨.inr hz,hw⟩
structure UpA (H0:Hp)(n p o:Nat)(s:bD)(t:aR)(x:aE)(i:Nat)(va:AV)(R:List AV)(F:Fr)(K:Hp)(m:Nat):Prop where
 hi:i<=t.ae.length
 f0:F.get 0=some (.ptr p 0)
 f2:F.get 2=some (.ptr o 0)
 f4:F.get 4=some (.ptr n 0)
 f6:F.get 6=some (.ptr (n+1) 0)
 f33:F.get 33=some (.int .i64 (t.ae.length:Int))
 f34:F.get 34=some (.int .i64 (i:Int))
 hm:n+2<=m
 tp:cS K m
 kf:∀c,c<n->c≠p->c≠o->K.get c=H0.get c
 kp:K.get p=some (bV s 0)
 kn:K.get n=some (.cells 31 [] x.cells .nil)
 ks:K.get (n+1)=some (.cells 2 [] (ju [t.name] [t]) .nil)
 ko:K.get o=some (.cells 25 [] (iG x.kind t va (.ak (.slice none 0 0))) .nil)
 oa:ar K m va R i 8
 da:∀c,blk va=some c->n+2<=c
 fz:∀h,aN h R (dz.l (cA i))
theorem Nb (s:bD)(_hs:s.dE)(x:aE)(p o:Nat)(n:Nat)(hpn:p<n)(hon:o<n)(hpo:p≠o)(H0:Hp)(t:aR)(htc:t.ae.length<=lim)(F:Fr)(K:Hp)(m:Nat)(Q:QA)(va:AV)(R:List AV)(I:UpA H0 n p o s t x 0 va R F K m)
  (hQ:∀va R F K m,UpA H0 n p o s t x t.ae.length va R F K m->Q .normal F K m []):au MV pG F K m [] (bX 0 Q):=by
 unfold lim at htc;refine au.of (λ q F K m ms=>∃(i:Nat) (va:AV) (R:List AV),q=t.ae.length - i/\UpA H0 n p o s t x i va R F K m/\ms=[]) t.ae.length ⟨0,va,R,by simp,I,rfl⟩ ?_;clear I F K m va R;rintro q1 F K m ms ⟨i,va,R,rfl,I,rfl⟩;have f0:=I.f0;have f2:=I.f2;have f4:=I.f4;have f6:=I.f6;have f33:=I.f33;have f34:=I.f34;have hm:=I.hm
 by_cases hlt:i<t.ae.length
 ·have ko:=I.ko;simp only[iG]at ko;have hlv:=I.oa.apv;simp[MV,WQ,ahv,f33,f34,hlt];simp only[ahu,cH];refine bY.of (bH (P:=pG)) ?_;have tm:=I.tp m (Nat.le_refl _);simp[aa,f2,ko,hlv,bw,bL,tm];generalize hK1:Tr.put K m _=K1;have g1:∀c,c<m->K1.get c=K.get c:=λ c hc=>by rw[<-hK1];simp[dj hc]
  have x1:K1.get m=some (.cells 8 [] [.int .i64 0,.int .i64 0,.int .i64 0,.str [],.str [],.str [],.int .i64 0,.ak (.slice none 0 0)] .nil):=by rw[<-hK1];simp
  have t1:cS K1 (m+1):=λ c hc=>by
   have e1:¬c=m:=by omega
   rw[<-hK1];simp[e1,I.tp c (by omega)]
  clear hK1;have oa1:ar K1 (m+1) va R i 8:=I.oa.frame (by omega) λ c hc=>g1 c (I.oa.aK hc);refine ar.ru (k:=1) (new:=[.int .i64 0,.int .i64 0,.int .i64 0,.str [],.str [],.str [],.int .i64 0,.ak (.slice none 0 0)]) oa1 (aB x1) (by simp) (by simp) (by omega) (by omega) (by unfold big;omega) (by omega) (by simp) λ K2 o2 g2=>?_;have g2':∀c,c≠m+1->blk va≠some c->K2.get c=K1.get c:=λ c h1 h2=>g2 c h1 λ e=>h2 (by rw[e];rfl);have na:∀c,c<n+2->blk va≠some c:=λ c h1 h2=>by have:=I.da c h2;omega
  obtain⟨hRl,⟨e,_⟩ | ⟨b,kb,hb,_,hkb,ZP⟩⟩:=o2
  ·cases e
  injection hb with hb;subst hb;have FV:R.length=i*8:=I.oa.1;have hix:=lT (b:=m+1) (o:=0) (len:=i+1) (sz:=8) (i:=i) (k:=.i64) (by omega);rw[Nat.zero_add]at hix;obtain⟨y,hst,hoy⟩:=qO (b:=m+1) (k:=8) (o:=i*8) (v:=.agg (jS i) 8) ZP rfl rfl (by omega) (by simp[jS]) (by simp[FV]);simp only[jS]at hst;have ob:=(g2' o (by omega) (na o (by omega))).trans ((g1 o (by omega)).trans ko);have om:(o=m+1)=False:=by simp only[eq_iff_iff,iff_false];omega
  simp[hix];simp[hst,hkb,om,ob];have k3:∀c,c≠o->c≠m+1->((Tr.put K2 (m+1) (some y)).put o (some (.cells 25 [] (iG x.kind t (.sl (m+1) 0 (i+1) 8) (.ak (.slice none 0 0))) .nil))).get c=K2.get c:=λ c h1 h2=>by simp[h1,h2]
  have o3:((Tr.put K2 (m+1) (some y)).put o (some (.cells 25 [] (iG x.kind t (.sl (m+1) 0 (i+1) 8) (.ak (.slice none 0 0))) .nil))).get o=some (.cells 25 [] (iG x.kind t (.sl (m+1) 0 (i+1) 8) (.ak (.slice none 0 0))) .nil):=by simp
  have y3:((Tr.put K2 (m+1) (some y)).put o (some (.cells 25 [] (iG x.kind t (.sl (m+1) 0 (i+1) 8) (.ak (.slice none 0 0))) .nil))).get (m+1)=some y:=by simp[show ¬m+1=o by omega]
  simp only[iG]at k3 o3 y3;generalize Tr.put (Tr.put K2 (m+1) (some y)) o _=K3 at k3 o3 y3 ⊢;simp[aht,aa,f34,ah i (by omega)];have bk:∀c,c<m->c≠o->blk va≠some c->K3.get c=K.get c:=λ c h1 h2 h3=>(k3 c h2 (by omega)).trans ((g2' c (by omega) h3).trans (g1 c h1));have tp2:cS K2 (m+1+1):=λ c hc=>(g2' c (by omega) λ h=>by have:=I.oa.aK h;omega).trans (t1 c (by omega));refine⟨_,by omega,i+1,rfl,.sl (m+1) 0 (i+1) 8,splice (R++[.int .i64 0,.int .i64 0,.int .i64 0,.str [],.str [],.str [],.int .i64 0,.ak (.slice none 0 0)]) (jS i) (i*8),hlt,by simp[aa,f0],by simp[aa,f2],by simp[aa,f4],by simp[aa,f6],by simp[aa,f33],by simp,by omega,λ c hc=>(k3 c (by omega) (by omega)).trans (tp2 c hc),λ c h1 h2 h3=>(bk c (by omega) h3 (na c (by omega))).trans (I.kf c h1 h2 h3),(bk p (by omega) (by omega) (na p (by omega))).trans I.kp,(bk n (by omega) (by omega) (na n (by omega))).trans I.kn,(bk (n+1) (by omega) (by omega) (na (n+1) (by omega))).trans I.ks,o3,⟨?_,.inr ⟨m+1,y,rfl,by omega,y3,hoy⟩⟩,λ c hc=>by simp at hc;omega,λ h=>?_⟩
  ·rw[iC (by simp[FV,jS])];simp[FV];omega
  have e:=al.QU dz (cA i) [.int .i64 0,.int .i64 0,.int .i64 0,.str [],.str [],.str [],.int .i64 0,.ak (.slice none 0 0)] rfl (Gp i);rw[lR,<-e,sH];exact((I.fz h).append (aN.pure (by simp))).splice _ (rj h i)
 have hie:i=t.ae.length:=by have:=I.hi;omega
 subst hie;simp[MV,WQ,f33,f34];exact hQ va R _ K m ⟨I.hi,by simp[f0],by simp[f2],by simp[f4],by simp[f6],by simp[f33],by simp[f34],I.hm,I.tp,I.kf,I.kp,I.kn,I.ks,I.ko,I.oa,I.da,I.fz⟩
structure UpM (H0:Hp)(n p o:Nat)(s:bD)(t:aR)(x:aE)(N:List Ex)(e:Int)(va:AV)(R:List AV)(K:Hp)(m:Nat):Prop where
 hN:N.length=t.ae.length
 hm:n+2<=m
 tp:cS K m
 kf:∀c,c<n->c≠p->c≠o->K.get c=H0.get c
 kp:K.get p=some (bV s e)
 kn:K.get n=some (.cells 31 [] x.cells .nil)
 ks:K.get (n+1)=some (.cells 2 [] (ju [t.name] [t]) .nil)
 ko:K.get o=some (.cells 25 [] (iG x.kind t va (.ak (.slice none 0 0))) .nil)
 oa:ar K m va R t.ae.length 8
 da:∀c,blk va=some c->n+2<=c
 fz:∀h,aN h R (dz.l N)
structure UpB (H0:Hp)(n p o:Nat)(s:bD)(t:aR)(x:aE)(i:Nat)(N:List Ex)(e:Int)(va:AV)(R:List AV)(F:Fr)(K:Hp)(m:Nat):Prop where
 hi:i<=x.sets.length
 f0:F.get 0=some (.ptr p 0)
 f2:F.get 2=some (.ptr o 0)
 f4:F.get 4=some (.ptr n 0)
 f6:F.get 6=some (.ptr (n+1) 0)
 f51:F.get 51=some (eQ.ds x.sets)
 f52:F.get 52=some (.int .i64 (x.sets.length:Int))
 f53:F.get 53=some (.int .i64 (i:Int))
 mem:UpM H0 n p o s t x N e va R K m
 he:gQ t [] x.sets (cA t.ae.length) 0=gQ t (x.sets.take i) (x.sets.drop i) N e
theorem Na (s:bD) (x:aE) (p o:Nat) (n:Nat) (hpn:p<n) (hon:o<n) (hpo:p≠o) (H0:Hp) (t:aR) (htc:t.ae.length<=lim) (hx:x.sets.length<=lim) (hr:∀y∈x.sets,y.e.sz<=lim/\y.e.may=true) (F:Fr) (K:Hp) (m:Nat) (Q:QA) (va:AV) (R:List AV) (I:UpB H0 n p o s t x 0 (cA t.ae.length) 0 va R F K m)
  (hQ:∀N e va R F K m,UpB H0 n p o s t x x.sets.length N e va R F K m->Q .normal F K m [])
  (hQ2:∀N e va R F K m,UpM H0 n p o s t x N e va R K m->gQ t [] x.sets (cA t.ae.length) 0=(N,e,false)->Q .ret F K m []):au MU pG F K m [] (bX 2 Q):=by
 have hks:(aj [t]).length<=lim:=by simpa[aj,aR.kinds]using htc
 unfold lim at htc hx;refine au.of (λ q F K m ms=>∃(i:Nat) (N:List Ex) (e:Int) (va:AV) (R:List AV),q=x.sets.length - i/\UpB H0 n p o s t x i N e va R F K m/\ms=[]) x.sets.length ⟨0,_,0,va,R,by simp,I,rfl⟩ ?_;clear I F K m va R;rintro q1 F K m ms ⟨i,N,e,va,R,rfl,I,rfl⟩;have f0:=I.f0;have f2:=I.f2;have f4:=I.f4;have f6:=I.f6;have f51:=I.f51;have f52:=I.f52;have f53:=I.f53;have M:=I.mem;have hm:=M.hm;have he:=I.he
 by_cases hlt:i<x.sets.length
 ·have hZ:=eQ.ix (ik:=.i64) hlt;have hld:=λ H=>eQ.gM x.sets[i] (eQ.l (x.sets.drop (i+1))) H;have hsl:=eQ.xJ (show i<=x.sets.length by omega);obtain⟨hz,yS⟩:=hr _ (getElem_mem hlt);have ko:=M.ko;simp only[iG]at ko;have om:=dj (show o<m by omega);have nm:=dj (show n<m by omega);have pm:=dj (show p<m by omega);rw[drop_eq_getElem_cons hlt,gQ]at he;simp[MU,HQ,WY,WX,f2,f51,f52,f53,hlt,hZ,hld,al.av,om,ko];generalize hK1:Tr.put _ m _=K1;have g1:∀c,c<m->K1.get c=K.get c:=λ c hc=>by rw[<-hK1];simp[dj hc]
  have x1:K1.get m=some (.cells 9 [] (eQ.cells x.sets[i]) .nil):=by rw[<-hK1];simp
  have t1:cS K1 (m+1):=λ c hc=>by
   have e1:¬c=m:=by omega
   rw[<-hK1];simp[e1,M.tp c (by omega)]
  clear hK1;refine ao.same (FQ (p:=λ c=>decide (c.name=x.sets[i].name)) (first:=[]) (cap:=[.ptr m 0]) t.ae (by unfold lim;omega) λ d _=>apm d x.sets[i] m K1 (m+1) x1 t1) ?_;have hk:eE (λ c:eW=>decide (c.name=x.sets[i].name)) t.ae=bS t x.sets[i].name:=rfl;have hkl:=nY (λ c:eW=>decide (c.name=x.sets[i].name)) t.ae;rw[hk]at hkl ⊢;generalize bS t x.sets[i].name=k at he hkl ⊢;simp[WW,f0];refine ao.ok (fL p s _ 201 (decide (k<0)) _ _ (by omega) ((g1 p (by omega)).trans M.kp)) ?_;generalize hE1:keep e 201 (decide (k<0))=e1 at he;have j2:∀c,c≠p->(K1.put p (some (bV s e1))).get c=K1.get c:=λ c hc=>by simp[hc]
  have jp:(K1.put p (some (bV s e1))).get p=some (bV s e1):=by simp
  generalize K1.put p (some (bV s e1))=K2 at j2 jp ⊢;have n2:=(j2 n (by omega)).trans ((g1 n (by omega)).trans M.kn);have x2:=(j2 m (by omega)).trans x1;have t2:cS K2 (m+1):=λ c hc=>(j2 c (by omega)).trans (t1 c hc);simp[WV,f0,f4,n2,aE.c7,hsl];refine ao.same (aj_ (p:=λ y=>decide (y.name=x.sets[i].name)) (first:=[]) (cap:=[.ptr m 0]) (x.sets.take i) (by simp;unfold lim;omega) λ y _=>amX y x.sets[i] m K2 (m+1) x2 t2) ?_;generalize (x.sets.take i).any (λ y=>decide (y.name=x.sets[i].name))=db at he ⊢;simp;refine ao.ok (fL p s e1 205 db _ _ (by omega) jp) ?_;generalize hE2:keep e1 205 db=e2 at he;have j3:∀c,c≠p->(K2.put p (some (bV s e2))).get c=K2.get c:=λ c hc=>by simp[hc]
  have E':(K2.put p (some (bV s e2))).get p=some (bV s e2):=by simp
  generalize K2.put p (some (bV s e2))=K3 at j3 E' ⊢;have an9:K3.get p=some (.cells 3 [] [aG.ds s.tables,bC.ds s.indexes,.int .i64 e2] .nil):=E';have bk:∀c,c<m->c≠p->K3.get c=K.get c:=λ c h1 h2=>(j3 c h2).trans ((j2 c h2).trans (g1 c h1));have t3:cS K3 (m+1):=λ c hc=>(j3 c (by omega)).trans (t2 c hc);have oa3:ar K3 (m+1) va R t.ae.length 8:=M.oa.frame (by omega) λ c hc=>bk c (M.oa.aK hc) (by have:=M.da c hc;omega)
  by_cases h2:e2=0
  ·subst h2;simp at he;obtain⟨he1,hdb⟩:=AA (by omega) hE2;obtain⟨he0,hkd⟩:=AA (by omega) (hE1.trans he1);have hk0:0<=k:=by simpa using hkd
   obtain⟨kk,rfl⟩:∃kk:Nat,k=(kk:Int):=⟨k.toNat,by omega⟩;have hkk:kk<t.ae.length:=by omega
   simp at he;have hcx:=aW.ix (ik:=.i64) hkk;have o3:=(bk o (by omega) (by omega)).trans ko;have s3:=(bk (n+1) (by omega) (by omega)).trans M.ks;have x3:=(j3 m (by omega)).trans x2;have hft:=acO [t.name] [t] rfl hks (by simp[lim]) (by simp;unfold lim;omega) s x.sets[i].e hz yS t.ae[kk].kind p 0 K3 (m+1) (by omega) E';rw[kZ hkk]at he;unfold nf at he;generalize x.sets[i].e.bd [t.name] [t] 0=X at hft he;obtain⟨y1,kd,er⟩:=X;simp only at hft he;simp[HP,f0,an9];simp only[WU,cH];generalize keep er 203 (decide (kd≠0)&&decide (kd≠t.ae[kk].kind))=Ge at hft he;have hft:bT pG 65 [.ptr p 0,.agg [bB.ds [t.name],aG.ds [t]] 2,.agg x.sets[i].e.cells 8,.int .i64 t.ae[kk].kind] K3 (m+1) (.agg y1.cells 8) (K3.put p (some (bV s Ge))) (m+1):=hft;obtain⟨hRl,⟨_,hnil⟩ | ⟨vb,kb,rfl,hvb,hkb,ZP⟩⟩:=oa3
   ·omega
   have hda:=M.da vb rfl;have hvm:vb<m:=M.oa.aK rfl;refine bY.of (fP (l:=[⟨65,[.ptr p 0,.agg [bB.ds [t.name],aG.ds [t]] 2,.agg x.sets[i].e.cells 8,.int .i64 t.ae[kk].kind],K3,m+1,.agg y1.cells 8,K3.put p (some (bV s Ge)),m+1⟩]) ?_) ?_
   ·simp only[mem_cons,not_mem_nil,or_false];rintro c rfl;exact hft
   have j4:∀c,c≠p->(K3.put p (some (bV s Ge))).get c=K3.get c:=λ c hc=>by simp[hc]
   have p4:(K3.put p (some (bV s Ge))).get p=some (bV s Ge):=by simp
   have o4:=(j4 o (by omega)).trans o3;have b4:=(j4 vb (by omega)).trans hkb;have hix:=lT (b:=vb) (o:=0) (len:=t.ae.length) (sz:=8) (i:=kk) (k:=.i64) hkk;rw[Nat.zero_add]at hix;rw[qe]at x3;simp only[ju]at s3;obtain⟨y,hst,hoy⟩:=qO (b:=vb) (k:=8) (o:=kk*8) (v:=.agg y1.cells 8) ZP rfl (by simp[AV.cells]) (by omega) (by simp[AV.cells]) (by rw[hRl];omega);have op:(o=p)=False:=by simp only[eq_iff_iff,iff_false];omega
   have bp:(vb=p)=False:=by simp only[eq_iff_iff,iff_false];omega
   simp[aa,f0,f2,f6,o3,s3,x3,hcx,dQ,fQ,op,bp,hix,hkb,hst];generalize K3.put p (some (bV s Ge))=K4 at j4 p4 o4 b4 ⊢;simp[WT,f53,aa,ah i (by omega)];have k5:∀c,c≠vb->(K4.put vb (some y)).get c=K4.get c:=λ c hc=>by simp[hc]
   have y5:(K4.put vb (some y)).get vb=some y:=by simp
   generalize K4.put vb (some y)=K5 at k5 y5 ⊢;have bk5:∀c,c<m->c≠p->c≠vb->K5.get c=K.get c:=λ c h1 h2 h3=>(k5 c h3).trans ((j4 c h2).trans (bk c h1 h2));refine⟨_,by omega,i+1,rfl,N.set kk y1,Ge,.sl vb 0 t.ae.length 8,splice R y1.cells (kk*8),hlt,by simp[aa,f0],by simp[aa,f2],by simp[aa,f4],by simp[aa,f6],by simp[aa,f51],by simp[aa,f52],by simp,⟨by simp[M.hN],by omega,λ c hc=>(k5 c (by omega)).trans ((j4 c (by omega)).trans (t3 c hc)),λ c h1 h2 h3=>(bk5 c (by omega) h2 (by omega)).trans (M.kf c h1 h2 h3),(k5 p (by omega)).trans p4,(bk5 n (by omega) (by omega) (by omega)).trans M.kn,(bk5 (n+1) (by omega) (by omega) (by omega)).trans M.ks,(bk5 o (by omega) (by omega) (by omega)).trans M.ko,⟨?_,.inr ⟨vb,y,rfl,by omega,y5,hoy⟩⟩,λ c hc=>M.da c hc,λ h=>?_⟩,?_⟩
   ·rw[iC (by rw[hRl];simp;omega),hRl]
   ·have e:=al.QR dz (l:=N) (i:=kk) (by rw[M.hN];exact hkk) y1;rw[<-e];exact(M.fz h).splice _ (aN.pure (by simp))
   exact he
  simp[h2]at he;simp[HP,f0,an9,h2];exact hQ2 N e2 va R _ K3 (m+1) ⟨M.hN,by omega,t3,λ c h1 h2 h3=>(bk c (by omega) h2).trans (M.kf c h1 h2 h3),E',(bk n (by omega) (by omega)).trans M.kn,(bk (n+1) (by omega) (by omega)).trans M.ks,(bk o (by omega) (by omega)).trans M.ko,oa3,M.da,M.fz⟩ he
 have hie:i=x.sets.length:=by have:=I.hi;omega
 subst hie;simp[MU,HQ,f52,f53];exact hQ N e va R _ K m ⟨I.hi,by simp[f0],by simp[f2],by simp[f4],by simp[f6],by simp[f51],by simp[f52],by simp[f53],M,he⟩
theorem O8 (s:bD) (hs:s.dE) (x:aE) (hx:x.sets.length<=lim) (hr:∀y∈x.sets,y.e.sz<=lim/\y.e.may=true) (hcz:x.cond.sz<=lim) (hcm:x.cond.maybe=true) (p o:Nat) (H:Hp) (n:Nat) (hpn:p<n) (hon:o<n) (hpo:p≠o) (hp:H.get p=some (bV s 0)) (ho:H.get o=some (.cells 25 [] (br x.kind) .nil)):
  bT pG 21 [.ptr p 0,x.av,.ptr o 0] H n (.bg []) ((H.put p (some (bV s (gO s x 0).2))).put o (some (.cells 25 [] (gO s x 0).1.cells .nil))) n:=by
 refine OA (args:=[x.av]) c21 (by simp[A21]) (by simp) hpn hon hpo hp ho (aL.kA (by simp[br])) (aL.kA (by simp)) λ F H0 hF htop hp0 ho0=>?_;have hcr:gO s x 0=(if keep 0 200 (!(s.named x.table).2)≠0 then ({kind:=x.kind,table:=(s.named x.table).1},keep 0 200 (!(s.named x.table).2))
 else zP x.kind (s.named x.table).1 x.cond (gQ (s.named x.table).1 [] x.sets (cA (s.named x.table).1.ae.length) (keep 0 200 (!(s.named x.table).2)))):=rfl
 rw[hcr];have q:=dj hpn;have q':=Aj hpn;have r:=dj hon;have r':=Aj hon;have po:(p=o)=False:=by simp[hpo]
 have op:(o=p)=False:=by simp[hpo,eq_comm]
 have htc:(s.named x.table).1.ae.length<=lim:=cE (Q:=λ t:aR=>t.ae.length<=lim) (by simp[aR.zero]) hs.tc;simp[A21,B21,ahz,ahy,hF,aE.av,aE.c1];refine ao.ok (nR s hs x.table p 0 _ _ (by omega) (by simp[q,hp0])) ?_;generalize s.named x.table=tt at *;obtain⟨t,tb⟩:=tt;simp only at htc ⊢;generalize keep 0 200 (!tb)=e0 at *;have hal:=Kt t;have gN:aG.av t=.agg [.int .u32 t.id,.str t.name,aW.ds t.ae,.int .u32 t.head] 4:=Eq.trans rfl rfl;rw[gN]at hal;simp only[br]at ho0
 by_cases h0:e0=0
 ·subst h0;simp[r,op,po,ho0,al.av,aU,WR,ahx,hF,bV,rL];refine ao.pure hal ?_;simp[ahw,hF,r,ju,al.ag];generalize hK:Tr.put _ (n+1) (some (bI.cells 2 [] [bB.ds [t.name],aG.ds [t]] .nil))=K1;have k0:∀c,c<n->c≠p->c≠o->K1.get c=H0.get c:=λ c h1 h2 h3=>by rw[<-hK];simp[h2,h3,dj h1]
  have kp:K1.get p=some (bV s 0):=by rw[<-hK];simp[po,q,bV,rL]
  have kn:K1.get n=some (.cells 31 [] x.cells .nil):=by rw[<-hK];simp[q',r']
  have ks:K1.get (n+1)=some (.cells 2 [] (ju [t.name] [t]) .nil):=by rw[<-hK];simp[ju]
  have ko:K1.get o=some (.cells 25 [] (iG x.kind t (.ak (.slice none 0 0)) (.ak (.slice none 0 0))) .nil):=by rw[<-hK];simp[iG,r]
  have kt:cS K1 (n+1+1):=λ c hc=>by
   have e1:¬c=n:=by omega
   have e2:¬c=p:=by omega
   have e3:¬c=o:=by omega
   have e4:¬c=n+1:=by omega
   rw[<-hK];simp[e1,e2,e3,e4,htop c (by omega)]
  clear hK;refine Nb s hs x p o n hpn hon hpo H0 t htc _ K1 (n+1+1) _ (.ak (.slice none 0 0)) [] ⟨by omega,by simp[hF],by simp[hF],by simp,by simp,by simp,by simp,by omega,kt,k0,kp,kn,ks,ko,by simpa using ar.nil _ _ 8,by simp,λ h=>by simpa[cA]using aN.nil⟩ λ va R F K m I=>?_;clear k0 kp kn ks ko kt;have kn:=I.kn;have f4:=I.f4;simp[ahs,f4,kn,aE.c7,al.ag];refine Na s x p o n hpn hon hpo H0 t htc hx hr _ K m _ va R ⟨by omega,by simp[I.f0],by simp[I.f2],by simp[I.f4],by simp[I.f6],by simp,by simp,by simp,⟨by simp,I.hm,I.tp,I.kf,I.kp,I.kn,I.ks,I.ko,I.oa,I.da,I.fz⟩,by simp⟩ (λ N e va1 R1 F1 K1' m1 B=>?_) (λ N e va R F K m M he=>?_)
  ·clear I f4 kn;have he:=B.he;rw[take_length,drop_length,gQ]at he;rw[he];have M:=B.mem;have f0:=B.f0;have f2:=B.f2;have f4:=B.f4;have f6:=B.f6;have kn:=M.kn;have ks:=M.ks;have ko:=M.ko;simp only[iG]at ko;simp only[ju]at ks;have hm:=M.hm;have hks:(aj [t]).length<=lim:=by simpa[aj,aR.kinds]using htc
   have hcd:=Bc [t.name] [t] rfl hks (by simp[lim]) (by simpa using htc) s x.cond hcz hcm p e K1' m1 (by omega) M.kp;have gN:x.cond.av=.agg x.cond.cells 8:=Eq.trans rfl rfl;rw[gN]at hcd;have hu:zP x.kind t x.cond (N,e,true)=({kind:=x.kind,table:=t,new:=N,cond:=(cQ [t.name] [t] x.cond e).1},(cQ [t.name] [t] x.cond e).2):=by simp[zP]
   rw[hu];generalize cQ [t.name] [t] x.cond e=cd at hcd ⊢;obtain⟨cl,ce⟩:=cd;simp[WS,f0,f2,f4,f6,kn,ks,aE.cc];refine ao.ok hcd ?_;simp[op,ko];have k9:∀c,c≠p->c≠o->((Tr.put K1' p (some (bV s ce))).put o (some (.cells 25 [] (iG x.kind t va1 (dz.ds cl)) .nil))).get c=K1'.get c:=λ c h1 h2=>by simp[h1,h2]
   have p9:((Tr.put K1' p (some (bV s ce))).put o (some (.cells 25 [] (iG x.kind t va1 (dz.ds cl)) .nil))).get p=some (bV s ce):=by simp[po]
   have o9:((Tr.put K1' p (some (bV s ce))).put o (some (.cells 25 [] (iG x.kind t va1 (dz.ds cl)) .nil))).get o=some (.cells 25 [] (iG x.kind t va1 (dz.ds cl)) .nil):=by simp
   have hz:dU (above n ((Tr.put K1' p (some (bV s ce))).put o (some (.cells 25 [] (iG x.kind t va1 (dz.ds cl)) .nil)))) va1 (dz.ds N):=by
    have:=(M.oa.frame (Nat.le_refl _) λ c hc=>k9 c (by have:=M.da c hc;omega) (by have:=M.da c hc;omega)).vK (n0:=n) (λ c hc=>by have:=M.da c hc;omega) (M.fz _) (by omega);have e:dz.ds N=.ds (dz.l N) t.ae.length 8:=by rw[<-M.hN];rfl
    rw[e];exact this
   have he9:=pz (kind:=x.kind) (t:=t) (L:=N) (C:=cl) (w:=dz.ds cl) hz (by simp);refine⟨.pure _ (by simp),λ c h1 h2 h3=>?_,?_,he9.2⟩
   ·simp[h2,h3,M.kf c h1 h2 h3]
   simp[po];rfl
  rw[he]
  have hz:dU (above n K) va (dz.ds N):=by
   have:=M.oa.vK (n0:=n) (λ c hc=>by have:=M.da c hc;omega) (M.fz _) (by omega);rw[al.ds,M.hN];exact this
  have hu:zP x.kind t x.cond (N,e,false)=({kind:=x.kind,table:=t,new:=N},e):=by simp[zP]
  rw[hu];simp;refine⟨.pure _ (by simp),M.kf,M.kp,_,M.ko,pz hz ?_⟩;simp
 simp[r,op,po,ho0,al.av,aU,WR,hF,h0,bV,rL];refine⟨.pure _ (by simp),λ c h1 h2 h3=>?_,?_⟩
 ·simp[h2,h3,dj h1]
 simp[ew.cells,jb.zero]
end Go.Abs
