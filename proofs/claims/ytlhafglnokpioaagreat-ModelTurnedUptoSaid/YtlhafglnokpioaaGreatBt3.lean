/- A part. -/
import Derived.Test.YtlhafglnokpioaaGreatBt2
noncomputable section
namespace Go.Abs
open List
open Go.Proofs
open Classical
set_option maxRecDepth 100000
def splice (l vs:List AV)(o:Nat):List AV:=l.take o++(vs++l.drop (o+vs.length))
theorem rM {l vs:List AV}{o:Nat}(ho:o+vs.length<=l.length):(splice l vs o).length=l.length:=by
 simp[splice];omega
theorem xM {l vs:List AV}{o:Nat}(ho:o+vs.length<=l.length)(j:Nat):(splice l vs o)[j]?=if o<=j/\j<o+vs.length then vs[j - o]? else l[j]?:=by
 unfold splice
 by_cases h1:j<o
 ·rw[getElem?_append_left (by simp;omega),getElem?_take,aw h1,ai ae]
 rw[getElem?_append_right (by simp;omega)];have e:(l.take o).length=o:=by simp;omega
 rw[e]
 by_cases h2:j<o+vs.length
 ·rw[getElem?_append_left ae,aw ⟨ae,h2⟩]
 rw[getElem?_append_right ae,lj,ai ae]
 congr 1;omega
theorem OwnB.stN {u:Nat}{z bs:List AV}{t:Ov AV}{l vs:List AV}(h:OwnB (.cells u z bs t) l){o:Nat}(hv:vs≠[]) (ho:o+vs.length<=l.length):OwnB (mN u z bs t vs o) (splice l vs o):=by
 obtain⟨u',z',bs',t',e,hu,hg,hl⟩:=h;injection e with e1 e2 e3 e4;subst e1 e2 e3 e4
 have hput:∀t:Ov AV,(Ov.bO vs o t)≠.nil:=by
  intro t e;have:=Ov.bF vs o t o;have hp:0<vs.length:=length_pos_iff.2 hv;rw[e,aw ⟨ae,ae⟩,Nat.sub_self,cX hp]at this;simp at this
 have yM:OwnB (.cells u z bs (Ov.bO vs o t)) (splice l vs o):=by
  refine⟨u,z,bs,_,rfl,by rw[rM ho,hu],λ j=>?_,λ e=>ar e (hput t)⟩;have hj:=hg j;rw[cD]at hj ⊢;rw[xM ho,Ov.bF]
  by_cases hju:j<u
  ·rw[aw hju]at hj ⊢
   by_cases jm:o<=j/\j<o+vs.length
   ·rw[aw jm,aw jm,cX ae]
   rw[ai jm,ai jm];exact hj
  rw[ai hju]at hj ⊢;rw[ai ae];exact hj
 unfold mN
 split
 ·split
  ·split
   ·split
    ·rename_i bs' hp;have hb:=hl rfl rfl;obtain⟨p1,_,p3⟩:=jw hp
     have:bs'=splice l vs o:=by
      apply ext_getElem?;intro j;rw[p3,xM ho];have hj:=hg j;rw[nU]at hj
      by_cases jm:o<=j/\j<o+vs.length
      ·rw[aw jm,aw jm]
      rw[ai jm,ai jm,<-hj]
      split
      ·rfl
      rw[getElem?_eq_none ae]
     rw[this];exact .list (by rw[rM ho,hu])
    exact yM
   exact yM
  exact yM
 ·exact yM
 exact yM
theorem aeR {b o k:Nat}{kb:bG}{L:List AV}{v:AV}(ho:OwnB kb L)(hk:v.len=k)(hc:v.cells.length=k)(h0:0<k)(h1:br v.cells=true)(hl:o+k<=L.length):∃y,stE k v (some kb) b o=.upd (.bo []) b y/\OwnB y (splice L v.cells o):=by
 have ho':=ho;obtain⟨u,z,bs,t,rfl,h3,h4,_⟩:=ho;refine⟨mN u z bs t v.cells o,?_,ho'.stN (by intro e;rw[e]at hc;simp at hc;omega) ae⟩;have hu:o+k<=u:=ae;simp[hu,hk,h1]
theorem aZ.akI {α:Type}{k:Nat}(E:aZ α k)(l:List α)(z:List AV)(hz:z.length=k)(a:α):splice (E.l l++z) (E.cells a) (l.length*k)=E.l (l++[a]):=by
 unfold splice;rw[take_append_of_le_length ah,fN ah,drop_eq_nil_of_le (by simp[hz]),append_nil,E.gX,E.Bt]
theorem bc.take {h:Hf}:∀ {a b:List AV}(i:Nat),bc h a b->bc h (a.take i) (b.take i)
 |_,_,0,_=>by simpa using bc.nil
 |_,_,i+1,.nil=>by simpa using bc.nil
 |_,_,i+1,.cons _ _ _ _ x y=>by simpa using bc.cons _ _ _ _ x (bc.take i y)
theorem bc.drop {h:Hf}:∀ {a b:List AV}(i:Nat),bc h a b->bc h (a.drop i) (b.drop i)
 |_,_,0,k=>by simpa using k
 |_,_,i+1,.nil=>by simpa using bc.nil
 |_,_,i+1,.cons _ _ _ _ x y=>by simpa using bc.drop i y
theorem bc.splice {h:Hf}{a b c d:List AV}(o:Nat)(x:bc h a b)(y:bc h c d):bc h (Go.Abs.splice a c o) (Go.Abs.splice b d o):=by
 unfold Go.Abs.splice;rw[<-y.length];exact(x.take o).append (y.append (x.drop _))
theorem aC.axr {H:Hp}{n:Nat}{v:AV}{l:List AV}{len sz:Nat}(h:aC H n v l len sz):bm v=.val (zI (len:Int)):=by
 obtain⟨_,⟨rfl,rfl⟩|⟨b,k,rfl,_⟩⟩:=h<;>simp
def D4 (i:Nat):Ex:=.mk 3 ⟨0,0,[]⟩ [] [] (i:Int) []
def US (i:Nat):List AV:=[zI 3,zI 0,zI 0,.str [],.str [],.str [],zI (i:Int),.aV (.slice none 0 0)]
theorem Y0 (h:Hf)(i:Nat):bc h (US i) (jg.cells (D4 i)):=Ex.nV (v:=⟨0,0,[]⟩) (.nil 7)
def eH (k:Nat):List Ex:=(range k).map D4
theorem Kq (k:Nat):eH (k+1)=eH k++[D4 k]:=by simp[eH,range_succ]
@[simp] theorem u7 (k:Nat):(eH k).length=k:=by simp[eH]
def aon (t:bK):List St1->List St1->List Ex->Int->List Ex×Int×Bool
 |_,[],new,err=>(new,err,true)
 |done,x::r,new,err =>
  if keep (keep err 201 (decide (tZ t x.name<0))) 205 (done.any λ y=>decide (y.name=x.name))≠0 then (new,keep (keep err 201 (decide (tZ t x.name<0))) 205 (done.any λ y=>decide (y.name=x.name)),false)
  else aon t (done++[x]) r (new.set (tZ t x.name).toNat (afS [t.name] [t] x.e (H9 t.cols (tZ t x.name).toNat).kind (keep (keep err 201 (decide (tZ t x.name<0))) 205 (done.any λ y=>decide (y.name=x.name)))).1) (afS [t.name] [t] x.e (H9 t.cols (tZ t x.name).toNat).kind (keep (keep err 201 (decide (tZ t x.name<0))) 205 (done.any λ y=>decide (y.name=x.name)))).2
def au9 (kind:Int)(t:bK)(cond:Ex)(r:List Ex×Int×Bool):oH×Int:=
 if r.2.2=true then ({kind:=kind,table:=t,new:=r.1,cond:=(dU [t.name] [t] cond r.2.1).1},(dU [t.name] [t] cond r.2.1).2)else ({kind:=kind,table:=t,new:=r.1},r.2.1)
def aea (s:cn)(x:dE)(err:Int):oH×Int:=
 if keep err 200 (!(s.named x.table).2)≠0 then ({kind:=x.kind,table:=(s.named x.table).1},keep err 200 (!(s.named x.table).2))
 else au9 x.kind (s.named x.table).1 x.cond (aon (s.named x.table).1 [] x.sets (eH (s.named x.table).1.cols.length) (keep err 200 (!(s.named x.table).2)))
end Go.Abs
namespace Go.Abs
open List
open Go.Proofs
open Classical
set_option maxRecDepth 100000
def kK (kind:Int)(fr on w it nm kd od:AV)(d l:Bool)(m:Int):List AV:=[zI kind,.str [],.int .u32 0,.str [],.aV (.slice none 0 0),.int .u32 0,.int .u32 0,.int .u32 0,.str [],.aV (.slice none 0 0),.bool false,.int .u32 0,
 .aV (.slice none 0 0),.aV (.slice none 0 0),.aV (.slice none 0 0),fr,on,w,it,nm,kd,od,.bool d,.bool l,zI m]
structure QC where
 kind:Int
 fr:AV
 on:AV
 w:AV
 od:AV
 d:Bool
 l:Bool
 m:Int
def QC.out (q:QC)(it nm kd:AV):List AV:=kK q.kind q.fr q.on q.w it nm kd q.od q.d q.l q.m
structure Tq (H0:Hp)(n p o:Nat)(s:cn)(ns:List (List Nat))(ts:List bK)(q:bI)(C:QC)(e:Int)(c:Nat)(E:List Ex)(N:List (List Nat))(Ks:List Int)(vi vn vk:AV)(R:List AV)(K:Hp)(m:Nat):Prop where
 hm:n+2<=m
 tp:dh K m
 kf:∀b,b<n->b≠p->b≠o->K.get b=H0.get b
 kp:K.get p=some (gu s e)
 kn:K.get n=aR 2 (oN ns ts)
 kq:K.get (n+1)=aR 15 q.cells
 ko:K.get o=aR 25 (C.out vi vn vk)
 oi:aC K m vi R c 8
 on:aC K m vn (dy.l N) c 1
 ok:aC K m vk (dA.l Ks) c 1
 di:∀b,blk vi=some b->n+2<=b/\blk vn≠some b/\blk vk≠some b
 dn:∀b,blk vn=some b->n+2<=b/\blk vk≠some b
 dk:∀b,blk vk=some b->n+2<=b
 fz:∀h,bc h R (jg.l E)
 hE:E.length=c
 hN:N.length=c
 hK:Ks.length=c
section
variable {H0:Hp}{n p o:Nat}{s:cn}{ns:List (List Nat)}{ts:List bK}{q:bI}{C:QC}{e:Int}{c:Nat}{E:List Ex}{N:List (List Nat)}{Ks:List Int}{vi vn vk:AV}{R:List AV}{K:Hp}{m:Nat}
theorem Tq.next (M:Tq H0 n p o s ns ts q C e c E N Ks vi vn vk R K m)(hpn:p<n)(hon:o<n)(hpo:p≠o){K':Hp}{m':Nat}{e':Int}(hm:m<=m')(ht:dh K' m')(hk:∀b,b<m->b≠p->K'.get b=K.get b)(hp:K'.get p=some (gu s e')):Tq H0 n p o s ns ts q C e' c E N Ks vi vn vk R K' m':=by
 have hm0:=M.hm
 exact⟨ae,ht,λ b h1 h2 h3=>(hk b ae h2).trans (M.kf b h1 h2 h3),hp,(hk n ae ae).trans M.kn,(hk (n+1) ae ae).trans M.kq,(hk o ae ae).trans M.ko,
  M.oi.frame hm λ b hb=>hk b (M.oi.df hb) (by have:=(M.di b hb).1;omega),M.on.frame hm λ b hb=>hk b (M.on.df hb) (by have:=(M.dn b hb).1;omega),M.ok.frame hm λ b hb=>hk b (M.ok.df hb) (by have:=M.dk b hb;omega),M.di,M.dn,M.dk,M.fz,M.hE,M.hN,M.hK⟩
end
structure StF (n p o:Nat)(ts:List bK)(i:Nat)(F:Fr):Prop where
 f0:F.get 0=some (.ptr p 0)
 f3:F.get 3=some (.ptr o 0)
 f5:F.get 5=some (.ptr n 0)
 f6:F.get 6=some (.ptr (n+1) 0)
 f32:F.get 32=some (aH.ds ts)
 f33:F.get 33=some (zI (ts.length:Int))
 f34:F.get 34=some (zI (i:Int))
def namesT (ts:List bK):List (List Nat):=ts.flatMap λ t=>t.cols.map (·.name)
theorem X8 (n p o:Nat) (hpn:p<n) (hon:o<n) (hpo:p≠o) (H0:Hp) (s:cn) (ns:List (List Nat)) (ts:List bK) (q:bI) (C:QC) (hC:C.fr.one=true/\C.on.one=true/\C.w.one=true/\C.od.one=true) (e:Int) (i:Nat) (t:bK) (c0:Nat) (hlim:c0+t.cols.length<=aU) (E0:List Ex) (N0:List (List Nat)) (Ks0:List Int) (hE0:E0=eH c0)
  (F:Fr)(K:Hp)(m:Nat)(Q:QA)(vi vn vk:AV)(R:List AV)(hF:StF n p o ts i F)(h39:F.get 39=some (dL.ds t.cols))(h40:F.get 40=some (zI (t.cols.length:Int)))(h41:F.get 41=some (zI 0))(M:Tq H0 n p o s ns ts q C e c0 E0 N0 Ks0 vi vn vk R K m)
  (hQ:∀vi vn vk R F K m,StF n p o ts i F->Tq H0 n p o s ns ts q C e (c0+t.cols.length) (eH (c0+t.cols.length)) (N0++t.cols.map (·.name)) (Ks0++t.cols.map (·.kind)) vi vn vk R K m->Q .normal F K m []):aE Gl pG F K m [] (jE 2 Q):=by
 subst hE0;unfold aU at hlim;obtain⟨hC1,hC2,hC3,hC4⟩:=hC;refine aE.of (λ g F K m ms=>∃(j:Nat) (vi vn vk:AV) (R:List AV),g=t.cols.length - j/\j<=t.cols.length/\StF n p o ts i F/\F.get 39=some (dL.ds t.cols)/\F.get 40=some (zI (t.cols.length:Int))/\F.get 41=some (zI (j:Int))/\Tq H0 n p o s ns ts q C e (c0+j) (eH (c0+j)) (N0++(t.cols.take j).map (·.name)) (Ks0++(t.cols.take j).map (·.kind)) vi vn vk R K m/\ms=[]) t.cols.length ⟨0,vi,vn,vk,R,ah,ae,hF,h39,h40,h41,by simpa using M,rfl⟩ ?_;clear hF h39 h40 h41 M F K m vi vn vk R;rintro g F K m ms ⟨j,vi,vn,vk,R,rfl,hj,⟨f0,f3,f5,f6,f32,f33,f34⟩,f39,f40,f41,M,rfl⟩;have hm:=M.hm
 by_cases hlt:j<t.cols.length
 ·have hxx:=dL.ix (ik:=.i64) hlt;have hld:=λ H=>dL.pQ t.cols[j] (dL.l (t.cols.drop (j+1))) H;simp[Gl,f39,f40,f41,hlt,hxx,hld,aZ.av];generalize hK1:Tr.put _ m _=K1;have g1:∀b,b<m->K1.get b=K.get b:=λ b hb=>by rw[<-hK1];simp[ky hb]
  have x1:K1.get m=aR 3 (dL.cells t.cols[j]):=by rw[<-hK1];simp
  have t1:dh K1 (m+1):=λ b hb=>by
   have e1:¬b=m:=ae;rw[<-hK1];simp[e1,M.tp b ae]
  clear hK1;have M1:=M.next hpn hon hpo (Nat.le_succ m) t1 (λ b h1 _=>g1 b h1) ((g1 p ae).trans M.kp);have hvi:∀b,blk vi=some b->b<m:=λ b h=>M.oi.df h;have hvn:∀b,blk vn=some b->b<m:=λ b h=>M.on.df h;have hvk:∀b,blk vk=some b->b<m:=λ b h=>M.ok.df h;clear M g1;obtain⟨c,hc⟩:∃c,c=c0+j:=⟨_,rfl⟩;rw[<-hc]at M1;have ko:=M1.ko;simp only[QC.out,kK]at ko;have hlv:=M1.oi.axr;have tm:=t1 (m+1) (aK _);simp only[SI,pz];refine bC.of (bh (P:=pG)) ?_;simp[ab,f3,ko,hlv,cN,dm,tm];generalize hK2:Tr.put K1 (m+1) _=K2;have g2:∀b,b<m+1->K2.get b=K1.get b:=λ b hb=>by rw[<-hK2];simp[ky hb]
  have x2:K2.get (m+1)=aR 8 [zI 0,zI 0,zI 0,.str [],.str [],.str [],zI 0,.aV (.slice none 0 0)]:=by rw[<-hK2];simp
  have t2:dh K2 (m+1+1):=λ b hb=>by
   have e1:¬b=m+1:=ae;rw[<-hK2];simp[e1,t1 b ae]
  clear hK2;have oi2:aC K2 (m+1+1) vi R c 8:=M1.oi.frame ae λ b hb=>g2 b (M1.oi.df hb);refine aC.zr (k:=1) (new:=[zI 0,zI 0,zI 0,.str [],.str [],.str [],zI 0,.aV (.slice none 0 0)]) oi2 (bD x2) ah ah ae ae (by unfold big;omega) ae ah λ K3 o3 g3=>?_;have g3':∀b,b≠m+1+1->blk vi≠some b->K3.get b=K2.get b:=λ b h1 h2=>g3 b h1 λ e=>h2 (by rw[e];rfl);have nvi:∀b,b<n+2->blk vi≠some b:=λ b h1 h2=>by have:=(M1.di b h2).1;omega
  obtain⟨hRl,⟨e,_⟩|⟨b,kb,hb,_,hkb,hob⟩⟩:=o3
  ·cases e
  injection hb with hb;subst hb;have ald:R.length=c*8:=M1.oi.1;have hix:=PW (b:=m+1+1) (o:=0) (len:=c+1) (sz:=8) (i:=c) (k:=.i64) ae;rw[q7]at hix;obtain⟨y,hst,hoy⟩:=aeR (b:=m+1+1) (k:=8) (o:=c*8) (v:=.agg (US c) 8) hob rfl rfl ae (by simp[US]) (by simp[ald]);simp only[US]at hst;have ob:=(g3' o ae (nvi o ae)).trans ((g2 o ae).trans ko);have om:(o=m+1+1)=False:=by simp only[eq_iff_iff,iff_false];omega
  simp[hix,hst,hkb,om,ob];have k4:∀b,b≠o->b≠m+1+1->((Tr.put K3 (m+1+1) (some y)).put o (aR 25 (C.out (.sl (m+1+1) 0 (c+1) 8) vn vk))).get b=K3.get b:=λ b h1 h2=>by simp[h1,h2]
  have o4:((Tr.put K3 (m+1+1) (some y)).put o (aR 25 (C.out (.sl (m+1+1) 0 (c+1) 8) vn vk))).get o=aR 25 (C.out (.sl (m+1+1) 0 (c+1) 8) vn vk):=ah;have y4:((Tr.put K3 (m+1+1) (some y)).put o (aR 25 (C.out (.sl (m+1+1) 0 (c+1) 8) vn vk))).get (m+1+1)=some y:=by simp[show ¬m+1+1=o by omega]
  simp only[QC.out,kK]at k4 o4 y4;generalize Tr.put (Tr.put K3 (m+1+1) (some y)) o _=K4 at k4 o4 y4 ⊢;have bk4:∀b,b<m+1->b≠o->blk vi≠some b->K4.get b=K1.get b:=λ b h1 h2 h3=>(k4 b h2 ae).trans ((g3' b ae h3).trans (g2 b h1));have t4:dh K4 (m+1+1+1):=λ b hb=>(k4 b ae ae).trans ((g3' b ae λ h=>by have:=M1.oi.df h;omega).trans (t2 b ae));have nn2:∀b,blk vn=some b->blk vi≠some b:=λ b h1 h2=>(M1.di b h2).2.1 h1;have nk2:∀b,blk vk=some b->blk vi≠some b:=λ b h1 h2=>(M1.di b h2).2.2 h1;have on4:aC K4 (m+1+1+1) vn (dy.l (N0++(t.cols.take j).map (·.name))) c 1:=M1.on.frame ae λ b hb=>bk4 b (M1.on.df hb) (by have:=(M1.dn b hb).1;omega) (nn2 b hb);have ok4:aC K4 (m+1+1+1) vk (dA.l (Ks0++(t.cols.take j).map (·.kind))) c 1:=M1.ok.frame ae λ b hb=>bk4 b (M1.ok.df hb) (by have:=M1.dk b hb;omega) (nk2 b hb);have x4:=(bk4 m ae ae λ h=>by have:=hvi m h;omega).trans x1;rw[u3]at x4;have tm4:=t4 (m+1+1+1) (aK _);simp only[SH,pz];refine bC.of (bh (P:=pG)) ?_;simp[ab,f3,o4,x4,cN,dm,tm4];generalize hK5:Tr.put K4 (m+1+1+1) _=K5;have g5:∀b,b<m+1+1+1->K5.get b=K4.get b:=λ b hb=>by rw[<-hK5];simp[ky hb]
  have x5:K5.get (m+1+1+1)=aR 1 [.str t.cols[j].name]:=by rw[<-hK5];simp
  have t5:dh K5 (m+1+1+1+1):=λ b hb=>by
   have e1:¬b=m+1+1+1:=ae;rw[<-hK5];simp[e1,t4 b ae]
  clear hK5;have on5:aC K5 (m+1+1+1+1) vn (dy.l (N0++(t.cols.take j).map (·.name))) c 1:=on4.frame ae λ b hb=>g5 b (by have:=hvn b hb;omega);refine aC.zr (k:=1) (new:=[.str t.cols[j].name]) on5 (bD x5) ah ah ae ae (by unfold big;omega) ae ah λ K6 o6 g6=>?_;have g6':∀b,b≠m+1+1+1+1->blk vn≠some b->K6.get b=K5.get b:=λ b h1 h2=>g6 b h1 λ e=>h2 (by rw[e];rfl);have XD:∀b,b<n+2->blk vn≠some b:=λ b h1 h2=>by have:=(M1.dn b h2).1;omega
  have ob6:=(g6' o ae (XD o ae)).trans ((g5 o ae).trans o4);have x6:=(g6' m ae λ h=>by have:=hvn m h;omega).trans ((g5 m ae).trans x4);have tm6:K6.get (m+1+1+1+1+1)=none:=(g6' _ ae λ h=>by have:=hvn _ h;omega).trans (t5 _ ae);have au_:K4.get (m+1+1+1+1+1)=none:=t4 _ ae;simp[ab,f3,o4,x4,ob6,x6,cN,dm,tm6,au_];generalize hK7:Tr.put K6 (m+1+1+1+1+1) _=K7;have g7:∀b,b<m+1+1+1+1+1->K7.get b=K6.get b:=λ b hb=>by rw[<-hK7];simp[ky hb]
  have x7:K7.get (m+1+1+1+1+1)=aR 1 [zI t.cols[j].kind]:=by rw[<-hK7];simp
  have t6:dh K6 (m+1+1+1+1+1):=λ b hb=>(g6' b ae λ h=>by have:=hvn b h;omega).trans (t5 b ae)
  have t7:dh K7 (m+1+1+1+1+1+1):=λ b hb=>by
   have e1:¬b=m+1+1+1+1+1:=ae;rw[<-hK7];simp[e1,t6 b ae]
  clear hK7;have nkn:∀b,blk vk=some b->blk vn≠some b:=λ b h1 h2=>(M1.dn b h2).2 h1;have ok7:aC K7 (m+1+1+1+1+1+1) vk (dA.l (Ks0++(t.cols.take j).map (·.kind))) c 1:=ok4.frame ae λ b hb=>(g7 b (by have:=hvk b hb;omega)).trans ((g6' b (by have:=hvk b hb;omega) (nkn b hb)).trans (g5 b (by have:=hvk b hb;omega)));refine aC.zr (k:=1) (new:=[zI t.cols[j].kind]) ok7 (bD x7) ah ah ae ae (by unfold big;omega) ae ah λ K8 o8 g8=>?_;have g8':∀b,b≠m+1+1+1+1+1+1->blk vk≠some b->K8.get b=K7.get b:=λ b h1 h2=>g8 b h1 λ e=>h2 (by rw[e];rfl);have nvk:∀b,b<n+2->blk vk≠some b:=λ b h1 h2=>by have:=M1.dk b h2;omega
  have ob8:=(g8' o ae (nvk o ae)).trans ((g7 o ae).trans ob6);simp[ab,f3,ob8];generalize hK9:Tr.put (Tr.put K8 o _) o _=K9;have g9:∀b,b≠o->K9.get b=K8.get b:=λ b hb=>by rw[<-hK9];simp[hb]
  have o9:K9.get o=aR 25 (C.out (.sl (m+1+1) 0 (c+1) 8) (.sl (m+1+1+1+1) 0 (c+1) 1) (.sl (m+1+1+1+1+1+1) 0 (c+1) 1)):=by rw[<-hK9];simp[QC.out,kK]
  clear hK9;simp[SG,ab,f41,aD j ae];have bk8:∀b,b<m+1+1+1->blk vn≠some b->blk vk≠some b->K8.get b=K4.get b:=λ b h1 h2 h3=>(g8' b ae h3).trans ((g7 b ae).trans ((g6' b ae h2).trans (g5 b h1)));have bkA:∀b,b<m+1->b≠o->blk vi≠some b->blk vn≠some b->blk vk≠some b->K9.get b=K1.get b:=λ b h1 h2 h3 h4 h5=>(g9 b h2).trans ((bk8 b ae h4 h5).trans (bk4 b h1 h2 h3));have hcj:c0+(j+1)=c+1:=ae;refine⟨_,ae,j+1,rfl,hlt,⟨by simp[ab,f0],by simp[ab,f3],by simp[ab,f5],by simp[ab,f6],by simp[ab,f32],by simp[ab,f33],by simp[ab,f34]⟩,by simp[f39],by simp[f40],ah,.sl (m+1+1) 0 (c+1) 8,.sl (m+1+1+1+1) 0 (c+1) 1,.sl (m+1+1+1+1+1+1) 0 (c+1) 1,splice (R++[zI 0,zI 0,zI 0,.str [],.str [],.str [],zI 0,.aV (.slice none 0 0)]) (US c) (c*8),?_⟩;rw[hcj];have etk:t.cols.take (j+1)=t.cols.take j++[t.cols[j]]:=by rw[take_add_one,cX hlt];rfl
  refine⟨ae,λ b hb=>?_,λ b h1 h2 h3=>?_,?_,?_,?_,o9,⟨?_,.inr ⟨m+1+1,y,rfl,ae,?_,hoy⟩⟩,?_,?_,λ b hb=>by simp at hb;simp;omega,λ b hb=>by simp at hb;simp;omega,λ b hb=>by simp at hb;omega,λ h=>?_,ah,?_,?_⟩
  ·exact(g9 b ae).trans ((g8' b ae λ h=>by have:=hvk b h;omega).trans (t7 b ae))
  ·exact(bkA b ae h3 (nvi b ae) (XD b ae) (nvk b ae)).trans (M1.kf b h1 h2 h3)
  ·exact(bkA p ae ae (nvi p ae) (XD p ae) (nvk p ae)).trans M1.kp
  ·exact(bkA n ae ae (nvi n ae) (XD n ae) (nvk n ae)).trans M1.kn
  ·exact(bkA (n+1) ae ae (nvi (n+1) ae) (XD (n+1) ae) (nvk (n+1) ae)).trans M1.kq
  ·rw[rM (by simp[ald,US])];simp[ald];omega
  ·exact(g9 _ ae).trans ((bk8 _ ae (λ h=>by have:=hvn _ h;omega) (λ h=>by have:=hvk _ h;omega)).trans y4)
  ·have e1:dy.l (N0++(map (·.name) t.cols).take (j+1))=dy.l (N0++(t.cols.take j).map (·.name))++[.str t.cols[j].name]:=by
    rw[<-map_take,etk,map_append,<-append_assoc,aZ.gX];rfl
   rw[e1];refine o6.frame ae λ b hb=>?_;simp at hb;subst hb;exact(g9 _ ae).trans ((g8' _ ae λ h=>by have:=hvk _ h;omega).trans (g7 _ ae))
  ·have e1:dA.l (Ks0++(map (·.kind) t.cols).take (j+1))=dA.l (Ks0++(t.cols.take j).map (·.kind))++[zI t.cols[j].kind]:=by
    rw[<-map_take,etk,map_append,<-append_assoc,aZ.gX];rfl
   rw[e1];refine o8.frame ae λ b hb=>?_;simp at hb;subst hb;exact g9 _ ae
  ·have e:=aZ.akI jg (eH c) [zI 0,zI 0,zI 0,.str [],.str [],.str [],zI 0,.aV (.slice none 0 0)] rfl (D4 c);have hfz:=M1.fz h;rw[Kq,<-e,u7];exact(hfz.append (bc.pure ah)).splice _ (Y0 h c)
  ·have:=M1.hN;simp at this ⊢;omega
  have:=M1.hK;simp at this ⊢;omega
 have hje:j=t.cols.length:=ae;subst hje;rw[take_length]at M;simp[Gl,f40,f41];exact hQ vi vn vk R _ K m ⟨by simp[f0],by simp[f3],by simp[f5],by simp[f6],by simp[f32],by simp[f33],by simp[f34]⟩ M
end Go.Abs
namespace Go.Abs
open List
open Go.Proofs
open Classical
set_option maxRecDepth 100000
theorem Ha {l:List bK}{i:Nat}(h:i<l.length):namesT (l.take (i+1))=namesT (l.take i)++l[i].cols.map (·.name):=by
 rw[take_add_one,cX h];simp only[namesT,flatMap_append,Option.toList,flatMap_cons,flatMap_nil,append_nil]
theorem X7 (n p o:Nat)(hpn:p<n)(hon:o<n)(hpo:p≠o)(H0:Hp)(s:cn)(ns:List (List Nat))(ts:List bK)(q:bI)(C:QC)(hC:C.fr.one=true/\C.on.one=true/\C.w.one=true/\C.od.one=true)(e:Int)(hl:(aF ts).length<=aU)(ht:ts.length<=aU)
  (F:Fr)(K:Hp)(m:Nat)(Q:QA)(vi vn vk:AV)(R:List AV)(hF:StF n p o ts 0 F)(M:Tq H0 n p o s ns ts q C e 0 [] [] [] vi vn vk R K m)
  (hQ:∀vi vn vk R F K m,StF n p o ts ts.length F->Tq H0 n p o s ns ts q C e (aF ts).length (eH (aF ts).length) (namesT ts) (aF ts) vi vn vk R K m->Q .normal F K m []):aE Gk pG F K m [] (jE 0 Q):=by
 unfold aU at hl ht;refine aE.of (λ g F K m ms=>∃(i:Nat) (vi vn vk:AV) (R:List AV),g=ts.length - i/\i<=ts.length/\StF n p o ts i F/\Tq H0 n p o s ns ts q C e (aF (ts.take i)).length (eH (aF (ts.take i)).length) (namesT (ts.take i)) (aF (ts.take i)) vi vn vk R K m/\ms=[]) ts.length ⟨0,vi,vn,vk,R,ah,ae,hF,by simpa[aF,namesT,eH]using M,rfl⟩ ?_;clear hF M F K m vi vn vk R;rintro g F K m ms ⟨i,vi,vn,vk,R,rfl,hi,⟨f0,f3,f5,f6,f32,f33,f34⟩,M,rfl⟩;have hm:=M.hm
 by_cases hlt:i<ts.length
 ·have hxx:=aH.ix (ik:=.i64) hlt;have hld:=λ H=>aH.pQ ts[i] (aH.l (ts.drop (i+1))) H;simp[Gk,f32,f33,f34,hlt,hxx,hld,aZ.av];generalize hK1:Tr.put _ m _=K1;have g1:∀b,b<m->K1.get b=K.get b:=λ b hb=>by rw[<-hK1];simp[ky hb]
  have t1:dh K1 (m+1):=λ b hb=>by
   have e1:¬b=m:=ae;rw[<-hK1];simp[e1,M.tp b ae]
  clear hK1;have M1:=M.next hpn hon hpo (Nat.le_succ m) t1 (λ b h1 _=>g1 b h1) ((g1 p ae).trans M.kp);simp[eK,aZ.aM];have hkl:=qF ts (i+1);have hkt:=jM hlt;have hkc:ts[i].kinds.length=ts[i].cols.length:=by simp[bK.kinds]
  have hkl2:(aF (ts.take i)).length+ts[i].cols.length=(aF (ts.take (i+1))).length:=by rw[hkt,length_append,hkc]
  refine X8 n p o hpn hon hpo H0 s ns ts q C hC e i ts[i] (aF (ts.take i)).length (by unfold aU;omega) _ _ _ rfl _ K1 (m+1) _ vi vn vk R ⟨by simp[f0],by simp[f3],by simp[f5],by simp[f6],by simp[f32],by simp[f33],by simp[f34]⟩ ah ah ah M1 λ vi vn vk R F K m S M=>?_;have f34:=S.f34;simp[SE,f34,aD i ae];refine⟨_,ae,i+1,rfl,hlt,⟨by simp[S.f0],by simp[S.f3],by simp[S.f5],by simp[S.f6],by simp[S.f32],by simp[S.f33],ah⟩,vi,vn,vk,R,?_⟩;rw[hkl2]at M;rw[Ha hlt,hkt];rw[hkt]at M;exact M
 have hie:i=ts.length:=ae;subst hie;rw[take_length]at M;simp[Gk,f33,f34];exact hQ vi vn vk R _ K m ⟨by simp[f0],by simp[f3],by simp[f5],by simp[f6],by simp[f32],by simp[f33],by simp[f34]⟩ M
def Ex.nm:Ex->List Nat
 |.mk _ _ _ m _ _=>m
def Ex.op:Ex->Int
 |.mk op _ _ _ _ _=>op
def zR.nm (x:zR):List Nat:=if x.name=[]/\x.e.op=2 then x.e.nm else x.name
def uP (ns:List (List Nat))(ts:List bK):List zR->Int->List Ex×List Int×Int
 |[],err=>([],[],err)
 |x::r,err=>((x.e.bd ns ts err).1::(uP ns ts r (x.e.bd ns ts err).2.2).1,(x.e.bd ns ts err).2.1::(uP ns ts r (x.e.bd ns ts err).2.2).2.1,(uP ns ts r (x.e.bd ns ts err).2.2).2.2)
theorem O6 (ns:List (List Nat))(ts:List bK):∀(l:List zR)(err:Int),(uP ns ts l err).1.length=l.length/\(uP ns ts l err).2.1.length=l.length
 |[],err=>by simp[uP]
 |e::r,err=>by simp[uP,O6 ns ts r]
structure ItF (n p o:Nat)(q:bI)(i:Nat)(F:Fr):Prop where
 f0:F.get 0=some (.ptr p 0)
 f3:F.get 3=some (.ptr o 0)
 f5:F.get 5=some (.ptr n 0)
 f6:F.get 6=some (.ptr (n+1) 0)
 f86:F.get 86=some (tV.ds q.items)
 f87:F.get 87=some (zI (q.items.length:Int))
 f88:F.get 88=some (zI (i:Int))
def L76 (q:bI):Prop:=∀(n p o:Nat) (_hpn:p<n) (_hon:o<n) (_hpo:p≠o) (H0:Hp) (s:cn) (ns:List (List Nat)) (ts:List bK) (_hn:ns.length=ts.length) (_hl:(aF ts).length<=aU) (_ht:ts.length<=aU) (_hcl:∀t∈ts,t.cols.length<=aU) (C:QC) (_hC:C.fr.one=true/\C.on.one=true/\C.w.one=true/\C.od.one=true) (e0:Int) (c0:Nat) (_hlim:c0+q.items.length<=aU) (E0:List Ex) (N0:List (List Nat)) (Ks0:List Int)
  (F:Fr)(K:Hp)(m:Nat)(Q:QA)(vi vn vk:AV)(R:List AV)(_hF:ItF n p o q 0 F)(_M:Tq H0 n p o s ns ts q C e0 c0 E0 N0 Ks0 vi vn vk R K m)
  (_hQ:∀vi vn vk R F K m,ItF n p o q q.items.length F->Tq H0 n p o s ns ts q C (uP ns ts q.items e0).2.2 (c0+q.items.length) (E0++(uP ns ts q.items e0).1) (N0++q.items.map zR.nm) (Ks0++(uP ns ts q.items e0).2.1) vi vn vk R K m->Q .normal F K m []),aE Gj pG F K m [] (jE 4 Q)
theorem X6 {q:bI}(h0:q.items=[]):L76 q:=by
 intro n p o hpn hon hpo H0 s ns ts hn hl ht hcl C hC e0 c0 hlim E0 N0 Ks0 F K m Q vi vn vk R hF M hQ;refine aE.XC 0 (fL.step ?_);have h87:=hF.f87;rw[h0]at h87;simp[Gj,h87,hF.f88];obtain⟨f0,f3,f5,f6,f86,f87,f88⟩:=hF;refine hQ vi vn vk R _ K m ⟨by simp[f0],by simp[f3],by simp[f5],by simp[f6],by simp[f86],by simp[f87],by simp[f88,h0]⟩ ?_;simpa[h0,uP]using M
def cg (ns:List (List Nat))(ts:List bK)(q:bI)(err:Int):List Ex×List (List Nat)×List Int×Int:=
 if q.star=true then (eH (aF ts).length++(uP ns ts q.items (keep (keep err 200 (decide (ts=[]))) 3 (decide ((16:Int)<((aF ts).length:Int))))).1,namesT ts++q.items.map zR.nm,aF ts++(uP ns ts q.items (keep (keep err 200 (decide (ts=[]))) 3 (decide ((16:Int)<((aF ts).length:Int))))).2.1,(uP ns ts q.items (keep (keep err 200 (decide (ts=[]))) 3 (decide ((16:Int)<((aF ts).length:Int))))).2.2)
 else ((uP ns ts q.items err).1,q.items.map zR.nm,(uP ns ts q.items err).2.1,(uP ns ts q.items err).2.2)
theorem bI.c1 (q:bI)(h:1<q.cells.length):q.cells[1]=.bool q.star:=by simp[bI.cells]
theorem bI.c2 (q:bI)(h:2<q.cells.length):q.cells[2]=tV.ds q.items:=by simp[bI.cells]
theorem bI.c3 (q:bI)(h:3<q.cells.length):q.cells[3]=gf.ds q.ao:=by simp[bI.cells]
theorem bI.c0 (q:bI)(h:0<q.cells.length):q.cells[0]=.bool q.mD:=by simp[bI.cells]
def bI.av (q:bI):AV:=.agg q.cells 15
def I76 (q:bI):Prop:=∀(ns:List (List Nat))(ts:List bK)(_hn:ns.length=ts.length)(_hl:(aF ts).length<=aU)(_ht:ts.length<=aU)(_hcl:∀t∈ts,t.cols.length<=aU)(s:cn)(_hlim:(aF ts).length+q.items.length<=aU)(C:QC)(_hC:C.fr.one=true/\C.on.one=true/\C.w.one=true/\C.od.one=true)(p o:Nat)(err:Int)(H:Hp)(n:Nat)(_hpn:p<n)(_hon:o<n)(_hpo:p≠o)(_hr:dJ n [C.fr,C.on,C.w,C.od])(_hp:H.get p=some (gu s err))(_ho:H.get o=aR 25 (C.out (.aV (.slice none 0 0)) (.aV (.slice none 0 0)) (.aV (.slice none 0 0)))),bu pG 133 [.ptr p 0,.agg (oN ns ts) 2,q.av,.ptr o 0] H n (.bo []) ((H.put p (some (gu s (cg ns ts q err).2.2.2))).put o (aR 25 (C.out (jg.ds (cg ns ts q err).1) (dy.ds (cg ns ts q err).2.1) (dA.ds (cg ns ts q err).2.2.1)))) n
theorem afx (ns:List (List Nat))(ts:List bK)(hn:ns.length=ts.length)(hl:(aF ts).length<=aU)(ht:ts.length<=aU)(hcl:∀t∈ts,t.cols.length<=aU)(s:cn)(q:bI)(hlim:(aF ts).length+q.items.length<=aU)(hL:L76 q)(C:QC)(hC:C.fr.one=true/\C.on.one=true/\C.w.one=true/\C.od.one=true)(p o:Nat)(err:Int)(H:Hp)(n:Nat)(hpn:p<n)(hon:o<n)(hpo:p≠o)(hr:dJ n [C.fr,C.on,C.w,C.od])(hp:H.get p=some (gu s err))(ho:H.get o=aR 25 (C.out (.aV (.slice none 0 0)) (.aV (.slice none 0 0)) (.aV (.slice none 0 0)))):
  bu pG 133 [.ptr p 0,.agg (oN ns ts) 2,q.av,.ptr o 0] H n (.bo []) ((H.put p (some (gu s (cg ns ts q err).2.2.2))).put o (aR 25 (C.out (jg.ds (cg ns ts q err).1) (dy.ds (cg ns ts q err).2.1) (dA.ds (cg ns ts q err).2.2.1)))) n:=by
 have hr':=hr;simp only[iE,WL,and_true]at hr';obtain⟨r1,r2,r3,r4⟩:=hr';refine ar6 (args:=[.agg (oN ns ts) 2,q.av]) c133 (by simp[A133]) (by simp[oN,bI.av,bI.pure]) hpn hon hpo hp ho (by simp[QC.out,kK,r1,r2,r3,r4]) (by simp[QC.out,kK,r1,r2,r3,r4,Pure.jU]) λ F H0 hF htop hp0 ho0=>?_;have q':=Vj hpn;have r':=Vj hon
 have fin:∀(c:Nat) (E:List Ex) (N:List (List Nat)) (Ks:List Int) (e:Int) (vi vn vk:AV) (R:List AV) (K:Hp) (m:Nat),cg ns ts q err=(E,N,Ks,e)->Tq H0 n p o s ns ts q C e c E N Ks vi vn vk R K m->e_ (above n K) (.bo []) (.bo [])/\(∀c,c<n->c≠p->c≠o->K.get c=H0.get c)/\K.get p=some (gu s (cg ns ts q err).2.2.2)/\∃l,K.get o=aR 25 l/\l.length=25/\oG (above n K) l (C.out (jg.ds (cg ns ts q err).1) (dy.ds (cg ns ts q err).2.1) (dA.ds (cg ns ts q err).2.2.1)):=by
  intro c E N Ks e vi vn vk R K m hb M;rw[hb];refine⟨.pure _ ah,M.kf,M.kp,_,M.ko,rfl,?_⟩
  have z1:e_ (above n K) vi (jg.ds E):=by
   have:=M.oi.UC (n0:=n) (λ b hb=>by have:=(M.di b hb).1;omega) (M.fz _) ae;rw[aZ.ds,M.hE];exact this
  have z2:e_ (above n K) vn (dy.ds N):=by
   have:=M.on.UC (n0:=n) (λ b hb=>by have:=(M.dn b hb).1;omega) (bc.pure (dy.r5 N)) ae;rw[aZ.ds,M.hN];exact this
  have z3:e_ (above n K) vk (dA.ds Ks):=by
   have:=M.ok.UC (n0:=n) (λ b hb=>by have:=M.dk b hb;omega) (bc.pure (dA.r5 Ks)) ae;rw[aZ.ds,M.hK];exact this
  simp[QC.out,kK];exact⟨.inr z1,.inr z2,.inr z3⟩
 have start:∀(K:Hp) (m:Nat) (e:Int),n+2<=m->dh K m->(∀c,c<n->c≠p->K.get c=H0.get c)->K.get p=some (gu s e)->K.get n=aR 2 (oN ns ts)->K.get (n+1)=aR 15 q.cells->Tq H0 n p o s ns ts q C e 0 [] [] [] (.aV (.slice none 0 0)) (.aV (.slice none 0 0)) (.aV (.slice none 0 0)) [] K m:=by
  intro K m e h1 h2 h3 h4 h5 h6;exact⟨h1,h2,λ b h1 h2 _=>h3 b h1 h2,h4,h5,h6,(h3 o hon ae).trans ho0,by simpa using aC.nil _ _ 8,by simpa using aC.nil _ _ 1,by simpa using aC.nil _ _ 1,ah,ah,ah,λ h=>by simpa using bc.nil,rfl,rfl,rfl⟩
 have rest:∀(c:Nat) (E:List Ex) (N:List (List Nat)) (Ks:List Int) (e:Int) (vi vn vk:AV) (R:List AV) (F:Fr) (K:Hp) (m:Nat),F.get 0=some (.ptr p 0)->F.get 3=some (.ptr o 0)->F.get 5=some (.ptr n 0)->F.get 6=some (.ptr (n+1) 0)->c+q.items.length<=aU->Tq H0 n p o s ns ts q C e c E N Ks vi vn vk R K m->cg ns ts q err=(E++(uP ns ts q.items e).1,N++q.items.map zR.nm,Ks++(uP ns ts q.items e).2.1,(uP ns ts q.items e).2.2) ->
   VC pG (Fz.seq (CT.block 4 Gj.loop)) F K m [] (kU [] λ v K x=>e_ (above n K) v (.bo [])/\(∀c,c<n->c≠p->c≠o->K.get c=H0.get c)/\K.get p=some (gu s (cg ns ts q err).2.2.2)/\∃l,K.get o=aR 25 l/\l.length=25/\oG (above n K) l (C.out (jg.ds (cg ns ts q err).1) (dy.ds (cg ns ts q err).2.1) (dA.ds (cg ns ts q err).2.2.1))):=by
  intro c E N Ks e vi vn vk R F K m f0 f3 f5 f6 hc M hb;have kq:=M.kq;simp[Fz,f6,kq,bI.c2,aZ.aM];refine hL n p o hpn hon hpo H0 s ns ts hn hl ht hcl C hC e c hc E N Ks _ K m _ vi vn vk R ⟨by simp[f0],by simp[f3],by simp[f5],by simp[f6],ah,ah,ah⟩ M λ vi vn vk R F K m S M=>?_;simpa using fin _ _ _ _ _ vi vn vk R K m hb M
 simp[A133,hF,bI.av,bI.c1];generalize hK:Tr.put _ (n+1) _=K0;have k0:∀c,c<n->K0.get c=H0.get c:=λ c hc=>by rw[<-hK];simp[ky hc]
 have kn:K0.get n=aR 2 (oN ns ts):=by rw[<-hK];simp
 have kq:K0.get (n+1)=aR 15 q.cells:=by rw[<-hK];simp
 have kt:dh K0 (n+1+1):=λ c hc=>by
  have e1:¬c=n:=ae;have e2:¬c=n+1:=ae;rw[<-hK];simp[e1,e2,htop c ae]
 clear hK
 cases hst:q.star with
 |false =>
  simp;have:=rest 0 [] [] [] err _ _ _ [] (Fp 18 (.bool false) (Fp 17 (.ptr (n+1) 1) (Fp 6 (.ptr (n+1) 0) (Fp 5 (.ptr n 0) F)))) K0 (n+1+1) (by simp[hF]) (by simp[hF]) ah ah ae (start K0 (n+1+1) err ae kt (λ c hc _=>k0 c hc) ((k0 p hpn).trans hp0) kn kq) (by simp[cg,hst]);simpa using this
 |true =>
  have Bw:=kn;simp only[oN]at Bw;simp[ade,hF,Bw,aZ.aM];refine aB.ok (yV p s err 200 (decide (ts=[])) K0 _ ae ((k0 p hpn).trans hp0)) ?_;generalize hE1:keep err 200 (decide (ts=[]))=e1;have j2:∀c,c≠p->(K0.put p (some (gu s e1))).get c=K0.get c:=λ c hc=>by simp[hc]
  have jp:(K0.put p (some (gu s e1))).get p=some (gu s e1):=ah;generalize K0.put p (some (gu s e1))=K1 at j2 jp ⊢;have wV:=(j2 n ae).trans kn;simp[adb,hF,wV];refine aB.pure (Hn ns ts hl ht hcl) ?_;simp;refine aB.ok (yV p s e1 3 (decide ((16:Int)<((aF ts).length:Int))) K1 _ ae jp) ?_;generalize hE2:keep e1 3 (decide ((16:Int)<((aF ts).length:Int)))=e2;have j3:∀c,c≠p->(K1.put p (some (gu s e2))).get c=K1.get c:=λ c hc=>by simp[hc]
  have jp3:(K1.put p (some (gu s e2))).get p=some (gu s e2):=ah;generalize K1.put p (some (gu s e2))=K2 at j3 jp3 ⊢;have kn2:=(j3 n ae).trans wV;have kq2:=(j3 (n+1) ae).trans ((j2 (n+1) ae).trans kq);simp only[oN]at kn2;simp[ada,kn2,aZ.aM]
  have hb:cg ns ts q err=(eH (aF ts).length++(uP ns ts q.items e2).1,namesT ts++q.items.map zR.nm,aF ts++(uP ns ts q.items e2).2.1,(uP ns ts q.items e2).2.2):=by
   rw[<-hE2,<-hE1];simp[cg,hst]
  refine X7 n p o hpn hon hpo H0 s ns ts q C hC e2 hl ht _ K2 (n+1+1) _ (.aV (.slice none 0 0)) (.aV (.slice none 0 0)) (.aV (.slice none 0 0)) [] ⟨by simp[hF],by simp[hF],ah,ah,ah,ah,ah⟩ (start K2 (n+1+1) e2 ae (λ c hc=>(j3 c ae).trans ((j2 c ae).trans (kt c hc))) (λ c h1 h2=>(j3 c h2).trans ((j2 c h2).trans (k0 c h1))) jp3 kn2 kq2) λ vi vn vk R F K m S M=>?_;have:=rest _ _ _ _ e2 vi vn vk R F K m S.f0 S.f3 S.f5 S.f6 ae M hb;simpa using this
theorem X9 {q:bI}(hL:L76 q):I76 q:=λ ns ts hn hl ht hcl s hlim C hC p o err H n hpn hon hpo hr hp ho=>afx ns ts hn hl ht hcl s q hlim hL C hC p o err H n hpn hon hpo hr hp ho
def Src.nm (x:Src):List Nat:=if x.name=[]then x.table else x.name
def cn.tb (s:cn)(x:Src):bK:=(s.named x.table).1
def rz (l:List Src)(i:Nat):Src:=l.getD i ⟨[],[],.mk 0 ⟨0,0,[]⟩ [] [] 0 []⟩
theorem tw {l:List Src}{i:Nat}(h:i<l.length):rz l i=l[i]:=by simp[rz,h]
def kH (s:cn)(l:List Src):Nat->Int->Int
 |0,err=>err
 |i+1,err=>keep (keep (kH s l i err) 200 (!(s.named (rz l i).table).2)) 205 (decide ((rz l i).nm∈(l.take i).map Src.nm))
structure SrM (H0:Hp)(n p o:Nat)(s:cn)(q:bI)(kind:Int)(e:Int)(i:Nat)(vn vt:AV)(K:Hp)(m:Nat):Prop where
 hm:n+2<=m
 tp:dh K m
 kf:∀b,b<n->b≠p->b≠o->K.get b=H0.get b
 kp:K.get p=some (gu s e)
 kn:K.get n=aR 15 q.cells
 ks:K.get (n+1)=aR 2 [vn,vt]
 ko:K.get o=aR 25 (oU kind)
 on:aC K m vn (dy.l ((q.ao.take i).map Src.nm)) i 1
 ot:aC K m vt (aH.l ((q.ao.take i).map s.tb)) i 4
 dn:∀b,blk vn=some b->n+2<=b/\blk vt≠some b
 dt:∀b,blk vt=some b->n+2<=b
structure SrF (n p o:Nat)(q:bI)(i:Nat)(F:Fr):Prop where
 f0:F.get 0=some (.ptr p 0)
 f2:F.get 2=some (.ptr o 0)
 f4:F.get 4=some (.ptr n 0)
 f6:F.get 6=some (.ptr (n+1) 0)
 f17:F.get 17=some (gf.ds q.ao)
 f18:F.get 18=some (zI (q.ao.length:Int))
 f19:F.get 19=some (zI (i:Int))
theorem SrM.next {H0:Hp}{n p o:Nat}{s:cn}{q:bI}{kind e:Int}{i:Nat}{vn vt:AV}{K:Hp}{m:Nat}(M:SrM H0 n p o s q kind e i vn vt K m)(hpn:p<n)(hon:o<n)(hpo:p≠o){K':Hp}{m':Nat}{e':Int}(hm:m<=m')(ht:dh K' m')(hk:∀b,b<m->b≠p->K'.get b=K.get b)(hp:K'.get p=some (gu s e')):SrM H0 n p o s q kind e' i vn vt K' m':=by
 have hm0:=M.hm
 exact⟨ae,ht,λ b h1 h2 h3=>(hk b ae h2).trans (M.kf b h1 h2 h3),hp,(hk n ae ae).trans M.kn,(hk (n+1) ae ae).trans M.ks,(hk o ae ae).trans M.ko,
  M.on.frame hm λ b hb=>hk b (M.on.df hb) (by have:=(M.dn b hb).1;omega),M.ot.frame hm λ b hb=>hk b (M.ot.df hb) (by have:=M.dt b hb;omega),M.dn,M.dt⟩
theorem WW (n p o:Nat)(hpn:p<n)(hon:o<n)(_hpo:p≠o)(H0:Hp)(s:cn)(q:bI)(kind e:Int)(i:Nat)(hlt:i<q.ao.length)(hlim:i<aU)(a:Nat)
  (F:Fr)(K:Hp)(m:Nat)(Q:QA)(vn vt:AV)(hF:SrF n p o q i F)(f9:F.get 9=some (.ptr a 0))(f10:F.get 10=some (.str q.ao[i].nm))(ha:K.get a=aR 4 (aH.cells (s.tb q.ao[i])))(han:n+2<=a)(hav:blk vn≠some a)(M:SrM H0 n p o s q kind e i vn vt K m)
  (hQ:∀vn vt F K m,SrF n p o q i F->SrM H0 n p o s q kind e (i+1) vn vt K m->Q .normal F K m []):VC pG Eb F K m [] Q:=by
 unfold aU at hlim;obtain⟨f0,f2,f4,f6,f17,f18,f19⟩:=hF;have hm:=M.hm;have ks:=M.ks;have t0:=M.tp;have hvn:∀b,blk vn=some b->b<m:=λ b h=>M.on.df h;have hvt:∀b,blk vt=some b->b<m:=λ b h=>M.ot.df h;have XD:∀b,b<n+2->blk vn≠some b:=λ b h1 h2=>by have:=(M.dn b h2).1;omega
 have nvt:∀b,b<n+2->blk vt≠some b:=λ b h1 h2=>by have:=M.dt b h2;omega
 have ntn:∀b,blk vt=some b->blk vn≠some b:=λ b h1 h2=>(M.dn b h2).2 h1;have ham:=M.tp.lt ha;simp only[Eb,pz];refine bC.of (bh (P:=pG)) ?_;have tm:=t0 m (aK _);simp[ab,f6,f10,ks,cN,dm,tm];generalize hK1:Tr.put K m _=K1;have g1:∀b,b<m->K1.get b=K.get b:=λ b hb=>by rw[<-hK1];simp[ky hb]
 have x1:K1.get m=aR 1 [.str q.ao[i].nm]:=by rw[<-hK1];simp
 have t1:dh K1 (m+1):=λ b hb=>by
  have e1:¬b=m:=ae;rw[<-hK1];simp[e1,t0 b ae]
 clear hK1;have on1:aC K1 (m+1) vn (dy.l ((q.ao.take i).map Src.nm)) i 1:=M.on.frame ae λ b hb=>g1 b (hvn b hb);refine aC.zr (k:=1) (new:=[.str q.ao[i].nm]) on1 (bD x1) ah ah ae ae (by unfold big;omega) ae ah λ K2 o2 g2=>?_;have g2':∀b,b≠m+1->blk vn≠some b->K2.get b=K1.get b:=λ b h1 h2=>g2 b h1 λ e=>h2 (by rw[e];rfl);clear g2;have t2:dh K2 (m+1+1):=λ b hb=>(g2' b ae λ h=>by have:=hvn b h;omega).trans (t1 b ae);have ks2:=(g2' (n+1) ae (XD _ ae)).trans ((g1 (n+1) ae).trans ks);have ha2:=(g2' a ae hav).trans ((g1 a ham).trans ha);have tm2:=t2 (m+1+1) (aK _);have au':=t0 (m+1+1) ae;simp[ab,f6,f9,ks,ks2,ha,ha2,cN,dm,tm2,au'];generalize hK3:Tr.put K2 (m+1+1) _=K3;have g3:∀b,b<m+1+1->K3.get b=K2.get b:=λ b hb=>by rw[<-hK3];simp[ky hb]
 have x3:K3.get (m+1+1)=aR 4 (aH.cells (s.tb q.ao[i])):=by rw[<-hK3];simp
 have t3:dh K3 (m+1+1+1):=λ b hb=>by
  have e1:¬b=m+1+1:=ae;rw[<-hK3];simp[e1,t2 b ae]
 clear hK3;have ot3:aC K3 (m+1+1+1) vt (aH.l ((q.ao.take i).map s.tb)) i 4:=M.ot.frame ae λ b hb=>(g3 b (by have:=hvt b hb;omega)).trans ((g2' b (by have:=hvt b hb;omega) (ntn b hb)).trans (g1 b (hvt b hb)));refine aC.zr (k:=1) (new:=aH.cells (s.tb q.ao[i])) ot3 (bD x3) ah ah ae ae (by unfold big;omega) ae ah λ K4 o4 g4=>?_;have g4':∀b,b≠m+1+1+1->blk vt≠some b->K4.get b=K3.get b:=λ b h1 h2=>g4 b h1 λ e=>h2 (by rw[e];rfl);clear g4;have ks4:=(g4' (n+1) ae (nvt _ ae)).trans ((g3 (n+1) ae).trans ks2);simp[ab,f6,ks4];generalize hK9:Tr.put (Tr.put K4 (n+1) _) (n+1) _=K9;have g9:∀b,b≠n+1->K9.get b=K4.get b:=λ b hb=>by rw[<-hK9];simp[hb]
 have s9:K9.get (n+1)=aR 2 [.sl (m+1) 0 (i+1) 1,.sl (m+1+1+1) 0 (i+1) 4]:=by rw[<-hK9];simp
 clear hK9;have bkA:∀b,b<m->b≠n+1->blk vn≠some b->blk vt≠some b->K9.get b=K.get b:=λ b h1 h2 h3 h4=>(g9 b h2).trans ((g4' b ae h4).trans ((g3 b ae).trans ((g2' b ae h3).trans (g1 b h1))));have etk:q.ao.take (i+1)=q.ao.take i++[q.ao[i]]:=by rw[take_add_one,cX hlt];rfl
 refine hQ (.sl (m+1) 0 (i+1) 1) (.sl (m+1+1+1) 0 (i+1) 4) _ K9 _ ⟨by simp[ab,f0],by simp[ab,f2],by simp[ab,f4],by simp[ab,f6],by simp[ab,f17],by simp[ab,f18],by simp[ab,f19]⟩ ⟨ae,λ b hb=>?_,λ b h1 h2 h3=>?_,?_,?_,s9,?_,?_,?_,λ b hb=>by simp at hb;simp;omega,λ b hb=>by simp at hb;omega⟩
 ·exact(g9 b ae).trans ((g4' b ae λ h=>by have:=hvt b h;omega).trans (t3 b ae))
 ·exact(bkA b ae ae (XD b ae) (nvt b ae)).trans (M.kf b h1 h2 h3)
 ·exact(bkA p ae ae (XD p ae) (nvt p ae)).trans M.kp
 ·exact(bkA n ae ae (XD n ae) (nvt n ae)).trans M.kn
 ·exact(bkA o ae ae (XD o ae) (nvt o ae)).trans M.ko
 ·rw[etk,map_append,aZ.gX];refine o2.frame ae λ b hb=>?_;simp at hb;subst hb;exact(g9 _ ae).trans ((g4' _ ae λ h=>by have:=hvt _ h;omega).trans (g3 _ ae))
 rw[etk,map_append,aZ.gX,map_cons,map_nil,aZ.Bt];refine o4.frame ae λ b hb=>?_;simp at hb;subst hb;exact g9 _ ae
theorem WY (n p o:Nat) (hpn:p<n) (hon:o<n) (hpo:p≠o) (H0:Hp) (s:cn) (hs:s.gG) (q:bI) (hlim:q.ao.length<=aU) (kind e0:Int)
  (F:Fr)(K:Hp)(m:Nat)(Q:QA)(vn vt:AV)(hF:SrF n p o q 0 F)(M:SrM H0 n p o s q kind e0 0 vn vt K m)
  (hQ:∀vn vt F K m,SrF n p o q q.ao.length F->SrM H0 n p o s q kind (kH s q.ao q.ao.length e0) q.ao.length vn vt K m->Q .normal F K m []):aE SX pG F K m [] (jE 0 Q):=by
 refine aE.of (λ g F K m ms=>∃(i:Nat) (vn vt:AV),g=q.ao.length - i/\i<=q.ao.length/\SrF n p o q i F/\SrM H0 n p o s q kind (kH s q.ao i e0) i vn vt K m/\ms=[]) q.ao.length ⟨0,vn,vt,ah,ae,hF,M,rfl⟩ ?_;clear hF M F K m vn vt;rintro g F K m ms ⟨i,vn,vt,rfl,hi,⟨f0,f2,f4,f6,f17,f18,f19⟩,M,rfl⟩;have hm:=M.hm
 by_cases hlt:i<q.ao.length
 ·have hxx:=gf.ix (ik:=.i64) hlt;have hld:=λ H=>gf.pQ q.ao[i] (gf.l (q.ao.drop (i+1))) H;simp[SX,f0,f17,f18,f19,hlt,hxx,hld,aZ.av];generalize hK1:Tr.put _ m _=K1;have g1:∀b,b<m->K1.get b=K.get b:=λ b hb=>by rw[<-hK1];simp[ky hb]
  have x1:K1.get m=aR 10 (gf.cells q.ao[i]):=by rw[<-hK1];simp
  have t1:dh K1 (m+1):=λ b hb=>by
   have e1:¬b=m:=ae;rw[<-hK1];simp[e1,M.tp b ae]
  clear hK1 hxx hld;rw[JY]at x1;simp[JY];have hvn:∀b,blk vn=some b->b<m:=λ b h=>M.on.df h;refine aB.ok (aee s hs q.ao[i].table p _ K1 (m+1) ae ((g1 p ae).trans M.kp)) ?_;generalize hE1:keep (kH s q.ao i e0) 200 (!(s.named q.ao[i].table).2)=e1;have j2:∀b,b≠p->(K1.put p (some (gu s e1))).get b=K1.get b:=λ b hb=>by simp[hb]
  have jp:(K1.put p (some (gu s e1))).get p=some (gu s e1):=ah;generalize K1.put p (some (gu s e1))=K2 at j2 jp ⊢;have x2:=(j2 m ae).trans x1;simp[aZ.av];generalize hK3:Tr.put _ (m+1) _=K3;have g3:∀b,b<m+1->K3.get b=K2.get b:=λ b hb=>by rw[<-hK3];simp[ky hb]
  have x3:K3.get (m+1)=aR 4 (aH.cells (s.tb q.ao[i])):=by rw[<-hK3];simp[cn.tb]
  have t3:dh K3 (m+1+1):=λ b hb=>by
   have e1:¬b=m+1:=ae;rw[<-hK3];simp[e1,j2 b ae,t1 b ae]
  clear hK3;have y3:=(g3 m ae).trans x2;have M3:=M.next hpn hon hpo (m':=m+1+1) ae t3 (λ b h1 h2=>(g3 b ae).trans ((j2 b h2).trans (g1 b h1))) ((g3 p ae).trans jp);have hct:=Ko ((q.ao.take i).map Src.nm) q.ao[i].nm (by simp;omega)
  have hfz:e_ K3.get vn (dy.ds ((q.ao.take i).map Src.nm)):=by
   have:=M3.on.nV (bc.pure (dy.r5 _)) ae
   have e:dy.ds ((q.ao.take i).map Src.nm)=.ds (dy.l ((q.ao.take i).map Src.nm)) i 1:=by
    rw[aZ.ds];simp;omega
   rw[e];exact this
  have fin:∀F4:Fr,SrF n p o q i F4->F4.get 9=some (.ptr (m+1) 0)->F4.get 10=some (.str q.ao[i].nm)->VC pG (Z'.seq Eb) F4 K3 (m+1+1) [] (jE 1 (qf pG KZ (Aq (λ g F K m ms=>∃(i:Nat) (vn vt:AV),g=q.ao.length - i/\i<=q.ao.length/\SrF n p o q i F/\SrM H0 n p o s q kind (kH s q.ao i e0) i vn vt K m/\ms=[]) (q.ao.length - i) (jE 0 Q)))):=by
   intro F4 ⟨w0,w2,w4,w6,w17,w18,w19⟩ w9 w10;have ks3:=M3.ks;simp[Z',w0,w6,w10,ks3];refine aB.nV hct ah (.cons _ _ _ _ hfz (.cons _ _ _ _ fp .nil)) ?_;simp;refine aB.ok (yV p s e1 205 _ K3 _ ae M3.kp) ?_
   have hee:kH s q.ao (i+1) e0=keep e1 205 (decide (q.ao[i].nm∈(q.ao.map Src.nm).take i)):=by
    rw[kH,tw hlt,hE1,map_take]
   rw[<-hee];have j4:∀b,b≠p->(K3.put p (some (gu s (kH s q.ao (i+1) e0)))).get b=K3.get b:=λ b hb=>by simp[hb]
   have jp4:(K3.put p (some (gu s (kH s q.ao (i+1) e0)))).get p=some (gu s (kH s q.ao (i+1) e0)):=ah;generalize K3.put p (some (gu s (kH s q.ao (i+1) e0)))=K4 at j4 jp4 ⊢;have M4:=M3.next hpn hon hpo (aK _) (λ b hb=>(j4 b ae).trans (t3 b hb)) (λ b h1 h2=>j4 b h2) jp4;refine WW n p o hpn hon hpo H0 s q kind _ i hlt ae (m+1) _ K4 (m+1+1) _ vn vt ⟨by simp[w0],by simp[w2],by simp[w4],by simp[w6],by simp[w17],by simp[w18],by simp[w19]⟩ (by simp[w9]) (by simp[w10]) ((j4 _ ae).trans x3) ae (λ h=>by have:=hvn _ h;omega) M4 λ vn' vt' F5 K5 m5 S5 M5=>?_;have aw1:=S5.f19;unfold aU at hlim;simp[KZ,aw1,aD i ae];exact⟨_,ae,i+1,rfl,hlt,⟨by simp[S5.f0],by simp[S5.f2],by simp[S5.f4],by simp[S5.f6],by simp[S5.f17],by simp[S5.f18],ah⟩,vn',vt',M5⟩
  simp[aif,y3]
  by_cases hnm:q.ao[i].name=[]
  ·simp[aaa,y3,hnm];generalize I1:(Fp 31 _ _:Fr)=F5;have:=fin F5 (by rw[<-I1];exact⟨by simp[f0],by simp[f2],by simp[f4],by simp[f6],by simp[f17],by simp[f18],by simp[f19]⟩) (by rw[<-I1];simp) (by rw[<-I1];simp[Src.nm,hnm]);simpa using this
  simp[aaa,aie,y3,hnm];generalize I1:(Fp 10 _ _:Fr)=F5;have:=fin F5 (by rw[<-I1];exact⟨by simp[f0],by simp[f2],by simp[f4],by simp[f6],by simp[f17],by simp[f18],by simp[f19]⟩) (by rw[<-I1];simp) (by rw[<-I1];simp[Src.nm,hnm]);simpa using this
 have hje:i=q.ao.length:=ae;subst hje;simp[SX,f18,f19];exact hQ vn vt _ K m ⟨by simp[f0],by simp[f2],by simp[f4],by simp[f6],by simp[f17],by simp[f18],by simp[f19]⟩ M
def qB (ns:List (List Nat))(ts:List bK)(l:List Src):Nat->Int->List (List Ex)×Int
 |0,err=>([],err)
 |i+1,err=>((qB ns ts l i err).1++[(dU (ns.take (i+1)) (ts.take (i+1)) (rz l i).cond (qB ns ts l i err).2).1],(dU (ns.take (i+1)) (ts.take (i+1)) (rz l i).cond (qB ns ts l i err).2).2)
theorem Db (ns:List (List Nat))(ts:List bK)(l:List Src)(err:Int):∀i,(qB ns ts l i err).1.length=i
 |0=>rfl
 |i+1=>by simp[qB,Db ns ts l err i]
structure QyM (H0:Hp)(n p o:Nat)(s:cn)(ns:List (List Nat))(ts:List bK)(q:bI)(e:Int)(K:Hp)(m:Nat):Prop where
 hm:n+2<=m
 tp:dh K m
 kf:∀b,b<n->b≠p->b≠o->K.get b=H0.get b
 kp:K.get p=some (gu s e)
 kn:K.get n=aR 15 q.cells
 ks:K.get (n+1)=aR 2 (oN ns ts)
theorem QyM.next {H0:Hp}{n p o:Nat}{s:cn}{ns:List (List Nat)}{ts:List bK}{q:bI}{e:Int}{K:Hp}{m:Nat}(M:QyM H0 n p o s ns ts q e K m)(hpn:p<n)(hon:o<n){K':Hp}{m':Nat}{e':Int}(hm:m<=m')(ht:dh K' m')(hk:∀b,b<n+2->b≠p->b≠o->K'.get b=K.get b)(hp:K'.get p=some (gu s e')):QyM H0 n p o s ns ts q e' K' m':=by
 have hm0:=M.hm;exact⟨ae,ht,λ b h1 h2 h3=>(hk b ae h2 h3).trans (M.kf b h1 h2 h3),hp,(hk n ae ae ae).trans M.kn,(hk (n+1) ae ae ae).trans M.ks⟩
structure OnF (n p o:Nat)(q:bI)(i:Nat)(F:Fr):Prop where
 f0:F.get 0=some (.ptr p 0)
 f2:F.get 2=some (.ptr o 0)
 f4:F.get 4=some (.ptr n 0)
 f6:F.get 6=some (.ptr (n+1) 0)
 f64:F.get 64=some (gf.ds q.ao)
 f65:F.get 65=some (zI (q.ao.length:Int))
 f66:F.get 66=some (zI (i:Int))
def Jp (kind:Int)(ts:List bK)(on:AV):List AV:=kK kind (aH.ds ts) on (.aV (.slice none 0 0)) (.aV (.slice none 0 0)) (.aV (.slice none 0 0)) (.aV (.slice none 0 0)) (.aV (.slice none 0 0)) false false 0
structure OnM (H0:Hp)(n p o:Nat)(s:cn)(ns:List (List Nat))(ts:List bK)(q:bI)(kind:Int)(e:Int)(i:Nat)(L:List (List Ex))(va:AV)(K:Hp)(m:Nat):Prop where
 mem:QyM H0 n p o s ns ts q e K m
 ko:K.get o=aR 25 (Jp kind ts va)
 oa:aC K m va (oY.l L) i 1
 da:∀b,blk va=some b->n+2<=b
theorem WX (n p o:Nat)(hpn:p<n)(hon:o<n)(hpo:p≠o)(H0:Hp)(s:cn)(ns:List (List Nat))(ts:List bK)(hn:ns.length=ts.length)(hl:(aF ts).length<=aU)(ht:ts.length<=aU)(hcl:∀t∈ts,t.cols.length<=aU)(q:bI)(hlen:q.ao.length=ts.length)(hz:∀x∈q.ao,C25 x.cond)(kind e0:Int)
  (F:Fr)(K:Hp)(m:Nat)(Q:QA)(I0:Zs (λ g F K m ms=>∃va,g=q.ao.length/\OnF n p o q 0 F/\OnM H0 n p o s ns ts q kind e0 0 [] va K m/\ms=[]) q.ao.length F K m [])
  (hQ:∀va F K m,OnF n p o q q.ao.length F->OnM H0 n p o s ns ts q kind (qB ns ts q.ao q.ao.length e0).2 q.ao.length (qB ns ts q.ao q.ao.length e0).1 va K m->Q .normal F K m []):aE SV pG F K m [] (jE 2 Q):=by
 have htl:=ht;unfold aU at ht;refine aE.ofZ (λ g F K m ms=>∃(i:Nat) (va:AV),g=q.ao.length - i/\i<=q.ao.length/\OnF n p o q i F/\OnM H0 n p o s ns ts q kind (qB ns ts q.ao i e0).2 i (qB ns ts q.ao i e0).1 va K m/\ms=[]) q.ao.length ?_ ?_
 ·obtain⟨h,F2,K2,h1,va,_,h3,h4,h5⟩:=I0;exact⟨h,F2,K2,h1,0,va,ah,ae,h3,by simpa[qB]using h4,h5⟩
 clear I0 F K m;rintro g F K m ms ⟨i,va,rfl,hi,⟨f0,f2,f4,f6,f64,f65,f66⟩,M,rfl⟩;have hm:=M.mem.hm
 by_cases hlt:i<q.ao.length
 ·have hxx:=gf.ix (ik:=.i64) hlt;have hld:=λ H=>gf.pQ q.ao[i] (gf.l (q.ao.drop (i+1))) H;have hz1:=hz _ (dw hlt);simp[SV,f64,f65,f66,hlt,hxx,hld,aZ.av];generalize hK1:Tr.put _ m _=K1;have g1:∀b,b<m->K1.get b=K.get b:=λ b hb=>by rw[<-hK1];simp[ky hb]
  have x1:K1.get m=aR 10 (gf.cells q.ao[i]):=by rw[<-hK1];simp
  have t1:dh K1 (m+1):=λ b hb=>by
   have e1:¬b=m:=ae;rw[<-hK1];simp[e1,M.mem.tp b ae]
  clear hK1 hxx hld;have hva:∀b,blk va=some b->b<m:=λ b h=>M.oa.df h;have nva:∀b,b<n+2->blk va≠some b:=λ b h1 h2=>by have:=M.da b h2;omega
  have ks1:=(g1 (n+1) ae).trans M.mem.ks;have ko1:=(g1 o ae).trans M.ko;simp only[oN]at ks1;simp only[Jp,kK]at ko1
  have hsl1:ja 1 none (some (zI ((i:Int)+1))) none (dy.ds ns)=.val (dy.ds (ns.take (i+1))):=by
   have:=dy.Jj (l:=ns) (i:=i+1) ae;simpa using this
  have hsl2:ja 4 none (some (zI ((i:Int)+1))) none (aH.ds ts)=.val (aH.ds (ts.take (i+1))):=by
   have:=aH.Jj (l:=ts) (i:=i+1) ae;simpa using this
  have hkl:=qF ts (i+1);have hcd:=hz1 (ns.take (i+1)) (ts.take (i+1)) (by simp;omega) ae (by simp;omega) (λ t h=>hcl t (mem_of_mem_take h)) s p (qB ns ts q.ao i e0).2 K1 (m+1) ae ((g1 p ae).trans M.mem.kp);have hav:q.ao[i].cond.av=.agg q.ao[i].cond.cells 8:=Eq.trans rfl rfl;rw[hav]at hcd
  have afD:qB ns ts q.ao (i+1) e0=((qB ns ts q.ao i e0).1++[(dU (ns.take (i+1)) (ts.take (i+1)) q.ao[i].cond (qB ns ts q.ao i e0).2).1],(dU (ns.take (i+1)) (ts.take (i+1)) q.ao[i].cond (qB ns ts q.ao i e0).2).2):=by
   rw[qB,tw hlt]
  generalize dU (ns.take (i+1)) (ts.take (i+1)) q.ao[i].cond (qB ns ts q.ao i e0).2=cd at hcd afD;obtain⟨cl,ce⟩:=cd;simp only[oN]at hcd;simp only at hcd afD;simp only[aag,pz];refine bC.of (Kw (l:=[⟨53,[.ptr p 0,.agg [dy.ds (ns.take (i+1)),aH.ds (ts.take (i+1))] 2,.agg q.ao[i].cond.cells 8],K1,m+1,jg.ds cl,K1.put p (some (gu s ce)),m+1⟩]) ?_) ?_
  ·simp only[mem_cons,not_mem_nil,or_false];rintro c rfl;exact hcd
  have av7:take 8 q.ao[i].cond.cells=q.ao[i].cond.cells:=fN ah;rw[JY]at x1;simp[ab,f0,f2,f6,ks1,x1,aD i ae,hsl1,hsl2,av7,zi];have op:(o=p)=False:=by simp[Ne.symm hpo]
  have n1:=t1 (m+1) (aK _);have n2:(K1.put p (some (gu s ce))).get (m+1)=none:=by simp[show ¬m+1=p by omega,n1]
  have j2:∀b,b≠p->(K1.put p (some (gu s ce))).get b=K1.get b:=λ b hb=>by simp[hb]
  have jp:(K1.put p (some (gu s ce))).get p=some (gu s ce):=ah;have ko2:=(j2 o ae).trans ko1;simp[op,ko1];generalize K1.put p (some (gu s ce))=K2 at n2 j2 jp ko2 ⊢;simp[cN,dm,n1,n2];generalize hK3:Tr.put K2 (m+1) _=K3;have g3:∀b,b<m+1->K3.get b=K2.get b:=λ b hb=>by rw[<-hK3];simp[ky hb]
  have x3:K3.get (m+1)=aR 1 [jg.ds cl]:=by rw[<-hK3];simp
  have t3:dh K3 (m+1+1):=λ b hb=>by
   have e1:¬b=m+1:=ae;rw[<-hK3];simp[e1,j2 b ae,t1 b ae]
  clear hK3;have bk3:∀b,b<m->b≠p->K3.get b=K.get b:=λ b h1 h2=>(g3 b ae).trans ((j2 b h2).trans (g1 b h1));have oa3:aC K3 (m+1+1) va (oY.l (qB ns ts q.ao i e0).1) i 1:=M.oa.frame ae λ b hb=>bk3 b (hva b hb) (by have:=M.da b hb;omega);refine aC.zr (k:=1) (new:=[jg.ds cl]) oa3 (bD x3) ah ah ae ae (by unfold big;omega) ae ah λ K4 o4 g4=>?_;have g4':∀b,b≠m+1+1->blk va≠some b->K4.get b=K3.get b:=λ b h1 h2=>g4 b h1 λ e=>h2 (by rw[e];rfl);clear g4;have ko4:=(g4' o ae (nva o ae)).trans ((g3 o ae).trans ko2);simp[ab,f2,ko4];generalize hK5:Tr.put K4 o _=K5;have g5:∀b,b≠o->K5.get b=K4.get b:=λ b hb=>by rw[<-hK5];simp[hb]
  have o5:K5.get o=aR 25 (Jp kind ts (.sl (m+1+1) 0 (i+1) 1)):=by rw[<-hK5];simp[Jp,kK]
  clear hK5;simp[aaf,ab,f66,aD i ae];refine⟨q.ao.length - (i+1),ae,Zs.refl ⟨i+1,rfl,hlt,⟨by simp[ab,f0],by simp[ab,f2],by simp[ab,f4],by simp[ab,f6],by simp[ab,f64],by simp[ab,f65],ah⟩,⟨.sl (m+1+1) 0 (i+1) 1,M.mem.next hpn hon ae (λ b hb=>?_) (λ b h1 h2 h3=>?_) ?_,o5,?_,λ b hb=>by simp at hb;omega⟩,rfl⟩⟩
  ·exact(g5 b ae).trans ((g4' b ae λ h=>by have:=hva b h;omega).trans (t3 b ae))
  ·exact(g5 b h3).trans ((g4' b ae (nva b h1)).trans (bk3 b ae h2))
  ·rw[afD];exact(g5 p ae).trans ((g4' p ae (nva p ae)).trans ((g3 p ae).trans jp))
  rw[afD,aZ.gX,aZ.Bt,alE];refine o4.frame ae λ b hb=>?_;simp at hb;subst hb;exact g5 _ ae
 have hje:i=q.ao.length:=ae;subst hje;simp[SV,f65,f66];exact hQ va _ K m ⟨by simp[f0],by simp[f2],by simp[f4],by simp[f6],by simp[f64],by simp[f65],by simp[f66]⟩ M
def Be (l:List Ord)(i:Nat):Ord:=l.getD i ⟨[],false⟩
def aeU (N:List (List Nat))(x:Ord):Int:=kN (λ y=>decide (x.name=y)) N
def Ad (N:List (List Nat))(l:List Ord):Nat->Int->List (Int×Bool)×Int
 |0,err=>([],err)
 |i+1,err=>((Ad N l i err).1++[(aeU N (Be l i),(Be l i).desc)],keep (keep (Ad N l i err).2 201 (decide (aeU N (Be l i)<0))) 205 (decide (0<=aeU N (Be l i))&&decide ((Be l i).name∈N.drop ((aeU N (Be l i)).toNat+1))))
theorem G6 (N:List (List Nat))(l:List Ord)(err:Int):∀i,(Ad N l i err).1.length=i
 |0=>rfl
 |i+1=>by simp[Ad,G6 N l err i]
structure OrF (n p o:Nat)(q:bI)(i:Nat)(F:Fr):Prop where
 f0:F.get 0=some (.ptr p 0)
 f2:F.get 2=some (.ptr o 0)
 f4:F.get 4=some (.ptr n 0)
 f6:F.get 6=some (.ptr (n+1) 0)
 f110:F.get 110=some (tU.ds q.order)
 f111:F.get 111=some (zI (q.order.length:Int))
 f112:F.get 112=some (zI (i:Int))
def aeS (kind:Int)(ts:List bK)(on:AV)(W E:List Ex)(N:List (List Nat))(Ks:List Int)(od:AV):List AV:=kK kind (aH.ds ts) on (jg.ds W) (jg.ds E) (dy.ds N) (dA.ds Ks) od false false 0
structure OrM (H0:Hp)(n p o:Nat)(s:cn)(ns:List (List Nat))(ts:List bK)(q:bI)(kind:Int)(L:List (List Ex))(W E:List Ex)(N:List (List Nat))(Ks:List Int)(zU:AV)(e:Int)(i:Nat)(O:List (Int×Bool))(va:AV)(K:Hp)(m:Nat):Prop where
 mem:QyM H0 n p o s ns ts q e K m
 ko:K.get o=aR 25 (aeS kind ts zU W E N Ks va)
 ov:aC K m zU (oY.l L) L.length 1
 dv:∀b,blk zU=some b->n+2<=b
 oa:aC K m va (JZ.l O) i 2
 da:∀b,blk va=some b->n+2<=b/\blk zU≠some b
def O28 (q:bI):Prop:=∀(n p o:Nat) (_hpn:p<n) (_hon:o<n) (_hpo:p≠o) (H0:Hp) (s:cn) (ns:List (List Nat)) (ts:List bK) (kind:Int) (L:List (List Ex)) (W E:List Ex) (N:List (List Nat)) (_hN:N.length<=aU) (Ks:List Int) (zU:AV) (_hvo:zU.one=true) (e0:Int)
  (F:Fr)(K:Hp)(m:Nat)(Q:QA)(va:AV)(_hF:OrF n p o q 0 F)(_M:OrM H0 n p o s ns ts q kind L W E N Ks zU e0 0 [] va K m)
  (_hQ:∀va F K m,OrF n p o q q.order.length F->OrM H0 n p o s ns ts q kind L W E N Ks zU (Ad N q.order q.order.length e0).2 q.order.length (Ad N q.order q.order.length e0).1 va K m->Q .normal F K m []),aE adw pG F K m [] (jE 4 Q)
theorem WV {q:bI}(h0:q.order=[]):O28 q:=by
 intro n p o hpn hon hpo H0 s ns ts kind L W E N hN Ks zU hvo e0 F K m Q va hF M hQ;refine aE.XC 0 (fL.step ?_);have aqv:=hF.f111;rw[h0]at aqv;simp[adw,aqv,hF.f112];obtain⟨f0,f2,f4,f6,f110,f111,f112⟩:=hF;refine hQ va _ K m ⟨by simp[f0],by simp[f2],by simp[f4],by simp[f6],by simp[f110],by simp[f111],by simp[f112,h0]⟩ ?_;simpa[h0,Ad]using M
theorem aC.aqL {K:Hp}{m:Nat}{v:AV}{l l':List AV}{len sz:Nat}{h:Hf}(ho:aC K m v l len sz)(hz:0<sz)(hh:∀c,blk v=some c->h c=K.get c)(hl:bc h l l'):e_ h v (.ds l' len sz):=by
 obtain⟨s',rfl⟩:∃s',sz=s'+1:=⟨sz - 1,ae⟩;obtain⟨h0,⟨rfl,rfl⟩|⟨b,kk,rfl,hb,hk,ho⟩⟩:=ho
 ·have:l=[]:=by simpa using h0
  subst this;cases hl;exact .nil _
 obtain⟨u,z,bs,t,rfl,hg⟩:=ho.jN (o:=0) (c:=len*(s'+1)) ae;refine .sl _ _ _ _ _ _ _ _ _ _ ((hh b rfl).trans hk) hg ?_;rw[drop_zero,fN ae];exact hl
theorem aoA {F F2:Fr}{K:Hp}{m n o:Nat}{kind:Int}{ns:List (List Nat)}{ts:List bK}{vn vt:AV}(hon:o≠n+1) (hF:∀(t:Nat) v,F2.get t=some v->F.get t=some v) (ks:K.get (n+1)=aR 2 [vn,vt])
  (ko:K.get o=aR 25 (kK kind vt (.aV (.slice none 0 0)) (.aV (.slice none 0 0)) (.aV (.slice none 0 0)) (.aV (.slice none 0 0)) (.aV (.slice none 0 0)) (.aV (.slice none 0 0)) false false 0))(on:aC K m vn (dy.l ns) ns.length 1)(ot:aC K m vt (aH.l ts) ts.length 4)
  (dn:∀b,blk vn=some b->b≠n+1/\b≠o)(dt:∀b,blk vt=some b->b≠n+1/\b≠o):
  ∃h K2,dQ h F K F2 K2/\K2.get (n+1)=aR 2 (oN ns ts)/\K2.get o=aR 25 (Jp kind ts (.aV (.slice none 0 0)))/\∀b,b≠n+1->b≠o->K2.get b=if blk vn=some b∨blk vt=some b then none else K.get b:=by
 have dl:∀(v:AV) (H:Hp) (b:Nat),(match blk v with
  |some c=>H.put c none
  |none=>H:Hp).get b=if blk v=some b then none else H.get b:=by
  intro v H b
  cases hb:blk v with
  |none=>simp
  |some c=>simp[eq_comm]
 let h:Hf:=λ b=>if blk vn=some b∨blk vt=some b then K.get b else none
 let K1:Hp:=(match blk vn with
  |some c=>K.put c none
  |none=>K)
 let K2:Hp:=(match blk vt with
  |some c=>K1.put c none
  |none=>K1)
 have hK2:∀b,K2.get b=if blk vn=some b∨blk vt=some b then none else K.get b:=by
  intro b;have e1:K2.get b=if blk vt=some b then none else K1.get b:=dl vt K1 b
  have e2:K1.get b=if blk vn=some b then none else K.get b:=dl vn K b
  rw[e1,e2]
  by_cases h1:blk vn=some b<;>by_cases h2:blk vt=some b<;>simp[h1,h2]
 have zn:e_ h vn (dy.ds ns):=on.aqL ae (λ c hc=>by simp[h,hc]) (bc.pure (dy.r5 ns));have zt:e_ h vt (aH.ds ts):=ot.aqL ae (λ c hc=>by simp[h,hc]) (bc.pure (aH.r5 ts));refine⟨h,(K2.put (n+1) (aR 2 (oN ns ts))).put o (aR 25 (Jp kind ts (.aV (.slice none 0 0)))),⟨λ b k hb=>?_,λ b hb=>?_,λ t v hv=>⟨v,hF t v hv,.inl rfl⟩,λ b y hb=>?_⟩,by simp[Ne.symm hon],ah,λ b h1 h2=>?_⟩
 ·have hb:(if blk vn=some b∨blk vt=some b then K.get b else none)=some k:=hb
  split at hb
  ·exact hb
  cases hb
 ·have hb:(if blk vn=some b∨blk vt=some b then K.get b else none)≠none:=hb
  by_cases hc:blk vn=some b∨blk vt=some b
  ·have hne:b≠n+1/\b≠o:=by
    rcases hc with hc|hc
    ·exact dn b hc
    exact dt b hc
   simp[hne.1,hne.2,hK2,hc]
  simp[hc]at hb
 ·by_cases h1:b=o
  ·subst h1;simp at hb;subst hb;exact⟨_,ko,oG.bz (by simp[kK,Jp];exact .inr zt) rfl⟩
  by_cases h2:b=n+1
  ·subst h2;simp[h1]at hb;subst hb;exact⟨_,ks,oG.bz (by simp[oN];exact⟨.inr zn,.inr zt⟩) rfl⟩
  simp only[Tr.get_put,h1,h2,if_false,hK2]at hb
  split at hb
  ·cases hb
  exact⟨y,hb,.inl rfl⟩
 simp[h1,h2,hK2]
def fQ (s:cn)(q:bI)(kind err:Int):oH×Int:=
 if kH s q.ao q.ao.length err≠0 then ({kind:=kind},kH s q.ao q.ao.length err)else
 ({kind:=kind,iR:=q.ao.map s.tb,on:=(qB (q.ao.map Src.nm) (q.ao.map s.tb) q.ao q.ao.length 0).1,
   items:=(cg (q.ao.map Src.nm) (q.ao.map s.tb) q (qB (q.ao.map Src.nm) (q.ao.map s.tb) q.ao q.ao.length 0).2).1,
   names:=(cg (q.ao.map Src.nm) (q.ao.map s.tb) q (qB (q.ao.map Src.nm) (q.ao.map s.tb) q.ao q.ao.length 0).2).2.1,
   kinds:=(cg (q.ao.map Src.nm) (q.ao.map s.tb) q (qB (q.ao.map Src.nm) (q.ao.map s.tb) q.ao q.ao.length 0).2).2.2.1,
   cond:=(dU (q.ao.map Src.nm) (q.ao.map s.tb) q.cond (cg (q.ao.map Src.nm) (q.ao.map s.tb) q (qB (q.ao.map Src.nm) (q.ao.map s.tb) q.ao q.ao.length 0).2).2.2.2).1,
   order:=(Ad (cg (q.ao.map Src.nm) (q.ao.map s.tb) q (qB (q.ao.map Src.nm) (q.ao.map s.tb) q.ao q.ao.length 0).2).2.1 q.order q.order.length (dU (q.ao.map Src.nm) (q.ao.map s.tb) q.cond (cg (q.ao.map Src.nm) (q.ao.map s.tb) q (qB (q.ao.map Src.nm) (q.ao.map s.tb) q.ao q.ao.length 0).2).2.2.2).2).1,
   mD:=q.mD,limited:=q.limited,limit:=q.limit},
  (Ad (cg (q.ao.map Src.nm) (q.ao.map s.tb) q (qB (q.ao.map Src.nm) (q.ao.map s.tb) q.ao q.ao.length 0).2).2.1 q.order q.order.length (dU (q.ao.map Src.nm) (q.ao.map s.tb) q.cond (cg (q.ao.map Src.nm) (q.ao.map s.tb) q (qB (q.ao.map Src.nm) (q.ao.map s.tb) q.ao q.ao.length 0).2).2.2.2).2).2)
theorem bI.c12 (q:bI)(h:12<q.cells.length):q.cells[12]=tU.ds q.order:=by simp[bI.cells]
theorem bI.c13 (q:bI)(h:13<q.cells.length):q.cells[13]=.bool q.limited:=by simp[bI.cells]
theorem bI.c14 (q:bI)(h:14<q.cells.length):q.cells[14]=zI q.limit:=by simp[bI.cells]
theorem bI.cc (q:bI):(q.cells.drop 4).take 8=q.cond.cells:=by
 simp only[bI.cells,cons_append,nil_append,drop_succ_cons,drop_zero];rw[take_append_of_le_length ah];simp
end Go.Abs
