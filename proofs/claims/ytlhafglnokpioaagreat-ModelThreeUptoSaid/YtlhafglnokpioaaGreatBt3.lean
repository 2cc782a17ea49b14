/- A part. -/
import Derived.Test.YtlhafglnokpioaaGreatBt2
noncomputable section
namespace Go.Abs
open List
open Go.Proofs
open Classical
set_option maxRecDepth 100000
def splice (l vs:List AV)(o:Nat):List AV:=l.take o++(vs++l.drop (o+vs.length))
theorem rL {l vs:List AV}{o:Nat}(ho:o+vs.length<=l.length):(splice l vs o).length=l.length:=by
 simp[splice];omega
theorem xF {l vs:List AV}{o:Nat}(ho:o+vs.length<=l.length)(j:Nat):(splice l vs o)[j]?=if o<=j/\j<o+vs.length then vs[j - o]? else l[j]?:=by
 unfold splice
 by_cases h1:j<o
 ·rw[getElem?_append_left (by simp;omega),getElem?_take,ay h1,ak ah]
 rw[getElem?_append_right (by simp;omega)];have e:(l.take o).length=o:=by simp;omega
 rw[e]
 by_cases h2:j<o+vs.length
 ·rw[getElem?_append_left ah,ay ⟨ah,h2⟩]
 rw[getElem?_append_right ah,kV,ak ah]
 congr 1;omega
theorem OwnB.stN {u:Nat}{z bs:List AV}{t:Ov AV}{l vs:List AV}(h:OwnB (.cells u z bs t) l){o:Nat}(hv:vs≠[]) (ho:o+vs.length<=l.length):OwnB (mL u z bs t vs o) (splice l vs o):=by
 obtain⟨u',z',bs',t',e,hu,hg,hl⟩:=h;injection e with e1 e2 e3 e4;subst e1 e2 e3 e4
 have hput:∀t:Ov AV,(Ov.bO vs o t)≠.nil:=by
  intro t e;have:=Ov.bI vs o t o;have hp:0<vs.length:=length_pos_iff.2 hv;rw[e,ay ⟨ah,ah⟩,Nat.sub_self,cY hp]at this;simp at this
 have yK:OwnB (.cells u z bs (Ov.bO vs o t)) (splice l vs o):=by
  refine⟨u,z,bs,_,rfl,by rw[rL ho,hu],λ j=>?_,λ e=>aw e (hput t)⟩;have hj:=hg j;rw[cM]at hj ⊢;rw[xF ho,Ov.bI]
  by_cases hju:j<u
  ·rw[ay hju]at hj ⊢
   by_cases jf:o<=j/\j<o+vs.length
   ·rw[ay jf,ay jf,cY ah]
   rw[ak jf,ak jf];exact hj
  rw[ak hju]at hj ⊢;rw[ak ah];exact hj
 unfold mL
 split
 ·split
  ·split
   ·split
    ·rename_i bs' hp;have hb:=hl rfl rfl;obtain⟨p1,_,p3⟩:=jn hp
     have:bs'=splice l vs o:=by
      apply ext_getElem?;intro j;rw[p3,xF ho];have hj:=hg j;rw[nZ]at hj
      by_cases jf:o<=j/\j<o+vs.length
      ·rw[ay jf,ay jf]
      rw[ak jf,ak jf,<-hj]
      split
      ·rfl
      rw[getElem?_eq_none ah]
     rw[this];exact .list (by rw[rL ho,hu])
    exact yK
   exact yK
  exact yK
 ·exact yK
 exact yK
theorem ae4 {b o k:Nat}{kb:bJ}{L:List AV}{v:AV}(ho:OwnB kb L)(hk:v.len=k)(hc:v.cells.length=k)(h0:0<k)(h1:bo v.cells=true)(hl:o+k<=L.length):∃y,stE k v (some kb) b o=.upd (.br []) b y/\OwnB y (splice L v.cells o):=by
 have ho':=ho;obtain⟨u,z,bs,t,rfl,h3,h4,_⟩:=ho;refine⟨mL u z bs t v.cells o,?_,ho'.stN (by intro e;rw[e]at hc;simp at hc;omega) ah⟩;have hu:o+k<=u:=ah;simp[hu,hk,h1]
theorem bf.akT {α:Type}{k:Nat}(E:bf α k)(l:List α)(z:List AV)(hz:z.length=k)(a:α):splice (E.l l++z) (E.cells a) (l.length*k)=E.l (l++[a]):=by
 unfold splice;rw[take_append_of_le_length ai,fZ ai,drop_eq_nil_of_le (by simp[hz]),append_nil,E.fu,E.tM]
theorem bp.take {h:Hf}:∀ {a b:List AV}(i:Nat),bp h a b->bp h (a.take i) (b.take i)
 |_,_,0,_=>by simpa using bp.nil
 |_,_,i+1,.nil=>by simpa using bp.nil
 |_,_,i+1,.cons _ _ _ _ x y=>by simpa using bp.cons _ _ _ _ x (bp.take i y)
theorem bp.drop {h:Hf}:∀ {a b:List AV}(i:Nat),bp h a b->bp h (a.drop i) (b.drop i)
 |_,_,0,k=>by simpa using k
 |_,_,i+1,.nil=>by simpa using bp.nil
 |_,_,i+1,.cons _ _ _ _ x y=>by simpa using bp.drop i y
theorem bp.splice {h:Hf}{a b c d:List AV}(o:Nat)(x:bp h a b)(y:bp h c d):bp h (Go.Abs.splice a c o) (Go.Abs.splice b d o):=by
 unfold Go.Abs.splice;rw[<-y.length];exact(x.take o).append (y.append (x.drop _))
theorem aD.axZ {H:Hp}{n:Nat}{v:AV}{l:List AV}{len sz:Nat}(h:aD H n v l len sz):bg v=.val (zI (len:Int)):=by
 obtain⟨_,⟨rfl,rfl⟩|⟨b,k,rfl,_⟩⟩:=h<;>simp
def Zd (i:Nat):Ex:=.mk 3 ⟨0,0,[]⟩ [] [] (i:Int) []
def U7 (i:Nat):List AV:=[zI 3,zI 0,zI 0,.str [],.str [],.str [],zI (i:Int),.aV (.slice none 0 0)]
theorem Ze (h:Hf)(i:Nat):bp h (U7 i) (jc.cells (Zd i)):=Ex.nz (v:=⟨0,0,[]⟩) (.nil 7)
def ly (k:Nat):List Ex:=(range k).map Zd
theorem KJ (k:Nat):ly (k+1)=ly k++[Zd k]:=by simp[ly,range_succ]
@[simp] theorem BX (k:Nat):(ly k).length=k:=by simp[ly]
def aoH (t:bR):List St1->List St1->List Ex->Int->List Ex×Int×Bool
 |_,[],new,err=>(new,err,true)
 |done,x::r,new,err =>
  if keep (keep err 201 (decide (tW t x.name<0))) 205 (done.any λ y=>decide (y.name=x.name))≠0 then (new,keep (keep err 201 (decide (tW t x.name<0))) 205 (done.any λ y=>decide (y.name=x.name)),false)
  else aoH t (done++[x]) r (new.set (tW t x.name).toNat (af1 [t.name] [t] x.e (Im t.cols (tW t x.name).toNat).kind (keep (keep err 201 (decide (tW t x.name<0))) 205 (done.any λ y=>decide (y.name=x.name)))).1) (af1 [t.name] [t] x.e (Im t.cols (tW t x.name).toNat).kind (keep (keep err 201 (decide (tW t x.name<0))) 205 (done.any λ y=>decide (y.name=x.name)))).2
def avq (kind:Int)(t:bR)(cond:Ex)(r:List Ex×Int×Bool):oU×Int:=
 if r.2.2=true then ({kind:=kind,table:=t,new:=r.1,cond:=(ew [t.name] [t] cond r.2.1).1},(ew [t.name] [t] cond r.2.1).2)else ({kind:=kind,table:=t,new:=r.1},r.2.1)
def aeq (s:cG)(x:dE)(err:Int):oU×Int:=
 if keep err 200 (!(s.named x.table).2)≠0 then ({kind:=x.kind,table:=(s.named x.table).1},keep err 200 (!(s.named x.table).2))
 else avq x.kind (s.named x.table).1 x.cond (aoH (s.named x.table).1 [] x.sets (ly (s.named x.table).1.cols.length) (keep err 200 (!(s.named x.table).2)))
end Go.Abs
namespace Go.Abs
open List
open Go.Proofs
open Classical
set_option maxRecDepth 100000
def jE (kind:Int)(fr on w it nm kd od:AV)(d l:Bool)(m:Int):List AV:=[zI kind,.str [],.int .u32 0,.str [],.aV (.slice none 0 0),.int .u32 0,.int .u32 0,.int .u32 0,.str [],.aV (.slice none 0 0),.bool false,.int .u32 0,
 .aV (.slice none 0 0),.aV (.slice none 0 0),.aV (.slice none 0 0),fr,on,w,it,nm,kd,od,.bool d,.bool l,zI m]
structure QC where
 kind:Int
 fr:AV
 on:AV
 w:AV
 od:AV
 d:Bool
 l:Bool
 m:Int
def QC.out (q:QC)(it nm kd:AV):List AV:=jE q.kind q.fr q.on q.w it nm kd q.od q.d q.l q.m
structure CO (H0:Hp)(n p o:Nat)(s:cG)(ns:List (List Nat))(ts:List bR)(q:bG)(C:QC)(e:Int)(c:Nat)(E:List Ex)(N:List (List Nat))(Ks:List Int)(vi vn vk:AV)(R:List AV)(K:Hp)(m:Nat):Prop where
 hm:n+2<=m
 tp:dm K m
 kf:∀b,b<n->b≠p->b≠o->K.get b=H0.get b
 kp:K.get p=some (fP s e)
 kn:K.get n=aN 2 (oN ns ts)
 kq:K.get (n+1)=aN 15 q.cells
 ko:K.get o=aN 25 (C.out vi vn vk)
 oi:aD K m vi R c 8
 on:aD K m vn (dz.l N) c 1
 ok:aD K m vk (dA.l Ks) c 1
 di:∀b,blk vi=some b->n+2<=b/\blk vn≠some b/\blk vk≠some b
 dn:∀b,blk vn=some b->n+2<=b/\blk vk≠some b
 dk:∀b,blk vk=some b->n+2<=b
 fz:∀h,bp h R (jc.l E)
 hE:E.length=c
 hN:N.length=c
 hK:Ks.length=c
section
variable {H0:Hp}{n p o:Nat}{s:cG}{ns:List (List Nat)}{ts:List bR}{q:bG}{C:QC}{e:Int}{c:Nat}{E:List Ex}{N:List (List Nat)}{Ks:List Int}{vi vn vk:AV}{R:List AV}{K:Hp}{m:Nat}
theorem CO.next (M:CO H0 n p o s ns ts q C e c E N Ks vi vn vk R K m)(hpn:p<n)(hon:o<n)(hpo:p≠o){K':Hp}{m':Nat}{e':Int}(hm:m<=m')(ht:dm K' m')(hk:∀b,b<m->b≠p->K'.get b=K.get b)(hp:K'.get p=some (fP s e')):CO H0 n p o s ns ts q C e' c E N Ks vi vn vk R K' m':=by
 have hm0:=M.hm
 exact⟨ah,ht,λ b h1 h2 h3=>(hk b ah h2).trans (M.kf b h1 h2 h3),hp,(hk n ah ah).trans M.kn,(hk (n+1) ah ah).trans M.kq,(hk o ah ah).trans M.ko,
  M.oi.frame hm λ b hb=>hk b (M.oi.db hb) (by have:=(M.di b hb).1;omega),M.on.frame hm λ b hb=>hk b (M.on.db hb) (by have:=(M.dn b hb).1;omega),M.ok.frame hm λ b hb=>hk b (M.ok.db hb) (by have:=M.dk b hb;omega),M.di,M.dn,M.dk,M.fz,M.hE,M.hN,M.hK⟩
end
structure StF (n p o:Nat)(ts:List bR)(i:Nat)(F:Fr):Prop where
 f0:F.get 0=some (.ptr p 0)
 f3:F.get 3=some (.ptr o 0)
 f5:F.get 5=some (.ptr n 0)
 f6:F.get 6=some (.ptr (n+1) 0)
 f32:F.get 32=some (aM.ds ts)
 f33:F.get 33=some (zI (ts.length:Int))
 f34:F.get 34=some (zI (i:Int))
def namesT (ts:List bR):List (List Nat):=ts.flatMap λ t=>t.cols.map (·.name)
theorem Yn (n p o:Nat) (hpn:p<n) (hon:o<n) (hpo:p≠o) (H0:Hp) (s:cG) (ns:List (List Nat)) (ts:List bR) (q:bG) (C:QC) (hC:C.fr.one=true/\C.on.one=true/\C.w.one=true/\C.od.one=true) (e:Int) (i:Nat) (t:bR) (c0:Nat) (hlim:c0+t.cols.length<=aU) (E0:List Ex) (N0:List (List Nat)) (I7:List Int) (hE0:E0=ly c0)
  (F:Fr)(K:Hp)(m:Nat)(Q:QA)(vi vn vk:AV)(R:List AV)(hF:StF n p o ts i F)(h39:F.get 39=some (dV.ds t.cols))(h40:F.get 40=some (zI (t.cols.length:Int)))(h41:F.get 41=some (zI 0))(M:CO H0 n p o s ns ts q C e c0 E0 N0 I7 vi vn vk R K m)
  (hQ:∀vi vn vk R F K m,StF n p o ts i F->CO H0 n p o s ns ts q C e (c0+t.cols.length) (ly (c0+t.cols.length)) (N0++t.cols.map (·.name)) (I7++t.cols.map (·.kind)) vi vn vk R K m->Q .normal F K m []):aF GF pG F K m [] (ig 2 Q):=by
 subst hE0;unfold aU at hlim;obtain⟨hC1,hC2,hC3,hC4⟩:=hC;refine aF.of (λ g F K m ms=>∃(j:Nat) (vi vn vk:AV) (R:List AV),g=t.cols.length - j/\j<=t.cols.length/\StF n p o ts i F/\F.get 39=some (dV.ds t.cols)/\F.get 40=some (zI (t.cols.length:Int))/\F.get 41=some (zI (j:Int))/\CO H0 n p o s ns ts q C e (c0+j) (ly (c0+j)) (N0++(t.cols.take j).map (·.name)) (I7++(t.cols.take j).map (·.kind)) vi vn vk R K m/\ms=[]) t.cols.length ⟨0,vi,vn,vk,R,ai,ah,hF,h39,h40,h41,by simpa using M,rfl⟩ ?_;clear hF h39 h40 h41 M F K m vi vn vk R;rintro g F K m ms ⟨j,vi,vn,vk,R,rfl,hj,⟨f0,f3,f5,f6,f32,f33,f34⟩,f39,f40,f41,M,rfl⟩;have hm:=M.hm
 by_cases hlt:j<t.cols.length
 ·have hxx:=dV.ix (ik:=.i64) hlt;have hld:=λ H=>dV.pT t.cols[j] (dV.l (t.cols.drop (j+1))) H;simp[GF,f39,f40,f41,hlt,hxx,hld,bf.av];generalize hK1:Tr.put _ m _=K1;have g1:∀b,b<m->K1.get b=K.get b:=λ b hb=>by rw[<-hK1];simp[jz hb]
  have x1:K1.get m=aN 3 (dV.cells t.cols[j]):=by rw[<-hK1];simp
  have t1:dm K1 (m+1):=λ b hb=>by
   have e1:¬b=m:=ah;rw[<-hK1];simp[e1,M.tp b ah]
  clear hK1;have M1:=M.next hpn hon hpo (Nat.le_succ m) t1 (λ b h1 _=>g1 b h1) ((g1 p ah).trans M.kp);have hvi:∀b,blk vi=some b->b<m:=λ b h=>M.oi.db h;have hvn:∀b,blk vn=some b->b<m:=λ b h=>M.on.db h;have hvk:∀b,blk vk=some b->b<m:=λ b h=>M.ok.db h;clear M g1;obtain⟨c,hc⟩:∃c,c=c0+j:=⟨_,rfl⟩;rw[<-hc]at M1;have ko:=M1.ko;simp only[QC.out,jE]at ko;have hlv:=M1.oi.axZ;have tm:=t1 (m+1) (aL _);simp only[Td,nG];refine bF.of (bq (P:=pG)) ?_;simp[ae,f3,ko,hlv,bX,cS,tm];generalize hK2:Tr.put K1 (m+1) _=K2;have g2:∀b,b<m+1->K2.get b=K1.get b:=λ b hb=>by rw[<-hK2];simp[jz hb]
  have x2:K2.get (m+1)=aN 8 [zI 0,zI 0,zI 0,.str [],.str [],.str [],zI 0,.aV (.slice none 0 0)]:=by rw[<-hK2];simp
  have t2:dm K2 (m+1+1):=λ b hb=>by
   have e1:¬b=m+1:=ah;rw[<-hK2];simp[e1,t1 b ah]
  clear hK2;have oi2:aD K2 (m+1+1) vi R c 8:=M1.oi.frame ah λ b hb=>g2 b (M1.oi.db hb);refine aD.zx (k:=1) (new:=[zI 0,zI 0,zI 0,.str [],.str [],.str [],zI 0,.aV (.slice none 0 0)]) oi2 (bu x2) ai ai ah ah (by unfold big;omega) ah ai λ K3 o3 g3=>?_;have g3':∀b,b≠m+1+1->blk vi≠some b->K3.get b=K2.get b:=λ b h1 h2=>g3 b h1 λ e=>h2 (by rw[e];rfl);have XQ:∀b,b<n+2->blk vi≠some b:=λ b h1 h2=>by have:=(M1.di b h2).1;omega
  obtain⟨hRl,⟨e,_⟩|⟨b,kb,hb,_,hkb,hob⟩⟩:=o3
  ·cases e
  injection hb with hb;subst hb;have alr:R.length=c*8:=M1.oi.1;have hix:=Qw (b:=m+1+1) (o:=0) (len:=c+1) (sz:=8) (i:=c) (k:=.i64) ah;rw[tA]at hix;obtain⟨y,hst,hoy⟩:=ae4 (b:=m+1+1) (k:=8) (o:=c*8) (v:=.agg (U7 c) 8) hob rfl rfl ah (by simp[U7]) (by simp[alr]);simp only[U7]at hst;have ob:=(g3' o ah (XQ o ah)).trans ((g2 o ah).trans ko);have om:(o=m+1+1)=False:=by simp only[eq_iff_iff,iff_false];omega
  simp[hix,hst,hkb,om,ob];have k4:∀b,b≠o->b≠m+1+1->((Tr.put K3 (m+1+1) (some y)).put o (aN 25 (C.out (.sl (m+1+1) 0 (c+1) 8) vn vk))).get b=K3.get b:=λ b h1 h2=>by simp[h1,h2]
  have o4:((Tr.put K3 (m+1+1) (some y)).put o (aN 25 (C.out (.sl (m+1+1) 0 (c+1) 8) vn vk))).get o=aN 25 (C.out (.sl (m+1+1) 0 (c+1) 8) vn vk):=ai;have y4:((Tr.put K3 (m+1+1) (some y)).put o (aN 25 (C.out (.sl (m+1+1) 0 (c+1) 8) vn vk))).get (m+1+1)=some y:=by simp[show ¬m+1+1=o by omega]
  simp only[QC.out,jE]at k4 o4 y4;generalize Tr.put (Tr.put K3 (m+1+1) (some y)) o _=K4 at k4 o4 y4 ⊢;have bk4:∀b,b<m+1->b≠o->blk vi≠some b->K4.get b=K1.get b:=λ b h1 h2 h3=>(k4 b h2 ah).trans ((g3' b ah h3).trans (g2 b h1));have t4:dm K4 (m+1+1+1):=λ b hb=>(k4 b ah ah).trans ((g3' b ah λ h=>by have:=M1.oi.db h;omega).trans (t2 b ah));have nn2:∀b,blk vn=some b->blk vi≠some b:=λ b h1 h2=>(M1.di b h2).2.1 h1;have nk2:∀b,blk vk=some b->blk vi≠some b:=λ b h1 h2=>(M1.di b h2).2.2 h1;have on4:aD K4 (m+1+1+1) vn (dz.l (N0++(t.cols.take j).map (·.name))) c 1:=M1.on.frame ah λ b hb=>bk4 b (M1.on.db hb) (by have:=(M1.dn b hb).1;omega) (nn2 b hb);have ok4:aD K4 (m+1+1+1) vk (dA.l (I7++(t.cols.take j).map (·.kind))) c 1:=M1.ok.frame ah λ b hb=>bk4 b (M1.ok.db hb) (by have:=M1.dk b hb;omega) (nk2 b hb);have x4:=(bk4 m ah ah λ h=>by have:=hvi m h;omega).trans x1;rw[uS]at x4;have tm4:=t4 (m+1+1+1) (aL _);simp only[Tc,nG];refine bF.of (bq (P:=pG)) ?_;simp[ae,f3,o4,x4,bX,cS,tm4];generalize hK5:Tr.put K4 (m+1+1+1) _=K5;have g5:∀b,b<m+1+1+1->K5.get b=K4.get b:=λ b hb=>by rw[<-hK5];simp[jz hb]
  have x5:K5.get (m+1+1+1)=aN 1 [.str t.cols[j].name]:=by rw[<-hK5];simp
  have t5:dm K5 (m+1+1+1+1):=λ b hb=>by
   have e1:¬b=m+1+1+1:=ah;rw[<-hK5];simp[e1,t4 b ah]
  clear hK5;have on5:aD K5 (m+1+1+1+1) vn (dz.l (N0++(t.cols.take j).map (·.name))) c 1:=on4.frame ah λ b hb=>g5 b (by have:=hvn b hb;omega);refine aD.zx (k:=1) (new:=[.str t.cols[j].name]) on5 (bu x5) ai ai ah ah (by unfold big;omega) ah ai λ K6 o6 g6=>?_;have PX:∀b,b≠m+1+1+1+1->blk vn≠some b->K6.get b=K5.get b:=λ b h1 h2=>g6 b h1 λ e=>h2 (by rw[e];rfl);have Hm:∀b,b<n+2->blk vn≠some b:=λ b h1 h2=>by have:=(M1.dn b h2).1;omega
  have ob6:=(PX o ah (Hm o ah)).trans ((g5 o ah).trans o4);have x6:=(PX m ah λ h=>by have:=hvn m h;omega).trans ((g5 m ah).trans x4);have tm6:K6.get (m+1+1+1+1+1)=none:=(PX _ ah λ h=>by have:=hvn _ h;omega).trans (t5 _ ah);have avr:K4.get (m+1+1+1+1+1)=none:=t4 _ ah;simp[ae,f3,o4,x4,ob6,x6,bX,cS,tm6,avr];generalize hK7:Tr.put K6 (m+1+1+1+1+1) _=K7;have g7:∀b,b<m+1+1+1+1+1->K7.get b=K6.get b:=λ b hb=>by rw[<-hK7];simp[jz hb]
  have x7:K7.get (m+1+1+1+1+1)=aN 1 [zI t.cols[j].kind]:=by rw[<-hK7];simp
  have t6:dm K6 (m+1+1+1+1+1):=λ b hb=>(PX b ah λ h=>by have:=hvn b h;omega).trans (t5 b ah)
  have t7:dm K7 (m+1+1+1+1+1+1):=λ b hb=>by
   have e1:¬b=m+1+1+1+1+1:=ah;rw[<-hK7];simp[e1,t6 b ah]
  clear hK7;have nkn:∀b,blk vk=some b->blk vn≠some b:=λ b h1 h2=>(M1.dn b h2).2 h1;have ok7:aD K7 (m+1+1+1+1+1+1) vk (dA.l (I7++(t.cols.take j).map (·.kind))) c 1:=ok4.frame ah λ b hb=>(g7 b (by have:=hvk b hb;omega)).trans ((PX b (by have:=hvk b hb;omega) (nkn b hb)).trans (g5 b (by have:=hvk b hb;omega)));refine aD.zx (k:=1) (new:=[zI t.cols[j].kind]) ok7 (bu x7) ai ai ah ah (by unfold big;omega) ah ai λ K8 o8 g8=>?_;have g8':∀b,b≠m+1+1+1+1+1+1->blk vk≠some b->K8.get b=K7.get b:=λ b h1 h2=>g8 b h1 λ e=>h2 (by rw[e];rfl);have XP:∀b,b<n+2->blk vk≠some b:=λ b h1 h2=>by have:=M1.dk b h2;omega
  have ob8:=(g8' o ah (XP o ah)).trans ((g7 o ah).trans ob6);simp[ae,f3,ob8];generalize hK9:Tr.put (Tr.put K8 o _) o _=K9;have g9:∀b,b≠o->K9.get b=K8.get b:=λ b hb=>by rw[<-hK9];simp[hb]
  have o9:K9.get o=aN 25 (C.out (.sl (m+1+1) 0 (c+1) 8) (.sl (m+1+1+1+1) 0 (c+1) 1) (.sl (m+1+1+1+1+1+1) 0 (c+1) 1)):=by rw[<-hK9];simp[QC.out,jE]
  clear hK9;simp[Ta,ae,f41,aE j ah];have bk8:∀b,b<m+1+1+1->blk vn≠some b->blk vk≠some b->K8.get b=K4.get b:=λ b h1 h2 h3=>(g8' b ah h3).trans ((g7 b ah).trans ((PX b ah h2).trans (g5 b h1)));have Qz:∀b,b<m+1->b≠o->blk vi≠some b->blk vn≠some b->blk vk≠some b->K9.get b=K1.get b:=λ b h1 h2 h3 h4 h5=>(g9 b h2).trans ((bk8 b ah h4 h5).trans (bk4 b h1 h2 h3));have hcj:c0+(j+1)=c+1:=ah;refine⟨_,ah,j+1,rfl,hlt,⟨by simp[ae,f0],by simp[ae,f3],by simp[ae,f5],by simp[ae,f6],by simp[ae,f32],by simp[ae,f33],by simp[ae,f34]⟩,by simp[f39],by simp[f40],ai,.sl (m+1+1) 0 (c+1) 8,.sl (m+1+1+1+1) 0 (c+1) 1,.sl (m+1+1+1+1+1+1) 0 (c+1) 1,splice (R++[zI 0,zI 0,zI 0,.str [],.str [],.str [],zI 0,.aV (.slice none 0 0)]) (U7 c) (c*8),?_⟩;rw[hcj];have etk:t.cols.take (j+1)=t.cols.take j++[t.cols[j]]:=by rw[take_add_one,cY hlt];rfl
  refine⟨ah,λ b hb=>?_,λ b h1 h2 h3=>?_,?_,?_,?_,o9,⟨?_,.inr ⟨m+1+1,y,rfl,ah,?_,hoy⟩⟩,?_,?_,λ b hb=>by simp at hb;simp;omega,λ b hb=>by simp at hb;simp;omega,λ b hb=>by simp at hb;omega,λ h=>?_,ai,?_,?_⟩
  ·exact(g9 b ah).trans ((g8' b ah λ h=>by have:=hvk b h;omega).trans (t7 b ah))
  ·exact(Qz b ah h3 (XQ b ah) (Hm b ah) (XP b ah)).trans (M1.kf b h1 h2 h3)
  ·exact(Qz p ah ah (XQ p ah) (Hm p ah) (XP p ah)).trans M1.kp
  ·exact(Qz n ah ah (XQ n ah) (Hm n ah) (XP n ah)).trans M1.kn
  ·exact(Qz (n+1) ah ah (XQ (n+1) ah) (Hm (n+1) ah) (XP (n+1) ah)).trans M1.kq
  ·rw[rL (by simp[alr,U7])];simp[alr];omega
  ·exact(g9 _ ah).trans ((bk8 _ ah (λ h=>by have:=hvn _ h;omega) (λ h=>by have:=hvk _ h;omega)).trans y4)
  ·have e1:dz.l (N0++(map (·.name) t.cols).take (j+1))=dz.l (N0++(t.cols.take j).map (·.name))++[.str t.cols[j].name]:=by
    rw[<-map_take,etk,map_append,<-append_assoc,bf.fu];rfl
   rw[e1];refine o6.frame ah λ b hb=>?_;simp at hb;subst hb;exact(g9 _ ah).trans ((g8' _ ah λ h=>by have:=hvk _ h;omega).trans (g7 _ ah))
  ·have e1:dA.l (I7++(map (·.kind) t.cols).take (j+1))=dA.l (I7++(t.cols.take j).map (·.kind))++[zI t.cols[j].kind]:=by
    rw[<-map_take,etk,map_append,<-append_assoc,bf.fu];rfl
   rw[e1];refine o8.frame ah λ b hb=>?_;simp at hb;subst hb;exact g9 _ ah
  ·have e:=bf.akT jc (ly c) [zI 0,zI 0,zI 0,.str [],.str [],.str [],zI 0,.aV (.slice none 0 0)] rfl (Zd c);have hfz:=M1.fz h;rw[KJ,<-e,BX];exact(hfz.append (bp.pure ai)).splice _ (Ze h c)
  ·have:=M1.hN;simp at this ⊢;omega
  have:=M1.hK;simp at this ⊢;omega
 have hje:j=t.cols.length:=ah;subst hje;rw[take_length]at M;simp[GF,f40,f41];exact hQ vi vn vk R _ K m ⟨by simp[f0],by simp[f3],by simp[f5],by simp[f6],by simp[f32],by simp[f33],by simp[f34]⟩ M
end Go.Abs
namespace Go.Abs
open List
open Go.Proofs
open Classical
set_option maxRecDepth 100000
theorem Ho {l:List bR}{i:Nat}(h:i<l.length):namesT (l.take (i+1))=namesT (l.take i)++l[i].cols.map (·.name):=by
 rw[take_add_one,cY h];simp only[namesT,flatMap_append,Option.toList,flatMap_cons,flatMap_nil,append_nil]
theorem Ym (n p o:Nat)(hpn:p<n)(hon:o<n)(hpo:p≠o)(H0:Hp)(s:cG)(ns:List (List Nat))(ts:List bR)(q:bG)(C:QC)(hC:C.fr.one=true/\C.on.one=true/\C.w.one=true/\C.od.one=true)(e:Int)(hl:(aI ts).length<=aU)(ht:ts.length<=aU)
  (F:Fr)(K:Hp)(m:Nat)(Q:QA)(vi vn vk:AV)(R:List AV)(hF:StF n p o ts 0 F)(M:CO H0 n p o s ns ts q C e 0 [] [] [] vi vn vk R K m)
  (hQ:∀vi vn vk R F K m,StF n p o ts ts.length F->CO H0 n p o s ns ts q C e (aI ts).length (ly (aI ts).length) (namesT ts) (aI ts) vi vn vk R K m->Q .normal F K m []):aF GA pG F K m [] (ig 0 Q):=by
 unfold aU at hl ht;refine aF.of (λ g F K m ms=>∃(i:Nat) (vi vn vk:AV) (R:List AV),g=ts.length - i/\i<=ts.length/\StF n p o ts i F/\CO H0 n p o s ns ts q C e (aI (ts.take i)).length (ly (aI (ts.take i)).length) (namesT (ts.take i)) (aI (ts.take i)) vi vn vk R K m/\ms=[]) ts.length ⟨0,vi,vn,vk,R,ai,ah,hF,by simpa[aI,namesT,ly]using M,rfl⟩ ?_;clear hF M F K m vi vn vk R;rintro g F K m ms ⟨i,vi,vn,vk,R,rfl,hi,⟨f0,f3,f5,f6,f32,f33,f34⟩,M,rfl⟩;have hm:=M.hm
 by_cases hlt:i<ts.length
 ·have hxx:=aM.ix (ik:=.i64) hlt;have hld:=λ H=>aM.pT ts[i] (aM.l (ts.drop (i+1))) H;simp[GA,f32,f33,f34,hlt,hxx,hld,bf.av];generalize hK1:Tr.put _ m _=K1;have g1:∀b,b<m->K1.get b=K.get b:=λ b hb=>by rw[<-hK1];simp[jz hb]
  have t1:dm K1 (m+1):=λ b hb=>by
   have e1:¬b=m:=ah;rw[<-hK1];simp[e1,M.tp b ah]
  clear hK1;have M1:=M.next hpn hon hpo (Nat.le_succ m) t1 (λ b h1 _=>g1 b h1) ((g1 p ah).trans M.kp);simp[fc,bf.aT];have hkl:=qF ts (i+1);have hkt:=jH hlt;have hkc:ts[i].kinds.length=ts[i].cols.length:=by simp[bR.kinds]
  have hkl2:(aI (ts.take i)).length+ts[i].cols.length=(aI (ts.take (i+1))).length:=by rw[hkt,length_append,hkc]
  refine Yn n p o hpn hon hpo H0 s ns ts q C hC e i ts[i] (aI (ts.take i)).length (by unfold aU;omega) _ _ _ rfl _ K1 (m+1) _ vi vn vk R ⟨by simp[f0],by simp[f3],by simp[f5],by simp[f6],by simp[f32],by simp[f33],by simp[f34]⟩ ai ai ai M1 λ vi vn vk R F K m S M=>?_;have f34:=S.f34;simp[S9,f34,aE i ah];refine⟨_,ah,i+1,rfl,hlt,⟨by simp[S.f0],by simp[S.f3],by simp[S.f5],by simp[S.f6],by simp[S.f32],by simp[S.f33],ai⟩,vi,vn,vk,R,?_⟩;rw[hkl2]at M;rw[Ho hlt,hkt];rw[hkt]at M;exact M
 have hie:i=ts.length:=ah;subst hie;rw[take_length]at M;simp[GA,f33,f34];exact hQ vi vn vk R _ K m ⟨by simp[f0],by simp[f3],by simp[f5],by simp[f6],by simp[f32],by simp[f33],by simp[f34]⟩ M
def Ex.nm:Ex->List Nat
 |.mk _ _ _ m _ _=>m
def Ex.op:Ex->Int
 |.mk op _ _ _ _ _=>op
def nD.nm (x:nD):List Nat:=if x.name=[]/\x.e.op=2 then x.e.nm else x.name
def jZ (ns:List (List Nat))(ts:List bR):List nD->Int->List Ex×List Int×Int
 |[],err=>([],[],err)
 |x::r,err=>((x.e.bd ns ts err).1::(jZ ns ts r (x.e.bd ns ts err).2.2).1,(x.e.bd ns ts err).2.1::(jZ ns ts r (x.e.bd ns ts err).2.2).2.1,(jZ ns ts r (x.e.bd ns ts err).2.2).2.2)
theorem HG (ns:List (List Nat))(ts:List bR)(a:nD):∀(l:List nD)(err:Int),jZ ns ts (l++[a]) err=((jZ ns ts l err).1++[(a.e.bd ns ts (jZ ns ts l err).2.2).1],(jZ ns ts l err).2.1++[(a.e.bd ns ts (jZ ns ts l err).2.2).2.1],(a.e.bd ns ts (jZ ns ts l err).2.2).2.2)
 |[],err=>by simp[jZ]
 |e::r,err=>by simp[jZ,HG ns ts a r]
theorem DR (ns:List (List Nat))(ts:List bR):∀(l:List nD)(err:Int),(jZ ns ts l err).1.length=l.length/\(jZ ns ts l err).2.1.length=l.length
 |[],err=>by simp[jZ]
 |e::r,err=>by simp[jZ,DR ns ts r]
theorem Yp (ns:List (List Nat))(ts:List bR){l:List nD}{i:Nat}(h:i<l.length)(err:Int):jZ ns ts (l.take (i+1)) err=((jZ ns ts (l.take i) err).1++[(l[i].e.bd ns ts (jZ ns ts (l.take i) err).2.2).1],(jZ ns ts (l.take i) err).2.1++[(l[i].e.bd ns ts (jZ ns ts (l.take i) err).2.2).2.1],(l[i].e.bd ns ts (jZ ns ts (l.take i) err).2.2).2.2):=by
 rw[take_add_one,cY h];exact HG ns ts l[i] (l.take i) err
structure ItF (n p o:Nat)(q:bG)(i:Nat)(F:Fr):Prop where
 f0:F.get 0=some (.ptr p 0)
 f3:F.get 3=some (.ptr o 0)
 f5:F.get 5=some (.ptr n 0)
 f6:F.get 6=some (.ptr (n+1) 0)
 f86:F.get 86=some (my.ds q.items)
 f87:F.get 87=some (zI (q.items.length:Int))
 f88:F.get 88=some (zI (i:Int))
theorem Yk (n p o:Nat)(hpn:p<n)(hon:o<n)(hpo:p≠o)(H0:Hp)(s:cG)(ns:List (List Nat))(ts:List bR)(q:bG)(C:QC)(hC:C.fr.one=true/\C.on.one=true/\C.w.one=true/\C.od.one=true)(e:Int)(c:Nat)(hlim:c<aU)(E:List Ex)(N:List (List Nat))(Ks:List Int)(y1:Ex)(nm:List Nat)(kd:Int)(j a:Nat)
  (F:Fr)(K:Hp)(m:Nat)(Q:QA)(vi vn vk:AV)(R:List AV)(hF:ItF n p o q j F)(f14:F.get 14=some (.ptr a 0))(f15:F.get 15=some (zI kd))(f16:F.get 16=some (.str nm))(ha:K.get a=aN 8 y1.cells)(M:CO H0 n p o s ns ts q C e c E N Ks vi vn vk R K m)
  (hQ:∀vi vn vk R F K m,ItF n p o q j F->CO H0 n p o s ns ts q C e (c+1) (E++[y1]) (N++[nm]) (Ks++[kd]) vi vn vk R K m->Q .normal F K m []):VC pG wZ F K m [] Q:=by
 unfold aU at hlim;obtain⟨hC1,hC2,hC3,hC4⟩:=hC;obtain⟨f0,f3,f5,f6,f86,f87,f88⟩:=hF;have hm:=M.hm;have ko:=M.ko;simp only[QC.out,jE]at ko;have t0:=M.tp;have hvi:∀b,blk vi=some b->b<m:=λ b h=>M.oi.db h;have hvn:∀b,blk vn=some b->b<m:=λ b h=>M.on.db h;have hvk:∀b,blk vk=some b->b<m:=λ b h=>M.ok.db h;have XQ:∀b,b<n+2->blk vi≠some b:=λ b h1 h2=>by have:=(M.di b h2).1;omega
 have Hm:∀b,b<n+2->blk vn≠some b:=λ b h1 h2=>by have:=(M.dn b h2).1;omega
 have XP:∀b,b<n+2->blk vk≠some b:=λ b h1 h2=>by have:=M.dk b h2;omega
 have nn2:∀b,blk vn=some b->blk vi≠some b:=λ b h1 h2=>(M.di b h2).2.1 h1;have nk2:∀b,blk vk=some b->blk vi≠some b:=λ b h1 h2=>(M.di b h2).2.2 h1;have nkn:∀b,blk vk=some b->blk vn≠some b:=λ b h1 h2=>(M.dn b h2).2 h1;simp only[wZ,nG];refine bF.of (bq (P:=pG)) ?_;have tm:=t0 m (aL _);simp[ae,f3,f14,ko,ha,bX,cS,tm];generalize hK1:Tr.put K m _=K1;have g1:∀b,b<m->K1.get b=K.get b:=λ b hb=>by rw[<-hK1];simp[jz hb]
 have x1:K1.get m=aN 8 y1.cells:=by rw[<-hK1];simp
 have t1:dm K1 (m+1):=λ b hb=>by
  have e1:¬b=m:=ah;rw[<-hK1];simp[e1,t0 b ah]
 clear hK1;have oi1:aD K1 (m+1) vi R c 8:=M.oi.frame ah λ b hb=>g1 b (hvi b hb);refine aD.zx (k:=1) (new:=y1.cells) oi1 (bu x1) ai ai ah ah (by unfold big;omega) ah ai λ K2 o2 g2=>?_;have g2':∀b,b≠m+1->blk vi≠some b->K2.get b=K1.get b:=λ b h1 h2=>g2 b h1 λ e=>h2 (by rw[e];rfl);clear g2;have t2:dm K2 (m+1+1):=λ b hb=>(g2' b ah λ h=>by have:=hvi b h;omega).trans (t1 b ah);have ko2:=(g2' o ah (XQ o ah)).trans ((g1 o ah).trans ko);have tm2:=t2 (m+1+1) (aL _);have ajK:=t0 (m+1+1) ah;simp[ae,f3,f16,ko,ko2,bX,cS,tm2,ajK];generalize hK3:Tr.put K2 (m+1+1) _=K3;have g3:∀b,b<m+1+1->K3.get b=K2.get b:=λ b hb=>by rw[<-hK3];simp[jz hb]
 have x3:K3.get (m+1+1)=aN 1 [.str nm]:=by rw[<-hK3];simp
 have t3:dm K3 (m+1+1+1):=λ b hb=>by
  have e1:¬b=m+1+1:=ah;rw[<-hK3];simp[e1,t2 b ah]
 clear hK3;have on3:aD K3 (m+1+1+1) vn (dz.l N) c 1:=M.on.frame ah λ b hb=>(g3 b (by have:=hvn b hb;omega)).trans ((g2' b (by have:=hvn b hb;omega) (nn2 b hb)).trans (g1 b (hvn b hb)));refine aD.zx (k:=1) (new:=[.str nm]) on3 (bu x3) ai ai ah ah (by unfold big;omega) ah ai λ K4 o4 g4=>?_;have g4':∀b,b≠m+1+1+1->blk vn≠some b->K4.get b=K3.get b:=λ b h1 h2=>g4 b h1 λ e=>h2 (by rw[e];rfl);clear g4;have t4:dm K4 (m+1+1+1+1):=λ b hb=>(g4' b ah λ h=>by have:=hvn b h;omega).trans (t3 b ah);have ko4:=(g4' o ah (Hm o ah)).trans ((g3 o ah).trans ko2);have tm4:=t4 (m+1+1+1+1) (aL _);have avt:=t2 (m+1+1+1+1) ah;have avv:=t0 (m+1+1+1+1) ah;simp[ae,f3,f15,ko,ko2,ko4,bX,cS,tm4,avt,avv];generalize hK5:Tr.put K4 (m+1+1+1+1) _=K5;have g5:∀b,b<m+1+1+1+1->K5.get b=K4.get b:=λ b hb=>by rw[<-hK5];simp[jz hb]
 have x5:K5.get (m+1+1+1+1)=aN 1 [zI kd]:=by rw[<-hK5];simp
 have t5:dm K5 (m+1+1+1+1+1):=λ b hb=>by
  have e1:¬b=m+1+1+1+1:=ah;rw[<-hK5];simp[e1,t4 b ah]
 clear hK5;have ok5:aD K5 (m+1+1+1+1+1) vk (dA.l Ks) c 1:=M.ok.frame ah λ b hb=>(g5 b (by have:=hvk b hb;omega)).trans ((g4' b (by have:=hvk b hb;omega) (nkn b hb)).trans ((g3 b (by have:=hvk b hb;omega)).trans ((g2' b (by have:=hvk b hb;omega) (nk2 b hb)).trans (g1 b (hvk b hb)))));refine aD.zx (k:=1) (new:=[zI kd]) ok5 (bu x5) ai ai ah ah (by unfold big;omega) ah ai λ K6 o6 g6=>?_;have PX:∀b,b≠m+1+1+1+1+1->blk vk≠some b->K6.get b=K5.get b:=λ b h1 h2=>g6 b h1 λ e=>h2 (by rw[e];rfl);clear g6;have ko6:=(PX o ah (XP o ah)).trans ((g5 o ah).trans ko4);simp[ae,f3,ko6];generalize hK9:Tr.put (Tr.put (Tr.put K6 o _) o _) o _=K9;have g9:∀b,b≠o->K9.get b=K6.get b:=λ b hb=>by rw[<-hK9];simp[hb]
 have o9:K9.get o=aN 25 (C.out (.sl (m+1) 0 (c+1) 8) (.sl (m+1+1+1) 0 (c+1) 1) (.sl (m+1+1+1+1+1) 0 (c+1) 1)):=by rw[<-hK9];simp[QC.out,jE]
 clear hK9;have Qz:∀b,b<m->b≠o->blk vi≠some b->blk vn≠some b->blk vk≠some b->K9.get b=K.get b:=λ b h1 h2 h3 h4 h5=>(g9 b h2).trans ((PX b ah h5).trans ((g5 b ah).trans ((g4' b ah h4).trans ((g3 b ah).trans ((g2' b ah h3).trans (g1 b h1))))));refine hQ (.sl (m+1) 0 (c+1) 8) (.sl (m+1+1+1) 0 (c+1) 1) (.sl (m+1+1+1+1+1) 0 (c+1) 1) (R++y1.cells) _ K9 _ ⟨by simp[ae,f0],by simp[ae,f3],by simp[ae,f5],by simp[ae,f6],by simp[ae,f86],by simp[ae,f87],by simp[ae,f88]⟩ ⟨ah,λ b hb=>?_,λ b h1 h2 h3=>?_,?_,?_,?_,o9,?_,?_,?_,λ b hb=>by simp at hb;simp;omega,λ b hb=>by simp at hb;simp;omega,λ b hb=>by simp at hb;omega,λ h=>?_,by simp[M.hE],by simp[M.hN],by simp[M.hK]⟩
 ·exact(g9 b ah).trans ((PX b ah λ h=>by have:=hvk b h;omega).trans (t5 b ah))
 ·exact(Qz b ah h3 (XQ b ah) (Hm b ah) (XP b ah)).trans (M.kf b h1 h2 h3)
 ·exact(Qz p ah ah (XQ p ah) (Hm p ah) (XP p ah)).trans M.kp
 ·exact(Qz n ah ah (XQ n ah) (Hm n ah) (XP n ah)).trans M.kn
 ·exact(Qz (n+1) ah ah (XQ (n+1) ah) (Hm (n+1) ah) (XP (n+1) ah)).trans M.kq
 ·refine o2.frame ah λ b hb=>?_;simp at hb;subst hb;exact(g9 _ ah).trans ((PX _ ah λ h=>by have:=hvk _ h;omega).trans ((g5 _ ah).trans ((g4' _ ah λ h=>by have:=hvn _ h;omega).trans (g3 _ ah))))
 ·rw[bf.fu,bf.tM,Y3];refine o4.frame ah λ b hb=>?_;simp at hb;subst hb;exact(g9 _ ah).trans ((PX _ ah λ h=>by have:=hvk _ h;omega).trans (g5 _ ah))
 ·rw[bf.fu,bf.tM,KC];refine o6.frame ah λ b hb=>?_;simp at hb;subst hb;exact g9 _ ah
 rw[bf.fu,bf.tM,ahv];exact(M.fz h).append (bp.pure (Ex.rC y1))
def L76 (q:bG):Prop:=∀(n p o:Nat) (_hpn:p<n) (_hon:o<n) (_hpo:p≠o) (H0:Hp) (s:cG) (ns:List (List Nat)) (ts:List bR) (_hn:ns.length=ts.length) (_hl:(aI ts).length<=aU) (_ht:ts.length<=aU) (_hcl:∀t∈ts,t.cols.length<=aU) (C:QC) (_hC:C.fr.one=true/\C.on.one=true/\C.w.one=true/\C.od.one=true) (e0:Int) (c0:Nat) (_hlim:c0+q.items.length<=aU) (E0:List Ex) (N0:List (List Nat)) (I7:List Int)
  (F:Fr)(K:Hp)(m:Nat)(Q:QA)(vi vn vk:AV)(R:List AV)(_hF:ItF n p o q 0 F)(_M:CO H0 n p o s ns ts q C e0 c0 E0 N0 I7 vi vn vk R K m)
  (_hQ:∀vi vn vk R F K m,ItF n p o q q.items.length F->CO H0 n p o s ns ts q C (jZ ns ts q.items e0).2.2 (c0+q.items.length) (E0++(jZ ns ts q.items e0).1) (N0++q.items.map nD.nm) (I7++(jZ ns ts q.items e0).2.1) vi vn vk R K m->Q .normal F K m []),aF vl pG F K m [] (ig 4 Q)
theorem Yl (n p o:Nat) (hpn:p<n) (hon:o<n) (hpo:p≠o) (H0:Hp) (s:cG) (ns:List (List Nat)) (ts:List bR) (hn:ns.length=ts.length) (hl:(aI ts).length<=aU) (ht:ts.length<=aU) (hcl:∀t∈ts,t.cols.length<=aU) (q:bG) (C:QC) (hC:C.fr.one=true/\C.on.one=true/\C.w.one=true/\C.od.one=true) (e0:Int) (c0:Nat) (hlim:c0+q.items.length<=aU) (E0:List Ex) (N0:List (List Nat)) (I7:List Int) (hz:∀x∈q.items,x.e.sz<=aU/\x.e.may=true)
  (F:Fr)(K:Hp)(m:Nat)(Q:QA)(vi vn vk:AV)(R:List AV)(hF:ItF n p o q 0 F)(M:CO H0 n p o s ns ts q C e0 c0 E0 N0 I7 vi vn vk R K m)
  (hQ:∀vi vn vk R F K m,ItF n p o q q.items.length F->CO H0 n p o s ns ts q C (jZ ns ts q.items e0).2.2 (c0+q.items.length) (E0++(jZ ns ts q.items e0).1) (N0++q.items.map nD.nm) (I7++(jZ ns ts q.items e0).2.1) vi vn vk R K m->Q .normal F K m []):aF vl pG F K m [] (ig 4 Q):=by
 unfold aU at hlim;obtain⟨hC1,hC2,hC3,hC4⟩:=hC;refine aF.of (λ g F K m ms=>∃(j:Nat) (vi vn vk:AV) (R:List AV),g=q.items.length - j/\j<=q.items.length/\ItF n p o q j F/\CO H0 n p o s ns ts q C (jZ ns ts (q.items.take j) e0).2.2 (c0+j) (E0++(jZ ns ts (q.items.take j) e0).1) (N0++(q.items.take j).map nD.nm) (I7++(jZ ns ts (q.items.take j) e0).2.1) vi vn vk R K m/\ms=[]) q.items.length ⟨0,vi,vn,vk,R,ai,ah,hF,by simpa[jZ]using M,rfl⟩ ?_;clear hF M F K m vi vn vk R;rintro g F K m ms ⟨j,vi,vn,vk,R,rfl,hj,⟨f0,f3,f5,f6,f86,f87,f88⟩,M,rfl⟩;have hm:=M.hm
 by_cases hlt:j<q.items.length
 ·have hxx:=my.ix (ik:=.i64) hlt;have hld:=λ H=>my.pT q.items[j] (my.l (q.items.drop (j+1))) H;obtain⟨hz1,hz2⟩:=hz _ (dy hlt);have htk:=Yp ns ts hlt e0;have kn:=M.kn;simp only[oN]at kn;have nm:=jz (show n<m by omega);simp[vl,f0,f5,f86,f87,f88,hlt,hxx,hld,bf.av,kn,nm];generalize hK1:Tr.put _ m _=K1;have g1:∀b,b<m->K1.get b=K.get b:=λ b hb=>by rw[<-hK1];simp[jz hb]
  have x1:K1.get m=aN 9 (my.cells q.items[j]):=by rw[<-hK1];simp
  have t1:dm K1 (m+1):=λ b hb=>by
   have e1:¬b=m:=ah;rw[<-hK1];simp[e1,M.tp b ah]
  clear hK1 hxx hld;have hvi:∀b,blk vi=some b->b<m:=λ b h=>M.oi.db h;have hvn:∀b,blk vn=some b->b<m:=λ b h=>M.on.db h;have hvk:∀b,blk vk=some b->b<m:=λ b h=>M.ok.db h;have hxx:=λ p err H n=>YU ns ts hn hl ht hcl s q.items[j].e hz1 hz2 p err H n;have hnm:(q.items.take (j+1)).map nD.nm=(q.items.take j).map nD.nm++[q.items[j].nm]:=by rw[take_add_one,cY hlt];simp only[map_append,Option.toList,map_cons,map_nil]
  have hei:=(DR ns ts (q.items.take j) e0);generalize jZ ns ts (q.items.take j) e0=A at M htk hei;obtain⟨Ea,Ka,er0⟩:=A;simp only at M htk hei;have hxx:=hxx p er0 K1 (m+1) ah ((g1 p ah).trans M.kp);generalize q.items[j].e.bd ns ts er0=X at hxx htk;obtain⟨y1,kd,er⟩:=X;simp only at hxx htk;have M1:=λ(K':Hp) (m':Nat) (hm:m<=m') (ht:dm K' m') (hk:∀b,b<m->b≠p->K'.get b=K.get b) (hp:K'.get p=some (fP s er))=>M.next hpn hon hpo hm ht hk hp;generalize q.items[j]=it at hxx hnm x1;obtain⟨⟨op,v,tn,mn,cD,args⟩,inm⟩:=it;simp only[Y4,Ex.cells,cons_append,nil_append]at x1;simp only[oN,Ex.av,Ex.cells]at hxx;simp[Y4,Ex.cells];refine aB.ok hxx ?_;have k2:∀b,b≠p->(K1.put p (some (fP s er))).get b=K1.get b:=λ b hb=>by simp[hb]
  have p2:(K1.put p (some (fP s er))).get p=some (fP s er):=ai;generalize K1.put p (some (fP s er))=K2 at k2 p2 ⊢;have x2:=(k2 m ah).trans x1;simp[S8,x2];generalize hK3:Tr.put _ (m+1) _=K3;have g3:∀b,b<m+1->K3.get b=K2.get b:=λ b hb=>by rw[<-hK3];simp[jz hb]
  have x3:K3.get (m+1)=aN 8 y1.cells:=by rw[<-hK3];simp
  have t3:dm K3 (m+1+1):=λ b hb=>by
   have e1:¬b=m+1:=ah;rw[<-hK3];simp[e1,k2 b ah,t1 b ah]
  clear hK3;have x3':=(g3 m ah).trans x2;have M3:=M1 K3 (m+1+1) ah t3 (λ b h1 h2=>(g3 b ah).trans ((k2 b h2).trans (g1 b h1))) ((g3 p ah).trans p2);clear M1 M g1 k2 p2 x2 g3 x1 t1;generalize hF3:(Fp 16 _ _:Fr)=F3;have w0:ItF n p o q j F3:=by rw[<-hF3];exact⟨by simp[f0],by simp[f3],by simp[f5],by simp[f6],by simp[f86],by simp[f87],by simp[f88]⟩
  have OK:F3.get 13=some (.ptr m 0):=by rw[<-hF3];simp
  have w14:F3.get 14=some (.ptr (m+1) 0):=by rw[<-hF3];simp
  have w15:F3.get 15=some (zI kd):=by rw[<-hF3];simp
  have w16:F3.get 16=some (.str inm):=by rw[<-hF3];simp
  clear hF3;obtain⟨w0,w3,w5,w6,w86,w87,w88⟩:=w0
  have fin:∀(F4:Fr) (nm':List Nat),nm'=nD.nm ⟨.mk op v tn mn cD args,inm⟩->ItF n p o q j F4->F4.get 14=some (.ptr (m+1) 0)->F4.get 15=some (zI kd)->F4.get 16=some (.str nm')->VC pG wZ F4 K3 (m+1+1) [] (ig 5 (nj pG FQ (zE (λ g F K m ms=>∃(j:Nat) (vi vn vk:AV) (R:List AV),g=q.items.length - j/\j<=q.items.length/\ItF n p o q j F/\CO H0 n p o s ns ts q C (jZ ns ts (q.items.take j) e0).2.2 (c0+j) (E0++(jZ ns ts (q.items.take j) e0).1) (N0++(q.items.take j).map nD.nm) (I7++(jZ ns ts (q.items.take j) e0).2.1) vi vn vk R K m/\ms=[]) (q.items.length - j) (ig 4 Q)))):=by
   intro F4 nm' hnm' h0 rq h15 kK;refine Yk n p o hpn hon hpo H0 s ns ts q C ⟨hC1,hC2,hC3,hC4⟩ er (c0+j) (by unfold aU;omega) _ _ _ y1 nm' kd j (m+1) F4 K3 (m+1+1) _ vi vn vk R h0 rq h15 kK x3 M3 λ vi' vn' vk' R' F5 K5 m5 h5 M5=>?_;have axs:=h5.f88;simp[FQ,axs,aE j ah];refine⟨_,ah,j+1,rfl,hlt,⟨by simp[h5.f0],by simp[h5.f3],by simp[h5.f5],by simp[h5.f6],by simp[h5.f86],by simp[h5.f87],ai⟩,vi',vn',vk',R',?_⟩;rw[htk,<-map_take,hnm,<-hnm'];simp only[<-append_assoc];exact M5
  by_cases hi0:inm=[]
  ·by_cases ho2:op=2
   ·simp[w_,S0,OK,w16,hi0,x3',ho2];have hx:=fin (Fp 16 (.str mn) (Fp 112 (.str mn) (Fp 111 (.ptr m 5) (Fp 110 (.ptr m 0) (Fp 109 (.bool true) (Fp 108 (.bool true) (Fp 107 (zI 2) (Fp 106 (.ptr m 0) (Fp 105 (.ptr m 0) (Fp 104 (.bool true) (Fp 103 (.bool true) (Fp 102 (.str []) F3)))))))))))) mn (by simp[nD.nm,Ex.op,Ex.nm,hi0,ho2]) ⟨by simp[w0],by simp[w3],by simp[w5],by simp[w6],by simp[w86],by simp[w87],by simp[w88]⟩ (by simp[w14]) (by simp[w15]) ai;simpa using hx
   simp[w_,OK,w16,hi0,x3',ho2];have hx:=fin (Fp 109 (.bool false) (Fp 108 (.bool false) (Fp 107 (zI op) (Fp 106 (.ptr m 0) (Fp 105 (.ptr m 0) (Fp 104 (.bool true) (Fp 103 (.bool true) (Fp 102 (.str []) F3)))))))) [] (by simp[nD.nm,Ex.op,hi0,ho2]) ⟨by simp[w0],by simp[w3],by simp[w5],by simp[w6],by simp[w86],by simp[w87],by simp[w88]⟩ (by simp[w14]) (by simp[w15]) (by simp[w16,hi0]);simpa using hx
  simp[w_,w16,hi0];have hx:=fin (Fp 109 (.bool false) (Fp 108 (.br []) (Fp 107 (.br []) (Fp 106 (.br []) (Fp 105 (.br []) (Fp 104 (.bool false) (Fp 103 (.bool false) (Fp 102 (.str inm) F3)))))))) inm (by simp[nD.nm,hi0]) ⟨by simp[w0],by simp[w3],by simp[w5],by simp[w6],by simp[w86],by simp[w87],by simp[w88]⟩ (by simp[w14]) (by simp[w15]) (by simp[w16]);simpa using hx
 have hje:j=q.items.length:=ah;subst hje;rw[take_length]at M;simp[vl,f87,f88];exact hQ vi vn vk R _ K m ⟨by simp[f0],by simp[f3],by simp[f5],by simp[f6],by simp[f86],by simp[f87],by simp[f88]⟩ M
def cL (ns:List (List Nat))(ts:List bR)(q:bG)(err:Int):List Ex×List (List Nat)×List Int×Int:=
 if q.star=true then (ly (aI ts).length++(jZ ns ts q.items (keep (keep err 200 (decide (ts=[]))) 3 (decide ((16:Int)<((aI ts).length:Int))))).1,namesT ts++q.items.map nD.nm,aI ts++(jZ ns ts q.items (keep (keep err 200 (decide (ts=[]))) 3 (decide ((16:Int)<((aI ts).length:Int))))).2.1,(jZ ns ts q.items (keep (keep err 200 (decide (ts=[]))) 3 (decide ((16:Int)<((aI ts).length:Int))))).2.2)
 else ((jZ ns ts q.items err).1,q.items.map nD.nm,(jZ ns ts q.items err).2.1,(jZ ns ts q.items err).2.2)
theorem bG.c1 (q:bG)(h:1<q.cells.length):q.cells[1]=.bool q.star:=by simp[bG.cells]
theorem bG.c2 (q:bG)(h:2<q.cells.length):q.cells[2]=my.ds q.items:=by simp[bG.cells]
theorem bG.c3 (q:bG)(h:3<q.cells.length):q.cells[3]=ju.ds q.ar:=by simp[bG.cells]
theorem bG.c0 (q:bG)(h:0<q.cells.length):q.cells[0]=.bool q.kE:=by simp[bG.cells]
def bG.av (q:bG):AV:=.agg q.cells 15
def I76 (q:bG):Prop:=∀(ns:List (List Nat))(ts:List bR)(_hn:ns.length=ts.length)(_hl:(aI ts).length<=aU)(_ht:ts.length<=aU)(_hcl:∀t∈ts,t.cols.length<=aU)(s:cG)(_hlim:(aI ts).length+q.items.length<=aU)(C:QC)(_hC:C.fr.one=true/\C.on.one=true/\C.w.one=true/\C.od.one=true)(p o:Nat)(err:Int)(H:Hp)(n:Nat)(_hpn:p<n)(_hon:o<n)(_hpo:p≠o)(_hr:dO n [C.fr,C.on,C.w,C.od])(_hp:H.get p=some (fP s err))(_ho:H.get o=aN 25 (C.out (.aV (.slice none 0 0)) (.aV (.slice none 0 0)) (.aV (.slice none 0 0)))),bC pG 133 [.ptr p 0,.agg (oN ns ts) 2,q.av,.ptr o 0] H n (.br []) ((H.put p (some (fP s (cL ns ts q err).2.2.2))).put o (aN 25 (C.out (jc.ds (cL ns ts q err).1) (dz.ds (cL ns ts q err).2.1) (dA.ds (cL ns ts q err).2.2.1)))) n
theorem afF (ns:List (List Nat))(ts:List bR)(hn:ns.length=ts.length)(hl:(aI ts).length<=aU)(ht:ts.length<=aU)(hcl:∀t∈ts,t.cols.length<=aU)(s:cG)(q:bG)(hlim:(aI ts).length+q.items.length<=aU)(hL:L76 q)(C:QC)(hC:C.fr.one=true/\C.on.one=true/\C.w.one=true/\C.od.one=true)(p o:Nat)(err:Int)(H:Hp)(n:Nat)(hpn:p<n)(hon:o<n)(hpo:p≠o)(hr:dO n [C.fr,C.on,C.w,C.od])(hp:H.get p=some (fP s err))(ho:H.get o=aN 25 (C.out (.aV (.slice none 0 0)) (.aV (.slice none 0 0)) (.aV (.slice none 0 0)))):
  bC pG 133 [.ptr p 0,.agg (oN ns ts) 2,q.av,.ptr o 0] H n (.br []) ((H.put p (some (fP s (cL ns ts q err).2.2.2))).put o (aN 25 (C.out (jc.ds (cL ns ts q err).1) (dz.ds (cL ns ts q err).2.1) (dA.ds (cL ns ts q err).2.2.1)))) n:=by
 have hr':=hr;simp only[iw,WY,and_true]at hr';obtain⟨r1,r2,r3,r4⟩:=hr';refine asg (args:=[.agg (oN ns ts) 2,q.av]) c133 (by simp[A133]) (by simp[oN,bG.av,bG.pure]) hpn hon hpo hp ho (by simp[QC.out,jE,r1,r2,r3,r4]) (by simp[QC.out,jE,r1,r2,r3,r4,Pure.jQ]) λ F H0 hF htop hp0 ho0=>?_;have q':=XU hpn;have r':=XU hon
 have fin:∀(c:Nat) (E:List Ex) (N:List (List Nat)) (Ks:List Int) (e:Int) (vi vn vk:AV) (R:List AV) (K:Hp) (m:Nat),cL ns ts q err=(E,N,Ks,e)->CO H0 n p o s ns ts q C e c E N Ks vi vn vk R K m->fj (above n K) (.br []) (.br [])/\(∀c,c<n->c≠p->c≠o->K.get c=H0.get c)/\K.get p=some (fP s (cL ns ts q err).2.2.2)/\∃l,K.get o=aN 25 l/\l.length=25/\uk (above n K) l (C.out (jc.ds (cL ns ts q err).1) (dz.ds (cL ns ts q err).2.1) (dA.ds (cL ns ts q err).2.2.1)):=by
  intro c E N Ks e vi vn vk R K m hb M;rw[hb];refine⟨.pure _ ai,M.kf,M.kp,_,M.ko,rfl,?_⟩
  have z1:fj (above n K) vi (jc.ds E):=by
   have:=M.oi.UT (n0:=n) (λ b hb=>by have:=(M.di b hb).1;omega) (M.fz _) ah;rw[bf.ds,M.hE];exact this
  have z2:fj (above n K) vn (dz.ds N):=by
   have:=M.on.UT (n0:=n) (λ b hb=>by have:=(M.dn b hb).1;omega) (bp.pure (dz.rX N)) ah;rw[bf.ds,M.hN];exact this
  have z3:fj (above n K) vk (dA.ds Ks):=by
   have:=M.ok.UT (n0:=n) (λ b hb=>by have:=M.dk b hb;omega) (bp.pure (dA.rX Ks)) ah;rw[bf.ds,M.hK];exact this
  simp[QC.out,jE];exact⟨.inr z1,.inr z2,.inr z3⟩
 have start:∀(K:Hp) (m:Nat) (e:Int),n+2<=m->dm K m->(∀c,c<n->c≠p->K.get c=H0.get c)->K.get p=some (fP s e)->K.get n=aN 2 (oN ns ts)->K.get (n+1)=aN 15 q.cells->CO H0 n p o s ns ts q C e 0 [] [] [] (.aV (.slice none 0 0)) (.aV (.slice none 0 0)) (.aV (.slice none 0 0)) [] K m:=by
  intro K m e h1 h2 h3 h4 h5 h6;exact⟨h1,h2,λ b h1 h2 _=>h3 b h1 h2,h4,h5,h6,(h3 o hon ah).trans ho0,by simpa using aD.nil _ _ 8,by simpa using aD.nil _ _ 1,by simpa using aD.nil _ _ 1,ai,ai,ai,λ h=>by simpa using bp.nil,rfl,rfl,rfl⟩
 have rest:∀(c:Nat) (E:List Ex) (N:List (List Nat)) (Ks:List Int) (e:Int) (vi vn vk:AV) (R:List AV) (F:Fr) (K:Hp) (m:Nat),F.get 0=some (.ptr p 0)->F.get 3=some (.ptr o 0)->F.get 5=some (.ptr n 0)->F.get 6=some (.ptr (n+1) 0)->c+q.items.length<=aU->CO H0 n p o s ns ts q C e c E N Ks vi vn vk R K m->cL ns ts q err=(E++(jZ ns ts q.items e).1,N++q.items.map nD.nm,Ks++(jZ ns ts q.items e).2.1,(jZ ns ts q.items e).2.2) ->
   VC pG (FT.seq (CT.block 4 vl.loop)) F K m [] (kH [] λ v K x=>fj (above n K) v (.br [])/\(∀c,c<n->c≠p->c≠o->K.get c=H0.get c)/\K.get p=some (fP s (cL ns ts q err).2.2.2)/\∃l,K.get o=aN 25 l/\l.length=25/\uk (above n K) l (C.out (jc.ds (cL ns ts q err).1) (dz.ds (cL ns ts q err).2.1) (dA.ds (cL ns ts q err).2.2.1))):=by
  intro c E N Ks e vi vn vk R F K m f0 f3 f5 f6 hc M hb;have kq:=M.kq;simp[FT,f6,kq,bG.c2,bf.aT];refine hL n p o hpn hon hpo H0 s ns ts hn hl ht hcl C hC e c hc E N Ks _ K m _ vi vn vk R ⟨by simp[f0],by simp[f3],by simp[f5],by simp[f6],ai,ai,ai⟩ M λ vi vn vk R F K m S M=>?_;simpa using fin _ _ _ _ _ vi vn vk R K m hb M
 simp[A133,hF,bG.av,bG.c1];generalize hK:Tr.put _ (n+1) _=K0;have k0:∀c,c<n->K0.get c=H0.get c:=λ c hc=>by rw[<-hK];simp[jz hc]
 have kn:K0.get n=aN 2 (oN ns ts):=by rw[<-hK];simp
 have kq:K0.get (n+1)=aN 15 q.cells:=by rw[<-hK];simp
 have kt:dm K0 (n+1+1):=λ c hc=>by
  have e1:¬c=n:=ah;have e2:¬c=n+1:=ah;rw[<-hK];simp[e1,e2,htop c ah]
 clear hK
 cases hst:q.star with
 |false =>
  simp;have:=rest 0 [] [] [] err _ _ _ [] (Fp 18 (.bool false) (Fp 17 (.ptr (n+1) 1) (Fp 6 (.ptr (n+1) 0) (Fp 5 (.ptr n 0) F)))) K0 (n+1+1) (by simp[hF]) (by simp[hF]) ai ai ah (start K0 (n+1+1) err ah kt (λ c hc _=>k0 c hc) ((k0 p hpn).trans hp0) kn kq) (by simp[cL,hst]);simpa using this
 |true =>
  have BB:=kn;simp only[oN]at BB;simp[adw,hF,BB,bf.aT];refine aB.ok (yT p s err 200 (decide (ts=[])) K0 _ ah ((k0 p hpn).trans hp0)) ?_;generalize hE1:keep err 200 (decide (ts=[]))=e1;have j2:∀c,c≠p->(K0.put p (some (fP s e1))).get c=K0.get c:=λ c hc=>by simp[hc]
  have jp:(K0.put p (some (fP s e1))).get p=some (fP s e1):=ai;generalize K0.put p (some (fP s e1))=K1 at j2 jp ⊢;have wN:=(j2 n ah).trans kn;simp[adv,hF,wN];refine aB.pure (HC ns ts hl ht hcl) ?_;simp;refine aB.ok (yT p s e1 3 (decide ((16:Int)<((aI ts).length:Int))) K1 _ ah jp) ?_;generalize hE2:keep e1 3 (decide ((16:Int)<((aI ts).length:Int)))=e2;have j3:∀c,c≠p->(K1.put p (some (fP s e2))).get c=K1.get c:=λ c hc=>by simp[hc]
  have jp3:(K1.put p (some (fP s e2))).get p=some (fP s e2):=ai;generalize K1.put p (some (fP s e2))=K2 at j3 jp3 ⊢;have kn2:=(j3 n ah).trans wN;have kq2:=(j3 (n+1) ah).trans ((j2 (n+1) ah).trans kq);simp only[oN]at kn2;simp[adu,kn2,bf.aT]
  have hb:cL ns ts q err=(ly (aI ts).length++(jZ ns ts q.items e2).1,namesT ts++q.items.map nD.nm,aI ts++(jZ ns ts q.items e2).2.1,(jZ ns ts q.items e2).2.2):=by
   rw[<-hE2,<-hE1];simp[cL,hst]
  refine Ym n p o hpn hon hpo H0 s ns ts q C hC e2 hl ht _ K2 (n+1+1) _ (.aV (.slice none 0 0)) (.aV (.slice none 0 0)) (.aV (.slice none 0 0)) [] ⟨by simp[hF],by simp[hF],ai,ai,ai,ai,ai⟩ (start K2 (n+1+1) e2 ah (λ c hc=>(j3 c ah).trans ((j2 c ah).trans (kt c hc))) (λ c h1 h2=>(j3 c h2).trans ((j2 c h2).trans (k0 c h1))) jp3 kn2 kq2) λ vi vn vk R F K m S M=>?_;have:=rest _ _ _ _ e2 vi vn vk R F K m S.f0 S.f3 S.f5 S.f6 ah M hb;simpa using this
theorem Yo {q:bG}(hL:L76 q):I76 q:=λ ns ts hn hl ht hcl s hlim C hC p o err H n hpn hon hpo hr hp ho=>afF ns ts hn hl ht hcl s q hlim hL C hC p o err H n hpn hon hpo hr hp ho
theorem Yj {q:bG}(hz:∀x∈q.items,x.e.sz<=aU/\x.e.may=true):L76 q:=λ n p o hpn hon hpo H0 s ns ts hn hl ht hcl C hC e0 c0 hlim E0 N0 I7 F K m Q vi vn vk R hF M hQ=>Yl n p o hpn hon hpo H0 s ns ts hn hl ht hcl q C hC e0 c0 hlim E0 N0 I7 hz F K m Q vi vn vk R hF M hQ
def Src.nm (x:Src):List Nat:=if x.name=[]then x.table else x.name
def cG.tb (s:cG)(x:Src):bR:=(s.named x.table).1
def vv (l:List Src)(i:Nat):Src:=l.getD i ⟨[],[],.mk 0 ⟨0,0,[]⟩ [] [] 0 []⟩
theorem te {l:List Src}{i:Nat}(h:i<l.length):vv l i=l[i]:=by simp[vv,h]
def kR (s:cG)(l:List Src):Nat->Int->Int
 |0,err=>err
 |i+1,err=>keep (keep (kR s l i err) 200 (!(s.named (vv l i).table).2)) 205 (decide ((vv l i).nm∈(l.take i).map Src.nm))
structure SrM (H0:Hp)(n p o:Nat)(s:cG)(q:bG)(kind:Int)(e:Int)(i:Nat)(vn vt:AV)(K:Hp)(m:Nat):Prop where
 hm:n+2<=m
 tp:dm K m
 kf:∀b,b<n->b≠p->b≠o->K.get b=H0.get b
 kp:K.get p=some (fP s e)
 kn:K.get n=aN 15 q.cells
 ks:K.get (n+1)=aN 2 [vn,vt]
 ko:K.get o=aN 25 (oY kind)
 on:aD K m vn (dz.l ((q.ar.take i).map Src.nm)) i 1
 ot:aD K m vt (aM.l ((q.ar.take i).map s.tb)) i 4
 dn:∀b,blk vn=some b->n+2<=b/\blk vt≠some b
 dt:∀b,blk vt=some b->n+2<=b
structure SrF (n p o:Nat)(q:bG)(i:Nat)(F:Fr):Prop where
 f0:F.get 0=some (.ptr p 0)
 f2:F.get 2=some (.ptr o 0)
 f4:F.get 4=some (.ptr n 0)
 f6:F.get 6=some (.ptr (n+1) 0)
 f17:F.get 17=some (ju.ds q.ar)
 f18:F.get 18=some (zI (q.ar.length:Int))
 f19:F.get 19=some (zI (i:Int))
theorem SrM.next {H0:Hp}{n p o:Nat}{s:cG}{q:bG}{kind e:Int}{i:Nat}{vn vt:AV}{K:Hp}{m:Nat}(M:SrM H0 n p o s q kind e i vn vt K m)(hpn:p<n)(hon:o<n)(hpo:p≠o){K':Hp}{m':Nat}{e':Int}(hm:m<=m')(ht:dm K' m')(hk:∀b,b<m->b≠p->K'.get b=K.get b)(hp:K'.get p=some (fP s e')):SrM H0 n p o s q kind e' i vn vt K' m':=by
 have hm0:=M.hm
 exact⟨ah,ht,λ b h1 h2 h3=>(hk b ah h2).trans (M.kf b h1 h2 h3),hp,(hk n ah ah).trans M.kn,(hk (n+1) ah ah).trans M.ks,(hk o ah ah).trans M.ko,
  M.on.frame hm λ b hb=>hk b (M.on.db hb) (by have:=(M.dn b hb).1;omega),M.ot.frame hm λ b hb=>hk b (M.ot.db hb) (by have:=M.dt b hb;omega),M.dn,M.dt⟩
theorem W9 (n p o:Nat)(hpn:p<n)(hon:o<n)(_hpo:p≠o)(H0:Hp)(s:cG)(q:bG)(kind e:Int)(i:Nat)(hlt:i<q.ar.length)(hlim:i<aU)(a:Nat)
  (F:Fr)(K:Hp)(m:Nat)(Q:QA)(vn vt:AV)(hF:SrF n p o q i F)(f9:F.get 9=some (.ptr a 0))(f10:F.get 10=some (.str q.ar[i].nm))(ha:K.get a=aN 4 (aM.cells (s.tb q.ar[i])))(han:n+2<=a)(hav:blk vn≠some a)(M:SrM H0 n p o s q kind e i vn vt K m)
  (hQ:∀vn vt F K m,SrF n p o q i F->SrM H0 n p o s q kind e (i+1) vn vt K m->Q .normal F K m []):VC pG Es F K m [] Q:=by
 unfold aU at hlim;obtain⟨f0,f2,f4,f6,f17,f18,f19⟩:=hF;have hm:=M.hm;have ks:=M.ks;have t0:=M.tp;have hvn:∀b,blk vn=some b->b<m:=λ b h=>M.on.db h;have hvt:∀b,blk vt=some b->b<m:=λ b h=>M.ot.db h;have Hm:∀b,b<n+2->blk vn≠some b:=λ b h1 h2=>by have:=(M.dn b h2).1;omega
 have nvt:∀b,b<n+2->blk vt≠some b:=λ b h1 h2=>by have:=M.dt b h2;omega
 have ntn:∀b,blk vt=some b->blk vn≠some b:=λ b h1 h2=>(M.dn b h2).2 h1;have ham:=M.tp.lt ha;simp only[Es,nG];refine bF.of (bq (P:=pG)) ?_;have tm:=t0 m (aL _);simp[ae,f6,f10,ks,bX,cS,tm];generalize hK1:Tr.put K m _=K1;have g1:∀b,b<m->K1.get b=K.get b:=λ b hb=>by rw[<-hK1];simp[jz hb]
 have x1:K1.get m=aN 1 [.str q.ar[i].nm]:=by rw[<-hK1];simp
 have t1:dm K1 (m+1):=λ b hb=>by
  have e1:¬b=m:=ah;rw[<-hK1];simp[e1,t0 b ah]
 clear hK1;have on1:aD K1 (m+1) vn (dz.l ((q.ar.take i).map Src.nm)) i 1:=M.on.frame ah λ b hb=>g1 b (hvn b hb);refine aD.zx (k:=1) (new:=[.str q.ar[i].nm]) on1 (bu x1) ai ai ah ah (by unfold big;omega) ah ai λ K2 o2 g2=>?_;have g2':∀b,b≠m+1->blk vn≠some b->K2.get b=K1.get b:=λ b h1 h2=>g2 b h1 λ e=>h2 (by rw[e];rfl);clear g2;have t2:dm K2 (m+1+1):=λ b hb=>(g2' b ah λ h=>by have:=hvn b h;omega).trans (t1 b ah);have ks2:=(g2' (n+1) ah (Hm _ ah)).trans ((g1 (n+1) ah).trans ks);have ha2:=(g2' a ah hav).trans ((g1 a ham).trans ha);have tm2:=t2 (m+1+1) (aL _);have ajK:=t0 (m+1+1) ah;simp[ae,f6,f9,ks,ks2,ha,ha2,bX,cS,tm2,ajK];generalize hK3:Tr.put K2 (m+1+1) _=K3;have g3:∀b,b<m+1+1->K3.get b=K2.get b:=λ b hb=>by rw[<-hK3];simp[jz hb]
 have x3:K3.get (m+1+1)=aN 4 (aM.cells (s.tb q.ar[i])):=by rw[<-hK3];simp
 have t3:dm K3 (m+1+1+1):=λ b hb=>by
  have e1:¬b=m+1+1:=ah;rw[<-hK3];simp[e1,t2 b ah]
 clear hK3;have ot3:aD K3 (m+1+1+1) vt (aM.l ((q.ar.take i).map s.tb)) i 4:=M.ot.frame ah λ b hb=>(g3 b (by have:=hvt b hb;omega)).trans ((g2' b (by have:=hvt b hb;omega) (ntn b hb)).trans (g1 b (hvt b hb)));refine aD.zx (k:=1) (new:=aM.cells (s.tb q.ar[i])) ot3 (bu x3) ai ai ah ah (by unfold big;omega) ah ai λ K4 o4 g4=>?_;have g4':∀b,b≠m+1+1+1->blk vt≠some b->K4.get b=K3.get b:=λ b h1 h2=>g4 b h1 λ e=>h2 (by rw[e];rfl);clear g4;have ks4:=(g4' (n+1) ah (nvt _ ah)).trans ((g3 (n+1) ah).trans ks2);simp[ae,f6,ks4];generalize hK9:Tr.put (Tr.put K4 (n+1) _) (n+1) _=K9;have g9:∀b,b≠n+1->K9.get b=K4.get b:=λ b hb=>by rw[<-hK9];simp[hb]
 have s9:K9.get (n+1)=aN 2 [.sl (m+1) 0 (i+1) 1,.sl (m+1+1+1) 0 (i+1) 4]:=by rw[<-hK9];simp
 clear hK9;have Qz:∀b,b<m->b≠n+1->blk vn≠some b->blk vt≠some b->K9.get b=K.get b:=λ b h1 h2 h3 h4=>(g9 b h2).trans ((g4' b ah h4).trans ((g3 b ah).trans ((g2' b ah h3).trans (g1 b h1))));have etk:q.ar.take (i+1)=q.ar.take i++[q.ar[i]]:=by rw[take_add_one,cY hlt];rfl
 refine hQ (.sl (m+1) 0 (i+1) 1) (.sl (m+1+1+1) 0 (i+1) 4) _ K9 _ ⟨by simp[ae,f0],by simp[ae,f2],by simp[ae,f4],by simp[ae,f6],by simp[ae,f17],by simp[ae,f18],by simp[ae,f19]⟩ ⟨ah,λ b hb=>?_,λ b h1 h2 h3=>?_,?_,?_,s9,?_,?_,?_,λ b hb=>by simp at hb;simp;omega,λ b hb=>by simp at hb;omega⟩
 ·exact(g9 b ah).trans ((g4' b ah λ h=>by have:=hvt b h;omega).trans (t3 b ah))
 ·exact(Qz b ah ah (Hm b ah) (nvt b ah)).trans (M.kf b h1 h2 h3)
 ·exact(Qz p ah ah (Hm p ah) (nvt p ah)).trans M.kp
 ·exact(Qz n ah ah (Hm n ah) (nvt n ah)).trans M.kn
 ·exact(Qz o ah ah (Hm o ah) (nvt o ah)).trans M.ko
 ·rw[etk,map_append,bf.fu];refine o2.frame ah λ b hb=>?_;simp at hb;subst hb;exact(g9 _ ah).trans ((g4' _ ah λ h=>by have:=hvt _ h;omega).trans (g3 _ ah))
 rw[etk,map_append,bf.fu,map_cons,map_nil,bf.tM];refine o4.frame ah λ b hb=>?_;simp at hb;subst hb;exact g9 _ ah
theorem Xn (n p o:Nat) (hpn:p<n) (hon:o<n) (hpo:p≠o) (H0:Hp) (s:cG) (hs:s.gA) (q:bG) (hlim:q.ar.length<=aU) (kind e0:Int)
  (F:Fr)(K:Hp)(m:Nat)(Q:QA)(vn vt:AV)(hF:SrF n p o q 0 F)(M:SrM H0 n p o s q kind e0 0 vn vt K m)
  (hQ:∀vn vt F K m,SrF n p o q q.ar.length F->SrM H0 n p o s q kind (kR s q.ar q.ar.length e0) q.ar.length vn vt K m->Q .normal F K m []):aF Tv pG F K m [] (ig 0 Q):=by
 refine aF.of (λ g F K m ms=>∃(i:Nat) (vn vt:AV),g=q.ar.length - i/\i<=q.ar.length/\SrF n p o q i F/\SrM H0 n p o s q kind (kR s q.ar i e0) i vn vt K m/\ms=[]) q.ar.length ⟨0,vn,vt,ai,ah,hF,M,rfl⟩ ?_;clear hF M F K m vn vt;rintro g F K m ms ⟨i,vn,vt,rfl,hi,⟨f0,f2,f4,f6,f17,f18,f19⟩,M,rfl⟩;have hm:=M.hm
 by_cases hlt:i<q.ar.length
 ·have hxx:=ju.ix (ik:=.i64) hlt;have hld:=λ H=>ju.pT q.ar[i] (ju.l (q.ar.drop (i+1))) H;simp[Tv,f0,f17,f18,f19,hlt,hxx,hld,bf.av];generalize hK1:Tr.put _ m _=K1;have g1:∀b,b<m->K1.get b=K.get b:=λ b hb=>by rw[<-hK1];simp[jz hb]
  have x1:K1.get m=aN 10 (ju.cells q.ar[i]):=by rw[<-hK1];simp
  have t1:dm K1 (m+1):=λ b hb=>by
   have e1:¬b=m:=ah;rw[<-hK1];simp[e1,M.tp b ah]
  clear hK1 hxx hld;rw[KA]at x1;simp[KA];have hvn:∀b,blk vn=some b->b<m:=λ b h=>M.on.db h;refine aB.ok (aeu s hs q.ar[i].table p _ K1 (m+1) ah ((g1 p ah).trans M.kp)) ?_;generalize hE1:keep (kR s q.ar i e0) 200 (!(s.named q.ar[i].table).2)=e1;have j2:∀b,b≠p->(K1.put p (some (fP s e1))).get b=K1.get b:=λ b hb=>by simp[hb]
  have jp:(K1.put p (some (fP s e1))).get p=some (fP s e1):=ai;generalize K1.put p (some (fP s e1))=K2 at j2 jp ⊢;have x2:=(j2 m ah).trans x1;simp[bf.av];generalize hK3:Tr.put _ (m+1) _=K3;have g3:∀b,b<m+1->K3.get b=K2.get b:=λ b hb=>by rw[<-hK3];simp[jz hb]
  have x3:K3.get (m+1)=aN 4 (aM.cells (s.tb q.ar[i])):=by rw[<-hK3];simp[cG.tb]
  have t3:dm K3 (m+1+1):=λ b hb=>by
   have e1:¬b=m+1:=ah;rw[<-hK3];simp[e1,j2 b ah,t1 b ah]
  clear hK3;have y3:=(g3 m ah).trans x2;have M3:=M.next hpn hon hpo (m':=m+1+1) ah t3 (λ b h1 h2=>(g3 b ah).trans ((j2 b h2).trans (g1 b h1))) ((g3 p ah).trans jp);have hct:=KH ((q.ar.take i).map Src.nm) q.ar[i].nm (by simp;omega)
  have hfz:fj K3.get vn (dz.ds ((q.ar.take i).map Src.nm)):=by
   have:=M3.on.nz (bp.pure (dz.rX _)) ah
   have e:dz.ds ((q.ar.take i).map Src.nm)=.ds (dz.l ((q.ar.take i).map Src.nm)) i 1:=by
    rw[bf.ds];simp;omega
   rw[e];exact this
  have fin:∀F4:Fr,SrF n p o q i F4->F4.get 9=some (.ptr (m+1) 0)->F4.get 10=some (.str q.ar[i].nm)->VC pG (aam.seq Es) F4 K3 (m+1+1) [] (ig 1 (nj pG LD (zE (λ g F K m ms=>∃(i:Nat) (vn vt:AV),g=q.ar.length - i/\i<=q.ar.length/\SrF n p o q i F/\SrM H0 n p o s q kind (kR s q.ar i e0) i vn vt K m/\ms=[]) (q.ar.length - i) (ig 0 Q)))):=by
   intro F4 ⟨w0,w2,w4,w6,w17,w18,w19⟩ w9 w10;have ks3:=M3.ks;simp[aam,w0,w6,w10,ks3];refine aB.nz hct ai (.cons _ _ _ _ hfz (.cons _ _ _ _ fp .nil)) ?_;simp;refine aB.ok (yT p s e1 205 _ K3 _ ah M3.kp) ?_
   have hee:kR s q.ar (i+1) e0=keep e1 205 (decide (q.ar[i].nm∈(q.ar.map Src.nm).take i)):=by
    rw[kR,te hlt,hE1,map_take]
   rw[<-hee];have j4:∀b,b≠p->(K3.put p (some (fP s (kR s q.ar (i+1) e0)))).get b=K3.get b:=λ b hb=>by simp[hb]
   have jp4:(K3.put p (some (fP s (kR s q.ar (i+1) e0)))).get p=some (fP s (kR s q.ar (i+1) e0)):=ai;generalize K3.put p (some (fP s (kR s q.ar (i+1) e0)))=K4 at j4 jp4 ⊢;have M4:=M3.next hpn hon hpo (aL _) (λ b hb=>(j4 b ah).trans (t3 b hb)) (λ b h1 h2=>j4 b h2) jp4;refine W9 n p o hpn hon hpo H0 s q kind _ i hlt ah (m+1) _ K4 (m+1+1) _ vn vt ⟨by simp[w0],by simp[w2],by simp[w4],by simp[w6],by simp[w17],by simp[w18],by simp[w19]⟩ (by simp[w9]) (by simp[w10]) ((j4 _ ah).trans x3) ah (λ h=>by have:=hvn _ h;omega) M4 λ vn' vt' F5 K5 m5 S5 M5=>?_;have axt:=S5.f19;unfold aU at hlim;simp[LD,axt,aE i ah];exact⟨_,ah,i+1,rfl,hlt,⟨by simp[S5.f0],by simp[S5.f2],by simp[S5.f4],by simp[S5.f6],by simp[S5.f17],by simp[S5.f18],ai⟩,vn',vt',M5⟩
  simp[ain,y3]
  by_cases hnm:q.ar[i].name=[]
  ·simp[aan,y3,hnm];generalize Jg:(Fp 31 _ _:Fr)=F5;have:=fin F5 (by rw[<-Jg];exact⟨by simp[f0],by simp[f2],by simp[f4],by simp[f6],by simp[f17],by simp[f18],by simp[f19]⟩) (by rw[<-Jg];simp) (by rw[<-Jg];simp[Src.nm,hnm]);simpa using this
  simp[aan,aim,y3,hnm];generalize Jg:(Fp 10 _ _:Fr)=F5;have:=fin F5 (by rw[<-Jg];exact⟨by simp[f0],by simp[f2],by simp[f4],by simp[f6],by simp[f17],by simp[f18],by simp[f19]⟩) (by rw[<-Jg];simp) (by rw[<-Jg];simp[Src.nm,hnm]);simpa using this
 have hje:i=q.ar.length:=ah;subst hje;simp[Tv,f18,f19];exact hQ vn vt _ K m ⟨by simp[f0],by simp[f2],by simp[f4],by simp[f6],by simp[f17],by simp[f18],by simp[f19]⟩ M
def rp (ns:List (List Nat))(ts:List bR)(l:List Src):Nat->Int->List (List Ex)×Int
 |0,err=>([],err)
 |i+1,err=>((rp ns ts l i err).1++[(ew (ns.take (i+1)) (ts.take (i+1)) (vv l i).cond (rp ns ts l i err).2).1],(ew (ns.take (i+1)) (ts.take (i+1)) (vv l i).cond (rp ns ts l i err).2).2)
theorem Dw (ns:List (List Nat))(ts:List bR)(l:List Src)(err:Int):∀i,(rp ns ts l i err).1.length=i
 |0=>rfl
 |i+1=>by simp[rp,Dw ns ts l err i]
structure QyM (H0:Hp)(n p o:Nat)(s:cG)(ns:List (List Nat))(ts:List bR)(q:bG)(e:Int)(K:Hp)(m:Nat):Prop where
 hm:n+2<=m
 tp:dm K m
 kf:∀b,b<n->b≠p->b≠o->K.get b=H0.get b
 kp:K.get p=some (fP s e)
 kn:K.get n=aN 15 q.cells
 ks:K.get (n+1)=aN 2 (oN ns ts)
theorem QyM.next {H0:Hp}{n p o:Nat}{s:cG}{ns:List (List Nat)}{ts:List bR}{q:bG}{e:Int}{K:Hp}{m:Nat}(M:QyM H0 n p o s ns ts q e K m)(hpn:p<n)(hon:o<n){K':Hp}{m':Nat}{e':Int}(hm:m<=m')(ht:dm K' m')(hk:∀b,b<n+2->b≠p->b≠o->K'.get b=K.get b)(hp:K'.get p=some (fP s e')):QyM H0 n p o s ns ts q e' K' m':=by
 have hm0:=M.hm;exact⟨ah,ht,λ b h1 h2 h3=>(hk b ah h2 h3).trans (M.kf b h1 h2 h3),hp,(hk n ah ah ah).trans M.kn,(hk (n+1) ah ah ah).trans M.ks⟩
structure OnF (n p o:Nat)(q:bG)(i:Nat)(F:Fr):Prop where
 f0:F.get 0=some (.ptr p 0)
 f2:F.get 2=some (.ptr o 0)
 f4:F.get 4=some (.ptr n 0)
 f6:F.get 6=some (.ptr (n+1) 0)
 f64:F.get 64=some (ju.ds q.ar)
 f65:F.get 65=some (zI (q.ar.length:Int))
 f66:F.get 66=some (zI (i:Int))
def JF (kind:Int)(ts:List bR)(on:AV):List AV:=jE kind (aM.ds ts) on (.aV (.slice none 0 0)) (.aV (.slice none 0 0)) (.aV (.slice none 0 0)) (.aV (.slice none 0 0)) (.aV (.slice none 0 0)) false false 0
structure OnM (H0:Hp)(n p o:Nat)(s:cG)(ns:List (List Nat))(ts:List bR)(q:bG)(kind:Int)(e:Int)(i:Nat)(L:List (List Ex))(va:AV)(K:Hp)(m:Nat):Prop where
 mem:QyM H0 n p o s ns ts q e K m
 ko:K.get o=aN 25 (JF kind ts va)
 oa:aD K m va (pe.l L) i 1
 da:∀b,blk va=some b->n+2<=b
theorem Xm (n p o:Nat)(hpn:p<n)(hon:o<n)(hpo:p≠o)(H0:Hp)(s:cG)(ns:List (List Nat))(ts:List bR)(hn:ns.length=ts.length)(hl:(aI ts).length<=aU)(ht:ts.length<=aU)(hcl:∀t∈ts,t.cols.length<=aU)(q:bG)(hlen:q.ar.length=ts.length)(hz:∀x∈q.ar,C25 x.cond)(kind e0:Int)
  (F:Fr)(K:Hp)(m:Nat)(Q:QA)(I0:Zs (λ g F K m ms=>∃va,g=q.ar.length/\OnF n p o q 0 F/\OnM H0 n p o s ns ts q kind e0 0 [] va K m/\ms=[]) q.ar.length F K m [])
  (hQ:∀va F K m,OnF n p o q q.ar.length F->OnM H0 n p o s ns ts q kind (rp ns ts q.ar q.ar.length e0).2 q.ar.length (rp ns ts q.ar q.ar.length e0).1 va K m->Q .normal F K m []):aF Tu pG F K m [] (ig 2 Q):=by
 have htl:=ht;unfold aU at ht;refine aF.ofZ (λ g F K m ms=>∃(i:Nat) (va:AV),g=q.ar.length - i/\i<=q.ar.length/\OnF n p o q i F/\OnM H0 n p o s ns ts q kind (rp ns ts q.ar i e0).2 i (rp ns ts q.ar i e0).1 va K m/\ms=[]) q.ar.length ?_ ?_
 ·obtain⟨h,F2,K2,h1,va,_,h3,h4,h5⟩:=I0;exact⟨h,F2,K2,h1,0,va,ai,ah,h3,by simpa[rp]using h4,h5⟩
 clear I0 F K m;rintro g F K m ms ⟨i,va,rfl,hi,⟨f0,f2,f4,f6,f64,f65,f66⟩,M,rfl⟩;have hm:=M.mem.hm
 by_cases hlt:i<q.ar.length
 ·have hxx:=ju.ix (ik:=.i64) hlt;have hld:=λ H=>ju.pT q.ar[i] (ju.l (q.ar.drop (i+1))) H;have hz1:=hz _ (dy hlt);simp[Tu,f64,f65,f66,hlt,hxx,hld,bf.av];generalize hK1:Tr.put _ m _=K1;have g1:∀b,b<m->K1.get b=K.get b:=λ b hb=>by rw[<-hK1];simp[jz hb]
  have x1:K1.get m=aN 10 (ju.cells q.ar[i]):=by rw[<-hK1];simp
  have t1:dm K1 (m+1):=λ b hb=>by
   have e1:¬b=m:=ah;rw[<-hK1];simp[e1,M.mem.tp b ah]
  clear hK1 hxx hld;have hva:∀b,blk va=some b->b<m:=λ b h=>M.oa.db h;have nva:∀b,b<n+2->blk va≠some b:=λ b h1 h2=>by have:=M.da b h2;omega
  have ks1:=(g1 (n+1) ah).trans M.mem.ks;have ko1:=(g1 o ah).trans M.ko;simp only[oN]at ks1;simp only[JF,jE]at ko1
  have hsl1:jW 1 none (some (zI ((i:Int)+1))) none (dz.ds ns)=.val (dz.ds (ns.take (i+1))):=by
   have:=dz.TV (l:=ns) (i:=i+1) ah;simpa using this
  have hsl2:jW 4 none (some (zI ((i:Int)+1))) none (aM.ds ts)=.val (aM.ds (ts.take (i+1))):=by
   have:=aM.TV (l:=ts) (i:=i+1) ah;simpa using this
  have hkl:=qF ts (i+1);have hcd:=hz1 (ns.take (i+1)) (ts.take (i+1)) (by simp;omega) ah (by simp;omega) (λ t h=>hcl t (mem_of_mem_take h)) s p (rp ns ts q.ar i e0).2 K1 (m+1) ah ((g1 p ah).trans M.mem.kp);have hav:q.ar[i].cond.av=.agg q.ar[i].cond.cells 8:=Eq.trans rfl rfl;rw[hav]at hcd
  have afM:rp ns ts q.ar (i+1) e0=((rp ns ts q.ar i e0).1++[(ew (ns.take (i+1)) (ts.take (i+1)) q.ar[i].cond (rp ns ts q.ar i e0).2).1],(ew (ns.take (i+1)) (ts.take (i+1)) q.ar[i].cond (rp ns ts q.ar i e0).2).2):=by
   rw[rp,te hlt]
  generalize ew (ns.take (i+1)) (ts.take (i+1)) q.ar[i].cond (rp ns ts q.ar i e0).2=cd at hcd afM;obtain⟨cl,ce⟩:=cd;simp only[oN]at hcd;simp only at hcd afM;simp only[aat,nG];refine bF.of (KT (l:=[⟨53,[.ptr p 0,.agg [dz.ds (ns.take (i+1)),aM.ds (ts.take (i+1))] 2,.agg q.ar[i].cond.cells 8],K1,m+1,jc.ds cl,K1.put p (some (fP s ce)),m+1⟩]) ?_) ?_
  ·simp only[mem_cons,not_mem_nil,or_false];rintro c rfl;exact hcd
  have aww:take 8 q.ar[i].cond.cells=q.ar[i].cond.cells:=fZ ai;rw[KA]at x1;simp[ae,f0,f2,f6,ks1,x1,aE i ah,hsl1,hsl2,aww,zj];have op:(o=p)=False:=by simp[Ne.symm hpo]
  have n1:=t1 (m+1) (aL _);have n2:(K1.put p (some (fP s ce))).get (m+1)=none:=by simp[show ¬m+1=p by omega,n1]
  have j2:∀b,b≠p->(K1.put p (some (fP s ce))).get b=K1.get b:=λ b hb=>by simp[hb]
  have jp:(K1.put p (some (fP s ce))).get p=some (fP s ce):=ai;have ko2:=(j2 o ah).trans ko1;simp[op,ko1];generalize K1.put p (some (fP s ce))=K2 at n2 j2 jp ko2 ⊢;simp[bX,cS,n1,n2];generalize hK3:Tr.put K2 (m+1) _=K3;have g3:∀b,b<m+1->K3.get b=K2.get b:=λ b hb=>by rw[<-hK3];simp[jz hb]
  have x3:K3.get (m+1)=aN 1 [jc.ds cl]:=by rw[<-hK3];simp
  have t3:dm K3 (m+1+1):=λ b hb=>by
   have e1:¬b=m+1:=ah;rw[<-hK3];simp[e1,j2 b ah,t1 b ah]
  clear hK3;have bk3:∀b,b<m->b≠p->K3.get b=K.get b:=λ b h1 h2=>(g3 b ah).trans ((j2 b h2).trans (g1 b h1));have oa3:aD K3 (m+1+1) va (pe.l (rp ns ts q.ar i e0).1) i 1:=M.oa.frame ah λ b hb=>bk3 b (hva b hb) (by have:=M.da b hb;omega);refine aD.zx (k:=1) (new:=[jc.ds cl]) oa3 (bu x3) ai ai ah ah (by unfold big;omega) ah ai λ K4 o4 g4=>?_;have g4':∀b,b≠m+1+1->blk va≠some b->K4.get b=K3.get b:=λ b h1 h2=>g4 b h1 λ e=>h2 (by rw[e];rfl);clear g4;have ko4:=(g4' o ah (nva o ah)).trans ((g3 o ah).trans ko2);simp[ae,f2,ko4];generalize hK5:Tr.put K4 o _=K5;have g5:∀b,b≠o->K5.get b=K4.get b:=λ b hb=>by rw[<-hK5];simp[hb]
  have o5:K5.get o=aN 25 (JF kind ts (.sl (m+1+1) 0 (i+1) 1)):=by rw[<-hK5];simp[JF,jE]
  clear hK5;simp[aas,ae,f66,aE i ah];refine⟨q.ar.length - (i+1),ah,Zs.refl ⟨i+1,rfl,hlt,⟨by simp[ae,f0],by simp[ae,f2],by simp[ae,f4],by simp[ae,f6],by simp[ae,f64],by simp[ae,f65],ai⟩,⟨.sl (m+1+1) 0 (i+1) 1,M.mem.next hpn hon ah (λ b hb=>?_) (λ b h1 h2 h3=>?_) ?_,o5,?_,λ b hb=>by simp at hb;omega⟩,rfl⟩⟩
  ·exact(g5 b ah).trans ((g4' b ah λ h=>by have:=hva b h;omega).trans (t3 b ah))
  ·exact(g5 b h3).trans ((g4' b ah (nva b h1)).trans (bk3 b ah h2))
  ·rw[afM];exact(g5 p ah).trans ((g4' p ah (nva p ah)).trans ((g3 p ah).trans jp))
  rw[afM,bf.fu,bf.tM,alQ];refine o4.frame ah λ b hb=>?_;simp at hb;subst hb;exact g5 _ ah
 have hje:i=q.ar.length:=ah;subst hje;simp[Tu,f65,f66];exact hQ va _ K m ⟨by simp[f0],by simp[f2],by simp[f4],by simp[f6],by simp[f64],by simp[f65],by simp[f66]⟩ M
end Go.Abs
