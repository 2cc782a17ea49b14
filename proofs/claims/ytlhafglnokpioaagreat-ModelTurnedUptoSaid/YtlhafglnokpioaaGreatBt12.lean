/- A part. -/
import Derived.Test.YtlhafglnokpioaaGreatBt11
noncomputable section
namespace Go.Abs
open List
open Go.Proofs
open Classical
set_option maxRecDepth 100000
def uF (w:pe)(iR:List bK):List (List (List Val)):=iR.map λ t=>w.rows.getD (D9 w.aL t.id).toNat []
structure ai_ (w:pe)(b:oH)(J:Nat):Prop where
 fl:b.iR.length=J
 f100:b.iR.length<=100
 ol:b.on.length=b.iR.length
 os:∀l∈b.on,l.length<=aU/\∀e∈l,e.sz<=aU
 wl:b.cond.length<=aU
 ws:∀e∈b.cond,e.sz<=aU
 il:b.items.length<=aU
 is:∀e∈b.items,e.sz<=aU
 nl:b.names.length<=aU
 kl:b.kinds.length<=aU
 ord:b.order=[]
 mD:b.mD=false
 avL:b.limited=false
 ix:∀t∈b.iR,∃k,k<w.rows.length/\D9 w.aL t.id=(k:Int)
 ts:∀L∈w.rows,L.length<=100000/\∀r∈L,r≠[]/\r.length<=1000
def sY (w:pe)(b:oH)(J:Nat):uo:=jJ b.on (uF w b.iR) b.cond b.items J
theorem ajw {w:pe}(hw:w.gG){b:oH}{J:Nat}(q:ai_ w b J){V:Nat->AV}{RC:List AV}(hV:Zu w b V RC):amu 67 (dC (aH.ds w.aL.tables) (bp.ds w.aL.indexes) nS b nS nS nS 0) V RC (tG (sY w b J))
  (λ r W=>dC (aH.ds w.aL.tables) (bp.ds w.aL.indexes) (V r) b (dy.ds b.names) (dA.ds b.kinds) W 0) (aJ (oK (sY w b J).rows)) (sY w b J).rows.length:=by
 intro H n p r hp hr hpr ht;have hset:(dC (aH.ds w.aL.tables) (bp.ds w.aL.indexes) nS b nS nS nS 0).set 2 (V r)=dC (aH.ds w.aL.tables) (bp.ds w.aL.indexes) (V r) b nS nS nS 0:=rfl;rw[hset]at hp;have hD:((dC (aH.ds w.aL.tables) (bp.ds w.aL.indexes) (V r) b nS nS nS 0).set 28 (dy.ds b.names)).set 29 (dA.ds b.kinds)=dC (aH.ds w.aL.tables) (bp.ds w.aL.indexes) (V r) b (dy.ds b.names) (dA.ds b.kinds) nS 0:=rfl
 have hV0:0<b.iR.length->RC=w.rows.map dN/\V r=.sl r 0 RC.length 1:=λ h=>by
  obtain⟨k,hk,_⟩:=q.ix _ (dw h)
  rcases hV with⟨h1,h2,h3⟩|⟨h1,_,_⟩
  ·exact⟨h2,by rw[h3,h2,length_map]⟩
  rw[h1]at hk;simp at hk
 have hVr:iK n (V r):=by
  have hn:=ht.lt hr
  rcases hV with⟨_,_,h3⟩|⟨_,_,h3⟩
  ·rw[h3];simp[iK];exact hn
  rw[h3];exact(show Pure nS by simp).jU
 obtain⟨X,hX⟩:∃X:oD,X=⟨w.aL,b.iR,b.on,uF w b.iR,RC,p,0,r,dC (aH.ds w.aL.tables) (bp.ds w.aL.indexes) (V r) b (dy.ds b.names) (dA.ds b.kinds) nS 0⟩:=⟨_,rfl⟩
 have ok0:∀y,(X.at y).ok:=λ y=>by
  subst hX;refine⟨hw.s.t,q.f100,q.ol,by simp[oD.at,uF],rfl,rfl,λ j h=>?_,q.os,λ t ht=>?_⟩
  ·obtain⟨k,hk,e⟩:=q.ix _ (dw h);obtain⟨rfl,_⟩:=hV0 (by have:j<b.iR.length:=h;omega);refine⟨k,by simpa[oD.at]using hk,e,?_⟩;simp only[oD.at,uF,getElem_map]at h e ⊢;rw[e];simp[getD,hk]
  simp only[oD.at,uF,mem_map]at ht;obtain⟨t',ht',rfl⟩:=ht;obtain⟨k,hk,e⟩:=q.ix _ ht';rw[e];simp only[Int.toNat_natCast,getD,cX hk,Option.getD_some];exact q.ts _ (dw hk)
 have qd0:∀y,QD (X.at y) b.cond b.items:=λ y=>by
  subst hX;exact⟨rfl,λ h=>by show some (V r)=_;rw[(hV0 h).2];rfl,rfl,rfl,rfl,q.wl,q.ws,q.il,q.is⟩
 have hrun:jJ X.on X.tabs b.cond b.items J=sY w b J:=by subst hX;rfl
 have hpX:H.get X.p=aR 32 (dC (aH.ds w.aL.tables) (bp.ds w.aL.indexes) (V r) b nS nS nS 0):=by rw[hX];exact hp
 have hRC:H.get X.r=some (.cells X.RC.length [] X.RC .nil):=by rw[hX];exact hr
 have hXr:X.p≠X.r:=by rw[hX];exact hpr
 have hrl:dJ n (dC (aH.ds w.aL.tables) (bp.ds w.aL.indexes) (V r) b nS nS nS 0):=by
  refine dJ.of λ x hx=>?_;unfold dC at hx;simp only[mem_cons,mem_append,not_mem_nil,or_false]at hx;have hb:∀x∈b.cells,iK n x:=λ x hx=>(b.pure.mem x hx).jU
  rcases hx with rfl|rfl|rfl|hx|rfl|rfl|rfl|rfl
  ·exact(show Pure _ by simp).jU
  ·exact(show Pure _ by simp).jU
  ·exact hVr
  ·exact hb x hx
  ·exact(show Pure nS by simp).jU
  ·exact(show Pure nS by simp).jU
  ·exact(show Pure nS by simp).jU
  exact(show Pure _ by simp).jU
 have HD:bm (JZ.ds b.order)=.val (zI 0):=by rw[q.ord];rfl
 have:=WM (X0:=X) (w:=b.cond) (it:=b.items) (J:=J) (H:=H) (n:=n) (names:=b.names) (kinds:=b.kinds) (D:=dC (aH.ds w.aL.tables) (bp.ds w.aL.indexes) (V r) b nS nS nS 0) ok0 qd0 (by rw[hX];exact q.fl) (by rw[hX,hD]) q.nl q.kl rfl rfl rfl (v24:=JZ.ds b.order) rfl HD (by show some (AV.bool b.mD)=_;rw[q.mD]) (by show some (AV.bool b.limited)=_;rw[q.avL]) rfl hpX hRC hXr hrl ht ?_
 ·rw[hrun]at this;rw[hX]at this;refine this.mono λ u K k ⟨hu,hy,hf,hk⟩=>⟨hu,λ he=>?_,hf,hk⟩;obtain⟨y,v,g1,g2,g3,g4⟩:=hy he;exact⟨v,y,g1,by simpa[dC,oH.cells]using g2,g3,g4⟩
 intro _ _ rr hrr;obtain⟨h1,h2⟩:=tD _ _ _ _ _ rr hrr;exact⟨h1,by rw[h2];exact q.il⟩
end Go.Abs
namespace Go.Abs
open List
open Go.Proofs
open Classical
set_option maxRecDepth 100000
section
variable {S:Type}
end
end Go.Abs
namespace Go.Abs
open List
open Go.Proofs
open Classical
set_option maxRecDepth 100000
theorem X4 {e a:Int}{b:Bool}(h:keep e a b=0):e=0:=Classical.byContradiction λ hn=>hn (by rw[afu hn]at h;exact h)
def eO (q:bI):dE:={dE.z 8 with q:=q}
def onQ (s:cn)(q:bI):List (List Ex)×Int:=qB (q.ao.map Src.nm) (q.ao.map s.tb) q.ao q.ao.length 0
def Uy (s:cn)(q:bI):List Ex×List (List Nat)×List Int×Int:=cg (q.ao.map Src.nm) (q.ao.map s.tb) q (onQ s q).2
def j9 (s:cn)(q:bI)(L:List Ex):oH:={kind:=8,iR:=q.ao.map s.tb,on:=(onQ s q).1,items:=(Uy s q).1,names:=(Uy s q).2.1,kinds:=(Uy s q).2.2.1,cond:=L,mD:=q.mD,limited:=q.limited,limit:=q.limit}
def cdQ (s:cn)(q:bI)(e:Ex):List Ex×Int:=dU (q.ao.map Src.nm) (q.ao.map s.tb) e (Uy s q).2.2.2
theorem AU {s:cn}{q:bI}(ho:q.order=[])(h:kH s q.ao q.ao.length 0=0):fQ s q 8 0=(j9 s q (cdQ s q q.cond).1,(cdQ s q q.cond).2):=by
 unfold fQ;rw[ai (by simpa using h),ho];rfl
theorem Jm {s:cn}{q:bI}(h:(fQ s q 8 0).2=0):kH s q.ao q.ao.length 0=0:=by
 unfold fQ at h
 split at h
 ·exact h
 rename_i hn;exact not_not.1 hn
theorem Ex.XM {e:Ex}(h:e.may=true):e.op≠0:=by
 obtain⟨op,v,t,m,cG,args⟩:=e;unfold Ex.may at h;rintro rfl;simp at h
theorem xT (q:bI):(eO q).may=q.may:=by
 have hc:(eO q).cut=eO q:=rfl;have hb:wE.bare 0:=by simp[wE,Ex.bare]
 have hk:(eO q).ok=q.may:=rfl;unfold dE.may;rw[hc,hk]
 cases h:q.may with
 |false=>rfl
 |true =>
  have hm:q.cond.maybe=true:=by
   simp only[bI.may,dS]at h;exact h.1.1.1.1.1.1.1.1
  have:vW q.cond q.cond=true:=by
   unfold Ex.maybe at hm;simp only[Bool.or_eq_true,decide_eq_true_eq]at hm
   rcases hm with hm|hm
   ·simp[vW,hm]
   simp[vW,Ex.XM hm]
  have hz:vW wE wE=true:=by simp[vW,hb]
  simp[GK,eO,dE.z,this,hz]
structure qg (s:cn)(q:bI)(L:List Ex):Prop where
 so:eW s
 may:q.may=true
 src:kH s q.ao q.ao.length 0=0
 cd:cdQ s q q.cond=(L,0)
 eq:bN s (eO q)=(j9 s q L,0)
theorem qg.of {s:cn}{q:bI}(ho:q.order=[])(h:(bN s (eO q)).2=0):qg s q (cdQ s q q.cond).1:=by
 have hb:vZ s (eO q)=fQ s q 8 0:=rfl;unfold bN at h;rw[xT]at h
 split at h
 ·rename_i h1;rw[hb]at h;unfold Ag at h
  split at h
  ·rename_i h2;have hs:=Jm h2;have e:=AU ho hs;rw[e]at h2;have h2:(cdQ s q q.cond).2=0:=h2;refine⟨h1.1,h1.2,hs,by rw[<-h2],?_⟩;unfold bN Ag;rw[xT,aw h1,hb,e,aw h2,h2]
  rename_i h2;exact ar h h2
 simp at h
theorem VL {s:cn}{l:List Src}:∀n,kH s l n 0=0->∀i,i<n->(s.named (rz l i).table).2=true
 |0,_,i,hi=>ae
 |n + 1,h,i,hi=>by
  unfold kH at h;have h1:=X4 h;have h0:=X4 h1
  by_cases e:i=n
  ·subst e;rw[h0]at h1
   cases hb:(s.named (rz l i).table).2 with
   |true=>rfl
   |false=>rw[hb]at h1;simp[keep]at h1
  exact VL n h0 i ae
theorem yD {s:cn}{name:List Nat}(h:(s.named name).2=true):(s.named name).1∈s.tables:=by
 unfold cn.named fU at h ⊢
 split at h
 ·rename_i t ht;exact mem_of_find?_eq_some ht
 simp at h
theorem TF {e:Ex}(h:e.sz<=aU):e.split.length<=aU/\∀x∈e.split,x.sz<=aU:=by
 have h1:=(Ex.mP _ e (aK _)).1;exact⟨by have:=Ex.rK e.split;omega,λ x hx=>by have:=Ex.rJ hx;omega⟩
theorem BO {ns:List (List Nat)}{ts:List bK}{e:Ex}{err:Int}(h:e.sz<=aU):(dU ns ts e err).1.length<=aU/\∀x∈(dU ns ts e err).1,x.sz<=aU:=by
 unfold dU
 split
 ·simp
 exact TF (wo (Ex.P0 ns ts e err) h)
theorem OM {ns:List (List Nat)}{ts:List bK}{l:List Src}(h:∀y∈l,y.cond.sz<=aU):∀n err,n<=l.length->∀c∈(qB ns ts l n err).1,c.length<=aU/\∀e∈c,e.sz<=aU
 |0,err,_,c,hc=>by simp[qB]at hc
 |n + 1,err,hn,c,hc=>by
  unfold qB at hc
  rcases mem_append.1 hc with hc|hc
  ·exact OM h n err ae c hc
  rw[mi]at hc;subst hc;refine BO ?_;rw[tw ae];exact h _ (dw _)
theorem Dv {ns:List (List Nat)}{ts:List bK}:∀ {l:List zR}(err:Int),(∀y∈l,y.e.sz<=aU)->∀e∈(uP ns ts l err).1,e.sz<=aU
 |[],err,_,e,he=>by simp[uP]at he
 |x::r,err,h,e,he=>by
  unfold uP at he
  rcases mem_cons.1 he with rfl|he
  ·exact wo (Ex.P0 ns ts x.e err) (h x ah)
  exact Dv _ (λ y hy=>h y (by simp[hy])) e he
theorem qg.ok {w:pe}(ok:fW w) (hg:w.aL.nD){q:bI}{L:List Ex}(hx:(eO q).sm) (b:qg w.aL q L) (hd:q.mD=false) (hm:q.limited=false) (hL:L.length<=aU/\∀e∈L,e.sz<=aU):ai_ w (j9 w.aL q L) q.ao.length:=by
 have hq:=bI.Py b.so hx b.may;have hk:(aF (q.ao.map w.aL.tb)).length+q.items.length<=aU:=hq.k
 have h4:q.ao.length<=4:=by
  have:=b.may;simp only[bI.may,dS,decide_eq_true_eq]at this;exact this.1.1.1.1.1.1.1.2
 have jm:∀t∈q.ao.map w.aL.tb,t∈w.aL.tables:=λ t ht=>by
  obtain⟨y,hy,rfl⟩:=mem_map.1 ht;obtain⟨i,hi,rfl⟩:=getElem_of_mem hy;have:=VL _ b.src i hi;rw[tw hi]at this;exact yD this
 have hit:=O6 (q.ao.map Src.nm) (q.ao.map w.aL.tb) q.items;have hns:(namesT (q.ao.map w.aL.tb)).length=(aF (q.ao.map w.aL.tb)).length:=by simp[namesT,aF,bK.kinds,length_flatMap]
 have hI:(Uy w.aL q).1.length<=aU/\(∀e∈(Uy w.aL q).1,e.sz<=aU)/\(Uy w.aL q).2.1.length<=aU/\(Uy w.aL q).2.2.1.length<=aU:=by
  unfold Uy cg
  split
  ·simp only[length_append,hit,hns,u7,length_map];refine⟨hk,λ e he=>?_,hk,hk⟩
   rcases mem_append.1 he with he|he
   ·obtain⟨i,_,rfl⟩:=mem_map.1 he;simp[D4,Ex.sz,Ex.rL,aU]
   exact Dv _ (λ y hy=>hx.item y hy) e he
  simp only[hit,length_map];exact⟨ae,Dv _ λ y hy=>hx.item y hy,ae,ae⟩
 refine⟨by simp[j9],by simp[j9];omega,by simp[j9,onQ,Db],λ l hl=>OM hx.src _ _ (aK _) l hl,hL.1,hL.2,hI.1,hI.2.1,hI.2.2.1,hI.2.2.2,rfl,hd,hm,λ t ht=>?_,λ T hT=>?_⟩
 ·obtain⟨k,hk,_,e⟩:=b.so.at hg (jm t ht);exact⟨k,by rw[ok.l];exact hk,e⟩
 obtain⟨i,hi,rfl⟩:=getElem_of_mem hT;have hR:=ok.t i hi (by rw[<-ok.l];exact hi);refine⟨by have:=hR.len;omega,λ r hr=>?_⟩;obtain⟨_,_,h1,h2,_⟩:=qM (yS hR.fits r hr);exact⟨h1,ae⟩
end Go.Abs
namespace Go.Abs
open List
open Go.Proofs
set_option maxRecDepth 100000
open Classical
variable {α:Type}{C:Cm α}
structure Nd (C:Cm α)(H:Hp)(d:List α)(N:Nat):Prop where
 hd:Dt C H d
 J:C.J H
 l:d.length=N
 b:N<1000000
 c:∀i j (hi:i<d.length) (hj:j<d.length),i<j->C.El d[i]/\C.El d[j]/\¬C.c d[j] d[i]<0
theorem Nd.cmp {H:Hp}{d:List α}{N:Nat}(S:Nd C H d N){i j:Nat}(hij:i<j)(hj:j<N):∃x y,cE (.ptr C.bk j) H=.val (C.av y)/\cE (.ptr C.bk i) H=.val (C.av x)/\C.El y/\C.El x/\¬C.c y x<0/\cK 1 (.sl C.bk 0 N 1) (zI (j:Int))=.val (.ptr C.bk j)/\cK 1 (.sl C.bk 0 N 1) (zI (i:Int))=.val (.ptr C.bk i):=by
 have hl:=S.l;obtain⟨h1,h2,h3⟩:=S.c i j ae ae hij;exact⟨d[i]'ae,d[j]'ae,S.hd.ld ae,S.hd.ld ae,h2,h1,h3,bJ hj,bJ ae⟩
def Zw (g:Nat)(args:List AV)(H:Hp)(n:Nat):Prop:=ak pG g args H n (λ w K j=>w=.bo []/\K=H/\j=n)
theorem O8 (ho:C.Ok pG){H:Hp}{n:Nat}{d:List α}{N:Nat}(S:Nd C H d N){a b:Nat}(hbN:b<=N)(ha:a<=N):Zw 265 [.sl C.bk 0 N 1,zI (a:Int),zI (b:Int),C.fv] H n:=by
 refine ak.of c265 (by simp[A265]) λ F hF=>?_;have hb:=S.b;have w0:IntKind.i64.wrap ((a:Int)+1)=((a+1:Nat):Int):=by rw[aN _ ae ae];omega
 simp[A265,hF,w0];refine aE.of (λ t F' K n' ms=>∃e,t=b - e/\a<e/\F'.get 0=some (.sl C.bk 0 N 1)/\F'.get 1=some (zI (a:Int))/\F'.get 2=some (zI (b:Int))/\F'.get 3=some C.fv/\F'.get 8=some (zI (e:Int))/\H=K/\n=n'/\ms=[]) (b - (a+1)) ⟨a+1,rfl,ae,by simp[hF],by simp[hF],by simp[hF],by simp[hF],ah,rfl,rfl,rfl⟩ ?_;rintro t F1 K n' ms ⟨e,rfl,hae,f0,f1,f2,f3,f8,rfl,rfl,rfl⟩
 by_cases hlt:e<b
 ·obtain⟨x,y,l1,l2,hy,hx,hn,x1,x2⟩:=S.cmp (show e - 1<e by omega) ae;have w2:IntKind.i64.wrap ((e:Int) - 1)=((e - 1:Nat):Int):=by rw[aN _ ae ae];omega
  have w3:IntKind.i64.wrap ((e:Int)+1)=((e+1:Nat):Int):=by rw[aN _ ae ae];omega
  obtain⟨A,hA⟩:∃A,A=e - 1:=⟨_,rfl⟩;rw[<-hA]at w2 l2 x2;simp[vz,f8,f2,hlt];refine aE.XC 0 (fL.step ?_);simp[zM];refine bC.of (C.iY ho hy hx) ?_;simp[ab,f0,f1,f3,hae,Cm.fv,w2,x1,x2,l1,l2,Cm.ed S.J,hn,EC,f8,w3];exact⟨b - (e+1),ae,e+1,rfl,ae,f2,ae⟩
 simp[vz,f8,f2,hlt]
theorem VK (ho:C.Ok pG){H:Hp}{n:Nat}{d:List α}{N:Nat}(S:Nd C H d N){a m b mid nn st r:Nat}(h1:a<m) (h2:m<b) (h3:b<=N) (hm:2*mid<=a+b/\a+b<=2*mid+1) (hnn:nn=mid+m) (hc:(mid<m/\r=mid/\st+b=nn)∨(m<=mid/\r=m/\st=a)) (hab:a+2<b)
  (ih:∀a' m' b',b' - a'<b - a->a'<m'->m'<b'->b'<=N->Zw 266 [.sl C.bk 0 N 1,zI (a':Int),zI (m':Int),zI (b':Int),C.fv] H n)
  {F':Fr}(f0:F'.get 0=some (.sl C.bk 0 N 1)) (f1:F'.get 1=some (zI (a:Int))) (f2:F'.get 2=some (zI (m:Int))) (f3:F'.get 3=some (zI (b:Int))) (f4:F'.get 4=some C.fv) (f18:F'.get 18=some (zI (mid:Int))) (f19:F'.get 19=some (zI (nn:Int))) (f20:F'.get 20=some (zI (st:Int))) (f21:F'.get 21=some (zI (r:Int))):
  VC pG EB F' H n [] (qf pG (.seq (.block 8 (.loop F9)) (.seq uj (.seq (.seq ui (.cond (aA 185) Q1 .skip)) (.seq (.seq uh (.cond (aA 199) EA .skip)) (.seq ug (.cond (aA 213) Ez .skip)))))) (kU [] λ w K j=>w=.bo []/\K=H/\j=n)):=by
 have hb:=S.b;obtain⟨pp,hpp⟩:∃pp,pp=nn - 1:=⟨_,rfl⟩;have w4:IntKind.i64.wrap ((nn:Int) - 1)=(pp:Int):=by rw[aN _ ae ae];omega
 have hsr:st<=r:=ae;simp[EB,f19,w4];refine aE.of (λ t F' K n' ms=>∃i,t=r - i/\st<=i/\i<=r/\F'.get 0=some (.sl C.bk 0 N 1)/\F'.get 1=some (zI (a:Int))/\F'.get 2=some (zI (m:Int))/\F'.get 3=some (zI (b:Int))/\F'.get 4=some C.fv/\F'.get 18=some (zI (mid:Int))/\F'.get 19=some (zI (nn:Int))/\F'.get 20=some (zI (i:Int))/\F'.get 21=some (zI (r:Int))/\F'.get 22=some (zI (pp:Int))/\H=K/\n=n'/\ms=[]) (r - st) ⟨st,rfl,aK _,hsr,by simp[f0],by simp[f1],by simp[f2],by simp[f3],by simp[f4],by simp[f18],by simp[f19],by simp[f20],by simp[f21],ah,rfl,rfl,rfl⟩ ?_;clear f0 f1 f2 f3 f4 f18 f19 f20 f21 hsr;rintro t F1 K n' ms ⟨i,rfl,hi1,hi2,f0,f1,f2,f3,f4,f18,f19,f20,f21,f22,rfl,rfl,rfl⟩
 by_cases hlt:i<r
 ·obtain⟨q,hq⟩:∃q,q=(i+r) / 2:=⟨_,rfl⟩;obtain⟨B,hB⟩:∃B,B=pp - q:=⟨_,rfl⟩;obtain⟨T,hT⟩:∃T,T=i+r:=⟨_,rfl⟩;have hiq:i<=q/\q<r:=ae;have w5:IntKind.i64.wrap ((i:Int)+(r:Int))=(T:Int):=by rw[aN _ ae ae];omega
  have w6:IntKind.i64.wrap ((pp:Int) - (q:Int))=(B:Int):=by rw[aN _ ae ae];omega
  have w7:IntKind.i64.wrap ((q:Int)+1)=((q+1:Nat):Int):=by rw[aN _ ae ae];omega
  have hs:=aej T;rw[hT,<-hq,<-hT]at hs;have hs2:=Jb T ae;have hs3:=UA q ae;obtain⟨x,y,l1,l2,hy,hx,hn,x1,x2⟩:=S.cmp (show q<B by omega) ae;simp[F9,f20,f21,hlt,w5,hs,hs2,hs3];refine bC.of (C.iY ho hy hx) ?_;simp[ab,f0,f4,f22,Cm.fv,w6,x1,x2,l1,l2,Cm.ed S.J,hn,Q2,w7];exact⟨r - (q+1),ae,q+1,rfl,ae,ae,f1,f2,f3,f18,f19,ae,f21⟩
 obtain rfl:r=i:=ae;simp[F9,f20,f21]
 rcases hc with⟨c1,rfl,c2⟩|⟨c1,rfl,c2⟩
 ·have w8:IntKind.i64.wrap ((nn:Int) - (r:Int))=(m:Int):=by rw[aN _ ae ae];omega
  simp[uj,f19,f20,w8,ui,f2,c1,uh,f1,f18,show a<r by omega,ug,f3,h2,Ez,f0,f4];refine aB.of (ih r m b ae ae ae h3) λ w K j ⟨q1,q2,q3⟩=>?_;subst q1 q2 q3;simp
 have w8:IntKind.i64.wrap ((nn:Int) - (r:Int))=(mid:Int):=by rw[aN _ ae ae];omega
 by_cases c3:r<mid
 ·simp[uj,f19,f20,w8,ui,f2,uh,f1,f18,h1,c3,EA,f0,f4];refine aB.of (ih a r mid ae ae ae ae) λ w K j ⟨q1,q2,q3⟩=>?_;subst q1 q2 q3;simp[ug,f18]
 simp[uj,f19,f20,w8,ui,f2,uh,f1,f18,h1,c3,ug]
theorem CS (ho:C.Ok pG){H:Hp}{n:Nat}{d:List α}{N:Nat}(S:Nd C H d N):∀(k a m b:Nat),b - a<=k->a<m->m<b->b<=N->Zw 266 [.sl C.bk 0 N 1,zI (a:Int),zI (m:Int),zI (b:Int),C.fv] H n
 |0,a,m,b,hk,h1,h2,h3=>ae
 |k + 1,a,m,b,hk,h1,h2,h3=>by
  have hb:=S.b;refine ak.of c266 (by simp[A266]) λ F hF=>?_
  by_cases c1:m=a+1
  ·have w1:IntKind.i64.wrap ((m:Int) - (a:Int))=1:=by rw[aN _ ae ae];omega
   simp[A266,hF,w1];refine aE.of (λ t F' K n' ms=>∃j,t=j - m/\m<=j/\j<=b/\F'.get 0=some (.sl C.bk 0 N 1)/\F'.get 1=some (zI (a:Int))/\F'.get 4=some C.fv/\F'.get 10=some (zI (m:Int))/\F'.get 11=some (zI (j:Int))/\H=K/\n=n'/\ms=[]) (b - m) ⟨b,rfl,ae,ae,by simp[hF],by simp[hF],by simp[hF],ah,ah,rfl,rfl,rfl⟩ ?_;rintro t F' K n' ms ⟨j,rfl,hj1,hj2,f0,f1,f4,f10,f11,rfl,rfl,rfl⟩
   by_cases hlt:m<j
   ·obtain⟨q,hq⟩:∃q,q=(m+j) / 2:=⟨_,rfl⟩;obtain⟨T,hT⟩:∃T,T=m+j:=⟨_,rfl⟩;have w2:IntKind.i64.wrap ((m:Int)+(j:Int))=(T:Int):=by rw[aN _ ae ae];omega
    have hs:=aej T;rw[hT,<-hq,<-hT]at hs;have hs2:=Jb T ae;have hs3:=UA q ae;obtain⟨x,y,l1,l2,hy,hx,hn,x1,x2⟩:=S.cmp (show a<q by omega) ae;simp[NF,f10,f11,hlt,w2,hs,hs2,hs3];refine bC.of (C.iY ho hy hx) ?_;simp[ab,f0,f1,f4,Cm.fv,x1,x2,l1,l2,Cm.ed S.J,hn,abR,f10];exact⟨q - m,ae,q,rfl,ae,ae,rfl⟩
   obtain rfl:m=j:=ae;have w5:IntKind.i64.wrap ((m:Int) - 1)=(a:Int):=by rw[aN _ ae ae];omega
   simp[NF,f10,f11,abQ,f1];refine aE.XC 0 (fL.step ?_);simp[adG,f10,w5]
  have w1:¬IntKind.i64.wrap ((m:Int) - (a:Int))=1:=by rw[aN _ ae ae];omega
  by_cases c2:b=m+1
  ·have w1':IntKind.i64.wrap ((b:Int) - (m:Int))=1:=by rw[aN _ ae ae];omega
   simp[A266,hF,w1,w1'];refine aE.of (λ t F' K n' ms=>∃i,t=m - i/\a<=i/\i<=m/\F'.get 0=some (.sl C.bk 0 N 1)/\F'.get 2=some (zI (m:Int))/\F'.get 4=some C.fv/\F'.get 14=some (zI (i:Int))/\F'.get 15=some (zI (m:Int))/\H=K/\n=n'/\ms=[]) (m - a) ⟨a,rfl,ae,ae,by simp[hF],by simp[hF],by simp[hF],ah,ah,rfl,rfl,rfl⟩ ?_;rintro t F' K n' ms ⟨i,rfl,hi1,hi2,f0,f2,f4,f10,f11,rfl,rfl,rfl⟩
   by_cases hlt:i<m
   ·obtain⟨q,hq⟩:∃q,q=(i+m) / 2:=⟨_,rfl⟩;obtain⟨T,hT⟩:∃T,T=i+m:=⟨_,rfl⟩;have w2:IntKind.i64.wrap ((i:Int)+(m:Int))=(T:Int):=by rw[aN _ ae ae];omega
    have hs:=aej T;rw[hT,<-hq,<-hT]at hs;have hs2:=Jb T ae;have hs3:=UA q ae;have w3:IntKind.i64.wrap ((q:Int)+1)=((q+1:Nat):Int):=by rw[aN _ ae ae];omega
    obtain⟨x,y,l1,l2,hy,hx,hn,x1,x2⟩:=S.cmp (show q<m by omega) ae;simp[ND,f10,f11,hlt,w2,hs,hs2,hs3];refine bC.of (C.iY ho hy hx) ?_;simp[ab,f0,f2,f4,Cm.fv,x1,x2,l1,l2,Cm.ed S.J,hn,Q5,w3,f11];exact⟨m - (q+1),ae,q+1,rfl,ae,ae,ae⟩
   obtain rfl:m=i:=ae;simp[ND,f10,f11,Q4,f2];refine aE.XC 0 (fL.step ?_);simp[adF,f10]
  have w1':¬IntKind.i64.wrap ((b:Int) - (m:Int))=1:=by rw[aN _ ae ae];omega
  obtain⟨mid,hmid⟩:∃mid,mid=(a+b) / 2:=⟨_,rfl⟩;obtain⟨nn,hnn⟩:∃nn,nn=mid+m:=⟨_,rfl⟩;obtain⟨T,hT⟩:∃T,T=a+b:=⟨_,rfl⟩;have w2:IntKind.i64.wrap ((a:Int)+(b:Int))=(T:Int):=by rw[aN _ ae ae];omega
  have hs:=aej T;rw[hT,<-hmid,<-hT]at hs;have hs2:=Jb T ae;have hs3:=UA mid ae;have w3:IntKind.i64.wrap ((mid:Int)+(m:Int))=(nn:Int):=by rw[aN _ ae ae];omega
  have ih:=λ a' m' b' (h:b' - a'<b - a)=>CS (n:=n) ho S k a' m' b' ae;have key:=λ {st r:Nat} {F':Fr} hc=>VK ho S (F':=F') (st:=st) (r:=r) h1 h2 h3 (show 2*mid<=a+b/\a+b<=2*mid+1 by omega) hnn hc ae ih
  by_cases hgt:mid<m
  ·have w4:IntKind.i64.wrap ((nn:Int) - (b:Int))=((nn - b:Nat):Int):=by rw[aN _ ae ae];omega
   have hst:nn - b+b=nn:=ae;generalize nn - b=st at w4 hst;simp[A266,hF,w1,w1',w2,hs,hs2,hs3,w3,hgt,w4];exact key (.inl ⟨hgt,rfl,hst⟩) (by simp[hF]) (by simp[hF]) (by simp[hF]) (by simp[hF]) (by simp[hF]) ah ah ah ah
  simp[A266,hF,w1,w1',w2,hs,hs2,hs3,w3,hgt];exact key (.inr ⟨ae,rfl,rfl⟩) (by simp[hF]) (by simp[hF]) (by simp[hF]) (by simp[hF]) (by simp[hF]) ah ah ah ah
theorem Jg (ho:C.Ok pG){H:Hp}{n:Nat}{d:List α}{N:Nat}(S:Nd C H d N):Zw 203 [.sl C.bk 0 N 1,zI (N:Int),C.fv] H n:=by
 have hb:=S.b;refine ak.of c203 (by simp[A203]) λ F hF=>?_;simp[A203];refine aE.of (λ t F' K n' ms=>∃a b:Nat,t=N - a/\a<=N/\b=a+20/\F'.get 0=some (.sl C.bk 0 N 1)/\F'.get 1=some (zI (N:Int))/\F'.get 2=some C.fv/\F'.get 6=some (zI 20)/\F'.get 7=some (zI (a:Int))/\F'.get 8=some (zI (b:Int))/\H=K/\n=n'/\ms=[]) N ⟨0,20,rfl,ae,rfl,by simp[hF],by simp[hF],by simp[hF],ah,ah,ah,rfl,rfl,rfl⟩ ?_;rintro t F1 K n' ms ⟨a,b,rfl,ha,hab,f0,f1,f2,f6,f7,f8,rfl,rfl,rfl⟩
 by_cases hle:b<=N
 ·have w1:IntKind.i64.wrap ((b:Int)+20)=((b+20:Nat):Int):=by rw[aN _ ae ae];omega
  simp[NK,f8,f1,hle,f0,f7,f2];refine aB.of (O8 ho S hle ha) λ w K j ⟨q1,q2,q3⟩=>?_;subst q1 q2 q3;simp[acq,acp,f8,f6,w1];exact⟨N - b,ae,b,rfl,hle,f0,f1,f2,rfl⟩
 simp[NK,f8,f1,hle,aco,f0,f7,f2];refine aB.of (O8 ho S (aK _) ha) λ w K0 j0 ⟨q1,q2,q3⟩=>?_;subst q1 q2 q3;simp;refine aE.of (λ t F' K n' ms=>∃B:Nat,t=N - B/\0<B/\F'.get 0=some (.sl C.bk 0 N 1)/\F'.get 1=some (zI (N:Int))/\F'.get 2=some C.fv/\F'.get 6=some (zI (B:Int))/\K0=K/\j0=n'/\ms=[]) (N - 20) ⟨20,rfl,ae,by simp[f0],by simp[f1],by simp[f2],by simp[f6],rfl,rfl,rfl⟩ ?_;clear f0 f1 f2 f6 f7 f8 hle hab ha;rintro t F2 K n' ms ⟨B,rfl,hB,f0,f1,f2,f6,rfl,rfl,rfl⟩
 by_cases hlt:B<N
 ·obtain⟨E,hE⟩:∃E,E=2*B:=⟨_,rfl⟩;have w0:IntKind.i64.wrap (2*(B:Int))=(E:Int):=by rw[aN _ ae ae];omega
  have w0':IntKind.i64.wrap ((B:Int)*2)=(E:Int):=by rw[aN _ ae ae];omega
  simp[NI,f6,f1,hlt,w0];refine aE.of (λ t F' K n' ms=>∃a b:Nat,t=N - a/\a<=N/\b=a+E/\F'.get 0=some (.sl C.bk 0 N 1)/\F'.get 1=some (zI (N:Int))/\F'.get 2=some C.fv/\F'.get 6=some (zI (B:Int))/\F'.get 7=some (zI (a:Int))/\F'.get 8=some (zI (b:Int))/\K0=K/\j0=n'/\ms=[]) N ⟨0,E,rfl,ae,ae,by simp[f0],by simp[f1],by simp[f2],by simp[f6],ah,ah,rfl,rfl,rfl⟩ ?_;clear f0 f1 f2 f6;rintro t F3 K n' ms ⟨a,b,rfl,ha,hab,f0,f1,f2,f6,f7,f8,rfl,rfl,rfl⟩;obtain⟨m,hm⟩:∃m,m=a+B:=⟨_,rfl⟩;have wm:IntKind.i64.wrap ((a:Int)+(B:Int))=(m:Int):=by rw[aN _ ae ae];omega
  by_cases hle:b<=N
  ·have w1:IntKind.i64.wrap ((b:Int)+(E:Int))=((b+E:Nat):Int):=by rw[aN _ ae ae];omega
   simp[NJ,f8,f1,hle,f0,f7,f6,f2,wm];refine aB.of (CS ho S _ a m b (aK _) ae ae hle) λ w K j ⟨q1,q2,q3⟩=>?_;subst q1 q2 q3;simp[RD,Rz,f8,f6,w0,w1];exact⟨N - b,ae,b,rfl,hle,f0,f1,f2,rfl⟩
  simp[NJ,f8,f1,hle,Ry,f7,f6,wm,Rx]
  by_cases hlm:m<N
  ·simp[hlm,Ru,f0,f7,f1,f2];refine aB.of (CS ho S _ a m N (aK _) ae hlm (aK _)) λ w K j ⟨q1,q2,q3⟩=>?_;subst q1 q2 q3;simp[Fa,f6,w0'];exact⟨N - E,ae,E,rfl,ae,f0,f1,f2,rfl⟩
  simp[hlm,Fa,f6,w0'];exact⟨N - E,ae,E,rfl,ae,f0,f1,f2,rfl⟩
 simp[NI,f6,f1,hlt]
theorem VU (ho:C.Ok pG){H:Hp}{n:Nat}{d:List α}{N:Nat}(S:Nd C H d N):Zw 136 [.sl C.bk 0 N 1,C.fv] H n:=by
 refine ak.of c136 (by simp[A136]) λ F hF=>?_;simp[A136,hF];refine aB.of (Jg ho S) λ w K j ⟨q1,q2,q3⟩=>?_;subst q1 q2 q3;simp
end Go.Abs
namespace Go.Abs
open List
open Go.Proofs
set_option maxRecDepth 100000
def amx (_n:Nat)(L:List (List Val))(v:AV)(K:Hp)(n':Nat):Prop:=∃(b:Nat)(vs:List AV),v=.sl b 0 L.length 1/\b<n'/\(∃y,K.get b=some y/\OwnB y ((range L.length).map (N7 vs)))/\vs.length=L.length/\∃n0,oz K n0 n' b vs L
theorem VO (L:List (List Val)) (hL:L.length<=100000) (hl:∀l∈L,l.length<=1048576) (hso:∀i j,i<j->j<L.length->¬dK (rN L j) (rN L i)<0) (H:Hp) (n:Nat):ak pG 58 [.ds (aJ L) L.length 1] H n (amx n L):=by
 refine ak.of c58 (by simp[A58]) λ F hF=>?_;have hbt:Nat.ble L.length big=true:=by rw[Nat.ble_eq];unfold big;omega
 have awp:Nat.ble (24*L.length) 281474976710656=true:=by rw[Nat.ble_eq];omega
 simp[A58,hF]
 have e0:PU [.aV (.slice none 0 0)] 1 24 n (zI 0) (zI (L.length:Int))=.new (.sl n 0 0 1) (.cells (L.length*1) [.aV (.slice none 0 0)] [] .nil):=by
  show (match Nat.ble 0 L.length&&Nat.ble L.length big&&Nat.ble (24*L.length) 281474976710656 with|true=>_|false=>_)=_;rw[hbt,awp,wq (Nat.zero_le _)];rfl
 simp[e0,hF]
 refine aE.of (λ k F K n' ms=>∃(i b:Nat) (vs:List AV),k=L.length - i/\i<=L.length/\vs.length=i/\F.get 9=some (.ds (aJ L) L.length 1)/\F.get 10=some (zI (L.length:Int))/\F.get 11=some (zI (i:Int))/\F.get 3=some (.sl b 0 i 1)/\ms=[] /\
  n<=n'/\n<=b/\b<n'/\(∀c,c<n->K.get c=H.get c)/\SQ K b L.length vs/\oz K n n' b vs L) L.length ⟨0,n,[],ae,ae,rfl,ah,ah,ah,ah,rfl,ae,aK _,ae,λ c hc=>by simp[show ¬c=n by omega],⟨.cells L.length [.aV (.slice none 0 0)] [] .nil,ah,.inl ⟨rfl,rfl⟩⟩,λ j hj=>by simp at hj⟩ ?_
 rintro k F K n1 ms ⟨i,b,vs,rfl,hi,hvl,f9,f10,f11,f3,rfl,g1,g2,g3,hK,hO,hR⟩;clear hF e0
 by_cases hlt:i<L.length
 ·have hx := iQ (k:=.i64) hlt;simp[adv,f11,f10,hlt,f9,hx,f3];refine aB.of (PQ L[i] (hl _ (dw _)) K n1) λ w K2 n2 ⟨q1,q2,q3,q4⟩=>?_;have hw1:w.one=true:=by obtain⟨_,⟨e,_⟩|⟨c,_,e,_⟩⟩:=q2<;>rw[e]<;>rfl
  obtain⟨o1,o2⟩:=yy hw1;simp[o1,o2];refine SQ.app (vs:=vs) (v:=w) (N:=L.length) ?_ hvl.symm ae ah hw1 ae λ H' y hy ho hk=>?_
  ·obtain⟨y,hy,h⟩:=hO;exact⟨y,by simp[show ¬b=n2 by omega,q4 b ae,hy],h⟩
  have hk':∀c,c<n2->c≠b->H'.get c=K2.get c:=λ c hc hcb=>by rw[hk c ae hcb];simp[show ¬c=n2 by omega]
  simp[aid,f11,aD i ae,f9,f10];refine⟨L.length - (i+1),ae,i+1,rfl,hlt,n2+1,vs++[w],by simp[hvl],rfl,⟨rfl,rfl⟩,ae,ae,ae,λ c hc=>?_,⟨y,hy,.inr ho⟩,?_⟩
  ·rw[hk' c ae ae,q4 c ae,hK c hc]
  have hR':=hR.mv (K':=H') (n':=n2+1+1) (b':=n2+1) ae (λ c hc hcb=>by rw[hk' c ae hcb,q4 c hc]) (.inr ae);intro j hj;simp[hvl]at hj
  by_cases hji:j<i
  ·have e:N7 (vs++[w]) j=N7 vs j:=by
    unfold N7;rw[getD_lt (by simp;omega),getD_lt ae,getElem_append_left ae]
   rw[e];exact hR' j ae
  obtain rfl:j=i:=ae
  have e:N7 (vs++[w]) j=w:=by
   unfold N7;rw[getD_lt (by simp;omega),getElem_append_right ae];simp[hvl]
  have e2:rN L j=L[j]:=getD_lt hlt;rw[e,e2]
  have hbk:∀c,w=.sl c 0 L[j].length 3->n1<=c/\c<n2:=by
   intro c e;obtain⟨_,⟨e',_⟩|⟨c',k',e',hc,hk2,_⟩⟩:=q2
   ·rw[e']at e;cases e
   rw[e']at e;injection e with e;subst e;exact⟨q3 _ _ e' hk2,hc⟩
  refine⟨q2.mv ae λ c hc e=>hk' c hc (by have:=(hbk c e).1;omega),λ c e=>?_⟩;have:=hbk c e;omega
 obtain rfl:i=L.length:=ae;simp[adv,f11,f10,aic,f3]
 have hD:Dt (Y2 L vs n n1 b) K (range L.length++[]):=by
  obtain⟨y,hy,h⟩:=hO;refine⟨y,hy,?_⟩;rw[append_nil,show (range L.length).map (Y2 L vs n n1 b).av=vs by rw[<-hvl];exact Vt]
  rcases h with⟨rfl,rfl⟩|h
  ·have h0:L.length=0:=by simpa using hvl.symm
   rw[h0];refine⟨0,_,_,_,rfl,rfl,λ i=>?_,λ _ e=>by cases e⟩;rw[cD];simp
  exact h
 have hok:=af8 hl hvl hR
 have hS:Nd (Y2 L vs n n1 b) K (range L.length) L.length:=⟨by simpa using hD,hR,ah,ae,λ i j hi hj hij=>by
  simp only[getElem_range,length_range,Y2]at hi hj ⊢;exact⟨ae,ae,hso i j hij hj⟩⟩
 refine aB.of (VU hok hS (n:=n1)) λ w K2 n2 ⟨q1,q2,q3⟩=>?_;subst q2 q3;simp[aib,f3];obtain⟨y,hy,h⟩:=hS.hd;exact⟨b,vs,rfl,g3,⟨y,hy,h⟩,hvl,n,hS.J⟩
theorem amx.nV {n n':Nat}{L:List (List Val)}{v:AV}{K:Hp}(h:amx n L v K n'):e_ K.get v (.ds (aJ L) L.length 1):=by
 obtain⟨b,vs,rfl,hb,⟨y,hy,ho⟩,hvl,n0,hR⟩:=h;have hO:aC K n' (.sl b 0 L.length 1) ((range L.length).map (N7 vs)) L.length 1:=⟨ah,.inr ⟨b,y,rfl,hb,hy,ho⟩⟩;refine hO.nV ?_
 have hL:aJ L=(range L.length).map λ j=>ay (rN L j):=by
  apply ext_getElem
  ·simp
  intro i h1 h2;simp only[aJ,getElem_map,getElem_range,rN];rw[getD_lt (by simpa using h1)]
 have hm:∀j∈range L.length,j<vs.length:=λ j hj=>by rw[hvl];simpa using hj
 rw[hL];clear hO ho hy hL;generalize range L.length=T at hm
 induction T with
 |nil=>exact .nil
 |cons j r ih=>exact .cons _ _ _ _ ((hR j (hm j ah)).1.nV (bc.pure ah)) (ih λ k hk=>hm k (by simp[hk]))
theorem ajI (L:List (List Val))(hL:L.length<=100000)(hl:∀l∈L,l.length<=1048576)(hm:∀r∈L,eI r)(hs:dM L):aj pG 58 [dx L] (dN L):=by
 have h6:=VO L hL hl (λ i j hij hj=>by
  have:=pairwise_iff_getElem.1 hs i j ae hj hij;unfold rN;rw[getD_lt hj,getD_lt (show i<L.length by omega),jI (hm _ (dw _)) (hm _ (dw _))];omega) .nil 0
 refine aj.ofR (by simp[dx]) ah ?_
 by_cases h0:L=[]
 ·subst h0;refine(h6.zs (R2:=λ v _ _=>v=.ds [] 0 0) λ v K k ⟨b,vs,hv,_⟩=>⟨λ _=>none,K,_,rq.refl K,?_,rfl⟩).mono λ v K k hv=>?_
  ·subst hv;exact aoz _ _ _ _
  subst hv;exact fp
 refine h6.mono λ v K k hR=>?_;unfold dN;rw[ai h0];exact hR.nV
theorem TG {w:pe}(hw:w.gG)(ok:fW w):∀L∈w.rows,aj pG 58 [dx L] (dN L):=by
 intro L hL;obtain⟨i,hi,rfl⟩:=getElem_of_mem hL;have hT:=ok.t i hi (by rw[<-ok.l];exact hi);exact ajI w.rows[i] (by have:=hT.len;omega) (λ l hl=>(hw.r _ hL l hl).1) (HL hT.fits) (xN (HL hT.fits) hT.oK)
end Go.Abs
namespace Go.Abs
open List
open Go.Proofs
open Classical
set_option maxRecDepth 100000
theorem WZ (on:List (List Ex))(tabs:List (List (List Val)))(w it:List Ex)(j:Nat):(jJ on tabs w it j).rows.length<=4096:=by
 unfold jJ;refine xU (I:=λ s:uo=>s.rows.length<=4096) (Rw:=λ _ _=>True) on tabs j _ (λ s e h=>h) (λ s row h _=>?_) (λ _ _ _ _ _ _=>trivial) trivial _ ah;show (rQ w it s row).rows.length<=4096;unfold rQ
 split
 ·split
  ·exact h
  rename_i h2;simp only[length_append,length_singleton];omega
 exact h
def Zl (w:pe)(R N C:AV)(e:Int)(rows:List (List Val)):AV:=if e=0 then resV (aH.ds w.aL.tables) (bp.ds w.aL.indexes) R N C (.ds (aJ rows) rows.length 1) 0 0 else TP e
structure Ans (w:pe)(q:bI)(e:Int)(rows:List (List Val)):Prop where
 run:∃R N C,(R.one=true/\N.one=true/\C.one=true)/\aj pG 10 [oW.av w,(eO q).av] (Zl w R N C e rows)
 len:rows.length<=4096
 may:∀r∈rows,eI r/\r.length<=aU
 ok:e=0->(bN w.aL (eO q)).2=0/\fW w
 bad:¬(fW w/\(bN w.aL (eO q)).2=0)->e=if fW w then (bN w.aL (eO q)).2 else 1
 eq:∀L,fW w->qg w.aL q L->e=tG (sY w (j9 w.aL q L) q.ao.length)/\rows=oK (sY w (j9 w.aL q L) q.ao.length).rows
theorem ans_of {w:pe}(hw:w.gG){q:bI}(hx:(eO q).sm) (ho:q.order=[]) (hd:q.mD=false) (hm:q.limited=false) (hb:aj pG 23 [kQ.av w.aL,(eO q).av] (.bo [.agg (bN w.aL (eO q)).1.cells 25,zI (bN w.aL (eO q)).2])):∃e rows,Ans w q e rows:=by
 by_cases h:fW w/\(bN w.aL (eO q)).2=0
 ·obtain⟨ok,h0⟩:=h;have b:=qg.of ho h0;generalize (cdQ w.aL q q.cond).1=L at b
  have hL:L.length<=aU/\∀e∈L,e.sz<=aU:=by
   have:=BO (ns:=q.ao.map Src.nm) (ts:=q.ao.map w.aL.tb) (err:=(Uy w.aL q).2.2.2) (show q.cond.sz<=aU from hx.qc)
   rwa [show dU (q.ao.map Src.nm) (q.ao.map w.aL.tb) q.cond (Uy w.aL q).2.2.2=(L,0)from b.cd]at this
  have Q:=b.ok ok hw.g hx hd hm hL;have hmy:=tD (j9 w.aL q L).on (uF w (j9 w.aL q L).iR) (j9 w.aL q L).cond (j9 w.aL q L).items q.ao.length;refine⟨tG (sY w (j9 w.aL q L) q.ao.length),oK (sY w (j9 w.aL q L) q.ao.length).rows,?_,by rw[nz];exact WZ _ _ _ _ _,λ r hr=>?_,λ _=>⟨h0,ok⟩,λ hn=>ar ⟨ok,h0⟩ hn,λ L' _ b'=>?_⟩
  ·obtain⟨R,hR,hp,hf⟩:=Zi w hw _ hb ok h0 (TG hw ok) 67 rfl (tG (sY w (j9 w.aL q L) q.ao.length)) (dy.ds (j9 w.aL q L).names) (dA.ds (j9 w.aL q L).kinds) ⟨rfl,rfl⟩ ⟨ah,ah⟩ 0 (aJ (oK (sY w (j9 w.aL q L) q.ao.length).rows)) ah (sY w (j9 w.aL q L) q.ao.length).rows.length (λ V RC hV=>by
    rw[b.eq]at hV ⊢;exact ajw hw Q hV)
   refine⟨R,dy.ds (j9 w.aL q L).names,dA.ds (j9 w.aL q L).kinds,⟨hR,rfl,rfl⟩,?_⟩;unfold Zl;rw[nz];exact hf
  ·obtain⟨h1,h2⟩:=hmy r ((mO _).mem_iff.1 hr);exact⟨h1,by rw[h2];exact Q.il⟩
  have:(L,(0:Int))=(L',0):=b.cd.symm.trans b'.cd;injection this with this _;subst this;exact⟨rfl,rfl⟩
 have h':¬fW w∨(bN w.aL (eO q)).2≠0:=by
  by_cases ok:fW w
  ·exact .inr λ h0=>h ⟨ok,h0⟩
  exact .inl ok
 have hz:=Zh w hw _ hb h'
 have he:(if fW w then (bN w.aL (eO q)).2 else 1)≠0:=by
  rcases h' with h' |h'
  ·rw[ai h'];omega
  split
  ·exact h'
  omega
 obtain⟨e,hq⟩:∃e,e=if fW w then (bN w.aL (eO q)).2 else 1:=⟨_,rfl⟩
 rw[<-hq]at hz he;refine⟨e,[],⟨nS,nS,nS,⟨rfl,rfl,rfl⟩,?_⟩,ah,ah,λ h0=>ar h0 he,λ _=>hq,λ L ok b=>ar ⟨ok,by rw[b.eq]⟩ h⟩;unfold Zl;rw[ai he];exact hz
def mxF:List (List (List Val))->Int->Int
 |[],m=>m
 |L::r,m=>mxF r (if (L.length:Int)>m then (L.length:Int)else m)
def hvM (mo:Int):Nat->Int->Bool
 |0,_=>false
 |k+1,n=>if 30000<n*mo then true else hvM mo k (n*mo)
def hvQ (w:pe)(k:Nat):Bool:=if hvR w.rows 0=true then true else hvM (mxF w.rows 1) k 1
theorem afG (w:pe) (hw:w.gG) (q:bI) (hs:q.ao.length<=aU):aj pG 8 [oW.av w,.agg q.cells 15] (.bool (hvQ w q.ao.length)):=by
 refine gW c8 (by simp[bI.pure]) ah (by simp[A8]) λ F hF=>?_;have hl:=hw.l;unfold aU at hl hs;have ql:=q.bq;have q3:=λ h=>q.c3 h;unfold hvQ;generalize q.cells=qc at *;simp[A8,hF,aZ.av,uY]
 refine aE.of (λ q F K n ms=>∃(i a:Nat) (mo:Int),q=w.rows.length - i/\i<=w.rows.length/\a<=5000/\(0<=mo/\mo<=5000)/\F.get 2=some (.ptr 0 0)/\F.get 3=some (.ptr 1 0)/\F.get 5=some (zI (a:Int))/\F.get 6=some (zI mo)/\F.get 7=some (zI (i:Int))/\K.get 0=aR 3 [aH.ds w.aL.tables,bp.ds w.aL.indexes,iH.ds w.rows]/\K.get 1=aR 15 qc/\hvR w.rows 0=hvR (w.rows.drop i) a/\mxF w.rows 1=mxF (w.rows.drop i) mo/\ms=[]) w.rows.length
  ⟨0,0,1,ae,ae,ae,ae,ah,ah,ah,ah,ah,ah,ah,ah,ah,rfl⟩ ?_
 clear hF F;rintro t F K n ms ⟨i,a,mo,rfl,hi,ha,hmo,f2,f3,f5,f6,f7,k0,k1,hv,hx0,rfl⟩
 by_cases h:i<w.rows.length
 ·have hx:=iH.ix (ik:=.i64) h;rw[YP]at hx;have hL:=hw.t _ (dw h);rw[ga h,Yf]at hv;rw[ga h,mxF]at hx0;generalize w.rows[i]=L at *;unfold aU at hL;have w1:IntKind.i64.wrap ((a:Int)+(L.length:Int))=((a+L.length:Nat):Int):=by simp[IntKind.wrap,IntKind.signed,IntKind.bits];omega
  have hlen:bm (dx L)=.val (zI (L.length:Int)):=rfl;obtain⟨mx,hmx,hmax⟩:∃mx,mx=(if (L.length:Int)>mo then (L.length:Int)else mo)/\Jz [zI mo,zI (L.length:Int)]=some (zI mx):=⟨_,rfl,by simp[Jz,Ul]⟩;rw[<-hmx]at hx0;have wi:=aD i ae
  by_cases h5:5000<a+L.length
  ·rw[aw h5]at hv;simp[agw,f2,f7,k0,aZ.aM,h,f5,hx,hlen,w1,f6,y6,hmax,show (5000:Int)<(a:Int)+(L.length:Int) by omega];exact .bool (by rw[hv];rfl)
  rw[ai h5]at hv;simp[agw,f2,f7,k0,aZ.aM,h,f5,hx,hlen,w1,f6,y6,hmax,show ¬(5000:Int)<(a:Int)+(L.length:Int) by omega,wi];exact⟨_,ae,i+1,rfl,ae,a+L.length,ae,mx,by rw[hmx];split<;>omega,f3,ae,rfl,ae,k1,hv,hx0⟩
 obtain rfl:i=w.rows.length:=ae;have hv':hvR w.rows 0=false:=by rw[hv];simp[hvR]
 have hx1:mxF w.rows 1=mo:=by rw[hx0];simp[mxF]
 rw[hv',hx1];simp[agw,f2,f7,k0,aZ.aM,ahT,ahS]
 refine aE.of (λ t F K n ms=>∃(j:Nat) (m:Int),t=q.ao.length - j/\j<=q.ao.length/\(0<=m/\m<=30000)/\F.get 3=some (.ptr 1 0)/\F.get 6=some (zI mo)/\F.get 8=some (zI m)/\F.get 9=some (zI (j:Int))/\K.get 1=aR 15 qc/\hvM mo q.ao.length 1=hvM mo (q.ao.length - j) m/\ms=[]) q.ao.length
  ⟨0,1,ae,ae,ae,by simp[f3],by simp[f6],ah,ah,k1,ah,rfl⟩ ?_
 clear f2 f3 f5 f6 f7 k0 k1 hx0 hv F K n;rintro t F K n ms ⟨j,m,rfl,hj,hm,f3,f6,f8,f9,k1,hv,rfl⟩
 have hc:cE (.ptr 1 3) K=.val (gf.ds q.ao):=by
  simp[k1,ql,q3]
 by_cases h:j<q.ao.length
 ·have hmm:0<=m*mo/\m*mo<=30000*5000:=⟨Int.mul_nonneg hm.1 hmo.1,Int.mul_le_mul hm.2 hmo.2 hmo.1 ae⟩
  have w1:IntKind.i64.wrap (m*mo)=m*mo:=by
   generalize m*mo=z at *;simp[IntKind.wrap,IntKind.signed,IntKind.bits];omega
  have wj:=aD j ae;rw[show q.ao.length - j=(q.ao.length - (j+1))+1 by omega,hvM]at hv
  by_cases h5:30000<m*mo
  ·rw[aw h5]at hv;simp[agv,f3,f9,hc,aZ.aM,h,f8,f6,w1,h5];exact .bool (by rw[hv])
  rw[ai h5]at hv;simp[agv,f3,f9,hc,aZ.aM,h,f8,f6,w1,h5,wj];exact⟨_,ae,j+1,rfl,ae,m*mo,ae,rfl,ae,k1,hv⟩
 obtain rfl:j=q.ao.length:=ae;have hv':hvM mo q.ao.length 1=false:=by rw[hv];simp[hvM]
 simp[agv,f3,f9,hc,aZ.aM,ahR];exact .bool (by rw[hv'])
end Go.Abs
namespace Go.Abs
open List
open Go.Proofs
set_option maxRecDepth 100000
theorem agu (l m:List Val)(hl:l.length<=1048576)(hm:m.length<=1048576)(al:∀v∈l,v.may=true)(am:∀v∈m,v.may=true):aj pG 36 [ay l,ay m,.aV (.slice none 0 0)] (zI (rO l m)):=by
 refine pv c36 λ F hF=>?_;simp[A36];refine aE.of (λ k F K n ms=>k=0/\F.get 0=some (ay l)/\F.get 1=some (ay m)/\F.get 2=some (.aV (.slice none 0 0))/\F.get 7=some (zI 0)/\K=.nil/\ms=[]) 0 (by simp[hF]) ?_;rintro k F K n ms ⟨rfl,f0,f1,f2,f7,rfl,rfl⟩;simp[ajd,f2,f7,aiA,f0,f1];refine aB.pure (ags l m hl hm al am) ?_;simp;exact fp
structure amD (od:List Val->List Val->Int)(S:List Val->Prop):Prop where
 tot:∀a b,S a->S b->¬od a b<=0->od b a<=0
 trans:∀a b c,S a->S b->S c->od a b<=0->od b c<=0->od a c<=0
def yG (od:List Val->List Val->Int)(a b:List Val):Bool:=decide (od a b<=0)
theorem OW {f:List Val->List Val->Bool}{x:List Val}{A B:List (List Val)}(h:x∈A.merge B f):x∈A∨x∈B:=by
 have:=(merge_perm_append (xs:=A) (ys:=B) f).mem_iff.1 h;simpa using this
theorem Jw {od:List Val->List Val->Int}{S:List Val->Prop}(ho:amD od S){A B:List (List Val)}(mA:∀r∈A,S r) (mB:∀r∈B,S r) (hA:A.Pairwise λ a b=>od a b<=0) (hB:B.Pairwise λ a b=>od a b<=0):(A.merge B (yG od)).Pairwise λ a b=>od a b<=0:=by
 induction A generalizing B with
 |nil=>simpa using hB
 |cons a A ihA =>
  induction B with
  |nil=>simpa using hA
  |cons b B ihB =>
   have ma:=mA a ah;have mb:=mB b ah;have mA':∀r∈A,S r:=λ r hr=>mA r (by simp[hr]);have mB':∀r∈B,S r:=λ r hr=>mB r (by simp[hr]);rw[pairwise_cons]at hA hB;rw[cons_merge_cons]
   cases hle:yG od a b with
   |true =>
    have hab:od a b<=0:=by simpa[yG]using hle
    rw[aw rfl];refine pairwise_cons.2 ⟨λ x hx=>?_,ihA mA' mB hA.2 (pairwise_cons.2 hB)⟩
    rcases OW hx with h|h
    ·exact hA.1 x h
    rcases mem_cons.1 h with rfl|h
    ·exact hab
    exact ho.trans _ _ _ ma mb (mB' x h) hab (hB.1 x h)
   |false =>
    have hba:=ho.tot _ _ ma mb (by simpa[yG]using hle);rw[ai ah];refine pairwise_cons.2 ⟨λ x hx=>?_,ihB mB' hB.2⟩
    rcases OW hx with h|h
    ·rcases mem_cons.1 h with rfl|h
     ·exact hba
     exact ho.trans _ _ _ mb ma (mA' x h) hba (hA.1 x h)
    exact hB.1 x h
theorem XY {K:Hp}{b i:Nat}{y:bG}{l:List AV}(h:K.get b=some y)(ho:OwnB y l)(hi:i<l.length):cE (.ptr b i) K=.val l[i]:=by
 obtain⟨u,z,bs,t,rfl,h3,h4,_⟩:=ho;have:=h4 i;rw[cX hi]at this;simp[h,this]
def SdR (od:List Val->List Val->Int)(H:Hp)(n:Nat)(L:List (List Val))(v:AV)(K:Hp)(n':Nat):Prop:=n<=n'/\(∀c,c<n->K.get c=H.get c)/\(∀c,v=.sl c 0 L.length 1->n<=c) /\
 ∃M:List (List Val),M.Perm L/\(M.Pairwise λ a b=>od a b<=0)/\aC K n' v (aJ M) L.length 1
theorem Aa {od:List Val->List Val->Int}(kv:AV)(L:List (List Val))(hL:L.length<2)(H:Hp)(n:Nat):ak pG 17 [.ds (aJ L) L.length 1,kv] H n (SdR od H n L):=by
 refine ak.of c17 (by simp[A17]) λ F hF=>?_;simp[A17,hF,show (L.length:Int)<2 by omega]
 match L,hL with
 |[],_ =>
  simp[aJ,jh,aX,sliceLen,oR];exact⟨ae,λ c hc=>by simp[show ¬c=n by omega],λ c h=>by injection h with h;omega,[],ah,ah,⟨by simp[aJ],.inr ⟨n,.cells 0 [] [] .nil,rfl,ae,ah,.list (u:=0) (l:=[]) rfl⟩⟩⟩
 |[r],_ =>
  refine aC.app (l:=[]) (len:=0) (new:=aJ [r]) (k:=1) ⟨ah,.inr ⟨n,_,rfl,ae,by simp;rfl,.list ah⟩⟩ ah rfl ah ae ae (by unfold big;omega) ae rfl λ H' ho hk=>?_;simp;simp only[nil_append,q7]at ho;refine⟨ae,λ c hc=>?_,λ c h=>by injection h with h;omega,[r],ah,ah,ho⟩;rw[hk c ae (λ e=>by injection e with e;omega)];simp[show ¬c=n by omega]
theorem af' {cs:List AV}{len k:Nat}(h:k<=len):ja 1 none (some (zI (k:Int))) none (.ds cs len 1)=.val (.ds (cs.take k) k 1):=by
 unfold ja
 have:vd len none (some (zI (k:Int))) none=some (0,k):=by
  simp[vd,show bnd len (some (zI (k:Int)))=some k from rfl,show bnd len none=some len from rfl,show bnd 0 none=some 0 from rfl,h]
 simp only[this];simp
theorem af_ {cs:List AV}{len k:Nat}(h:k<=len)(hc:cs.length=len):ja 1 (some (zI (k:Int))) none none (.ds cs len 1)=.val (.ds (cs.drop k) (len - k) 1):=by
 unfold ja
 have:vd len (some (zI (k:Int))) none none=some (k,len):=by
  simp[vd,show bnd 0 (some (zI (k:Int)))=some k from rfl,show bnd len none=some len from rfl,h]
 simp only[this];simp;rw[fN (by simp;omega)]
theorem aC.blk {H:Hp}{n len sz:Nat}{v:AV}{l:List AV}(h:aC H n v l len sz)(h0:0<len):∃b y,v=.sl b 0 len sz/\b<n/\H.get b=some y/\OwnB y l:=by
 obtain⟨_,⟨_,e⟩|h⟩:=h
 ·omega
 exact h
@[simp] theorem aud {ce:Ce}{F:Fr}{H:Hp}{Hs:List Hp}{n:Nat}{m:List Dm}{Q:QA}(l:List AV)(b:Bool)(F0:Fr)(pd:Pd)(f:FuncId)(al:List G)(r:List (Option RO)):GcI (some (.bo l)) b F0 pd f al r ce F H Hs n m Q=Ev ((fY r).f ce (pd.f (.bo []) F) H (H::Hs) n m) Q:=propext Iff.rfl
theorem agJ {ba i k:Nat}{A:List (List Val)}{v5 v6:AV}{v:AV}{M:List (List Val)}{F:Fr}{K:Hp}{n' n2:Nat}{Q:QA}{kv:AV}(hA:i<A.length)(hi:i<2147483647)(hM:M.length<4194304)
  (f1:F.get 1=some kv)(f5:F.get 5=some v5)(f6:F.get 6=some v6)(f7:F.get 7=some v)(f8:F.get 8=some (zI (i:Int)))(f9:F.get 9=some (zI (k:Int)))
  (hv:v5=.sl ba 0 A.length 1)(xA:cE (.ptr ba i) K=.val (ay A[i]))(g1:n2<=n')(g3:aC K n' v (aJ M) M.length 1)(g4:∀c,v=.sl c 0 M.length 1->n2<=c)
  (hgo:∀(F2:Fr)(K':Hp)(v':AV),F2.get 1=some kv->F2.get 5=some v5->F2.get 6=some v6->F2.get 7=some v'->F2.get 8=some (zI ((i+1:Nat):Int))->F2.get 9=some (zI (k:Int)) ->
   (∀c,c<n2->K'.get c=K.get c)->aC K' (n'+2) v' (aJ (M++[A[i]])) (M++[A[i]]).length 1->(∀c,v'=.sl c 0 (M++[A[i]]).length 1->n2<=c)->Q .normal F2 K' (n'+2) []):
  VC pG MV F K n' [] (qf pG MU Q):=by
 subst hv;have yA:cK 1 (.sl ba 0 A.length 1) (zI (i:Int))=.val (.ptr ba i):=bJ hA;simp[MV,f7,f5,f8,yA,xA,ay];have g3':aC (K.put n' (aR 1 [ay A[i]])) (n'+1) v (aJ M) M.length 1:=g3.mv ae λ c hc _=>by simp[show ¬c=n' by omega]
 refine aC.app (new:=[ay A[i]]) (k:=1) g3' ?_ ah ah ae ae (by unfold big;omega) ae rfl λ H' ho hk=>?_
 ·rw[bT (l:=[ay A[i]]) (k:=.cells 1 [] [ay A[i]] .nil) (by simp[ay]) (.list ah) ah];simp
 simp[MU,f8,aD i ae];refine hgo _ _ (.sl (n'+1) 0 (M.length+1) 1) (by simp[f1]) (by simp[f5]) (by simp[f6]) ah ah (by simp[f9]) (λ c hc=>?_) (by simpa[aJ]using ho) λ c h=>by injection h with h;omega
 rw[hk c ae (λ e=>by have:=g4 c e;omega)];simp[show ¬c=n' by omega]
theorem agI {ba i k:Nat}{A:List (List Val)}{v5 v6:AV}{v:AV}{M:List (List Val)}{F:Fr}{K:Hp}{n' n2:Nat}{Q:QA}{kv:AV}(hA:i<A.length)(hi:i<2147483647)(hM:M.length<4194304)
  (f1:F.get 1=some kv)(f6:F.get 6=some v5)(f5:F.get 5=some v6)(f7:F.get 7=some v)(f9:F.get 9=some (zI (i:Int)))(f8:F.get 8=some (zI (k:Int)))
  (hv:v5=.sl ba 0 A.length 1)(xA:cE (.ptr ba i) K=.val (ay A[i]))(g1:n2<=n')(g3:aC K n' v (aJ M) M.length 1)(g4:∀c,v=.sl c 0 M.length 1->n2<=c)
  (hgo:∀(F2:Fr)(K':Hp)(v':AV),F2.get 1=some kv->F2.get 6=some v5->F2.get 5=some v6->F2.get 7=some v'->F2.get 9=some (zI ((i+1:Nat):Int))->F2.get 8=some (zI (k:Int)) ->
   (∀c,c<n2->K'.get c=K.get c)->aC K' (n'+2) v' (aJ (M++[A[i]])) (M++[A[i]]).length 1->(∀c,v'=.sl c 0 (M++[A[i]]).length 1->n2<=c)->Q .normal F2 K' (n'+2) []):
  VC pG MS F K n' [] (qf pG MR Q):=by
 subst hv;have yA:cK 1 (.sl ba 0 A.length 1) (zI (i:Int))=.val (.ptr ba i):=bJ hA;simp[MS,f7,f6,f9,yA,xA,ay];have g3':aC (K.put n' (aR 1 [ay A[i]])) (n'+1) v (aJ M) M.length 1:=g3.mv ae λ c hc _=>by simp[show ¬c=n' by omega]
 refine aC.app (new:=[ay A[i]]) (k:=1) g3' ?_ ah ah ae ae (by unfold big;omega) ae rfl λ H' ho hk=>?_
 ·rw[bT (l:=[ay A[i]]) (k:=.cells 1 [] [ay A[i]] .nil) (by simp[ay]) (.list ah) ah];simp
 simp[MR,f9,aD i ae];refine hgo _ _ (.sl (n'+1) 0 (M.length+1) 1) (by simp[f1]) (by simp[f6]) (by simp[f5]) ah ah (by simp[f8]) (λ c hc=>?_) (by simpa[aJ]using ho) λ c h=>by injection h with h;omega
 rw[hk c ae (λ e=>by have:=g4 c e;omega)];simp[show ¬c=n' by omega]
theorem aeg {od:List Val->List Val->Int}{S:List Val->Prop}{kv:AV}(ho:amD od S) (h19:∀l m,S l->S m->aj pG 36 [ay l,ay m,kv] (zI (od l m))):∀(N:Nat) (L:List (List Val)),L.length=N->L.length<=1048576->(∀l∈L,S l)->∀(H:Hp) (n:Nat),ak pG 17 [.ds (aJ L) L.length 1,kv] H n (SdR od H n L):=by
 intro N
 induction N using Nat.strongRecOn with
 |ind N ih =>
 intro L hN hL hm H n
 by_cases h2:L.length<2
 ·exact Aa kv L h2 H n
 refine ak.of c17 (by simp[A17]) λ F hF=>?_;obtain⟨A0,hA0⟩:∃A,A=L.take (L.length / 2):=⟨_,rfl⟩;obtain⟨B0,hB0⟩:∃B,B=L.drop (L.length / 2):=⟨_,rfl⟩;have lA:A0.length=L.length / 2:=by rw[hA0,length_take];omega
 have lB:B0.length=L.length - L.length / 2:=by rw[hB0,length_drop]
 have eAB:A0++B0=L:=by rw[hA0,hB0,take_append_drop]
 have sA:∀r∈A0,r∈L:=λ r hr=>by rw[<-eAB];simp[hr]
 have sB:∀r∈B0,r∈L:=λ r hr=>by rw[<-eAB];simp[hr]
 have cA:=ih A0.length ae A0 rfl ae (λ l h=>hm l (sA l h));have cB:=ih B0.length ae B0 rfl ae (λ l h=>hm l (sB l h));have e1:(L.length:Int).tdiv 2=((L.length / 2:Nat):Int):=by rw[Int.tdiv_eq_ediv_of_nonneg ae];omega
 have e2:=af' (cs:=aJ L) (len:=L.length) (k:=L.length / 2) ae;have e3:=af_ (cs:=aJ L) (len:=L.length) (k:=L.length / 2) ae ah
 have e0:bS .quo .i64 (L.length:Int) 2=.val (zI (A0.length:Int)):=by
  simp only[bS];rw[ai ae,e1,dW _ ae ae,lA];simp
 rw[show (aJ L).take (L.length / 2)=aJ A0 by rw[hA0,aJ,aJ,map_take],<-lA]at e2;rw[show (aJ L).drop (L.length / 2)=aJ B0 by rw[hB0,aJ,aJ,map_drop],<-lB,<-lA]at e3;simp[A17,hF,show ¬(L.length:Int)<2 by omega,e0,wH,vM,e2];refine aB.of (cA H n) λ a K1 n1 ⟨p1,p2,p3,A,p4,p5,p6⟩=>?_;simp[aiY,hF,e0,wH,vM,e3];refine aB.of (cB K1 n1) λ b K2 n2 ⟨q1,q2,q3,B,q4,q5,q6⟩=>?_;obtain⟨ba,ya,rfl,hba,hya,oya⟩:=p6.blk ae;obtain⟨bb,yb,rfl,hbb,hyb,oyb⟩:=q6.blk ae;rw[<-q2 ba hba]at hya;have nA:A.length=A0.length:=p4.length_eq;have nB:B.length=B0.length:=q4.length_eq;have hbn:n1<=bb:=q3 bb rfl;have mA:∀r∈A,S r:=λ r hr=>hm r (sA r (p4.mem_iff.1 hr));have mB:∀r∈B,S r:=λ r hr=>hm r (sB r (q4.mem_iff.1 hr));have sM:(A.merge B (yG od)).Perm L:=(merge_perm_append (xs:=A) (ys:=B) (yG od)).trans (by rw[<-eAB];exact p4.append q4);have oM:=Jw ho mA mB p5 q5;have lM:(A.merge B (yG od)).length=L.length:=sM.length_eq;rw[<-nA]at *;rw[<-nB]at *;have hK2:∀c,c<n->K2.get c=H.get c:=λ c hc=>by rw[q2 c ae,p2 c hc]
 clear ih cA cB e0 e1 e2 e3 hA0 hB0 sA sB lA lB p4 q4 p2 q2 p6 q6 q3 p3 hm;simp[aiX,aiW,aiV]
 refine aE.of (λ t F K n' ms=>∃(i k:Nat) (v:AV) (M:List (List Val)),t=A.length - i+(B.length - k)/\i<=A.length/\k<=B.length/\F.get 1=some kv/\F.get 5=some (.sl ba 0 A.length 1)/\F.get 6=some (.sl bb 0 B.length 1)/\F.get 7=some v/\F.get 8=some (zI (i:Int))/\F.get 9=some (zI (k:Int))/\ms=[] /\
  n2<=n'/\(∀c,c<n2->K.get c=K2.get c)/\aC K n' v (aJ M) M.length 1/\(∀c,v=.sl c 0 M.length 1->n2<=c)/\A.merge B (yG od)=M++(A.drop i).merge (B.drop k) (yG od)) (A.length+B.length) ⟨0,0,_,[],ae,ae,ae,by simp[hF],ah,ah,ah,ah,ah,rfl,aK _,λ _ _=>rfl,aC.nil _ _ _,λ c h=>by simp at h,ah⟩ ?_
 clear hF F;rintro t F K n' ms ⟨i,k,v,M,rfl,hi,hk,f1,f5,f6,f7,f8,f9,rfl,g1,g2,g3,g4,g5⟩
 have xA:∀h:i<A.length,cE (.ptr ba i) K=.val (ay A[i]):=λ h=>by
  have:=XY (K:=K) (by rw[g2 ba ae];exact hya) oya (i:=i) (by simpa using h);simpa[aJ]using this
 have xB:∀h:k<B.length,cE (.ptr bb k) K=.val (ay B[k]):=λ h=>by
  have:=XY (K:=K) (by rw[g2 bb ae];exact hyb) oyb (i:=k) (by simpa using h);simpa[aJ]using this
 have yA:∀h:i<A.length,cK 1 (.sl ba 0 A.length 1) (zI (i:Int))=.val (.ptr ba i):=λ h=>bJ h;have yB:∀h:k<B.length,cK 1 (.sl bb 0 B.length 1) (zI (k:Int))=.val (.ptr bb k):=λ h=>bJ h
 have lM2:M.length+((A.length - i)+(B.length - k))=A.length+B.length:=by
  have:=congrArg length g5;rw[length_append,(merge_perm_append (xs:=A.drop i) (ys:=B.drop k) (yG od)).length_eq,(merge_perm_append (xs:=A) (ys:=B) (yG od)).length_eq]at this;simp at this;omega
 have emn:∀X:List (List Val),X.merge [] (yG od)=X:=λ X=>ah
 have kAA:∀h:i<A.length,∀h':k<B.length,od A[i] B[k]<=0->A.merge B (yG od)=(M++[A[i]])++(A.drop (i+1)).merge (B.drop k) (yG od):=λ h h' hle=>by
  rw[g5,ga h,ga h',cons_merge_cons,aw (by simpa[yG]using hle),append_assoc];rfl
 have kAB:∀h:i<A.length,∀h':k<B.length,¬(od A[i] B[k]<=0)->A.merge B (yG od)=(M++[B[k]])++(A.drop i).merge (B.drop (k+1)) (yG od):=λ h h' hle=>by
  rw[g5,ga h,ga h',cons_merge_cons,ai (by simpa[yG]using hle),append_assoc];rfl
 have kA:∀h:i<A.length,¬k<B.length->A.merge B (yG od)=(M++[A[i]])++(A.drop (i+1)).merge (B.drop k) (yG od):=λ h h'=>by
  rw[g5,ga h,drop_eq_nil_of_le (by omega:B.length<=k),emn,emn,append_assoc];rfl
 have kB:¬i<A.length->∀h':k<B.length,A.merge B (yG od)=(M++[B[k]])++(A.drop i).merge (B.drop (k+1)) (yG od):=λ h h'=>by
  rw[g5,ga h',drop_eq_nil_of_le (by omega:A.length<=i),nil_merge,nil_merge,append_assoc];rfl
 have hbaA:ba<n':=ae;have lMx:M.length<4194304:=by have:=lM;rw[(merge_perm_append (xs:=A) (ys:=B) (yG od)).length_eq,length_append]at this;omega
 by_cases hB:k<B.length
 ·by_cases hA:i<A.length
  ·simp[IQ,f8,f5,hA];refine bC.of (eh (l:=[(36,[ay A[i],ay B[k],kv],λ H n=>.mk (zI (od A[i] B[k])) H n)]) ?_) ?_
   ·intro x hx;simp only[mem_cons,not_mem_nil,or_false]at hx;subst hx;exact cR (h19 A[i] B[k] (mA _ (dw _)) (mB _ (dw _)))
   have hB':¬B.length<=k:=ae;simp[ab,f8,f5,f9,f6,f1,hA,hB',yA hA,yB hB,xA hA,xB hB];rw[bX]
   by_cases hle:od A[i] B[k]<=0
   ·simp[hle];refine agJ (kv:=kv) (v5:=.sl ba 0 A.length 1) (v6:=.sl bb 0 B.length 1) (ba:=ba) (i:=i) (k:=k) (A:=A) (v:=v) (M:=M) (n2:=n2) hA ae lMx (by simp[ab,f1]) (by simp[ab,f5]) (by simp[ab,f6]) (by simp[ab,f7]) (by simp[ab,f8]) (by simp[ab,f9]) rfl (xA hA) g1 g3 g4 λ F2 K' v' e1 e5 e6 e7 e8 e9 ek eo eg=>?_;exact⟨A.length - (i+1)+(B.length - k),ae,i+1,k,rfl,ae,ae,e1,e5,e6,v',e7,e8,e9,rfl,ae,λ c hc=>(ek c hc).trans (g2 c hc),M++[A[i]],eo,eg,kAA hA hB hle⟩
   simp[hle];refine agI (kv:=kv) (v5:=.sl bb 0 B.length 1) (v6:=.sl ba 0 A.length 1) (ba:=bb) (i:=k) (k:=i) (A:=B) (v:=v) (M:=M) (n2:=n2) hB ae lMx (by simp[ab,f1]) (by simp[ab,f6]) (by simp[ab,f5]) (by simp[ab,f7]) (by simp[ab,f9]) (by simp[ab,f8]) rfl (xB hB) g1 g3 g4 λ F2 K' v' e1 e6 e5 e7 e9 e8 ek eo eg=>?_;exact⟨A.length - i+(B.length - (k+1)),ae,i,k+1,rfl,ae,ae,e1,e5,e6,v',e7,e8,e9,rfl,ae,λ c hc=>(ek c hc).trans (g2 c hc),M++[B[k]],eo,eg,kAB hA hB hle⟩
  have hB':¬B.length<=k:=ae;simp[IQ,f8,f5,f9,f6,hA,hB];refine bC.of (bh (P:=pG)) ?_;simp[ab,f8,f5,f9,f6,hA,hB'];refine agI (kv:=kv) (v5:=.sl bb 0 B.length 1) (v6:=.sl ba 0 A.length 1) (ba:=bb) (i:=k) (k:=i) (A:=B) (v:=v) (M:=M) (n2:=n2) hB ae lMx (by simp[ab,f1]) (by simp[ab,f6]) (by simp[ab,f5]) (by simp[ab,f7]) (by simp[ab,f9]) (by simp[ab,f8]) rfl (xB hB) g1 g3 g4 λ F2 K' v' e1 e6 e5 e7 e9 e8 ek eo eg=>?_;exact⟨A.length - i+(B.length - (k+1)),ae,i,k+1,rfl,ae,ae,e1,e5,e6,v',e7,e8,e9,rfl,ae,λ c hc=>(ek c hc).trans (g2 c hc),M++[B[k]],eo,eg,kB hA hB⟩
 by_cases hA:i<A.length
 ·have hB':B.length<=k:=ae;simp[IQ,f8,f5,hA];refine bC.of (bh (P:=pG)) ?_;simp[ab,f9,f6,hB'];refine agJ (kv:=kv) (v5:=.sl ba 0 A.length 1) (v6:=.sl bb 0 B.length 1) (ba:=ba) (i:=i) (k:=k) (A:=A) (v:=v) (M:=M) (n2:=n2) hA ae lMx (by simp[ab,f1]) (by simp[ab,f5]) (by simp[ab,f6]) (by simp[ab,f7]) (by simp[ab,f8]) (by simp[ab,f9]) rfl (xA hA) g1 g3 g4 λ F2 K' v' e1 e5 e6 e7 e8 e9 ek eo eg=>?_;exact⟨A.length - (i+1)+(B.length - k),ae,i+1,k,rfl,ae,ae,e1,e5,e6,v',e7,e8,e9,rfl,ae,λ c hc=>(ek c hc).trans (g2 c hc),M++[A[i]],eo,eg,kA hA hB⟩
 simp[IQ,f8,f5,f9,f6,hA,hB,acI,f7];rw[drop_eq_nil_of_le (by omega:A.length<=i),drop_eq_nil_of_le (by omega:B.length<=k),nil_merge,append_nil]at g5;have hML:M.length=L.length:=by rw[<-g5];exact lM
 refine⟨ae,λ c hc=>(g2 c ae).trans (hK2 c hc),λ c e=>?_,M,g5▸sM,g5▸oM,by rw[<-hML];exact g3⟩;have:=g4 c (by rw[hML];exact e);omega
end Go.Abs
namespace Go.Abs
open List
open Go.Proofs
open Classical
set_option maxRecDepth 100000
def rS (r:List Val):Prop:=eI r/\r.length<=1048576
theorem V5:amD rO rS:=by
 refine⟨λ a b ha hb h=>?_,λ a b c ha hb hc h k=>?_⟩
 ·rw[nC ha.1 hb.1]at h;rw[nC hb.1 ha.1];have:=jI ha.1 hb.1;omega
 rw[nC ha.1 hb.1]at h;rw[nC hb.1 hc.1]at k;rw[nC ha.1 hc.1];exact lg ha.1 hb.1 hc.1 h k
theorem VQ (L:List (List Val))(hL:L.length<=1048576)(hm:∀l∈L,rS l):aj pG 17 [.ds (aJ L) L.length 1,nS] (.ds (aJ (oK L)) L.length 1):=by
 refine aj.ofR ah ah ((aeg V5 (λ l m hl hm=>agu l m hl.2 hm.2 hl.1 hm.1) _ L rfl hL hm .nil 0).mono λ v K k ⟨_,_,_,A,hp,hs,os⟩=>?_);have e:A=oK L:=CV (λ r hr=>(hm r hr).1) hp (hs.imp_of_mem λ ha hb h=>(nC (hm _ (hp.mem_iff.1 ha)).1 (hm _ (hp.mem_iff.1 hb)).1).1 h);subst e;rw[<-nz L];rw[nz L];exact(by simpa using os:aC K k v (aJ (oK L)) L.length 1).nV (bc.pure ah) ae
end Go.Abs
namespace Go.Abs
open List
open Go.Proofs
open Classical
set_option maxRecDepth 100000
def V1 (l:List AV):List AV:=[zI 8,.str [],.str [],nS,nS,.bool false,nS,nS,zI 0,zI 0,zI 0,.str [],.str [],.str [],zI 0,nS]++l
section
variable {w:pe}{q:bI}{e0:Int}{N D W:AV}{L5:List AV}{F:Fr}{K:Hp}{n:Nat}{v:AV}{acc:List (List Val)}{i:Nat}
end
end Go.Abs
namespace Go.Abs
open List
open Go.Proofs
open Classical
set_option maxRecDepth 100000
end Go.Abs
