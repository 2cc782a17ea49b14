/- A part. -/
import Derived.Test.YtlhafglnokpioaaGreatBt6
noncomputable section
namespace Go.Abs
open List
open Go.Proofs
open Classical
set_option maxRecDepth 100000
def dB (t:List (List Val)):AV:=.ds (aQ t) t.length 1
def iO:bf (List (List Val)) 1:=⟨λ t=>[dB t],λ _=>rfl,λ _=>by simp[dB],λ _=>by simp[bo,AV.one,dB]⟩
theorem Y2 (t:List (List Val)):iO.cells t=[dB t]:=rfl
structure qf where
 aY:cG
 rows:List (List (List Val))
def mX:bf qf 3:=⟨λ w=>[aM.ds w.aY.tables,bw.ds w.aY.indexes,iO.ds w.rows],λ _=>rfl,λ _=>ai,λ _=>by simp[bo,AV.one,bf.ds]⟩
theorem uQ (w:qf):mX.cells w=[aM.ds w.aY.tables,bw.ds w.aY.indexes,iO.ds w.rows]:=rfl
def lD (L:List (List Val)):Prop:=∀k,∀h:k+1<L.length,0<=dP L[k+1] (L[k]'ah)
theorem VY (L:List (List Val))(hL:L.length<=aU)(hl:∀l∈L,l.length<=aU):aj pG 39 [dB L,.fn (.func 40) [] []] (.bool (decide (lD L))):=by
 unfold aU at hL hl;refine gf c39 (by simp[dB]) ai (by simp[A39]) λ F hF=>?_;simp[A39,hF,dB];have w0:IntKind.i64.wrap ((L.length:Int) - 1)=(L.length:Int) - 1:=dY _ ah ah;rw[w0];refine aF.of (λ t F K n ms=>∃j:Nat,t=j/\j<=L.length/\F.get 0=some (dB L)/\F.get 1=some (.fn (.func 40) [] [])/\F.get 5=some (zI ((j:Int) - 1))/\(∀k,j<=k+1->∀h:k+1<L.length,0<=dP L[k+1] (L[k]'ah))/\ms=[]) L.length ⟨L.length,ai,ah,by simp[hF,dB],by simp[hF],ai,λ k h1 h2=>ah,rfl⟩ ?_;clear hF F;rintro t F K n ms ⟨j,hj,hjl,f0,f1,f5,hk,rfl⟩;rw[dB]at f0
 by_cases h:2<=j
 ·obtain⟨k,hjk⟩:∃k,j=k+2:=⟨j - 2,ah⟩;subst hjk;have h1:k+1<L.length:=ah;have hx:=kz (k:=.i64) h1;have hy:=kz (k:=.i64) (show k<L.length by omega);have ho:=Dv L[k+1] (L[k]'ah) (hl _ (dy _)) (hl _ (dy _));have e5:((k+2:Nat):Int) - 1=((k+1:Nat):Int):=ah;have w1:IntKind.i64.wrap (((k+1:Nat):Int) - 1)=(k:Int):=by rw[dY _ ah ah];omega
  rw[e5]at f5
  have hk1:(0<=dP L[k+1] (L[k]'ah))->∀k',k+1<=k'+1->∀h:k'+1<L.length,0<=dP L[k'+1] (L[k']'ah):=λ h0 k' h2 h3=>by
   by_cases e:k'=k
   ·subst e;exact h0
   exact hk k' ah h3
  have hbad:¬(0<=dP L[k+1] (L[k]'ah))->¬lD L:=λ h0 h2=>h0 (h2 k h1);generalize L[k+1]=a at *;generalize L[k]'ah=b at *;generalize hc:k+1=c at *;have hcp:(0:Int)<(c:Int):=ah;simp[adQ,f5,show 0<c by omega];refine bF.of (dX (l:=[(40,[aC a,aC b],λ H n=>.mk (zI (dP a b)) H n)]) ?_) ?_
  ·simp only[mc];rintro y rfl;exact cy ho
  by_cases h0:dP a b<0
  ·have hb:=hbad ah;simp[ae,f0,f1,f5,hx,hy,w1,bY,h0,aiD];exact .bool (by simp[hb])
  simp[ae,f0,f1,f5,hx,hy,w1,bY,h0,aiC];exact⟨c,ah,ah,by simp[dB],ah,hk1 ah⟩
 simp[adQ,f5,show ¬(1:Int)<(j:Int) by omega,aiB];have:lD L:=λ k h1=>hk k ah h1;exact .bool (by simp[this])
structure qf.gA (w:qf):Prop where
 s:w.aY.gA
 g:w.aY.pq
 l:w.rows.length<=aU
 t:∀t∈w.rows,t.length<=aU
 r:∀t∈w.rows,∀r∈t,r.length<=aU/\∀v∈r,v.pq
structure Ll (s:cG)(t:bR)(L:List (List Val)):Prop where
 len:L.length<=4096
 w:sU s t L=0
 oV:lD L
 uq:u3 s t.id L
structure iV (w:qf):Prop where
 s:fN w.aY
 l:w.rows.length=w.aY.tables.length
 t:∀i (h1:i<w.rows.length) (h2:i<w.aY.tables.length),Ll w.aY w.aY.tables[i] w.rows[i]
theorem X8 (a b:Int):je a b=0↔a=0/\b=0:=by
 unfold je
 by_cases h1:a=0<;>by_cases h2:b=0<;>simp[h1,h2]
 omega
theorem CG (s:cG)(t:bR)(L:List (List Val)):sU s t L=0↔∀r∈L,CU s t r=0:=by
 have key:∀(L:List (List Val)) (a:Int),L.foldl (λ a r=>je a (CU s t r)) a=0↔a=0/\∀r∈L,CU s t r=0:=by
  intro L
  induction L with
  |nil=>intro a;simp
  |cons r L ih=>intro a;simp only[foldl_cons,ih,X8,mem_cons,forall_eq_or_imp,and_assoc]
 unfold sU;rw[key];simp
theorem GM {s:cG}{t:bR}{r:List Val}(h:CU s t r=0):sH t.cols r=0:=by
 unfold CU at h
 split at h
 ·rename_i h0;unfold wo at h0
  split at h0
  ·assumption
  rename_i h;exact aw h0 h
 rename_i h0;exact aw h h0
theorem fN.tbl {s:cG}(h:fN s)(hg:s.pq){t:bR}(ht:t∈s.tables):(s.table t.id).1=t:=by
 have ha:=(xE s.tables hg.t).1 h.tabs;obtain⟨i,hi,rfl⟩:=getElem_of_mem ht;unfold cG.table jt
 have e:s.tables.find? (λ u:bR=>decide (u.id=s.tables[i].id))=some s.tables[i]:=by
  rw[find?_eq_some_iff_getElem];refine⟨ai,i,hi,rfl,λ j hj=>?_⟩;have:=((ha i) hi).2.2.2 j hj;simp;omega
 rw[e]
theorem fN.on {s:cG}(h:fN s)(hg:s.pq){t:bR}(ht:t∈s.tables){x:pz}(hx:x∈s.on t.id):fX t x.cols:=by
 obtain⟨h1,h2⟩:=mem_filter.1 hx;simp at h2;obtain⟨i,hi,rfl⟩:=getElem_of_mem h1;have:=(h.ixs i hi).cols;rw[h2,h.tbl hg ht]at this;exact this
theorem fX.al6 {t:bR}{l:List Int}(h:fX t l){r:List Val}(hr:r.length=t.cols.length):qp l r:=by
 intro c hc;obtain⟨i,hi,rfl⟩:=getElem_of_mem hc;have:=h.2.2 i hi;exact⟨this.1,by rw[hr];exact this.2.1⟩
structure RowsFit (s:cG)(t:bR)(L:List (List Val)):Prop where
 jf:∀r∈L,r.length=t.cols.length->∀x∈s.on t.id,qp x.cols r
 kK:∀x∈s.on t.id,x.cols.length<=16
theorem fN.rows {s:cG}(h:fN s)(hg:s.pq){t:bR}(ht:t∈s.tables)(L:List (List Val)):RowsFit s t L:=
 ⟨λ _ _ hr _ hx=>(h.on hg ht hx).al6 hr,λ _ hx=>(h.on hg ht hx).2.1⟩
theorem oc (s:cG)(t:bR)(L:List (List Val)):vH s t L=0↔sU s t L=0/\u3 s t.id L:=by
 unfold vH
 by_cases h1:sU s t L=0<;>by_cases h2:u3 s t.id L<;>simp[h1,h2]
theorem akK (t:bR)(L:List (List Val))(hL:L.length<=aU)(hl:∀l∈L,l.length<=aU)(F:Fr)(K:Hp)(n p:Nat)(Q:QA)(f4:F.get 4=some (.ptr p 0))(kp:K.get p=aN 4 [.int .u32 t.id,.str t.name,dV.ds t.cols,.int .u32 t.head])(f39:F.get 39=some (dB L))(f40:F.get 40=some (zI (L.length:Int)))(f41:F.get 41=some (zI 0))
  (k1:¬(∀r∈L,sH t.cols r=0)->∀F',F'.get 2=some (.bool false)->Q .ret F' K n [])
  (k2:(∀r∈L,sH t.cols r=0)->∀F',F'.get 1=F.get 1->F'.get 4=F.get 4->F'.get 5=F.get 5->F'.get 24=F.get 24->F'.get 25=F.get 25->F'.get 26=F.get 26->Q (.exit 2) F' K n []):aF TE pG F K n [] Q:=by
 unfold aU at hL;refine aF.of (λ q F' K' n' ms=>∃i,q=L.length - i/\i<=L.length/\F'.get 1=F.get 1/\F'.get 4=F.get 4/\F'.get 5=F.get 5/\F'.get 24=F.get 24/\F'.get 25=F.get 25/\F'.get 26=F.get 26/\F'.get 39=some (dB L)/\F'.get 40=some (zI (L.length:Int))/\F'.get 41=some (zI (i:Int))/\(∀r∈L.take i,sH t.cols r=0)/\K'=K/\n'=n/\ms=[]) L.length ⟨0,ai,ah,rfl,rfl,rfl,rfl,rfl,rfl,f39,f40,f41,ai,rfl,rfl,rfl⟩ ?_;clear f39 f40 f41;rintro q F' K' n' ms ⟨i,rfl,hi,g1,g4,g5,g24,g25,g26,f39,f40,f41,hk,rfl,rfl,rfl⟩;have g4':=g4.trans f4;rw[dB]at f39
 by_cases h:i<L.length
 ·have hx:=kz (k:=.i64) h;have w:=aE i ah;have hrm:L[i]∈L:=dy h;have hms:∀x∈L.take (i+1),x∈L.take i∨x=L[i]:=λ x hx=>by rwa [take_snoc h,mem_append,mc]at hx
  have hf:=YQ t.cols L[i] (hl _ hrm);generalize L[i]=r at *;simp[TE,f40,f41,h,f39,hx,g4',kp];refine aB.pure hf ?_
  by_cases h0:sH t.cols r=0
  ·simp[h0,acO,f41,w,g1,g4',g5,g24,g25,g26,f39,f40,f4];refine⟨_,ah,i+1,rfl,ah,by simp[dB],rfl,λ x hx=>?_⟩
   rcases hms x hx with h1|rfl
   ·exact hk x h1
   exact h0
  simp[h0,acP];exact k1 (λ h1=>h0 (h1 r hrm)) _ ai
 obtain rfl:i=L.length:=ah;rw[fZ (aL _)]at hk;simp[TE,f40,f41];refine k2 hk _ ?_ ?_ ?_ ?_ ?_ ?_
 ·simp[g1]
 ·simp[g4]
 ·simp[g5]
 ·simp[g24]
 ·simp[g25]
 simp[g26]
theorem ag7 (w:qf)(hw:w.gA):aj pG 19 [mX.av w] (.bool (decide (iV w))):=by
 refine pv c19 λ F hF=>?_;have aqh:=ag8 w.aY hw.s;simp only[bf.av,fe]at aqh;have hst:=hw.s.t;have hl:=hw.l;unfold aU at hst hl;simp[A19,hF,bf.av,uQ];refine aB.pure aqh ?_
 by_cases h0:fN w.aY
 ·by_cases h1:w.rows.length=w.aY.tables.length
  ·simp[h0,bf.aT,h1,ai3];refine aF.of (λ q F K n ms=>∃i,q=w.rows.length - i/\i<=w.rows.length/\F.get 1=some (.ptr 0 0)/\F.get 24=some (aM.ds w.aY.tables)/\F.get 25=some (zI (w.aY.tables.length:Int))/\F.get 26=some (zI (i:Int))/\K.get 0=aN 3 [aM.ds w.aY.tables,bw.ds w.aY.indexes,iO.ds w.rows]/\0<n/\(∀j (hj:j<i) (h1:j<w.rows.length) (h2:j<w.aY.tables.length),Ll w.aY w.aY.tables[j] w.rows[j])/\ms=[]) w.rows.length ⟨0,ai,ah,ai,ai,ai,ai,ai,ah,λ j hj=>ah,rfl⟩ ?_;clear hF F;rintro q F K n ms ⟨i,rfl,hi,f1,f24,f25,f26,k0,n0,hk,rfl⟩
   by_cases h:i<w.rows.length
   ·have h2:i<w.aY.tables.length:=ah;have hx:=iO.ix (ik:=.i64) h;have hy:=aM.ix (ik:=.i64) h2;have wr:=aE i ah;have htm:w.rows[i]∈w.rows:=dy h;have hTm:w.aY.tables[i]∈w.aY.tables:=dy h2;have hrf:=h0.rows hw.g hTm w.rows[i];have hlt:=hw.t _ htm;have hrr:=hw.r _ htm;have hno:∀P:Prop,(Ll w.aY w.aY.tables[i] w.rows[i]->P)->¬P->¬iV w:=λ P a b c=>b (a (c.t i h h2))
    have hyes:Ll w.aY w.aY.tables[i] w.rows[i]->∀j (hj:j<i+1) (h1:j<w.rows.length) (h2:j<w.aY.tables.length),Ll w.aY w.aY.tables[j] w.rows[j]:=λ a j hj h1 h2=>by
     by_cases e:j=i
     ·subst e;exact a
     exact hk j ah h1 h2
    rw[Y2]at hx;rw[fc]at hy;generalize w.rows[i]=L at *;generalize w.aY.tables[i]=t at *;have hso:=VY L hlt λ r hr=>(hrr r hr).1;simp[adZ,f25,f26,h2,f24,hy,aoK,bf.av,fc,f1,k0,show ¬ 0=n by omega,hx,dB]
    by_cases h4:4096<L.length
    ·have:=hno (L.length<=4096) (λ a=>a.len) ah;simp[show (4096:Int)<(L.length:Int) by omega,ai2];exact .bool (by simp[this])
    simp[show ¬(4096:Int)<(L.length:Int) by omega,ai1];refine akK t L hlt (λ r hr=>(hrr r hr).1) _ _ _ n _ ai ai (by simp[dB]) ai ai (λ hb F' g2=>?_) λ hfit F' g1 g4 g5 g24 g25 g26=>?_
    ·have:=hno (∀r∈L,sH t.cols r=0) (λ a r hr=>GM ((CG _ _ _).1 a.w r hr)) hb;simp[g2];exact .bool (by simp[this])
    simp[f1,f24,f25,f26]at g1 g4 g5 g24 g25 g26;have hfl:∀r∈L,r.length=t.cols.length:=λ r hr=>(tP (hfit r hr)).2.1;have hfs:=alC w.aY t L hw.s.i hw.s.ic hlt hrr hrf.jf hrf.kK hfl;simp only[bf.av,fe,fc]at hfs;rw[dB]at hso;simp[acN,g5];refine aB.pure hso ?_
    by_cases h5:lD L
    ·simp[h5,g1,g4,g5,k0,show ¬ 0=n by omega];refine aB.pure hfs ?_
     by_cases h6:vH w.aY t L=0
     ·obtain⟨h7,h8⟩:=(oc _ _ _).1 h6;simp[h6,acM,g26,wr,g1,g24,g25,k0,show ¬ 0=n by omega];exact⟨_,ah,i+1,rfl,ah,rfl,hyes ⟨ah,h7,h5,h8⟩⟩
     have:=hno (sU w.aY t L=0/\u3 w.aY t.id L) (λ a=>⟨a.w,a.uq⟩) (λ a=>h6 ((oc _ _ _).2 a));simp[h6,NI];exact .bool (by simp[this])
    have:=hno (lD L) (λ a=>a.oV) h5;simp[h5,NI];exact .bool (by simp[this])
   obtain rfl:i=w.rows.length:=ah;have:iV w:=⟨h0,h1,λ j a b=>hk j a a b⟩;simp[adZ,f25,f26,h1,acL];exact .bool (by simp[this])
  have:¬iV w:=λ h=>h1 h.l;simp[h0,bf.aT,h1,acK];exact .bool (by simp[this])
 have:¬iV w:=λ h=>h0 h.s;simp[h0,acK];exact .bool (by simp[this])
def eRw:bf (List Val) 1:=⟨λ r=>[aC r],λ _=>rfl,λ _=>ai,λ _=>by simp[bo,AV.one,aC]⟩
theorem arn (L:List (List Val)):eRw.l L=aQ L:=by
 induction L with
 |nil=>rfl
 |cons a r ih=>rw[bf.nT,ih];rfl
theorem alP (L:List (List Val)):eRw.ds L=dB L:=by simp[bf.ds,dB,arn]
def dx (b:Bool):Val:=⟨3,if b then 1 else 0,[]⟩
def JX (k:Int)(v:Val):Bool:=decide (v.kind=0)||decide (v.kind=k)
def iN (k:Int)(l:List Val):Int:=if l.all Val.may then (if l.all (JX k)then 0 else 30)else 5
def cT (r:Val×Int):AV:=.br [r.1.av,zI r.2]
@[simp] theorem anh (r:Val×Int):Pure (cT r):=by simp[cT]
theorem CS (b:Bool):aj pG 308 [.bool b] (dx b).av:=by
 refine pv c308 λ F hF=>?_;cases b
 ·simp[A308,hF];exact fp
 simp[A308,hF];exact fp
theorem xu (b:Bool):aj pG 219 [.bool b] (dx b).av:=by
 refine pv c219 λ F hF=>?_;cases b
 ·simp[A219,hF];exact fp
 simp[A219,hF];exact fp
theorem IM (p:Val->Bool)(l:List Val)(i:Nat)(h:i<l.length)(h0:(l.take i).all p=true):(l.take (i+1)).all p=p l[i]:=by
 rw[take_snoc h,all_append,h0];simp
theorem ZG (p:Val->Bool)(l:List Val)(i:Nat)(h:i<l.length)(h0:p l[i]=false):l.all p=false:=by
 rw[all_eq_false];exact⟨l[i],dy h,by simp[h0]⟩
theorem zy (k:Int) (l:List Val) (hl:l.length<=aU):aj pG 307 [zI k,aC l] (zI (iN k l)):=by
 unfold aU at hl;refine pv c307 λ F hF=>?_;simp[A307,hF,aC];refine aF.of (λ t F K n ms=>∃i,t=l.length - i/\i<=l.length/\F.get 0=some (zI k)/\F.get 1=some (aC l)/\F.get 9=some (aC l)/\F.get 10=some (zI (l.length:Int))/\F.get 11=some (zI (i:Int))/\(l.take i).all Val.may=true/\ms=[]) l.length ⟨0,by simp[hF,aC]⟩ ?_;clear hF F;rintro t F K n ms ⟨i,rfl,hi,f0,f1,f9,f10,f11,ha,rfl⟩;rw[aC]at f1 f9
 by_cases h:i<l.length
 ·have hx:=fM (k:=.i64) h;have w:=aE i ah;have hs:=IM Val.may l i h ha;have hn:=ZG Val.may l i h;generalize l[i]=v at *;have hm:=mT v;simp only[Val.av]at hm;simp[NT,f10,f11,h,f9,hx,gw,Val.av];refine aB.pure hm ?_
  cases hv:v.may with
  |true =>
   simp[abC,f11,w,f0,f1,f9,f10];exact⟨_,ah,i+1,rfl,ah,by simp[aC],rfl,by rw[hv]at hs;simpa using hs⟩
  |false =>
   have e:iN k l=5:=by unfold iN;rw[hn hv];rfl
   simp[abD,e];exact fp
 obtain rfl:i=l.length:=ah;rw[fZ (aL _)]at ha;have hall:=ha;simp[NT,f10,f11,abB,f1];refine aF.of (λ t F K n ms=>∃i,t=l.length - i/\i<=l.length/\F.get 0=some (zI k)/\F.get 19=some (aC l)/\F.get 20=some (zI (l.length:Int))/\F.get 21=some (zI (i:Int))/\(l.take i).all (JX k)=true/\ms=[]) l.length ⟨0,by simp[f0,aC]⟩ ?_;clear f0 f1 f9 f10 f11 F;rintro t F K n ms ⟨i,rfl,hi,f0,f19,f20,f21,ha,rfl⟩;rw[aC]at f19
 by_cases h:i<l.length
 ·have hx:=fM (k:=.i64) h;have w:=aE i ah;have hs:=IM (JX k) l i h ha;have hn:=ZG (JX k) l i h;generalize l[i]=v at *
  by_cases h0:v.kind=0
  ·have hk:JX k v=true:=by simp[JX,h0]
   simp[zR,f20,f21,h,f19,hx,gw,Val.av,h0,w,f0];exact⟨_,ah,i+1,rfl,ah,by simp[aC],rfl,by rw[hk]at hs;simpa using hs⟩
  by_cases h1:v.kind=k
  ·have hk:JX k v=true:=by simp[JX,h1]
   simp[zR,f20,f21,h,f19,hx,gw,Val.av,h1];simp[h1]at h0;simp[h0,f19,f21,w,f0,f20];exact⟨_,ah,i+1,rfl,ah,by simp[aC],rfl,by rw[hk]at hs;simpa using hs⟩
  have hk:JX k v=false:=by simp[JX,h0,h1]
  have e:iN k l=30:=by unfold iN;rw[hall,hn hk];rfl
  simp[e,zR,f20,f21,h,f19,hx,gw,Val.av,h0,h1,f0];exact fp
 obtain rfl:i=l.length:=ah;rw[fZ (aL _)]at ha;have e:iN k l=0:=by unfold iN;rw[hall,ha];rfl
 simp[e,zR,f20,f21,QV];exact fp
theorem aqS {H:Hp}{b:Nat}{a:Val}(h:H.get b=aN 3 a.cells):fj H.get (.sl b 0 1 3) (aC [a]):=by
 have:=aD.nz (H:=H) (n:=b+1) (v:=.sl b 0 1 3) (l:=Aq.l [a]) (len:=1) (sz:=3) ⟨ai,.inr ⟨b,_,rfl,ah,h,OwnB.list (l:=Aq.l [a]) ai⟩⟩ (.pure ai);rw[Kz]at this;exact this
theorem PY {H:Hp}{b:Nat}{a c:Val}(h:H.get b=aN 6 (a.cells++c.cells)):fj H.get (.sl b 0 2 3) (aC [a,c]):=by
 have:=aD.nz (H:=H) (n:=b+1) (v:=.sl b 0 2 3) (l:=Aq.l [a,c]) (len:=2) (sz:=3) ⟨ai,.inr ⟨b,_,rfl,ah,h,OwnB.list (l:=Aq.l [a,c]) ai⟩⟩ (.pure ai);rw[Kz]at this;exact this
def jY (a b:Val)(r:Int×Bool):Val×Int:=if iN 1 [a,b]≠0∨a.kind=0∨b.kind=0 then (fq,iN 1 [a,b])else if r.2=true then (⟨1,r.1,[]⟩,0)else (fq,31)
theorem qz (a b:Val) (g:FuncId) (r:Int×Bool) (h:iN 1 [a,b]=0->a.kind≠0->b.kind≠0->aj pG g [zI a.num,zI b.num] (.br [zI r.1,.bool r.2])):aj pG 305 [a.av,b.av,.fn (.func g) [] []] (cT (jY a b r)):=by
 refine pv c305 λ F hF=>?_;have hall:=zy 1 [a,b] (by simp[aU]);unfold jY;generalize iN 1 [a,b]=e at *;simp[A305,hF,Val.av,rep];refine aB.nz hall ai (.cons _ _ _ _ fp (.cons _ _ _ _ (PY (a:=a) (c:=b) (by simp[Val.cells])) .nil)) ?_
 by_cases h0:e=0
 ·by_cases ha:a.kind=0
  ·simp[zO,h0,ha,EC];exact fp
  by_cases hb:b.kind=0
  ·simp[zO,h0,ha,hb,EC];exact fp
  simp[zO,h0,ha,hb,abH,hF];refine aB.pure (h h0 ha hb) ?_
  cases hr:r.2 with
  |true=>simp[MI,abE];exact fp
  |false=>simp[MI,abG];exact fp
 simp[zO,h0,EC];exact fp
def j9 (a b:Val)(r:Bool):Val×Int:=if ¬(a.may=true/\b.may=true)then (fq,5)else if a.kind=0∨b.kind=0 then (fq,0)else if a.kind≠b.kind then (fq,30)else (dx r,0)
theorem qP (a b:Val) (g:FuncId) (r:Bool) (h:aj pG g [zI (a.ord b)] (.bool r)):aj pG 340 [a.av,b.av,.fn (.func g) [] []] (cT (j9 a b r)):=by
 refine pv c340 λ F hF=>?_;have ha:=mT a;have hb:=mT b;have ho:=O9 a b;unfold j9;simp only[Val.av]at ha hb ho;simp[A340,hF,Val.av];refine aB.pure ha ?_
 cases hma:a.may with
 |false=>simp[LZ];exact fp
 |true =>
  simp;refine aB.pure hb ?_
  cases hmb:b.may with
  |false=>simp[LZ];exact fp
  |true =>
   by_cases h1:a.kind=0
   ·simp[zJ,h1,LY];exact fp
   by_cases h2:b.kind=0
   ·simp[zJ,h1,h2,LY];exact fp
   by_cases h3:a.kind=b.kind
   ·simp[zJ,h2,LX,h3,abn,hF];simp only[h3]at ho h1;refine aB.pure ho ?_;simp;refine aB.pure h ?_;simp;refine aB.pure (CS r) ?_;simp[Val.av];exact fp
   simp[zJ,h1,h2,LX,h3,abo];exact fp
def opC (c f:FuncId):CF:={res:=[cj 4 3,aH 5],code:=.seq (.nw [oP (bc 2) (Ih (aA 0)),oP (bc 3) (Ih (aA 1)),oP (bc 4) (au [(zI 0),(zI 0),(.str [])] 3),oP (bc 5) (eJ (aO (zI 0)))]) (.seq (.nw [oP (bc 6) (iP 3 (aA 2)),oP (bc 7) (iP 3 (aA 3)),cP (bc 8) c [(aA 6),(aA 7),(aO (.fn (.func f) [] []))],oP (bc 9) (e1 (jw 0) (aA 8)),oP (bc 10) (e1 (jw 1) (aA 8)),oP rj (dD 3 (aA 4) (aA 9)),oP (bc 5) (eJ (aA 10))]) .ret),nt:=11}
theorem tG {g c f:FuncId}(hc:KE pG g=some (opC c f)){a b:Val}{r:Val×Int}(h:aj pG c [a.av,b.av,.fn (.func f) [] []] (cT r)):aj pG g [a.av,b.av] (cT r):=by
 refine gf hc ai ai (by simp[opC]) λ F hF=>?_;simp only[Val.av]at h;simp[opC,hF,Val.av];refine aB.pure h ?_;simp[cT,Val.av];exact fp
def GN (x:Int):Int:=IntKind.i64.wrap x
def rW:Int := -9223372036854775808
def ZK (x y:Int):Int×Bool:=(GN (x+y),(decide (x<0) != decide (y<0))||(decide (GN (x+y)<0) == decide (x<0)))
def VO (x y:Int):Int×Bool:=(GN (x - y),(decide (x<0) == decide (y<0))||(decide (GN (x - y)<0) == decide (x<0)))
def XX (x y:Int):Int×Bool:=if x=0∨y=0 then (0,true)else (GN (x*y),!((decide (x = -1)&&decide (y=rW))||(decide (y = -1)&&decide (x=rW)))&&decide (GN ((GN (x*y)).tdiv y)=x))
def Y8 (x y:Int):Int×Bool:=if x=rW/\y = -1 then (0,false)else (GN (x.tdiv y),true)
def XY (x y:Int):Int×Bool:=if y = -1 then (0,true)else (x.tmod y,true)
def UB (y:Int):Int×Bool:=(GN (-y),decide (y≠rW))
theorem sS (k:IntKind)(a b:Int)(h:b≠0):bS .quo k a b=.val (.int k (k.wrap (a.tdiv b))):=by simp only[bS,kh];rw[ak h]
theorem KZ (k:IntKind)(a b:Int)(h:b≠0):bS .rem k a b=.val (.int k (a.tmod b)):=by simp only[bS,kh];rw[ak h]
theorem amE (x y:Int):aj pG 335 [zI x,zI y] (.br [zI (ZK x y).1,.bool (ZK x y).2]):=by
 refine pv c335 λ F hF=>?_;unfold ZK GN
 by_cases h1:x<0<;>by_cases h2:y<0<;>by_cases h3:IntKind.i64.wrap (x+y)<0 <;>
 ·simp[A335,hF,h1,h2,h3,kG,ji];exact fp
theorem ajP (x y:Int):aj pG 336 [zI x,zI y] (.br [zI (VO x y).1,.bool (VO x y).2]):=by
 refine pv c336 λ F hF=>?_;unfold VO GN
 by_cases h1:x<0<;>by_cases h2:y<0<;>by_cases h3:IntKind.i64.wrap (x - y)<0 <;>
 ·simp[A336,hF,h1,h2,h3,kG,ji];exact fp
theorem akI (x y:Int):aj pG 337 [zI x,zI y] (.br [zI (XX x y).1,.bool (XX x y).2]):=by
 refine pv c337 λ F hF=>?_;unfold XX GN rW
 by_cases h1:x=0
 ·simp[A337,hF,h1];exact fp
 by_cases h2:y=0
 ·simp[A337,hF,h1,h2];exact fp
 simp[A337,hF,h1,h2];refine bF.of (bq (P:=pG)) ?_
 by_cases h3:x = -1<;>by_cases h4:y = -9223372036854775808<;>by_cases h5:y = -1<;>by_cases h6:x = -9223372036854775808 <;>
 first
 |omega
 |(simp[ae,hF,h3,h4,h5,h6,h2,sS];exact fp)
theorem alS (x y:Int)(h0:y≠0):aj pG 338 [zI x,zI y] (.br [zI (Y8 x y).1,.bool (Y8 x y).2]):=by
 refine pv c338 λ F hF=>?_;unfold Y8 GN rW
 by_cases h1:x = -9223372036854775808
 ·by_cases h2:y = -1
  ·simp[A338,hF,h1,h2];exact fp
  simp[A338,hF,h1,h2,h0,sS];exact fp
 simp[A338,hF,h1,h0,sS];exact fp
theorem akJ (x y:Int)(h0:y≠0):aj pG 339 [zI x,zI y] (.br [zI (XY x y).1,.bool (XY x y).2]):=by
 refine pv c339 λ F hF=>?_;unfold XY
 by_cases h1:y = -1
 ·simp[A339,hF,h1];exact fp
 simp[A339,hF,h1,h0,KZ];exact fp
theorem akG (x y:Int):aj pG 306 [zI x,zI y] (.br [zI (UB y).1,.bool (UB y).2]):=by
 refine pv c306 λ F hF=>?_;unfold UB GN rW;have n1:cUn .neg (zI y)=.val (zI (IntKind.i64.wrap (-y))):=by simp only[cUn,kh,Int.zero_sub]
 by_cases h1:y = -9223372036854775808
 ·subst h1;simp[A306,hF,n1];exact fp
 simp[A306,hF,n1,h1];exact fp
theorem arf (c:Int):aj pG 341 [zI c] (.bool (decide (c=0))):=by
 refine pv c341 λ F hF=>?_;simp[A341,hF];exact .bool ai
theorem apH (c:Int):aj pG 342 [zI c] (.bool (decide (c≠0))):=by
 refine pv c342 λ F hF=>?_;simp[A342,hF];exact .bool ai
theorem apK (c:Int):aj pG 343 [zI c] (.bool (decide (c<0))):=by
 refine pv c343 λ F hF=>?_;simp[A343,hF];exact .bool ai
theorem apO (c:Int):aj pG 344 [zI c] (.bool (decide (c<=0))):=by
 refine pv c344 λ F hF=>?_;simp[A344,hF];exact .bool ai
theorem aqF (c:Int):aj pG 345 [zI c] (.bool (decide (0<c))):=by
 refine pv c345 λ F hF=>?_;simp[A345,hF];exact .bool ai
theorem aqP (c:Int):aj pG 346 [zI c] (.bool (decide (0<=c))):=by
 refine pv c346 λ F hF=>?_;simp[A346,hF];exact .bool ai
theorem anf (a b:Val):aj pG 309 [a.av,b.av] (cT (jY a b (ZK a.num b.num))):=tG c309 (qz a b 335 _ λ _ _ _=>amE _ _)
theorem amJ (a b:Val):aj pG 310 [a.av,b.av] (cT (jY a b (VO a.num b.num))):=tG c310 (qz a b 336 _ λ _ _ _=>ajP _ _)
theorem amW (a b:Val):aj pG 311 [a.av,b.av] (cT (jY a b (XX a.num b.num))):=tG c311 (qz a b 337 _ λ _ _ _=>akI _ _)
theorem asV (a b:Val):aj pG 315 [a.av,b.av] (cT (j9 a b (decide (a.ord b=0)))):=tG c315 (qP a b 341 _ (arf _))
theorem asG (a b:Val):aj pG 316 [a.av,b.av] (cT (j9 a b (decide (a.ord b≠0)))):=tG c316 (qP a b 342 _ (apH _))
theorem asI (a b:Val):aj pG 317 [a.av,b.av] (cT (j9 a b (decide (a.ord b<0)))):=tG c317 (qP a b 343 _ (apK _))
theorem asJ (a b:Val):aj pG 318 [a.av,b.av] (cT (j9 a b (decide (a.ord b<=0)))):=tG c318 (qP a b 344 _ (apO _))
theorem asR (a b:Val):aj pG 319 [a.av,b.av] (cT (j9 a b (decide (0<a.ord b)))):=tG c319 (qP a b 345 _ (aqF _))
theorem asT (a b:Val):aj pG 320 [a.av,b.av] (cT (j9 a b (decide (0<=a.ord b)))):=tG c320 (qP a b 346 _ (aqP _))
def Il (a b:Val)(r:Int×Bool):Val×Int:=if iN 1 [a,b]=0/\a.kind≠0/\b.kind≠0/\b.num=0 then (fq,32)else jY a b r
def divC (f:FuncId):CF:={A312 with code:=.seq MH (.seq (.seq MG (.cond (aA 25) (.seq MF .ret) .skip)) (.seq (.nw [oP (bc 27) (iP 3 (aA 2)),oP (bc 28) (iP 3 (aA 3)),cP (bc 29) 305 [(aA 27),(aA 28),(aO (.fn (.func f) [] []))],oP (bc 30) (e1 (jw 0) (aA 29)),oP (bc 31) (e1 (jw 1) (aA 29)),oP rj (dD 3 (aA 4) (aA 30)),oP (bc 5) (eJ (aA 31))]) .ret))}
theorem Y7 {g f:FuncId}(hc:KE pG g=some (divC f)){a b:Val}{r:Int×Bool}(h:b.num≠0->aj pG f [zI a.num,zI b.num] (.br [zI r.1,.bool r.2])):aj pG g [a.av,b.av] (cT (Il a b r)):=by
 refine gf hc ai ai (by simp[divC,A312]) λ F hF=>?_;have hall:=zy 1 [a,b] (by simp[aU]);have hr:=λ h0=>qz a b f r λ _ _ _=>h h0;have hr2:iN 1 [a,b]≠0∨a.kind=0∨b.kind=0->aj pG 305 [a.av,b.av,.fn (.func f) [] []] (cT (jY a b r)):=λ h1=>qz a b f r λ x y z=>by rcases h1 with h1|h1|h1<;>contradiction
 unfold Il;simp only[Val.av]at hr hr2;generalize jY a b r=q at *;generalize iN 1 [a,b]=e at *;simp[divC,MH,MG,hF,Val.av,rep];refine aB.nz hall ai (.cons _ _ _ _ fp (.cons _ _ _ _ (PY (a:=a) (c:=b) (by simp[Val.cells])) .nil)) ?_
 by_cases h0:e=0
 ·by_cases ha:a.kind=0
  ·simp only[ha]at hr2;simp[h0,ha];refine aB.pure (hr2 (.inr (.inl trivial))) ?_;simp[A312,cT,Val.av];exact fp
  by_cases hb:b.kind=0
  ·simp only[hb]at hr2;simp[h0,ha,hb];refine aB.pure (hr2 (.inr (.inr trivial))) ?_;simp[A312,cT,Val.av];exact fp
  by_cases hn:b.num=0
  ·simp[h0,ha,hb,hn,MF,A312,cT,Val.av];exact fp
  simp[h0,ha,hb,hn];refine aB.pure (hr hn) ?_;simp[A312,cT,Val.av];exact fp
 simp[h0];refine aB.pure (hr2 (.inl h0)) ?_;simp[A312,cT,Val.av];exact fp
theorem am_ (a b:Val):aj pG 312 [a.av,b.av] (cT (Il a b (Y8 a.num b.num))):=Y7 c312 λ h=>alS _ _ h
theorem amX (a b:Val):aj pG 313 [a.av,b.av] (cT (Il a b (XY a.num b.num))):=Y7 c313 λ h=>akJ _ _ h
def XF:Val:=⟨1,0,[]⟩
theorem amV (a:Val):aj pG 272 [a.av] (cT (jY XF a (UB a.num))):=by
 refine pv c272 λ F hF=>?_;have h:=qz XF a 306 _ λ _ _ _=>akG 0 a.num;generalize jY XF a (UB a.num)=q at *;simp only[Val.av,XF]at h;simp[A272,hF,Val.av];refine aB.pure h ?_;simp[cT,Val.av];exact fp
def Dy (a:Val):Val×Int:=if iN 3 [a]≠0∨a.kind=0 then (fq,iN 3 [a])else (dx (decide (a.num=0)),0)
theorem amU (a:Val):aj pG 273 [a.av] (cT (Dy a)):=by
 refine pv c273 λ F hF=>?_;have hall:=zy 3 [a] (by simp[aU]);unfold Dy;generalize iN 3 [a]=e at *;simp[A273,hF,Val.av,rep];refine aB.nz hall ai (.cons _ _ _ _ fp (.cons _ _ _ _ (aqS (a:=a) (by simp[Val.cells])) .nil)) ?_
 by_cases h0:e=0
 ·by_cases ha:a.kind=0
  ·simp[EM,h0,ha,MP];exact fp
  simp[EM,h0,ha,ab6];refine aB.pure (CS _) ?_;simp[Val.av];exact fp
 simp[EM,h0,MP];exact fp
def HE (a b:Val):Val×Int:=if iN 2 [a,b]≠0∨a.kind=0∨b.kind=0 then (fq,iN 2 [a,b])else if a.s.length+b.s.length<=64 then (⟨2,0,a.s++b.s⟩,0)else (fq,3)
theorem af0 {k:Int}{a b:Val}(h:iN k [a,b]=0):a.may=true/\b.may=true/\JX k a=true/\JX k b=true:=by
 unfold iN at h
 split at h
 ·rename_i h1
  split at h
  ·rename_i h2;simp at h1 h2;exact⟨h1.1,h1.2,h2.1,h2.2⟩
  omega
 omega
theorem agD (a b:Val):aj pG 314 [a.av,b.av] (cT (HE a b)):=by
 refine pv c314 λ F hF=>?_;have hall:=zy 2 [a,b] (by simp[aU]);have hfm:=af0 (k:=2) (a:=a) (b:=b);unfold HE;generalize iN 2 [a,b]=e at *;simp[A314,hF,Val.av,rep];refine aB.nz hall ai (.cons _ _ _ _ fp (.cons _ _ _ _ (PY (a:=a) (c:=b) (by simp[Val.cells])) .nil)) ?_
 by_cases h0:e=0
 ·by_cases ha:a.kind=0
  ·simp[vd,h0,ha,EB];exact fp
  by_cases hb:b.kind=0
  ·simp[vd,h0,ha,hb,EB];exact fp
  obtain⟨m1,m2,m3,m4⟩:=hfm h0;have l1:a.s.length<=64:=Val.lQ m1 (by simpa[JX,ha]using m3);have l2:b.s.length<=64:=Val.lQ m2 (by simpa[JX,hb]using m4);have ws:IntKind.i64.wrap ((a.s.length:Int)+(b.s.length:Int))=((a.s.length+b.s.length:Nat):Int):=by rw[dY _ ah ah];omega
  by_cases hl:a.s.length+b.s.length<=64
  ·have awP:Av (.str a.s) (.str b.s)=.val (.str (a.s++b.s)):=Zm (by unfold big;omega);simp[vd,h0,ha,hb,ME,ws,show ¬(64:Int)<(a.s.length:Int)+(b.s.length:Int) by omega,abw,awP,hl];exact fp
  simp[vd,h0,ha,hb,ME,ws,show (64:Int)<(a.s.length:Int)+(b.s.length:Int) by omega,abx,hl];exact fp
 simp[vd,h0,EB];exact fp
def lV (c:Bool)(a b:Val):Val×Int:=if iN 3 [a,b]≠0 then (fq,iN 3 [a,b])else if a=dx c∨b=dx c then (dx c,0)else if a.kind=0∨b.kind=0 then (fq,0)else (dx (!c),0)
def Zr (c:Bool):CF:={A321 with code:=.seq MD (.seq (.seq MC (.seq EA (.cond (aA 13) (.seq MB .ret) .skip))) (.seq (.nw [cP (bc 16) 308 [(aO (.bool c))],oP (bc 7) (au [(zI 0),(zI 0),(.str [])] 3),oP rj (dD 3 (aA 7) (aA 16))]) (.seq (.block 0 (.seq zN (.cond (aA 17) (.seq Ez .ret) (.seq zM (.cond (aA 27) (.seq Ey .ret) .skip))))) (.seq (.nw [cP (bc 37) 308 [(aO (.bool (!c)))],oP rj (dD 3 (aA 4) (aA 37)),oP (bc 5) (eJ (aO (zI 0)))]) .ret))))}
theorem both_ok {g:FuncId}(c:Bool) (hc:KE pG g=some (Zr c)) (a b:Val):aj pG g [a.av,b.av] (cT (lV c a b)):=by
 refine gf hc ai ai (by simp[Zr,A321]) λ F hF=>?_;have hall:=zy 3 [a,b] (by simp[aU])
 have ey:∀(v:Val),mY false [.i,.i,.s] (.agg [zI v.kind,zI v.num,.str v.s] 3) (.agg [zI (dx c).kind,zI (dx c).num,.str (dx c).s] 3)=.val (.bool (decide (v=dx c))):=λ v=>by
  have:=Ec false v (dx c);simpa[Val.av]using this
 unfold lV;generalize iN 3 [a,b]=e at *;have y1:=CS c;have y2:=CS (!c);generalize dx c=y at *;generalize dx (!c)=y' at *;simp only[Val.av]at y1 y2;simp[Zr,MD,MC,hF,Val.av,rep];refine aB.nz hall ai (.cons _ _ _ _ fp (.cons _ _ _ _ (PY (a:=a) (c:=b) (by simp[Val.cells])) .nil)) ?_
 by_cases h0:e=0
 ·simp[EA,h0];refine aB.pure y1 ?_
  by_cases h1:a=y
  ·simp[zN,ey,h1,Ez,A321,cT,Val.av];exact fp
  by_cases h2:b=y
  ·simp[zN,ey,h1,h2,Ez,A321,cT,Val.av];exact fp
  simp[zN,ey,h1,h2]
  by_cases h3:a.kind=0
  ·simp[zM,h3,Ey,A321,cT,Val.av];exact fp
  by_cases h4:b.kind=0
  ·simp[zM,h3,h4,Ey,A321,cT,Val.av];exact fp
  simp[zM,h3,h4];refine aB.pure y2 ?_;simp[A321,cT,Val.av];exact fp
 simp[EA,h0,MB,A321,cT,Val.av];exact fp
theorem ane (a b:Val):aj pG 321 [a.av,b.av] (cT (lV false a b)):=both_ok false c321 a b
theorem asE (a b:Val):aj pG 322 [a.av,b.av] (cT (lV true a b)):=both_ok true c322 a b
def uG (op:Int):Int:=if op=1∨op=3 then 0 else if 4<=op/\op<=7 then 1 else if 8<=op/\op<=21 then 2 else -1
theorem Xx (op:Int):aj pG 267 [zI op] (zI (uG op)):=by
 refine pv c267 λ F hF=>?_;unfold uG
 by_cases h1:op=1
 ·simp[A267,hF,h1];exact fp
 by_cases h3:op=3
 ·simp[A267,hF,h3];exact fp
 by_cases h4:4<=op
 ·by_cases h7:op<=7
  ·simp[A267,hF,h1,h3,h4,h7];exact fp
  by_cases h21:op<=21
  ·simp[A267,hF,h1,h3,h4,h7,show 8<=op by omega,h21];exact fp
  simp[A267,hF,h1,h3,h4,h7,show 8<=op by omega,h21];exact fp
 simp[A267,hF,h1,h3,h4,show ¬ 8<=op by omega];exact fp
abbrev apG:AV:=.aV (.slice none 0 0)
def YN:List AV:=[.fn (.func 309) [] [],.fn (.func 310) [] [],.fn (.func 311) [] [],.fn (.func 312) [] [],.fn (.func 313) [] [],.fn (.func 314) [] [],.fn (.func 315) [] [],.fn (.func 316) [] [],.fn (.func 317) [] [],.fn (.func 318) [] [],.fn (.func 319) [] [],.fn (.func 320) [] [],.fn (.func 321) [] [],.fn (.func 322) [] []]
theorem Zj:aj pG 274 [] (.agg YN 14):=by
 refine gf c274 ai (by simp[YN]) (by simp[A274]) λ F hF=>?_;simp[A274];exact fp
def Vu (op:Int)(a:Val):Val×Int:=if op=4 then jY XF a (UB a.num)else if op=5 then Dy a else if op=6 then (dx (decide (a.kind=0)),0)else (dx (decide (a.kind≠0)),0)
def biS (op:Int)(a b:Val):Val×Int:=
 if op=8 then jY a b (ZK a.num b.num)else if op=9 then jY a b (VO a.num b.num)else if op=10 then jY a b (XX a.num b.num)else if op=11 then Il a b (Y8 a.num b.num)else if op=12 then Il a b (XY a.num b.num)else
 if op=13 then HE a b else if op=14 then j9 a b (decide (a.ord b=0))else if op=15 then j9 a b (decide (a.ord b≠0))else if op=16 then j9 a b (decide (a.ord b<0))else if op=17 then j9 a b (decide (a.ord b<=0))else
 if op=18 then j9 a b (decide (0<a.ord b))else if op=19 then j9 a b (decide (0<=a.ord b))else if op=20 then lV false a b else lV true a b
theorem ash (k:Nat)(h:k<14)(a b:Val):aj pG (309+k) [a.av,b.av] (cT (biS ((8+k:Nat):Int) a b))/\YN[k]?=some (.fn (.func (309+k)) [] []):=by
 have:k=0∨k=1∨k=2∨k=3∨k=4∨k=5∨k=6∨k=7∨k=8∨k=9∨k=10∨k=11∨k=12∨k=13:=ah
 rcases this with rfl|rfl|rfl|rfl|rfl|rfl|rfl|rfl|rfl|rfl|rfl|rfl|rfl|rfl<;>refine⟨?_,rfl⟩
 ·exact anf a b
 ·exact amJ a b
 ·exact amW a b
 ·exact am_ a b
 ·exact amX a b
 ·exact agD a b
 ·exact asV a b
 ·exact asG a b
 ·exact asI a b
 ·exact asJ a b
 ·exact asR a b
 ·exact asT a b
 ·exact ane a b
 exact asE a b
theorem HF (q:Nat):gB 2 3 (.ptr q 0) (zI 0)=.val (.ptr q 0)/\gB 2 3 (.ptr q 0) (zI 1)=.val (.ptr q 3):=⟨rfl,rfl⟩
end Go.Abs
namespace Go.Abs
open List
open Go.Proofs
open Classical
set_option maxRecDepth 100000
def FJ (h:Hf)(v v':AV):Prop:=∀(φ:Ph)(D:Da)(w:World)(x:Value),Rel φ D h w->VR φ D v x->VR φ (shut φ D h w) v' x
theorem FJ.refl (h:Hf)(v:AV):FJ h v v:=λ _ _ _ _ _ hx=>hx.mono (λ _ _ h=>h) fa
theorem FJ.nz {h:Hf}{v v':AV}(f:fj h v v'):FJ h v v':=λ _ _ _ _ hr hx=>(f.vr hr hx).mono (λ b p hb=>by simp[lF]at hb) (λ _ _ h=>h)
inductive FJL (h:Hf):List AV->List AV->Prop
 |nil:FJL h [] []
 |cons (v v' vs vs'):FJ h v v'->FJL h vs vs'->FJL h (v::vs) (v'::vs')
theorem FJL.at {h:Hf}:∀ {l l':List AV},FJL h l l'->∀(i:Nat) v',l'[i]?=some v'->∃v,l[i]?=some v/\FJ h v v'
 |_,_,.nil,i,v',hv=>by simp at hv
 |_,_,.cons v v2 vs vs' f r,i,v',hv=>by
  cases i with
  |zero=>simp at hv;subst hv;exact⟨v,ai,f⟩
  |succ i=>simp at hv;simpa using r.at i v' hv
theorem FJL.length {h:Hf}:∀ {l l':List AV},FJL h l l'->l'.length=l.length
 |_,_,.nil=>rfl
 |_,_,.cons _ _ _ _ _ r=>by simp[r.length]
def BJ (h:Hf)(y0 y:bJ):Prop:=y0=y∨∃u z bs t l,y0=.cells u z bs t/\y=.cells u [] l .nil/\l.length=u/\∀(i:Nat) v',l[i]?=some v'->∃v,gR u z bs t i=some v/\FJ h v v'
structure rz (h:Hf)(H H2:Hp):Prop where
 sub:∀b k,h b=some k->H.get b=some k
 gone:∀b,h b≠none->H2.get b=none
 hp:∀b y,H2.get b=some y->∃y0,H.get b=some y0/\BJ h y0 y
theorem rz.refl (H:Hp):rz (λ _=>none) H H:=
 ⟨λ b k h=>by simp at h,λ b h=>aw rfl h,λ b y h=>⟨y,h,.inl rfl⟩⟩
section
variable {φ:Ph}{D:Da}{w:World}{n:Nat}
theorem BJ.agm {h:Hf}(hr:Rel φ D h w){y0 y:bJ}(hz:BJ h y0 y) {p}(hb:iY φ D w p y0):iY φ (shut φ D h w) w p y:=by
 rcases hz with rfl|⟨u,z,bs,t,l,rfl,rfl,hl,hz⟩
 ·exact hb.mono (λ _ _ h=>h) fa rfl
 obtain⟨c,e,fr,h1,h2,h3,h4,h5,h6⟩:=hb;refine⟨c,e,fr,h1,h2,h3,λ i v hv=>?_,λ _ _=>hl,h6⟩;rw[jr]at hv
 split at hv
 ·obtain⟨v0,h7,h8⟩:=hz i v hv;obtain⟨x,h9,h10⟩:=h4 i v0 h7;exact⟨x,h9,h8 _ _ _ _ hr h10⟩
 cases hv
theorem rz.rel {h:Hf}{H H2:Hp}(s:rz h H H2)(hr:Rel φ D H.get w):Rel φ (shut φ D h w) H2.get w:=by
 have hs:=hr.sub s.sub
 have ne:∀b,H2.get b≠none->H.get b≠none:=λ b hb=>by
  cases hx:H2.get b with
  |none=>exact aw hx hb
  |some k=>obtain⟨y0,h0,_⟩:=s.hp b k hx;rw[h0];simp
 have neh:∀b,h b≠none->H.get b≠none:=λ b hb=>by
  cases hx:h b with
  |none=>exact aw hx hb
  |some k=>rw[s.sub b k hx];simp
 refine⟨λ b k hb=>?_,λ b c p q hb hc=>hr.inj b c p q (ne b hb) (ne c hc),λ b p hb hp=>?_,mO hr.eQ⟩
 ·obtain⟨y0,h0,hz⟩:=s.hp b k hb;obtain⟨p,hp,hl,hk⟩:=hr.blk b y0 h0;exact⟨p,hp,hl,hz.agm hs hk⟩
 refine qx (hr.sep b p (ne b hb) hp) λ b' p' h1 h2 h3=>?_;have:=hr.inj b' b p' p (neh b' h1) (ne b hb) h2 hp h3;subst this;exact hb (s.gone b' h1)
theorem rz.ext {h:Hf}{H H2:Hp}(s:rz h H H2):Ext φ D H.get w n φ (shut φ D h w) H2.get w n:=by
 have ne:∀b,H2.get b≠none->H.get b≠none:=λ b hb=>by
  cases hx:H2.get b with
  |none=>exact aw hx hb
  |some k=>obtain⟨y0,h0,_⟩:=s.hp b k hx;rw[h0];simp
 have neh:∀b,h b≠none->H.get b≠none:=λ b hb=>by
  cases hx:h b with
  |none=>exact aw hx hb
  |some k=>rw[s.sub b k hx];simp
 refine⟨aL _,λ _ _ h=>h,λ b a c=>aw a c,fa,aL _,λ _ _ _=>rfl,λ b p hb hp=>.inr ⟨b,p,ne b hb,hp,rfl⟩,λ c hc=>?_,λ b hb=>.inl (ne b hb),rfl,rfl⟩
 rcases xJ hc with h1|⟨b,p,h1,h2,h3⟩
 ·exact .inl h1
 exact .inr (.inr ⟨b,p,neh b h1,h2,h3⟩)
end
theorem ao.zs {P:Program}{g:FuncId}{args:List AV}{H:Hp}{n:Nat}{R R2:AV->Hp->Nat->Prop}(h:ao P g args H n R)(hs:∀v K k,R v K k->∃hh K2 v2,rz hh K K2/\FJ hh v v2/\R2 v2 K2 k):ao P g args H n R2:=
 ⟨h.1,λ φ D w xs a b c RR hR=>h.2 φ D w xs a b c RR λ v K k φ' D' w' x r e rel hx=>by
  obtain⟨hh,K2,v2,sh,fi,r2⟩:=hs v K k r;exact hR v2 K2 k φ' (Go.Abs.shut φ' D' hh w') w' x r2 (e.trans sh.ext) (sh.rel rel) (fi _ _ _ _ (rel.sub sh.sub) hx)⟩
theorem rz.some {h:Hf}{H:Hp}(L:List Nat)(hs:∀b k,h b=some k->H.get b=some k)(hg:∀b,h b≠none->b∉L):rz h H (pick H L):=
 ⟨hs,λ b hb=>by rw[eM,ak (hg b hb)],λ b y hy=>by
  rw[eM]at hy
  split at hy
  ·exact⟨y,hy,.inl rfl⟩
  cases hy⟩
end Go.Abs
namespace Go.Abs
open List
open Go.Proofs
open Classical
set_option maxRecDepth 100000
end Go.Abs
namespace Go.Abs.Srt
variable {α:Type}
structure Ord (c:α->α->Int)(Pd:α->Prop):Prop where
 IK:∀x y,Pd x->Pd y->(c x y<0↔0<c y x)
 trans:∀x y z,Pd x->Pd y->Pd z->c x y<=0->c y z<=0->c x z<=0
variable {c:α->α->Int}{tg:α->Nat}{Pd:α->Prop}
def Le (c:α->α->Int)(tg:α->Nat)(x y:α):Prop:=c x y<0∨(c x y=0/\tg x<tg y)
def Good (c:α->α->Int)(tg:α->Nat)(Pd:α->Prop)(L R M:List α):Prop:=
 M.Perm (L++R)/\((∀x∈L++R,Pd x)->L.Pairwise (Le c tg)->R.Pairwise (Le c tg)->(∀x∈L,∀y∈R,tg x<tg y)->M.Pairwise (Le c tg))
end Go.Abs.Srt
namespace Go.Abs
open List
open Go.Proofs
set_option maxRecDepth 100000
structure Cm (α:Type) where
 g:FuncId
 first:List AV
 cap:List AV
 av:α->AV
 c:α->α->Int
 El:α->Prop
 J:Hp->Prop
 bk:Nat
structure Cm.Ok {α:Type}(C:Cm α)(P:Program):Prop where
 call:∀x y,C.El x->C.El y->∀H n,C.J H->bC P C.g (C.first++([C.av x,C.av y]++C.cap)) H n (zI (C.c x y)) H n
 stay:∀H K,C.J H->(∀b,b≠C.bk->K.get b=H.get b)->C.J K
 one:∀x,(C.av x).one=true
def Cm.fv {α:Type}(C:Cm α):AV:=.fn (.func C.g) C.first C.cap
variable {α:Type}{C:Cm α}
def Dt (C:Cm α)(H:Hp)(d:List α):Prop:=∃y,H.get C.bk=some y/\OwnB y (d.map C.av)
theorem yt {v:AV}(h:v.one=true):v.len=1/\v.cells=[v]:=by
 cases v<;>simp_all [AV.one,AV.len,AV.cells]
theorem Dt.ld {H:Hp}{d:List α}(h:Dt C H d){i:Nat}(hi:i<d.length):cN (.ptr C.bk i) H=.val (C.av d[i]):=by
 obtain⟨y,h2,u,z,bs,t,rfl,h3,h4,_⟩:=h;have:=h4 i;rw[cY (by simpa using hi)]at this;simp[h2,this]
theorem bK {bk N i:Nat}(hi:i<N):bW 1 (.sl bk 0 N 1) (zI (i:Int))=.val (.ptr bk i):=by
 have:=Qw (b:=bk) (o:=0) (sz:=1) (k:=.i64) hi;simpa using this
theorem aez (X Y Z:List α)(x y:α):((X++x::(Y++y::Z)).set X.length y).set (X.length+1+Y.length) x=X++y::(Y++x::Z):=by
 have h1:(X++x::(Y++y::Z)).set X.length y=X++y::(Y++y::Z):=by
  rw[set_append_right _ _ (aL _)];simp
 rw[h1,set_append_right _ _ ah];have h2:X.length+1+Y.length - X.length=Y.length+1:=ah;rw[h2];simp only[set_cons_succ];rw[set_append_right _ _ (aL _)];simp
theorem aR (x:Int)(h : -2147483648<=x)(h2:x<2147483648):IntKind.i64.wrap x=x:=by
 simp[IntKind.wrap,IntKind.signed,IntKind.bits];omega
end Go.Abs
namespace Go.Abs
open List
open Go.Proofs
set_option maxRecDepth 100000
variable {α:Type}{C:Cm α}
end Go.Abs
namespace Go.Abs
open List
open Go.Proofs
set_option maxRecDepth 100000
open Classical
variable {α:Type}{C:Cm α}{tg:α->Nat}{Pd:α->Prop}
def Cm.ce (C:Cm α)(x y:α):Ce:=ceT [(C.g,C.first++([C.av x,C.av y]++C.cap),λ H n=>if C.J H then .mk (zI (C.c x y)) H n else .fail)]
theorem Cm.iT {P:Program}(ho:C.Ok P){x y:α}(hx:C.El x)(hy:C.El y):iD P (C.ce x y):=by
 refine dX ?_;simp only[mc];rintro z rfl H n v H' n' h;dsimp only at h
 split at h
 ·rename_i hc;injection h with h1 h2 h3;subst h1 h2 h3;exact ho.call x y hx hy H n hc
 cases h
theorem Cm.ei {x y:α}{H:Hp}{n:Nat}(h:C.J H):(C.ce x y).call C.g (C.first++C.av x::C.av y::C.cap) H n=.mk (zI (C.c x y)) H n:=by
 show (C.ce x y).call C.g (C.first++([C.av x,C.av y]++C.cap)) H n=_;unfold Cm.ce;rw[bY,ay h];rfl
theorem Jp (x:Nat)(h:x<2147483648):bZ .u64 (zI (x:Int))=.val (.int .u64 (x:Int)):=by
 rw[dN];congr 2;simp[IntKind.wrap,IntKind.signed,IntKind.bits];omega
theorem US (x:Nat)(h:x<2147483648):bZ .i64 (.int .u64 (x:Int))=.val (zI (x:Int)):=by
 rw[dN];congr 2;exact aR _ ah ah
theorem aey (x:Nat):eO .shr (.int .u64 (x:Int)) (.int .u64 1)=.val (.int .u64 ((x / 2:Nat):Int)):=by
 show kO .u64 (Int.fdiv (x:Int) (2 ^ (min 1 64)))=_;rw[kh]
 congr 2
 show Int.fdiv (x:Int) 2=_;rw[Int.fdiv_eq_ediv_of_nonneg _ ah];omega
theorem lS {l:List α}{i:Nat}(h:i<l.length):(l.take (i+1)).getLast?=some l[i]:=by
 rw[take_succ_eq_append_getElem h];exact getLast?_concat
end Go.Abs
namespace Go.Abs
open List
open Go.Proofs
set_option maxRecDepth 100000
open Classical
variable {α:Type}{C:Cm α}{tg:α->Nat}{Pd:α->Prop}
end Go.Abs
namespace Go.Abs
open List
open Go.Proofs
set_option maxRecDepth 100000
open Classical
variable {α:Type}{C:Cm α}{tg:α->Nat}{Pd:α->Prop}
end Go.Abs
namespace Go.Abs
open List
open Go.Proofs
set_option maxRecDepth 100000
open Classical
variable {α:Type}{C:Cm α}{tg:α->Nat}{Pd:α->Prop}
theorem parted {c:α->α->Int}{L R:List α}{M' lo hi st:Nat}(hbd1:lo=0∨M' - lo=R.length) (hbd2:hi=M'∨hi=L.length) (hls:lo<=st) (hsh:st<=hi) (hhM:hi<=M') (hhL:hi<=L.length) (hlR:M' - lo<=R.length)
  (h1:st=lo∨∀x y,L[st - 1]?=some x->R[M' - st]?=some y->0<=c y x)(h2:st=hi∨∀x y,R[M' - 1 - st]?=some x->L[st]?=some y->c x y<0):
  (∀x y,(L.take st).getLast?=some x->(R.drop (M' - st)).head?=some y->¬c y x<0)/\(∀x y,(R.take (M' - st)).getLast?=some x->(L.drop st).head?=some y->c x y<0):=by
 constructor
 ·intro x y hx hy;rw[head?_drop]at hy;have hi0:st≠0:=by rintro rfl;simp at hx
  have hyl:M' - st<R.length:=by
   rcases Nat.lt_or_ge (M' - st) R.length with h|h
   ·exact h
   rw[getElem?_eq_none h]at hy;cases hy
  rcases h1 with h1|h1
  ·omega
  obtain⟨i0,rfl⟩:∃i0,st=i0+1:=⟨st - 1,ah⟩;rw[lS (show i0<L.length by omega)]at hx
  have hx2:L[i0+1 - 1]?=some x:=by
   rw[Nat.add_sub_cancel,cY (show i0<L.length by omega)];exact hx
  have:=h1 x y hx2 hy;omega
 intro x y hx hy;rw[head?_drop]at hy
 have hyl:st<L.length:=by
  rcases Nat.lt_or_ge st L.length with h|h
  ·exact h
  rw[getElem?_eq_none h]at hy;cases hy
 have hi0:M' - st≠0:=by intro e;rw[e]at hx;simp at hx
 rcases h2 with h2|h2
 ·omega
 obtain⟨i0,awL⟩:∃i0,M' - st=i0+1:=⟨M' - st - 1,ah⟩;rw[awL,lS (show i0<R.length by omega)]at hx;have e:M' - 1 - st=i0:=ah;rw[e,cY (show i0<R.length by omega)]at h2;exact h2 x y hx hy
end Go.Abs
namespace Go.Abs
open List
open Go.Proofs
set_option maxRecDepth 100000
open Classical
variable {α:Type}{C:Cm α}{tg:α->Nat}{Pd:α->Prop}
end Go.Abs
namespace Go.Abs
open List
open Go.Proofs
set_option maxRecDepth 100000
open Classical
variable {α:Type}{C:Cm α}{tg:α->Nat}{Pd:α->Prop}
end Go.Abs
namespace Go.Abs
open List
variable {α:Type}{c:α->α->Int}{tg:α->Nat}{Pd:α->Prop}
end Go.Abs
namespace Go.Abs
open List
open Go.Proofs
set_option maxRecDepth 100000
open Classical
variable {α:Type}{C:Cm α}{tg:α->Nat}{Pd:α->Prop}
end Go.Abs
namespace Go.Abs
open List
open Go.Proofs
set_option maxRecDepth 100000
open Classical
variable {α:Type}{C:Cm α}{tg:α->Nat}{Pd:α->Prop}
end Go.Abs
namespace Go.Abs
open List
open Go.Proofs
set_option maxRecDepth 100000
theorem rH (l:List Val):l.flatMap Val.cells=dF l:=by
 induction l with
 |nil=>rfl
 |cons e r ih=>simp[dF,ih]
instance:DecidableEq Val:=λ a b=>if h:a.kind=b.kind/\a.num=b.num/\a.s=b.s then .isTrue (by cases a;cases b;simp at h;obtain⟨rfl,rfl,rfl⟩:=h;rfl)else .isFalse (by rintro rfl;exact h ⟨rfl,rfl,rfl⟩)
theorem AG (l:List Val):bo (dF l)=true:=by
 induction l with
 |nil=>rfl
 |cons v r ih=>simp[dF,Val.cells,bo,AV.one,ih]
def CpR (H:Hp)(n:Nat)(r:List Val)(v:AV)(H':Hp)(n':Nat):Prop:=n<=n'/\aD H' n' v (dF r) r.length 3/\(∀b k,v=.sl b 0 r.length 3->H'.get b=some k->n<=b)/\∀b,b<n->H'.get b=H.get b
theorem clone_nil (H:Hp)(n:Nat):ao pG 135 [.aV (.slice none 0 0)] H n (CpR H n []):=by
 refine ao.of c135 (by simp[A135]) λ F hF=>?_;simp[A135,hF,kG,ji];exact⟨aL _,aD.nil _ _ _,λ b k h=>by simp at h,λ _ _=>rfl⟩
theorem Ip (H:Hp)(n:Nat):ao pG 135 [.ds [] 0 0] H n (CpR H n []):=by
 refine ao.of c135 (by simp[A135]) λ F hF=>?_;simp[A135,hF,kG,ji,gZ,aX,sliceLen,oS];refine⟨ah,⟨ai,.inr ⟨n,.cells 0 [] [] .nil,rfl,ah,ai,.list (u:=0) (l:=[]) rfl⟩⟩,λ b k h _=>?_,λ b hb=>by simp[show ¬b=n by omega]⟩;injection h with h;omega
theorem KN (x:Val)(r:List Val)(hr:r.length<1048576)(H:Hp)(n:Nat):ao pG 135 [aC (x::r)] H n (CpR H n (x::r)):=by
 refine ao.of c135 (by simp[A135]) λ F hF=>?_;simp[A135,hF,aC,kG,ji];refine aD.app (l:=[]) (len:=0) (new:=dF (x::r)) (k:=r.length+1) ⟨ai,.inr ⟨n,_,rfl,ah,by simp;rfl,.list ai⟩⟩ ai rfl ai ah ah (by unfold big;omega) ah (AG _) λ H' ho hk=>?_;simp;simp only[nil_append,tA]at ho;refine⟨ah,ho,λ b k h _=>by injection h with h;omega,λ b hb=>?_⟩;rw[hk b ah (λ e=>by injection e with e;omega)];simp[show ¬b=n by omega]
theorem Qr (r:List Val)(hr:r.length<=1048576)(H:Hp)(n:Nat):ao pG 135 [aC r] H n (CpR H n r):=by
 cases r with
 |cons x r=>exact KN x r (by simp at hr;omega) H n
 |nil =>
  have A:=clone_nil H n;have B:=Ip H n;refine⟨A.1,λ φ D w xs hrel hv hf RR hR=>?_⟩
  cases hv with
  |cons _ y _ ys h1 h2 =>
  cases h2
  have h0:(∃ad cap,y=.slice (some ad) 0 cap)∨y=.slice none 0 0:=by
   unfold aC at h1
   cases h1 with
   |ds=>exact .inl ⟨_,_,rfl⟩
   |pY=>exact .inl ⟨_,_,rfl⟩
   |tQ=>exact .inr rfl
  rcases h0 with⟨ad,cap,rfl⟩|rfl
  ·exact B.2 φ D w _ hrel (.cons _ _ _ _ (.pY _ _ _) .nil) hf RR hR
  exact A.2 φ D w _ hrel (.cons _ _ _ _ (.aV _ rfl) .nil) hf RR hR
end Go.Abs
namespace Go.Abs
open List
set_option maxRecDepth 100000
theorem Cb:∀ {a b:List Nat},cmpL a b=0->a=b
 |[],[],_=>rfl
 |[],_::_,h=>by simp[cmpL]at h
 |_::_,[],h=>by simp[cmpL]at h
 |a :: x,b::y,h=>by
  rw[qQ]at h
  by_cases e:a=b
  ·subst e;rw[ay rfl]at h;rw[Cb h]
  rw[ak e]at h
  split at h<;>omega
theorem zi:∀ {a b c:List Nat},cmpL a b<=0->cmpL b c<=0->cmpL a c<=0
 |[],b,[],_,_=>by simp[cmpL]
 |[],b,_::_,_,_=>by simp[cmpL]
 |_::_,[],c,h,_=>by simp[cmpL]at h
 |_::_,_::_,[],_,h=>by simp[cmpL]at h
 |a :: x,b::y,c::z,h,k=>by
  rw[qQ]at h k ⊢
  by_cases e:a=b
  ·subst e;rw[ay rfl]at h
   by_cases e:a=c
   ·subst e;rw[ay rfl]at k ⊢;exact zi h k
   rw[ak e]at k ⊢;exact k
  rw[ak e]at h
  have h1:a<b:=by
   by_cases q:a<b
   ·exact q
   rw[ak q]at h;omega
  by_cases e2:b=c
  ·subst e2;rw[ak e,ay h1];omega
  rw[ak e2]at k
  have h2:b<c:=by
   by_cases q:b<c
   ·exact q
   rw[ak q]at k;omega
  rw[ak ah,ay ah];omega
theorem Hh {a b:Val}(ha:a.may=true) (hb:b.may=true) (h:a.ord b=0):a=b:=by
 unfold Val.ord at h;obtain⟨k,n,s⟩:=a;obtain⟨q,m,t⟩:=b;simp only at h
 by_cases e:k=q
 ·subst e;rw[ay rfl]at h;unfold Val.may at ha hb;simp only at ha hb
  by_cases e2:k=2
  ·subst e2;rw[ay rfl]at h;simp at ha hb;rw[ha.1,hb.1,Cb h]
  rw[ak e2]at h
  have hn:n=m:=by
   split at h
   ·omega
   split at h<;>omega
  subst hn
  have:s=[]/\t=[]:=by
   by_cases c0:k=0
   ·simp[c0]at ha hb;exact⟨ha.2,hb.2⟩
   by_cases c1:k=1
   ·simp[c1]at ha hb;exact⟨ha,hb⟩
   by_cases c9003:k=3
   ·simp[c9003]at ha hb;exact⟨ha.1,hb.1⟩
   simp[c0,c1,c9003,e2]at ha
  rw[this.1,this.2]
 rw[ak e]at h
 split at h<;>omega
theorem Uu {a b c:Val}(h:a.ord b<=0) (k:b.ord c<=0):a.ord c<=0:=by
 unfold Val.ord at h k ⊢
 by_cases e:a.kind=b.kind
 ·rw[ay e]at h;rw[e]at h ⊢
  by_cases e2:b.kind=c.kind
  ·rw[ay e2]at k ⊢
   by_cases e3:b.kind=2
   ·rw[ay e3]at h k ⊢;exact zi h k
   rw[ak e3]at h k ⊢
   repeat' split at h
   all_goals repeat' split at k
   all_goals repeat' split
   all_goals omega
  rw[ak e2]at k ⊢;exact k
 rw[ak e]at h
 have h1:rk a.kind<rk b.kind:=by
  by_cases q:rk a.kind<rk b.kind
  ·exact q
  rw[ak q]at h;omega
 by_cases e2:b.kind=c.kind
 ·rw[e2]at h1;rw[ak (by intro q;rw[q]at h1;omega),ay h1];omega
 rw[ak e2]at k
 have h2:rk b.kind<rk c.kind:=by
  by_cases q:rk b.kind<rk c.kind
  ·exact q
  rw[ak q]at k;omega
 rw[ak (by intro q;rw[q]at h1;omega),ay ah];omega
theorem AZ:∀ {l m:List Val},iI l->iI m->dP l m=0->l=m
 |[],[],_,_,_=>rfl
 |[],_::_,_,_,h=>by simp[dP]at h;omega
 |_::_,[],_,_,h=>by simp[dP]at h;omega
 |a :: l,b::m,hl,hm,h=>by
  have ha:=hl a ai;have hb:=hm b ai;rw[dP,sQ ha hb]at h
  by_cases e:a.ord b=0
  ·rw[ak (by simp[e])]at h;rw[Hh ha hb e,AZ (λ v hv=>hl v (by simp[hv])) (λ v hv=>hm v (by simp[hv])) h]
  rw[ay e]at h;exact aw h e
theorem kT:∀ {l m n:List Val},iI l->iI m->iI n->dP l m<=0->dP m n<=0->dP l n<=0
 |[],m,n,_,_,_,_,_=>by
  cases n<;>simp[dP]
  omega
 |_::_,[],_,_,_,_,h,_=>by simp[dP]at h;omega
 |_::_,_::_,[],_,_,_,_,h=>by simp[dP]at h;omega
 |a :: l,b::m,c::n,hl,hm,hn,h,k=>by
  have ha:=hl a ai;have hb:=hm b ai;have hc:=hn c ai;have ih:=kT (l:=l) (m:=m) (n:=n) (λ v hv=>hl v (by simp[hv])) (λ v hv=>hm v (by simp[hv])) (λ v hv=>hn v (by simp[hv]));rw[dP,sQ ha hb]at h;rw[dP,sQ hb hc]at k;rw[dP,sQ ha hc];have h1:a.ord b<=0:=by by_cases e:a.ord b=0<;>simp[e]at h ⊢;omega
  have k1:b.ord c<=0:=by by_cases e:b.ord c=0<;>simp[e]at k ⊢;omega
  have t:=Uu h1 k1
  by_cases e:a.ord c=0
  ·rw[ak (by simp[e])];have hac:=Hh ha hc e;subst hac;have:=O_ ha hb;have e1:a.ord b=0:=ah;have e2:b.ord a=0:=ah;rw[ak (by simp[e1])]at h;rw[ak (by simp[e2])]at k;exact ih h k
  rw[ay e];exact t
theorem Jw {L M:List (List Val)}(h:L.Perm M)(hm:∀r∈L,iI r)(hL:L.Pairwise λ a b=>dP a b<=0)(hM:M.Pairwise λ a b=>dP a b<=0):L=M:=by
 refine Perm.eq_of_pairwise (le:=λ a b=>dP a b<=0) (λ a b ha hb h1 h2=>?_) hL hM h;have hb:=h.mem_iff.2 hb;have:=jD (hm a ha) (hm b hb);exact AZ (hm a ha) (hm b hb) ah
end Go.Abs
namespace Go.Abs
open List
open Go.Proofs
set_option maxRecDepth 100000
section
variable {F:Fr}{H:Hp}{n:Nat}{m:List Dm}{Q:QA}
theorem aD.mv {H H':Hp}{n n':Nat}{v:AV}{l:List AV}{len sz:Nat}(h:aD H n v l len sz)(hn:n<=n')(hk:∀c,c<n->v=.sl c 0 len sz->H'.get c=H.get c):aD H' n' v l len sz:=by
 obtain⟨h0,h1|⟨b,k,rfl,hb,hk',ho⟩⟩:=h
 ·exact⟨h0,.inl h1⟩
 exact⟨h0,.inr ⟨b,k,rfl,ah,by rw[hk b hb rfl,hk'],ho⟩⟩
def Tn (K:Hp)(b N:Nat)(vs:List AV):Prop:=∃y,K.get b=some y/\((vs=[]/\y=.cells N [.aV (.slice none 0 0)] [] .nil)∨OwnB y vs)
theorem Tn.app {P:Program}{b N nx i:Nat}{vs:List AV}{v:AV}{pd:Pd}{r:List (Option GO)}(h:Tn H b N vs)(hi:i=vs.length)(hb:b<n)(hx:H.get nx=aN 1 [v])(hv:v.one=true)(hbig:i<1000000)
  (hgo:∀H' y,H'.get n=some y->OwnB y (vs++[v])->(∀c,c<n->c≠b->H'.get c=H.get c)->fE P r (pd.f (.sl n 0 (i+1) 1) F) H' (n+1) m Q):Gf (Go.Abs.gZ 1 24 n (.sl b 0 i 1) (.sl nx 0 1 1) H) pd r P F H n m Q:=by
 have hsc:aX H 1 (.sl nx 0 1 1)=some [v]:=by
  rw[bU (l:=[v]) hx (.list ai) ai];simp
 have h1:bo [v]=true:=by rw[vT,hv];rfl
 obtain⟨y,hy,⟨rfl,rfl⟩|ho⟩:=h
 ·obtain rfl:i=0:=by simpa using hi
  have e:Go.Abs.gZ 1 24 n (.sl b 0 0 1) (.sl nx 0 1 1) H=.mv (.sl n 0 1 1) b (.cells 1 [.aV (.slice none 0 0)] [] (Ov.bO [v] 0 .nil)):=by
   unfold Go.Abs.gZ;rw[hsc];simp[sliceLen,oS,h1,hy,Iy,big,dj]
  unfold Gf;rw[e];refine hgo _ (.cells 1 [.aV (.slice none 0 0)] [] (Ov.bO [v] 0 .nil)) ai ?_ λ c hc hcb=>by simp[show ¬c=n by omega,hcb]
  refine⟨1,_,_,_,rfl,rfl,λ j=>?_,λ e=>?_⟩
  ·rw[cM,Ov.bI]
   by_cases hj:j=0
   ·subst hj;simp
   rw[ak ah,getElem?_eq_none (by simp;omega)]
  have:=Ov.bI [v] 0 .nil 0;rw[e,ay ai]at this;simp at this
 have hne:b≠n:=ah;have hs:aD H n (.sl b 0 i 1) vs i 1:=⟨ah,.inr ⟨b,y,rfl,hb,hy,ho⟩⟩;refine hs.app hsc rfl ai ah ah (by unfold big;omega) ah h1 λ H' ho hk=>?_;obtain⟨_,⟨e,_⟩|⟨b',y',e,_,hy',ho'⟩⟩:=ho
 ·cases e
 injection e with e;subst e;exact hgo H' y' hy' ho' λ c hc hcb=>hk c hc (by intro e;injection e with e;exact hcb e.symm)
end
theorem getD_lt {α:Type}{l:List α}{j:Nat}{d:α}(h:j<l.length):l.getD j d=l[j]:=by simp[getD,h]
theorem PW {α:Type}{l:List α}{j:Nat}{d:α}(h:l.length<=j):l.getD j d=d:=by simp[getD,getElem?_eq_none h]
def OL (vs:List AV)(j:Nat):AV:=vs.getD j (.aV (.slice none 0 0))
def rM (L:List (List Val))(j:Nat):List Val:=L.getD j []
def oG (K:Hp)(n0 n b:Nat)(vs:List AV)(L:List (List Val)):Prop:=∀j,j<vs.length->aD K n (OL vs j) (dF (rM L j)) (rM L j).length 3/\(∀c,OL vs j=.sl c 0 (rM L j).length 3->c≠b/\n0<=c)
theorem oG.mv {K K':Hp}{n0 n n' b b':Nat}{vs:List AV}{L:List (List Val)}(h:oG K n0 n b vs L)(hn:n<=n')(hk:∀c,c<n->c≠b->K'.get c=K.get c)(hb:b'=b∨n<=b'):oG K' n0 n' b' vs L:=by
 intro j hj;obtain⟨h1,h2⟩:=h j hj;refine⟨h1.mv hn λ c hc e=>hk c hc (h2 c e).1,λ c e=>⟨?_,(h2 c e).2⟩⟩;obtain⟨_,⟨e',_⟩|⟨c',_,e',hc,_⟩⟩:=h1
 ·rw[e']at e;cases e
 have e2:=e;rw[e']at e2;injection e2 with e2;have:=(h2 c e).1;omega
theorem oG.one {K:Hp}{n0 n b:Nat}{vs:List AV}{L:List (List Val)}(h:oG K n0 n b vs L)(j:Nat):(OL vs j).one=true:=by
 by_cases hj:j<vs.length
 ·obtain⟨⟨_,⟨e,_⟩|⟨c,_,e,_⟩⟩,_⟩:=h j hj<;>rw[e]<;>rfl
 unfold OL;rw[PW ah];rfl
def Zg (L:List (List Val))(vs:List AV)(n0 n b:Nat):Cm Nat:={g:=40,first:=[],cap:=[],av:=OL vs,c:=λ x y=>dP (rM L x) (rM L y),El:=λ x=>x<vs.length,J:=λ K=>oG K n0 n b vs L,bk:=b}
theorem agd {L:List (List Val)}{vs:List AV}{n0 n b:Nat}{K:Hp}(hl:∀l∈L,l.length<=1048576)(_hvs:vs.length=L.length)(hK:oG K n0 n b vs L):(Zg L vs n0 n b).Ok pG:=by
 have hlen:∀x,(rM L x).length<=1048576:=by
  intro x;unfold rM
  by_cases hx:x<L.length
  ·rw[getD_lt hx];exact hl _ (dy _)
  rw[PW ah];simp
 refine⟨λ x y hx hy H k hJ=>?_,λ H K hJ hk=>hJ.mv (aL _) (λ c _ hc=>hk c hc) (.inl rfl),λ x=>hK.one x⟩;exact(Dv (rM L x) (rM L y) (hlen x) (hlen y)).Qu ai k (.cons _ _ _ _ ((hJ x hx).1.nz (bp.pure ai)) (.cons _ _ _ _ ((hJ y hy).1.nz (bp.pure ai)) .nil))
end Go.Abs
namespace Go.Abs
open List
open Go.Proofs
set_option maxRecDepth 100000
theorem VF {vs:List AV}:(range vs.length).map (OL vs)=vs:=by
 apply ext_getElem
 ·simp
 intro i h1 h2;simp only[getElem_map,getElem_range,OL];exact getD_lt h2
end Go.Abs
namespace Go.Abs
open List
open Go.Proofs
open Classical
set_option maxRecDepth 100000
mutual
def Ex.Aj (n:Int):Ex->Bool
 |.mk op v _ _ cD args=>decide (uG op=(args.length:Int))&&(!((decide (op=1)&&!v.may)||(decide (op=3)&&(decide (cD<0)||decide (n<=cD))))&&Ex.Jd n args)
def Ex.Jd (n:Int):List Ex->Bool
 |[]=>true
 |e::r=>e.Aj n&&Ex.Jd n r
end
theorem Ex.afj (n:Int)(l:List Ex):(l.any λ e=>!e.Aj n)=!Ex.Jd n l:=by
 induction l with
 |nil=>rfl
 |cons e r ih=>simp[Ex.Jd,ih]
theorem Ex.Dx {n:Int}{l:List Ex}(h:Ex.Jd n l=true):∀e∈l,e.Aj n=true:=by
 induction l with
 |nil=>intro e he;simp at he
 |cons e r ih =>
  simp[Ex.Jd]at h;intro x hx
  rcases mem_cons.1 hx with rfl|hx
  ·exact h.1
  exact ih h.2 x hx
theorem Ba:∀(N:Nat) (e:Ex) (k:Int),e.sz<=N->N<=aU->aj pG 216 [e.av,zI k] (.bool (e.Aj k))
 |0,e,_,h,_=>by have:=Ex.kQ e;omega
 |N + 1,.mk op v t m cD args,k,ha,hN=>by
  simp only[Ex.sz]at ha;have hla:=Ex.rJ args;have hp:=Xx op;have hm:=mT v;simp only[Val.av]at hm;refine pv c216 λ F hF=>?_;simp only[Ex.Aj];simp[A216,hF,Ex.av,Ex.cells];refine bF.of (dX (l:=[(267,[zI op],λ H n=>.mk (zI (uG op)) H n)]) ?_) ?_
  ·simp only[mc];rintro y rfl;exact cy hp
  by_cases hlen:uG op=(args.length:Int)
  ·have fin:∀(F:Fr),F.get 2=some (.ptr 0 0)->F.get 3=some (.ptr 1 0)->VC pG (.seq NB .ret) F ((Tr.put Tr.nil 0 (some (.cells 8 [] (Ex.mk op v t m cD args).cells .nil))).put 1 (aN 1 [zI k])) 2 [] (kH [aH 4] λ v1 H' _=>fj H'.get v1 (.bool (Ex.Jd k args))):=by
    intro F f2 f3;simp[NB,f2,f3,Ex.cells];refine aB.same (zd (xs:=args) (p:=λ e=>!e.Aj k) c268 (rZ (el:=Ex.av) (f:=269) (first:=[]) (cap:=[.ptr 1 0]) c303 (by unfold aU at *;omega) ai (λ i h=>⟨_,nV h,λ F H n rq=>by simp[rq]⟩) λ x hx=>?_)) ?_
    ·refine ao.forget ai (ao.of c269 (by simp[A269]) λ F hF=>?_);have hsx:=Ex.rI hx;simp[A269,hF];refine aB.pure (Ba N x k ah ah) ?_;simp;intro b h1 h2;subst h2;simp at h1
    simp[Ex.afj];exact .bool ai
   by_cases h1:op=1
   ·subst h1;simp[ae,bY,hlen,vg];refine aB.pure hm ?_
    cases hv:v.may with
    |false=>simp[FB];exact .bool rfl
    |true=>simp[ae];refine fin _ ?_ ?_<;>simp[ae]
   by_cases h3:op=3
   ·subst h3
    by_cases hc:cD<0
    ·simp[ae,bY,hlen,vg,hc,FB];exact .bool rfl
    by_cases hk:k<=cD
    ·simp[ae,bY,hlen,vg,hc,hk,FB];exact .bool rfl
    simp[ae,bY,hlen,vg,hc,hk];refine fin _ ?_ ?_<;>simp[ae]
   simp[ae,bY,hlen,vg,h1,h3];refine fin _ ?_ ?_<;>simp[ae]
  simp[ae,bY,hlen,acy];exact .bool ai
theorem GZ (e:Ex)(k:Int)(h:e.sz<=aU):aj pG 216 [e.av,zI k] (.bool (e.Aj k)):=Ba aU e k h (aL _)
def jy (rv:AV)(row:List Val):Prop:=(rv=aC row∨(row=[]/\rv=apG))/\row.length<=aU
theorem jy.pure {rv:AV}{row:List Val}(h:jy rv row):Pure rv:=by
 rcases h.1 with rfl|⟨_,rfl⟩
 ·exact xR _
 simp
theorem jy.one {rv:AV}{row:List Val}(h:jy rv row):rv.len=1/\rv.cells=[rv]:=by
 rcases h.1 with rfl|⟨_,rfl⟩
 ·simp[aC]
 simp
theorem jy.len {rv:AV}{row:List Val}(h:jy rv row):bg rv=.val (zI (row.length:Int)):=by
 rcases h.1 with rfl|⟨rfl,rfl⟩
 ·simp[aC]
 simp
theorem jy.ix {rv:AV}{row:List Val}(h:jy rv row){i:Nat}(hi:i<row.length){k:IntKind}:bW 3 rv (.int k (i:Int))=.val (.dp (row[i].cells++dF (row.drop (i+1)))):=by
 rcases h.1 with rfl|⟨rfl,rfl⟩
 ·exact fM hi
 simp at hi
theorem GK {rv:AV}{row:List Val}(h:jy rv row):aj pG 217 [rv] (.bool (row.all Val.may)):=by
 refine gf c217 (by simp[h.pure]) ai (by simp[A217]) λ F hF=>?_;obtain⟨o1,o2⟩:=h.one;simp[A217,hF];refine aB.same (zd (xs:=row) (p:=λ v=>!v.may) c270 (rZ (el:=Val.av) (f:=271) (first:=[]) (cap:=[]) c304 h.2 h.len (λ i hi=>⟨_,h.ix hi,λ F H n rq=>by simp[rq,gw]⟩) λ x hx=>?_)) ?_
 ·refine(aj.lz (v:=.bool (!x.may)) ?_ _ _);refine pv c271 λ F hF=>?_;have hm:=mT x;simp only[Val.av]at hm;simp[A271,hF,Val.av];refine aB.pure hm ?_;simp;exact .bool rfl
 simp;refine .bool ?_;rw[Bool.eq_iff_iff];simp
def XE (op:Int)(a b:Val):Val×Int:=if op<=7 then Vu op a else biS op a b
mutual
def Ex.ev (row:List Val):Ex->Val×Int
 |.mk op v _ _ cD args=>if op=1 then (v,0)else if op=3 then (row.getD cD.toNat fq,0)else
  match Ex.BN row args with
  |.inl e=>(fq,e)
  |.inr l=>XE op (l.getD 0 fq) (l.getD 1 fq)
def Ex.BN (row:List Val):List Ex->Int ⊕ List Val
 |[]=>.inr []
 |e::r=>if (e.ev row).2≠0 then .inl (e.ev row).2 else match Ex.BN row r with
  |.inl x=>.inl x
  |.inr l=>.inr ((e.ev row).1::l)
end
end Go.Abs
