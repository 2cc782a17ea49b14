/- A part. -/
import Derived.Test.YtlhafglnokpioaaGreatBt6
noncomputable section
namespace Go.Abs
open List
open Go.Proofs
open Classical
set_option maxRecDepth 100000
theorem akz (t:bK)(L:List (List Val))(hL:L.length<=aU)(hl:∀l∈L,l.length<=aU)(F:Fr)(K:Hp)(n p:Nat)(Q:QA)(f4:F.get 4=some (.ptr p 0))(kp:K.get p=aR 4 [.int .u32 t.id,.str t.name,dL.ds t.cols,.int .u32 t.head])(f39:F.get 39=some (dx L))(f40:F.get 40=some (zI (L.length:Int)))(f41:F.get 41=some (zI 0))
  (k1:¬(∀r∈L,sK t.cols r=0)->∀F',F'.get 2=some (.bool false)->Q .ret F' K n [])
  (k2:(∀r∈L,sK t.cols r=0)->∀F',F'.get 1=F.get 1->F'.get 4=F.get 4->F'.get 5=F.get 5->F'.get 24=F.get 24->F'.get 25=F.get 25->F'.get 26=F.get 26->Q (.exit 2) F' K n []):aE Tj pG F K n [] Q:=by
 unfold aU at hL;refine aE.of (λ q F' K' n' ms=>∃i,q=L.length - i/\i<=L.length/\F'.get 1=F.get 1/\F'.get 4=F.get 4/\F'.get 5=F.get 5/\F'.get 24=F.get 24/\F'.get 25=F.get 25/\F'.get 26=F.get 26/\F'.get 39=some (dx L)/\F'.get 40=some (zI (L.length:Int))/\F'.get 41=some (zI (i:Int))/\(∀r∈L.take i,sK t.cols r=0)/\K'=K/\n'=n/\ms=[]) L.length ⟨0,ah,ae,rfl,rfl,rfl,rfl,rfl,rfl,f39,f40,f41,ah,rfl,rfl,rfl⟩ ?_;clear f39 f40 f41;rintro q F' K' n' ms ⟨i,rfl,hi,g1,g4,g5,g24,g25,g26,f39,f40,f41,hk,rfl,rfl,rfl⟩;have g4':=g4.trans f4;rw[dx]at f39
 by_cases h:i<L.length
 ·have hx:=iQ (k:=.i64) h;have w:=aD i ae;have hrm:L[i]∈L:=dw h;have hms:∀x∈L.take (i+1),x∈L.take i∨x=L[i]:=λ x hx=>by rwa [take_snoc h,mem_append,mi]at hx
  have hf:=YB t.cols L[i] (hl _ hrm);generalize L[i]=r at *;simp[Tj,f40,f41,h,f39,hx,g4',kp];refine aB.pure hf ?_
  by_cases h0:sK t.cols r=0
  ·simp[h0,acx,f41,w,g1,g4',g5,g24,g25,g26,f39,f40,f4];refine⟨_,ae,i+1,rfl,ae,by simp[dx],rfl,λ x hx=>?_⟩
   rcases hms x hx with h1|rfl
   ·exact hk x h1
   exact h0
  simp[h0,acy];exact k1 (λ h1=>h0 (h1 r hrm)) _ ah
 obtain rfl:i=L.length:=ae;rw[fN (aK _)]at hk;simp[Tj,f40,f41];refine k2 hk _ ?_ ?_ ?_ ?_ ?_ ?_
 ·simp[g1]
 ·simp[g4]
 ·simp[g5]
 ·simp[g24]
 ·simp[g25]
 simp[g26]
theorem ag3 (w:pe)(hw:w.gG):aj pG 19 [oW.av w] (.bool (decide (fW w))):=by
 refine pv c19 λ F hF=>?_;have ap_:=ag4 w.aL hw.s;simp only[aZ.av,fm]at ap_;have hst:=hw.s.t;have hl:=hw.l;unfold aU at hst hl;simp[A19,hF,aZ.av,uY];refine aB.pure ap_ ?_
 by_cases h0:eW w.aL
 ·by_cases h1:w.rows.length=w.aL.tables.length
  ·simp[h0,aZ.aM,h1,aiT];refine aE.of (λ q F K n ms=>∃i,q=w.rows.length - i/\i<=w.rows.length/\F.get 1=some (.ptr 0 0)/\F.get 24=some (aH.ds w.aL.tables)/\F.get 25=some (zI (w.aL.tables.length:Int))/\F.get 26=some (zI (i:Int))/\K.get 0=aR 3 [aH.ds w.aL.tables,bp.ds w.aL.indexes,iH.ds w.rows]/\0<n/\(∀j (hj:j<i) (h1:j<w.rows.length) (h2:j<w.aL.tables.length),KH w.aL w.aL.tables[j] w.rows[j])/\ms=[]) w.rows.length ⟨0,ah,ae,ah,ah,ah,ah,ah,ae,λ j hj=>ae,rfl⟩ ?_;clear hF F;rintro q F K n ms ⟨i,rfl,hi,f1,f24,f25,f26,k0,n0,hk,rfl⟩
   by_cases h:i<w.rows.length
   ·have h2:i<w.aL.tables.length:=ae;have hx:=iH.ix (ik:=.i64) h;have hy:=aH.ix (ik:=.i64) h2;have wr:=aD i ae;have htm:w.rows[i]∈w.rows:=dw h;have hTm:w.aL.tables[i]∈w.aL.tables:=dw h2;have hrf:=h0.rows hw.g hTm w.rows[i];have hlt:=hw.t _ htm;have hrr:=hw.r _ htm;have hno:∀P:Prop,(KH w.aL w.aL.tables[i] w.rows[i]->P)->¬P->¬fW w:=λ P a b c=>b (a (c.t i h h2))
    have hyes:KH w.aL w.aL.tables[i] w.rows[i]->∀j (hj:j<i+1) (h1:j<w.rows.length) (h2:j<w.aL.tables.length),KH w.aL w.aL.tables[j] w.rows[j]:=λ a j hj h1 h2=>by
     by_cases e:j=i
     ·subst e;exact a
     exact hk j ae h1 h2
    rw[YP]at hx;rw[eK]at hy;generalize w.rows[i]=L at *;generalize w.aL.tables[i]=t at *;have hso:=VP L hlt λ r hr=>(hrr r hr).1;simp[adI,f25,f26,h2,f24,hy,aot,aZ.av,eK,f1,k0,show ¬ 0=n by omega,hx,dx]
    by_cases h4:4096<L.length
    ·have:=hno (L.length<=4096) (λ a=>a.len) ae;simp[show (4096:Int)<(L.length:Int) by omega,aiS];exact .bool (by simp[this])
    simp[show ¬(4096:Int)<(L.length:Int) by omega,aiR];refine akz t L hlt (λ r hr=>(hrr r hr).1) _ _ _ n _ ah ah (by simp[dx]) ah ah (λ hb F' g2=>?_) λ hfit F' g1 g4 g5 g24 g25 g26=>?_
    ·have:=hno (∀r∈L,sK t.cols r=0) (λ a r hr=>Gu ((Ci _ _ _).1 a.w r hr)) hb;simp[g2];exact .bool (by simp[this])
    simp[f1,f24,f25,f26]at g1 g4 g5 g24 g25 g26;have hfl:∀r∈L,r.length=t.cols.length:=λ r hr=>(qM (hfit r hr)).2.1;have hfs:=alo w.aL t L hw.s.i hw.s.ic hlt hrr hrf.jm hrf.lP hfl;simp only[aZ.av,fm,eK]at hfs;rw[dx]at hso;simp[acw,g5];refine aB.pure hso ?_
    by_cases h5:lN L
    ·simp[h5,g1,g4,g5,k0,show ¬ 0=n by omega];refine aB.pure hfs ?_
     by_cases h6:vS w.aL t L=0
     ·obtain⟨h7,h8⟩:=(nW _ _ _).1 h6;simp[h6,acv,g26,wr,g1,g24,g25,k0,show ¬ 0=n by omega];exact⟨_,ae,i+1,rfl,ae,rfl,hyes ⟨ae,h7,h5,h8⟩⟩
     have:=hno (sZ w.aL t L=0/\vh w.aL t.id L) (λ a=>⟨a.w,a.uq⟩) (λ a=>h6 ((nW _ _ _).2 a));simp[h6,MP];exact .bool (by simp[this])
    have:=hno (lN L) (λ a=>a.oK) h5;simp[h5,MP];exact .bool (by simp[this])
   obtain rfl:i=w.rows.length:=ae;have:fW w:=⟨h0,h1,λ j a b=>hk j a a b⟩;simp[adI,f25,f26,h1,acu];exact .bool (by simp[this])
  have:¬fW w:=λ h=>h1 h.l;simp[h0,aZ.aM,h1,acs];exact .bool (by simp[this])
 have:¬fW w:=λ h=>h0 h.s;simp[h0,acs];exact .bool (by simp[this])
def eRw:aZ (List Val) 1:=⟨λ r=>[ay r],λ _=>rfl,λ _=>ah,λ _=>by simp[br,AV.one,ay]⟩
theorem arc (L:List (List Val)):eRw.l L=aJ L:=by
 induction L with
 |nil=>rfl
 |cons a r ih=>rw[aZ.lC,ih];rfl
theorem alD (L:List (List Val)):eRw.ds L=dx L:=by simp[aZ.ds,dx,arc]
def gR (b:Bool):Val:=⟨3,if b then 1 else 0,[]⟩
def O4 (k:Int)(v:Val):Bool:=decide (v.kind=0)||decide (v.kind=k)
def jZ (k:Int)(l:List Val):Int:=if l.all Val.may then (if l.all (O4 k)then 0 else 30)else 5
def cO (r:Val×Int):AV:=.bo [r.1.av,zI r.2]
@[simp] theorem am3 (r:Val×Int):Pure (cO r):=by simp[cO]
theorem CL (b:Bool):aj pG 308 [.bool b] (gR b).av:=by
 refine pv c308 λ F hF=>?_;cases b
 ·simp[A308,hF];exact fp
 simp[A308,hF];exact fp
theorem xG (b:Bool):aj pG 219 [.bool b] (gR b).av:=by
 refine pv c219 λ F hF=>?_;cases b
 ·simp[A219,hF];exact fp
 simp[A219,hF];exact fp
theorem Iy (p:Val->Bool)(l:List Val)(i:Nat)(h:i<l.length)(h0:(l.take i).all p=true):(l.take (i+1)).all p=p l[i]:=by
 rw[take_snoc h,all_append,h0];simp
theorem Zn (p:Val->Bool)(l:List Val)(i:Nat)(h:i<l.length)(h0:p l[i]=false):l.all p=false:=by
 rw[all_eq_false];exact⟨l[i],dw h,by simp[h0]⟩
theorem zu (k:Int) (l:List Val) (hl:l.length<=aU):aj pG 307 [zI k,ay l] (zI (jZ k l)):=by
 unfold aU at hl;refine pv c307 λ F hF=>?_;simp[A307,hF,ay];refine aE.of (λ t F K n ms=>∃i,t=l.length - i/\i<=l.length/\F.get 0=some (zI k)/\F.get 1=some (ay l)/\F.get 9=some (ay l)/\F.get 10=some (zI (l.length:Int))/\F.get 11=some (zI (i:Int))/\(l.take i).all Val.may=true/\ms=[]) l.length ⟨0,by simp[hF,ay]⟩ ?_;clear hF F;rintro t F K n ms ⟨i,rfl,hi,f0,f1,f9,f10,f11,ha,rfl⟩;rw[ay]at f1 f9
 by_cases h:i<l.length
 ·have hx:=fK (k:=.i64) h;have w:=aD i ae;have hs:=Iy Val.may l i h ha;have hn:=Zn Val.may l i h;generalize l[i]=v at *;have hm:=mV v;simp only[Val.av]at hm;simp[MZ,f10,f11,h,f9,hx,gz,Val.av];refine aB.pure hm ?_
  cases hv:v.may with
  |true =>
   simp[abk,f11,w,f0,f1,f9,f10];exact⟨_,ae,i+1,rfl,ae,by simp[ay],rfl,by rw[hv]at hs;simpa using hs⟩
  |false =>
   have e:jZ k l=5:=by unfold jZ;rw[hn hv];rfl
   simp[abl,e];exact fp
 obtain rfl:i=l.length:=ae;rw[fN (aK _)]at ha;have hall:=ha;simp[MZ,f10,f11,abj,f1];refine aE.of (λ t F K n ms=>∃i,t=l.length - i/\i<=l.length/\F.get 0=some (zI k)/\F.get 19=some (ay l)/\F.get 20=some (zI (l.length:Int))/\F.get 21=some (zI (i:Int))/\(l.take i).all (O4 k)=true/\ms=[]) l.length ⟨0,by simp[f0,ay]⟩ ?_;clear f0 f1 f9 f10 f11 F;rintro t F K n ms ⟨i,rfl,hi,f0,f19,f20,f21,ha,rfl⟩;rw[ay]at f19
 by_cases h:i<l.length
 ·have hx:=fK (k:=.i64) h;have w:=aD i ae;have hs:=Iy (O4 k) l i h ha;have hn:=Zn (O4 k) l i h;generalize l[i]=v at *
  by_cases h0:v.kind=0
  ·have hk:O4 k v=true:=by simp[O4,h0]
   simp[zL,f20,f21,h,f19,hx,gz,Val.av,h0,w,f0];exact⟨_,ae,i+1,rfl,ae,by simp[ay],rfl,by rw[hk]at hs;simpa using hs⟩
  by_cases h1:v.kind=k
  ·have hk:O4 k v=true:=by simp[O4,h1]
   simp[zL,f20,f21,h,f19,hx,gz,Val.av,h1];simp[h1]at h0;simp[h0,f19,f21,w,f0,f20];exact⟨_,ae,i+1,rfl,ae,by simp[ay],rfl,by rw[hk]at hs;simpa using hs⟩
  have hk:O4 k v=false:=by simp[O4,h0,h1]
  have e:jZ k l=30:=by unfold jZ;rw[hall,hn hk];rfl
  simp[e,zL,f20,f21,h,f19,hx,gz,Val.av,h0,h1,f0];exact fp
 obtain rfl:i=l.length:=ae;rw[fN (aK _)]at ha;have e:jZ k l=0:=by unfold jZ;rw[hall,ha];rfl
 simp[e,zL,f20,f21,Qy];exact fp
theorem aqK {H:Hp}{b:Nat}{a:Val}(h:H.get b=aR 3 a.cells):e_ H.get (.sl b 0 1 3) (ay [a]):=by
 have:=aC.nV (H:=H) (n:=b+1) (v:=.sl b 0 1 3) (l:=uZ.l [a]) (len:=1) (sz:=3) ⟨ah,.inr ⟨b,_,rfl,ae,h,OwnB.list (l:=uZ.l [a]) ah⟩⟩ (.pure ah);rw[j8]at this;exact this
theorem Pv {H:Hp}{b:Nat}{a c:Val}(h:H.get b=aR 6 (a.cells++c.cells)):e_ H.get (.sl b 0 2 3) (ay [a,c]):=by
 have:=aC.nV (H:=H) (n:=b+1) (v:=.sl b 0 2 3) (l:=uZ.l [a,c]) (len:=2) (sz:=3) ⟨ah,.inr ⟨b,_,rfl,ae,h,OwnB.list (l:=uZ.l [a,c]) ah⟩⟩ (.pure ah);rw[j8]at this;exact this
def kh (a b:Val)(r:Int×Bool):Val×Int:=if jZ 1 [a,b]≠0∨a.kind=0∨b.kind=0 then (f_,jZ 1 [a,b])else if r.2=true then (⟨1,r.1,[]⟩,0)else (f_,31)
theorem qy (a b:Val) (g:FuncId) (r:Int×Bool) (h:jZ 1 [a,b]=0->a.kind≠0->b.kind≠0->aj pG g [zI a.num,zI b.num] (.bo [zI r.1,.bool r.2])):aj pG 305 [a.av,b.av,.fn (.func g) [] []] (cO (kh a b r)):=by
 refine pv c305 λ F hF=>?_;have hall:=zu 1 [a,b] (by simp[aU]);unfold kh;generalize jZ 1 [a,b]=e at *;simp[A305,hF,Val.av,rep];refine aB.nV hall ah (.cons _ _ _ _ fp (.cons _ _ _ _ (Pv (a:=a) (c:=b) (by simp[Val.cells])) .nil)) ?_
 by_cases h0:e=0
 ·by_cases ha:a.kind=0
  ·simp[zH,h0,ha,Ej];exact fp
  by_cases hb:b.kind=0
  ·simp[zH,h0,ha,hb,Ej];exact fp
  simp[zH,h0,ha,hb,abo,hF];refine aB.pure (h h0 ha hb) ?_
  cases hr:r.2 with
  |true=>simp[LQ,abm];exact fp
  |false=>simp[LQ,abn];exact fp
 simp[zH,h0,Ej];exact fp
def kD (a b:Val)(r:Bool):Val×Int:=if ¬(a.may=true/\b.may=true)then (f_,5)else if a.kind=0∨b.kind=0 then (f_,0)else if a.kind≠b.kind then (f_,30)else (gR r,0)
theorem qP (a b:Val) (g:FuncId) (r:Bool) (h:aj pG g [zI (a.ord b)] (.bool r)):aj pG 340 [a.av,b.av,.fn (.func g) [] []] (cO (kD a b r)):=by
 refine pv c340 λ F hF=>?_;have ha:=mV a;have hb:=mV b;have ho:=OK a b;unfold kD;simp only[Val.av]at ha hb ho;simp[A340,hF,Val.av];refine aB.pure ha ?_
 cases hma:a.may with
 |false=>simp[LC];exact fp
 |true =>
  simp;refine aB.pure hb ?_
  cases hmb:b.may with
  |false=>simp[LC];exact fp
  |true =>
   by_cases h1:a.kind=0
   ·simp[zC,h1,LA];exact fp
   by_cases h2:b.kind=0
   ·simp[zC,h1,h2,LA];exact fp
   by_cases h3:a.kind=b.kind
   ·simp[zC,h2,Ly,h3,aa7,hF];simp only[h3]at ho h1;refine aB.pure ho ?_;simp;refine aB.pure h ?_;simp;refine aB.pure (CL r) ?_;simp[Val.av];exact fp
   simp[zC,h1,h2,Ly,h3,aa8];exact fp
def opC (c f:FuncId):CF:={res:=[b6 4 3,aG 5],code:=.seq (.ng [oP (bg 2) (HV (aA 0)),oP (bg 3) (HV (aA 1)),oP (bg 4) (au [(zI 0),(zI 0),(.str [])] 3),oP (bg 5) (eL (aQ (zI 0)))]) (.seq (.ng [oP (bg 6) (iS 3 (aA 2)),oP (bg 7) (iS 3 (aA 3)),cP (bg 8) c [(aA 6),(aA 7),(aQ (.fn (.func f) [] []))],oP (bg 9) (e1 (kS 0) (aA 8)),oP (bg 10) (e1 (kS 1) (aA 8)),oP ri (dz 3 (aA 4) (aA 9)),oP (bg 5) (eL (aA 10))]) .ret),nt:=11}
theorem tK {g c f:FuncId}(hc:J5 pG g=some (opC c f)){a b:Val}{r:Val×Int}(h:aj pG c [a.av,b.av,.fn (.func f) [] []] (cO r)):aj pG g [a.av,b.av] (cO r):=by
 refine gW hc ah ah (by simp[opC]) λ F hF=>?_;simp only[Val.av]at h;simp[opC,hF,Val.av];refine aB.pure h ?_;simp[cO,Val.av];exact fp
def Gv (x:Int):Int:=IntKind.i64.wrap x
def rZ:Int := -9223372036854775808
def Zr (x y:Int):Int×Bool:=(Gv (x+y),(decide (x<0) != decide (y<0))||(decide (Gv (x+y)<0) == decide (x<0)))
def VG (x y:Int):Int×Bool:=(Gv (x - y),(decide (x<0) == decide (y<0))||(decide (Gv (x - y)<0) == decide (x<0)))
def XI (x y:Int):Int×Bool:=if x=0∨y=0 then (0,true)else (Gv (x*y),!((decide (x = -1)&&decide (y=rZ))||(decide (y = -1)&&decide (x=rZ)))&&decide (Gv ((Gv (x*y)).tdiv y)=x))
def YT (x y:Int):Int×Bool:=if x=rZ/\y = -1 then (0,false)else (Gv (x.tdiv y),true)
def XJ (x y:Int):Int×Bool:=if y = -1 then (0,true)else (x.tmod y,true)
def Ui (y:Int):Int×Bool:=(Gv (-y),decide (y≠rZ))
theorem sW (k:IntKind)(a b:Int)(h:b≠0):bS .quo k a b=.val (.int k (k.wrap (a.tdiv b))):=by simp only[bS,kG];rw[ai h]
theorem KC (k:IntKind)(a b:Int)(h:b≠0):bS .rem k a b=.val (.int k (a.tmod b)):=by simp only[bS,kG];rw[ai h]
theorem amq (x y:Int):aj pG 335 [zI x,zI y] (.bo [zI (Zr x y).1,.bool (Zr x y).2]):=by
 refine pv c335 λ F hF=>?_;unfold Zr Gv
 by_cases h1:x<0<;>by_cases h2:y<0<;>by_cases h3:IntKind.i64.wrap (x+y)<0 <;>
 ·simp[A335,hF,h1,h2,h3,kT,jq];exact fp
theorem ajG (x y:Int):aj pG 336 [zI x,zI y] (.bo [zI (VG x y).1,.bool (VG x y).2]):=by
 refine pv c336 λ F hF=>?_;unfold VG Gv
 by_cases h1:x<0<;>by_cases h2:y<0<;>by_cases h3:IntKind.i64.wrap (x - y)<0 <;>
 ·simp[A336,hF,h1,h2,h3,kT,jq];exact fp
theorem akx (x y:Int):aj pG 337 [zI x,zI y] (.bo [zI (XI x y).1,.bool (XI x y).2]):=by
 refine pv c337 λ F hF=>?_;unfold XI Gv rZ
 by_cases h1:x=0
 ·simp[A337,hF,h1];exact fp
 by_cases h2:y=0
 ·simp[A337,hF,h1,h2];exact fp
 simp[A337,hF,h1,h2];refine bC.of (bh (P:=pG)) ?_
 by_cases h3:x = -1<;>by_cases h4:y = -9223372036854775808<;>by_cases h5:y = -1<;>by_cases h6:x = -9223372036854775808 <;>
 first
 |omega
 |(simp[ab,hF,h3,h4,h5,h6,h2,sW];exact fp)
theorem alG (x y:Int)(h0:y≠0):aj pG 338 [zI x,zI y] (.bo [zI (YT x y).1,.bool (YT x y).2]):=by
 refine pv c338 λ F hF=>?_;unfold YT Gv rZ
 by_cases h1:x = -9223372036854775808
 ·by_cases h2:y = -1
  ·simp[A338,hF,h1,h2];exact fp
  simp[A338,hF,h1,h2,h0,sW];exact fp
 simp[A338,hF,h1,h0,sW];exact fp
theorem aky (x y:Int)(h0:y≠0):aj pG 339 [zI x,zI y] (.bo [zI (XJ x y).1,.bool (XJ x y).2]):=by
 refine pv c339 λ F hF=>?_;unfold XJ
 by_cases h1:y = -1
 ·simp[A339,hF,h1];exact fp
 simp[A339,hF,h1,h0,KC];exact fp
theorem akv (x y:Int):aj pG 306 [zI x,zI y] (.bo [zI (Ui y).1,.bool (Ui y).2]):=by
 refine pv c306 λ F hF=>?_;unfold Ui Gv rZ;have n1:cUn .neg (zI y)=.val (zI (IntKind.i64.wrap (-y))):=by simp only[cUn,kG,Int.zero_sub]
 by_cases h1:y = -9223372036854775808
 ·subst h1;simp[A306,hF,n1];exact fp
 simp[A306,hF,n1,h1];exact fp
theorem aq8 (c:Int):aj pG 341 [zI c] (.bool (decide (c=0))):=by
 refine pv c341 λ F hF=>?_;simp[A341,hF];exact .bool ah
theorem apy (c:Int):aj pG 342 [zI c] (.bool (decide (c≠0))):=by
 refine pv c342 λ F hF=>?_;simp[A342,hF];exact .bool ah
theorem apB (c:Int):aj pG 343 [zI c] (.bool (decide (c<0))):=by
 refine pv c343 λ F hF=>?_;simp[A343,hF];exact .bool ah
theorem apF (c:Int):aj pG 344 [zI c] (.bool (decide (c<=0))):=by
 refine pv c344 λ F hF=>?_;simp[A344,hF];exact .bool ah
theorem aqw (c:Int):aj pG 345 [zI c] (.bool (decide (0<c))):=by
 refine pv c345 λ F hF=>?_;simp[A345,hF];exact .bool ah
theorem aqG (c:Int):aj pG 346 [zI c] (.bool (decide (0<=c))):=by
 refine pv c346 λ F hF=>?_;simp[A346,hF];exact .bool ah
theorem am1 (a b:Val):aj pG 309 [a.av,b.av] (cO (kh a b (Zr a.num b.num))):=tK c309 (qy a b 335 _ λ _ _ _=>amq _ _)
theorem amv (a b:Val):aj pG 310 [a.av,b.av] (cO (kh a b (VG a.num b.num))):=tK c310 (qy a b 336 _ λ _ _ _=>ajG _ _)
theorem amG (a b:Val):aj pG 311 [a.av,b.av] (cO (kh a b (XI a.num b.num))):=tK c311 (qy a b 337 _ λ _ _ _=>akx _ _)
theorem asI (a b:Val):aj pG 315 [a.av,b.av] (cO (kD a b (decide (a.ord b=0)))):=tK c315 (qP a b 341 _ (aq8 _))
theorem asw (a b:Val):aj pG 316 [a.av,b.av] (cO (kD a b (decide (a.ord b≠0)))):=tK c316 (qP a b 342 _ (apy _))
theorem asy (a b:Val):aj pG 317 [a.av,b.av] (cO (kD a b (decide (a.ord b<0)))):=tK c317 (qP a b 343 _ (apB _))
theorem asz (a b:Val):aj pG 318 [a.av,b.av] (cO (kD a b (decide (a.ord b<=0)))):=tK c318 (qP a b 344 _ (apF _))
theorem asE (a b:Val):aj pG 319 [a.av,b.av] (cO (kD a b (decide (0<a.ord b)))):=tK c319 (qP a b 345 _ (aqw _))
theorem asG (a b:Val):aj pG 320 [a.av,b.av] (cO (kD a b (decide (0<=a.ord b)))):=tK c320 (qP a b 346 _ (aqG _))
def H7 (a b:Val)(r:Int×Bool):Val×Int:=if jZ 1 [a,b]=0/\a.kind≠0/\b.kind≠0/\b.num=0 then (f_,32)else kh a b r
def divC (f:FuncId):CF:={A312 with code:=.seq LP (.seq (.seq LO (.cond (aA 25) (.seq LN .ret) .skip)) (.seq (.ng [oP (bg 27) (iS 3 (aA 2)),oP (bg 28) (iS 3 (aA 3)),cP (bg 29) 305 [(aA 27),(aA 28),(aQ (.fn (.func f) [] []))],oP (bg 30) (e1 (kS 0) (aA 29)),oP (bg 31) (e1 (kS 1) (aA 29)),oP ri (dz 3 (aA 4) (aA 30)),oP (bg 5) (eL (aA 31))]) .ret))}
theorem YS {g f:FuncId}(hc:J5 pG g=some (divC f)){a b:Val}{r:Int×Bool}(h:b.num≠0->aj pG f [zI a.num,zI b.num] (.bo [zI r.1,.bool r.2])):aj pG g [a.av,b.av] (cO (H7 a b r)):=by
 refine gW hc ah ah (by simp[divC,A312]) λ F hF=>?_;have hall:=zu 1 [a,b] (by simp[aU]);have hr:=λ h0=>qy a b f r λ _ _ _=>h h0;have hr2:jZ 1 [a,b]≠0∨a.kind=0∨b.kind=0->aj pG 305 [a.av,b.av,.fn (.func f) [] []] (cO (kh a b r)):=λ h1=>qy a b f r λ x y z=>by rcases h1 with h1|h1|h1<;>contradiction
 unfold H7;simp only[Val.av]at hr hr2;generalize kh a b r=q at *;generalize jZ 1 [a,b]=e at *;simp[divC,LP,LO,hF,Val.av,rep];refine aB.nV hall ah (.cons _ _ _ _ fp (.cons _ _ _ _ (Pv (a:=a) (c:=b) (by simp[Val.cells])) .nil)) ?_
 by_cases h0:e=0
 ·by_cases ha:a.kind=0
  ·simp only[ha]at hr2;simp[h0,ha];refine aB.pure (hr2 (.inr (.inl trivial))) ?_;simp[A312,cO,Val.av];exact fp
  by_cases hb:b.kind=0
  ·simp only[hb]at hr2;simp[h0,ha,hb];refine aB.pure (hr2 (.inr (.inr trivial))) ?_;simp[A312,cO,Val.av];exact fp
  by_cases hn:b.num=0
  ·simp[h0,ha,hb,hn,LN,A312,cO,Val.av];exact fp
  simp[h0,ha,hb,hn];refine aB.pure (hr hn) ?_;simp[A312,cO,Val.av];exact fp
 simp[h0];refine aB.pure (hr2 (.inl h0)) ?_;simp[A312,cO,Val.av];exact fp
theorem amV (a b:Val):aj pG 312 [a.av,b.av] (cO (H7 a b (YT a.num b.num))):=YS c312 λ h=>alG _ _ h
theorem amH (a b:Val):aj pG 313 [a.av,b.av] (cO (H7 a b (XJ a.num b.num))):=YS c313 λ h=>aky _ _ h
def Xt:Val:=⟨1,0,[]⟩
theorem amF (a:Val):aj pG 272 [a.av] (cO (kh Xt a (Ui a.num))):=by
 refine pv c272 λ F hF=>?_;have h:=qy Xt a 306 _ λ _ _ _=>akv 0 a.num;generalize kh Xt a (Ui a.num)=q at *;simp only[Val.av,Xt]at h;simp[A272,hF,Val.av];refine aB.pure h ?_;simp[cO,Val.av];exact fp
def afa (a:Val):Val×Int:=if jZ 3 [a]≠0∨a.kind=0 then (f_,jZ 3 [a])else (gR (decide (a.num=0)),0)
theorem amE (a:Val):aj pG 273 [a.av] (cO (afa a)):=by
 refine pv c273 λ F hF=>?_;have hall:=zu 3 [a] (by simp[aU]);unfold afa;generalize jZ 3 [a]=e at *;simp[A273,hF,Val.av,rep];refine aB.nV hall ah (.cons _ _ _ _ fp (.cons _ _ _ _ (aqK (a:=a) (by simp[Val.cells])) .nil)) ?_
 by_cases h0:e=0
 ·by_cases ha:a.kind=0
  ·simp[Ey,h0,ha,LY];exact fp
  simp[Ey,h0,ha,abP];refine aB.pure (CL _) ?_;simp[Val.av];exact fp
 simp[Ey,h0,LY];exact fp
def Hq (a b:Val):Val×Int:=if jZ 2 [a,b]≠0∨a.kind=0∨b.kind=0 then (f_,jZ 2 [a,b])else if a.s.length+b.s.length<=64 then (⟨2,0,a.s++b.s⟩,0)else (f_,3)
theorem afR {k:Int}{a b:Val}(h:jZ k [a,b]=0):a.may=true/\b.may=true/\O4 k a=true/\O4 k b=true:=by
 unfold jZ at h
 split at h
 ·rename_i h1
  split at h
  ·rename_i h2;simp at h1 h2;exact⟨h1.1,h1.2,h2.1,h2.2⟩
  omega
 omega
theorem agy (a b:Val):aj pG 314 [a.av,b.av] (cO (Hq a b)):=by
 refine pv c314 λ F hF=>?_;have hall:=zu 2 [a,b] (by simp[aU]);have hfm:=afR (k:=2) (a:=a) (b:=b);unfold Hq;generalize jZ 2 [a,b]=e at *;simp[A314,hF,Val.av,rep];refine aB.nV hall ah (.cons _ _ _ _ fp (.cons _ _ _ _ (Pv (a:=a) (c:=b) (by simp[Val.cells])) .nil)) ?_
 by_cases h0:e=0
 ·by_cases ha:a.kind=0
  ·simp[vp,h0,ha,Ei];exact fp
  by_cases hb:b.kind=0
  ·simp[vp,h0,ha,hb,Ei];exact fp
  obtain⟨m1,m2,m3,m4⟩:=hfm h0;have l1:a.s.length<=64:=Val.lV m1 (by simpa[O4,ha]using m3);have l2:b.s.length<=64:=Val.lV m2 (by simpa[O4,hb]using m4);have ws:IntKind.i64.wrap ((a.s.length:Int)+(b.s.length:Int))=((a.s.length+b.s.length:Nat):Int):=by rw[dW _ ae ae];omega
  by_cases hl:a.s.length+b.s.length<=64
  ·have awo:Ak (.str a.s) (.str b.s)=.val (.str (a.s++b.s)):=Y8 (by unfold big;omega);simp[vp,h0,ha,hb,LM,ws,show ¬(64:Int)<(a.s.length:Int)+(b.s.length:Int) by omega,abd,awo,hl];exact fp
  simp[vp,h0,ha,hb,LM,ws,show (64:Int)<(a.s.length:Int)+(b.s.length:Int) by omega,abe,hl];exact fp
 simp[vp,h0,Ei];exact fp
def vY (c:Bool)(a b:Val):Val×Int:=if jZ 3 [a,b]≠0 then (f_,jZ 3 [a,b])else if a=gR c∨b=gR c then (gR c,0)else if a.kind=0∨b.kind=0 then (f_,0)else (gR (!c),0)
def Za (c:Bool):CF:={A321 with code:=.seq LL (.seq (.seq LJ (.seq Eh (.cond (aA 13) (.seq LI .ret) .skip))) (.seq (.ng [cP (bg 16) 308 [(aQ (.bool c))],oP (bg 7) (au [(zI 0),(zI 0),(.str [])] 3),oP ri (dz 3 (aA 7) (aA 16))]) (.seq (.block 0 (.seq zG (.cond (aA 17) (.seq Eg .ret) (.seq zF (.cond (aA 27) (.seq Ef .ret) .skip))))) (.seq (.ng [cP (bg 37) 308 [(aQ (.bool (!c)))],oP ri (dz 3 (aA 4) (aA 37)),oP (bg 5) (eL (aQ (zI 0)))]) .ret))))}
theorem both_ok {g:FuncId}(c:Bool) (hc:J5 pG g=some (Za c)) (a b:Val):aj pG g [a.av,b.av] (cO (vY c a b)):=by
 refine gW hc ah ah (by simp[Za,A321]) λ F hF=>?_;have hall:=zu 3 [a,b] (by simp[aU])
 have ey:∀(v:Val),og false [.i,.i,.s] (.agg [zI v.kind,zI v.num,.str v.s] 3) (.agg [zI (gR c).kind,zI (gR c).num,.str (gR c).s] 3)=.val (.bool (decide (v=gR c))):=λ v=>by
  have:=DT false v (gR c);simpa[Val.av]using this
 unfold vY;generalize jZ 3 [a,b]=e at *;have y1:=CL c;have y2:=CL (!c);generalize gR c=y at *;generalize gR (!c)=y' at *;simp only[Val.av]at y1 y2;simp[Za,LL,LJ,hF,Val.av,rep];refine aB.nV hall ah (.cons _ _ _ _ fp (.cons _ _ _ _ (Pv (a:=a) (c:=b) (by simp[Val.cells])) .nil)) ?_
 by_cases h0:e=0
 ·simp[Eh,h0];refine aB.pure y1 ?_
  by_cases h1:a=y
  ·simp[zG,ey,h1,Eg,A321,cO,Val.av];exact fp
  by_cases h2:b=y
  ·simp[zG,ey,h1,h2,Eg,A321,cO,Val.av];exact fp
  simp[zG,ey,h1,h2]
  by_cases h3:a.kind=0
  ·simp[zF,h3,Ef,A321,cO,Val.av];exact fp
  by_cases h4:b.kind=0
  ·simp[zF,h3,h4,Ef,A321,cO,Val.av];exact fp
  simp[zF,h3,h4];refine aB.pure y2 ?_;simp[A321,cO,Val.av];exact fp
 simp[Eh,h0,LI,A321,cO,Val.av];exact fp
theorem am0 (a b:Val):aj pG 321 [a.av,b.av] (cO (vY false a b)):=both_ok false c321 a b
theorem asu (a b:Val):aj pG 322 [a.av,b.av] (cO (vY true a b)):=both_ok true c322 a b
def rU (op:Int):Int:=if op=1∨op=3 then 0 else if 4<=op/\op<=7 then 1 else if 8<=op/\op<=21 then 2 else -1
theorem Xm (op:Int):aj pG 267 [zI op] (zI (rU op)):=by
 refine pv c267 λ F hF=>?_;unfold rU
 by_cases h1:op=1
 ·simp[A267,hF,h1];exact fp
 by_cases h3:op=3
 ·simp[A267,hF,h3];exact fp
 by_cases h4:4<=op
 ·by_cases h7:op<=7
  ·simp[A267,hF,h1,h3,h4,h7];exact fp
  by_cases h21:op<=21
  ·simp[A267,hF,h1,h3,h4,h7,show 8<=op by omega,h21];exact fp
  simp[A267,hF,h1,h3,h4,h7,show 8<=op by omega,h21];exact fp
 simp[A267,hF,h1,h3,h4,show ¬ 8<=op by omega];exact fp
abbrev apx:AV:=.aV (.slice none 0 0)
def Yy:List AV:=[.fn (.func 309) [] [],.fn (.func 310) [] [],.fn (.func 311) [] [],.fn (.func 312) [] [],.fn (.func 313) [] [],.fn (.func 314) [] [],.fn (.func 315) [] [],.fn (.func 316) [] [],.fn (.func 317) [] [],.fn (.func 318) [] [],.fn (.func 319) [] [],.fn (.func 320) [] [],.fn (.func 321) [] [],.fn (.func 322) [] []]
theorem Y5:aj pG 274 [] (.agg Yy 14):=by
 refine gW c274 ah (by simp[Yy]) (by simp[A274]) λ F hF=>?_;simp[A274];exact fp
def unS (op:Int)(a:Val):Val×Int:=if op=4 then kh Xt a (Ui a.num)else if op=5 then afa a else if op=6 then (gR (decide (a.kind=0)),0)else (gR (decide (a.kind≠0)),0)
def biS (op:Int)(a b:Val):Val×Int:=
 if op=8 then kh a b (Zr a.num b.num)else if op=9 then kh a b (VG a.num b.num)else if op=10 then kh a b (XI a.num b.num)else if op=11 then H7 a b (YT a.num b.num)else if op=12 then H7 a b (XJ a.num b.num)else
 if op=13 then Hq a b else if op=14 then kD a b (decide (a.ord b=0))else if op=15 then kD a b (decide (a.ord b≠0))else if op=16 then kD a b (decide (a.ord b<0))else if op=17 then kD a b (decide (a.ord b<=0))else
 if op=18 then kD a b (decide (0<a.ord b))else if op=19 then kD a b (decide (0<=a.ord b))else if op=20 then vY false a b else vY true a b
theorem ar7 (k:Nat)(h:k<14)(a b:Val):aj pG (309+k) [a.av,b.av] (cO (biS ((8+k:Nat):Int) a b))/\Yy[k]?=some (.fn (.func (309+k)) [] []):=by
 have:k=0∨k=1∨k=2∨k=3∨k=4∨k=5∨k=6∨k=7∨k=8∨k=9∨k=10∨k=11∨k=12∨k=13:=ae
 rcases this with rfl|rfl|rfl|rfl|rfl|rfl|rfl|rfl|rfl|rfl|rfl|rfl|rfl|rfl<;>refine⟨?_,rfl⟩
 ·exact am1 a b
 ·exact amv a b
 ·exact amG a b
 ·exact amV a b
 ·exact amH a b
 ·exact agy a b
 ·exact asI a b
 ·exact asw a b
 ·exact asy a b
 ·exact asz a b
 ·exact asE a b
 ·exact asG a b
 ·exact am0 a b
 exact asu a b
theorem Hr (q:Nat):gJ 2 3 (.ptr q 0) (zI 0)=.val (.ptr q 0)/\gJ 2 3 (.ptr q 0) (zI 1)=.val (.ptr q 3):=⟨rfl,rfl⟩
end Go.Abs
namespace Go.Abs
open List
open Go.Proofs
open Classical
set_option maxRecDepth 100000
def FJ (h:Hf)(v v':AV):Prop:=∀(φ:Ph)(D:Da)(w:World)(x:Value),Rel φ D h w->VR φ D v x->VR φ (shut φ D h w) v' x
theorem FJ.refl (h:Hf)(v:AV):FJ h v v:=λ _ _ _ _ _ hx=>hx.mono (λ _ _ h=>h) fj
theorem FJ.nV {h:Hf}{v v':AV}(f:e_ h v v'):FJ h v v':=λ _ _ _ _ hr hx=>(f.vr hr hx).mono (λ b p hb=>by simp[mJ]at hb) (λ _ _ h=>h)
inductive FJL (h:Hf):List AV->List AV->Prop
 |nil:FJL h [] []
 |cons (v v' vs vs'):FJ h v v'->FJL h vs vs'->FJL h (v::vs) (v'::vs')
theorem FJL.at {h:Hf}:∀ {l l':List AV},FJL h l l'->∀(i:Nat) v',l'[i]?=some v'->∃v,l[i]?=some v/\FJ h v v'
 |_,_,.nil,i,v',hv=>by simp at hv
 |_,_,.cons v v2 vs vs' f r,i,v',hv=>by
  cases i with
  |zero=>simp at hv;subst hv;exact⟨v,ah,f⟩
  |succ i=>simp at hv;simpa using r.at i v' hv
theorem FJL.length {h:Hf}:∀ {l l':List AV},FJL h l l'->l'.length=l.length
 |_,_,.nil=>rfl
 |_,_,.cons _ _ _ _ _ r=>by simp[r.length]
def BJ (h:Hf)(y0 y:bG):Prop:=y0=y∨∃u z bs t l,y0=.cells u z bs t/\y=.cells u [] l .nil/\l.length=u/\∀(i:Nat) v',l[i]?=some v'->∃v,gZ u z bs t i=some v/\FJ h v v'
structure rq (h:Hf)(H H2:Hp):Prop where
 sub:∀b k,h b=some k->H.get b=some k
 gone:∀b,h b≠none->H2.get b=none
 hp:∀b y,H2.get b=some y->∃y0,H.get b=some y0/\BJ h y0 y
theorem rq.refl (H:Hp):rq (λ _=>none) H H:=
 ⟨λ b k h=>by simp at h,λ b h=>ar rfl h,λ b y h=>⟨y,h,.inl rfl⟩⟩
section
variable {φ:Ph}{D:Da}{w:World}{n:Nat}
theorem BJ.agd {h:Hf}(hr:Rel φ D h w){y0 y:bG}(hz:BJ h y0 y) {p}(hb:jc φ D w p y0):jc φ (shut φ D h w) w p y:=by
 rcases hz with rfl|⟨u,z,bs,t,l,rfl,rfl,hl,hz⟩
 ·exact hb.mono (λ _ _ h=>h) fj rfl
 obtain⟨c,e,fr,h1,h2,h3,h4,h5,h6⟩:=hb;refine⟨c,e,fr,h1,h2,h3,λ i v hv=>?_,λ _ _=>hl,h6⟩;rw[jz]at hv
 split at hv
 ·obtain⟨v0,h7,h8⟩:=hz i v hv;obtain⟨x,h9,h10⟩:=h4 i v0 h7;exact⟨x,h9,h8 _ _ _ _ hr h10⟩
 cases hv
theorem rq.rel {h:Hf}{H H2:Hp}(s:rq h H H2)(hr:Rel φ D H.get w):Rel φ (shut φ D h w) H2.get w:=by
 have hs:=hr.sub s.sub
 have ne:∀b,H2.get b≠none->H.get b≠none:=λ b hb=>by
  cases hx:H2.get b with
  |none=>exact ar hx hb
  |some k=>obtain⟨y0,h0,_⟩:=s.hp b k hx;rw[h0];simp
 have neh:∀b,h b≠none->H.get b≠none:=λ b hb=>by
  cases hx:h b with
  |none=>exact ar hx hb
  |some k=>rw[s.sub b k hx];simp
 refine⟨λ b k hb=>?_,λ b c p q hb hc=>hr.inj b c p q (ne b hb) (ne c hc),λ b p hb hp=>?_,mQ hr.eS⟩
 ·obtain⟨y0,h0,hz⟩:=s.hp b k hb;obtain⟨p,hp,hl,hk⟩:=hr.blk b y0 h0;exact⟨p,hp,hl,hz.agd hs hk⟩
 refine qw (hr.sep b p (ne b hb) hp) λ b' p' h1 h2 h3=>?_;have:=hr.inj b' b p' p (neh b' h1) (ne b hb) h2 hp h3;subst this;exact hb (s.gone b' h1)
theorem rq.ext {h:Hf}{H H2:Hp}(s:rq h H H2):Ext φ D H.get w n φ (shut φ D h w) H2.get w n:=by
 have ne:∀b,H2.get b≠none->H.get b≠none:=λ b hb=>by
  cases hx:H2.get b with
  |none=>exact ar hx hb
  |some k=>obtain⟨y0,h0,_⟩:=s.hp b k hx;rw[h0];simp
 have neh:∀b,h b≠none->H.get b≠none:=λ b hb=>by
  cases hx:h b with
  |none=>exact ar hx hb
  |some k=>rw[s.sub b k hx];simp
 refine⟨aK _,λ _ _ h=>h,λ b a c=>ar a c,fj,aK _,λ _ _ _=>rfl,λ b p hb hp=>.inr ⟨b,p,ne b hb,hp,rfl⟩,λ c hc=>?_,λ b hb=>.inl (ne b hb),rfl,rfl⟩
 rcases xQ hc with h1|⟨b,p,h1,h2,h3⟩
 ·exact .inl h1
 exact .inr (.inr ⟨b,p,neh b h1,h2,h3⟩)
end
theorem ak.zs {P:Program}{g:FuncId}{args:List AV}{H:Hp}{n:Nat}{R R2:AV->Hp->Nat->Prop}(h:ak P g args H n R)(hs:∀v K k,R v K k->∃hh K2 v2,rq hh K K2/\FJ hh v v2/\R2 v2 K2 k):ak P g args H n R2:=
 ⟨h.1,λ φ D w xs a b c RR hR=>h.2 φ D w xs a b c RR λ v K k φ' D' w' x r e rel hx=>by
  obtain⟨hh,K2,v2,sh,fi,r2⟩:=hs v K k r;exact hR v2 K2 k φ' (Go.Abs.shut φ' D' hh w') w' x r2 (e.trans sh.ext) (sh.rel rel) (fi _ _ _ _ (rel.sub sh.sub) hx)⟩
theorem rq.some {h:Hf}{H:Hp}(L:List Nat)(hs:∀b k,h b=some k->H.get b=some k)(hg:∀b,h b≠none->b∉L):rq h H (pick H L):=
 ⟨hs,λ b hb=>by rw[eP,ai (hg b hb)],λ b y hy=>by
  rw[eP]at hy
  split at hy
  ·exact⟨y,hy,.inl rfl⟩
  cases hy⟩
end Go.Abs
namespace Go.Abs
open List
open Go.Proofs
open Classical
set_option maxRecDepth 100000
end Go.Abs
namespace Go.Abs.Srt
variable {α:Type}
structure Ord (c:α->α->Int)(Pd:α->Prop):Prop where
 Iw:∀x y,Pd x->Pd y->(c x y<0↔0<c y x)
 trans:∀x y z,Pd x->Pd y->Pd z->c x y<=0->c y z<=0->c x z<=0
variable {c:α->α->Int}{tg:α->Nat}{Pd:α->Prop}
def Le (c:α->α->Int)(tg:α->Nat)(x y:α):Prop:=c x y<0∨(c x y=0/\tg x<tg y)
def Good (c:α->α->Int)(tg:α->Nat)(Pd:α->Prop)(L R M:List α):Prop:=
 M.Perm (L++R)/\((∀x∈L++R,Pd x)->L.Pairwise (Le c tg)->R.Pairwise (Le c tg)->(∀x∈L,∀y∈R,tg x<tg y)->M.Pairwise (Le c tg))
end Go.Abs.Srt
namespace Go.Abs
open List
open Go.Proofs
set_option maxRecDepth 100000
structure Cm (α:Type) where
 g:FuncId
 first:List AV
 cap:List AV
 av:α->AV
 c:α->α->Int
 El:α->Prop
 J:Hp->Prop
 bk:Nat
structure Cm.Ok {α:Type}(C:Cm α)(P:Program):Prop where
 call:∀x y,C.El x->C.El y->∀H n,C.J H->bu P C.g (C.first++([C.av x,C.av y]++C.cap)) H n (zI (C.c x y)) H n
 stay:∀H K,C.J H->(∀b,b≠C.bk->K.get b=H.get b)->C.J K
 one:∀x,(C.av x).one=true
def Cm.fv {α:Type}(C:Cm α):AV:=.fn (.func C.g) C.first C.cap
variable {α:Type}{C:Cm α}
def Dt (C:Cm α)(H:Hp)(d:List α):Prop:=∃y,H.get C.bk=some y/\OwnB y (d.map C.av)
theorem yy {v:AV}(h:v.one=true):v.len=1/\v.cells=[v]:=by
 cases v<;>simp_all [AV.one,AV.len,AV.cells]
theorem Dt.ld {H:Hp}{d:List α}(h:Dt C H d){i:Nat}(hi:i<d.length):cE (.ptr C.bk i) H=.val (C.av d[i]):=by
 obtain⟨y,h2,u,z,bs,t,rfl,h3,h4,_⟩:=h;have:=h4 i;rw[cX (by simpa using hi)]at this;simp[h2,this]
theorem bJ {bk N i:Nat}(hi:i<N):cK 1 (.sl bk 0 N 1) (zI (i:Int))=.val (.ptr bk i):=by
 have:=PW (b:=bk) (o:=0) (sz:=1) (k:=.i64) hi;simpa using this
theorem aek (X Y Z:List α)(x y:α):((X++x::(Y++y::Z)).set X.length y).set (X.length+1+Y.length) x=X++y::(Y++x::Z):=by
 have h1:(X++x::(Y++y::Z)).set X.length y=X++y::(Y++y::Z):=by
  rw[set_append_right _ _ (aK _)];simp
 rw[h1,set_append_right _ _ ae];have h2:X.length+1+Y.length - X.length=Y.length+1:=ae;rw[h2];simp only[set_cons_succ];rw[set_append_right _ _ (aK _)];simp
theorem aN (x:Int)(h : -2147483648<=x)(h2:x<2147483648):IntKind.i64.wrap x=x:=by
 simp[IntKind.wrap,IntKind.signed,IntKind.bits];omega
end Go.Abs
namespace Go.Abs
open List
open Go.Proofs
set_option maxRecDepth 100000
variable {α:Type}{C:Cm α}
end Go.Abs
namespace Go.Abs
open List
open Go.Proofs
set_option maxRecDepth 100000
open Classical
variable {α:Type}{C:Cm α}{tg:α->Nat}{Pd:α->Prop}
def Cm.ce (C:Cm α)(x y:α):Ce:=ceT [(C.g,C.first++([C.av x,C.av y]++C.cap),λ H n=>if C.J H then .mk (zI (C.c x y)) H n else .fail)]
theorem Cm.iY {P:Program}(ho:C.Ok P){x y:α}(hx:C.El x)(hy:C.El y):iI P (C.ce x y):=by
 refine eh ?_;simp only[mi];rintro z rfl H n v H' n' h;dsimp only at h
 split at h
 ·rename_i hc;injection h with h1 h2 h3;subst h1 h2 h3;exact ho.call x y hx hy H n hc
 cases h
theorem Cm.ed {x y:α}{H:Hp}{n:Nat}(h:C.J H):(C.ce x y).call C.g (C.first++C.av x::C.av y::C.cap) H n=.mk (zI (C.c x y)) H n:=by
 show (C.ce x y).call C.g (C.first++([C.av x,C.av y]++C.cap)) H n=_;unfold Cm.ce;rw[bX,aw h];rfl
theorem Jb (x:Nat)(h:x<2147483648):bV .u64 (zI (x:Int))=.val (.int .u64 (x:Int)):=by
 rw[dI];congr 2;simp[IntKind.wrap,IntKind.signed,IntKind.bits];omega
theorem UA (x:Nat)(h:x<2147483648):bV .i64 (.int .u64 (x:Int))=.val (zI (x:Int)):=by
 rw[dI];congr 2;exact aN _ ae ae
theorem aej (x:Nat):eR .shr (.int .u64 (x:Int)) (.int .u64 1)=.val (.int .u64 ((x / 2:Nat):Int)):=by
 show kY .u64 (Int.fdiv (x:Int) (2 ^ (min 1 64)))=_;rw[kG]
 congr 2
 show Int.fdiv (x:Int) 2=_;rw[Int.fdiv_eq_ediv_of_nonneg _ ae];omega
theorem lZ {l:List α}{i:Nat}(h:i<l.length):(l.take (i+1)).getLast?=some l[i]:=by
 rw[take_succ_eq_append_getElem h];exact getLast?_concat
end Go.Abs
namespace Go.Abs
open List
open Go.Proofs
set_option maxRecDepth 100000
open Classical
variable {α:Type}{C:Cm α}{tg:α->Nat}{Pd:α->Prop}
end Go.Abs
namespace Go.Abs
open List
open Go.Proofs
set_option maxRecDepth 100000
open Classical
variable {α:Type}{C:Cm α}{tg:α->Nat}{Pd:α->Prop}
end Go.Abs
namespace Go.Abs
open List
open Go.Proofs
set_option maxRecDepth 100000
open Classical
variable {α:Type}{C:Cm α}{tg:α->Nat}{Pd:α->Prop}
theorem parted {c:α->α->Int}{L R:List α}{M' lo hi st:Nat}(hbd1:lo=0∨M' - lo=R.length) (hbd2:hi=M'∨hi=L.length) (hls:lo<=st) (hsh:st<=hi) (hhM:hi<=M') (hhL:hi<=L.length) (hlR:M' - lo<=R.length)
  (h1:st=lo∨∀x y,L[st - 1]?=some x->R[M' - st]?=some y->0<=c y x)(h2:st=hi∨∀x y,R[M' - 1 - st]?=some x->L[st]?=some y->c x y<0):
  (∀x y,(L.take st).getLast?=some x->(R.drop (M' - st)).head?=some y->¬c y x<0)/\(∀x y,(R.take (M' - st)).getLast?=some x->(L.drop st).head?=some y->c x y<0):=by
 constructor
 ·intro x y hx hy;rw[head?_drop]at hy;have hi0:st≠0:=by rintro rfl;simp at hx
  have hyl:M' - st<R.length:=by
   rcases Nat.lt_or_ge (M' - st) R.length with h|h
   ·exact h
   rw[getElem?_eq_none h]at hy;cases hy
  rcases h1 with h1|h1
  ·omega
  obtain⟨i0,rfl⟩:∃i0,st=i0+1:=⟨st - 1,ae⟩;rw[lZ (show i0<L.length by omega)]at hx
  have hx2:L[i0+1 - 1]?=some x:=by
   rw[Nat.add_sub_cancel,cX (show i0<L.length by omega)];exact hx
  have:=h1 x y hx2 hy;omega
 intro x y hx hy;rw[head?_drop]at hy
 have hyl:st<L.length:=by
  rcases Nat.lt_or_ge st L.length with h|h
  ·exact h
  rw[getElem?_eq_none h]at hy;cases hy
 have hi0:M' - st≠0:=by intro e;rw[e]at hx;simp at hx
 rcases h2 with h2|h2
 ·omega
 obtain⟨i0,awk⟩:∃i0,M' - st=i0+1:=⟨M' - st - 1,ae⟩;rw[awk,lZ (show i0<R.length by omega)]at hx;have e:M' - 1 - st=i0:=ae;rw[e,cX (show i0<R.length by omega)]at h2;exact h2 x y hx hy
end Go.Abs
namespace Go.Abs
open List
open Go.Proofs
set_option maxRecDepth 100000
open Classical
variable {α:Type}{C:Cm α}{tg:α->Nat}{Pd:α->Prop}
end Go.Abs
namespace Go.Abs
open List
open Go.Proofs
set_option maxRecDepth 100000
open Classical
variable {α:Type}{C:Cm α}{tg:α->Nat}{Pd:α->Prop}
end Go.Abs
namespace Go.Abs
open List
variable {α:Type}{c:α->α->Int}{tg:α->Nat}{Pd:α->Prop}
end Go.Abs
namespace Go.Abs
open List
open Go.Proofs
set_option maxRecDepth 100000
open Classical
variable {α:Type}{C:Cm α}{tg:α->Nat}{Pd:α->Prop}
end Go.Abs
namespace Go.Abs
open List
open Go.Proofs
set_option maxRecDepth 100000
open Classical
variable {α:Type}{C:Cm α}{tg:α->Nat}{Pd:α->Prop}
end Go.Abs
namespace Go.Abs
open List
open Go.Proofs
set_option maxRecDepth 100000
theorem rH (l:List Val):l.flatMap Val.cells=cM l:=by
 induction l with
 |nil=>rfl
 |cons e r ih=>simp[cM,ih]
instance:DecidableEq Val:=λ a b=>if h:a.kind=b.kind/\a.num=b.num/\a.s=b.s then .isTrue (by cases a;cases b;simp at h;obtain⟨rfl,rfl,rfl⟩:=h;rfl)else .isFalse (by rintro rfl;exact h ⟨rfl,rfl,rfl⟩)
theorem Ax (l:List Val):br (cM l)=true:=by
 induction l with
 |nil=>rfl
 |cons v r ih=>simp[cM,Val.cells,br,AV.one,ih]
def CpR (H:Hp)(n:Nat)(r:List Val)(v:AV)(H':Hp)(n':Nat):Prop:=n<=n'/\aC H' n' v (cM r) r.length 3/\(∀b k,v=.sl b 0 r.length 3->H'.get b=some k->n<=b)/\∀b,b<n->H'.get b=H.get b
theorem clone_nil (H:Hp)(n:Nat):ak pG 135 [.aV (.slice none 0 0)] H n (CpR H n []):=by
 refine ak.of c135 (by simp[A135]) λ F hF=>?_;simp[A135,hF,kT,jq];exact⟨aK _,aC.nil _ _ _,λ b k h=>by simp at h,λ _ _=>rfl⟩
theorem Ib (H:Hp)(n:Nat):ak pG 135 [.ds [] 0 0] H n (CpR H n []):=by
 refine ak.of c135 (by simp[A135]) λ F hF=>?_;simp[A135,hF,kT,jq,jh,aX,sliceLen,oR];refine⟨ae,⟨ah,.inr ⟨n,.cells 0 [] [] .nil,rfl,ae,ah,.list (u:=0) (l:=[]) rfl⟩⟩,λ b k h _=>?_,λ b hb=>by simp[show ¬b=n by omega]⟩;injection h with h;omega
theorem Kt (x:Val)(r:List Val)(hr:r.length<1048576)(H:Hp)(n:Nat):ak pG 135 [ay (x::r)] H n (CpR H n (x::r)):=by
 refine ak.of c135 (by simp[A135]) λ F hF=>?_;simp[A135,hF,ay,kT,jq];refine aC.app (l:=[]) (len:=0) (new:=cM (x::r)) (k:=r.length+1) ⟨ah,.inr ⟨n,_,rfl,ae,by simp;rfl,.list ah⟩⟩ ah rfl ah ae ae (by unfold big;omega) ae (Ax _) λ H' ho hk=>?_;simp;simp only[nil_append,q7]at ho;refine⟨ae,ho,λ b k h _=>by injection h with h;omega,λ b hb=>?_⟩;rw[hk b ae (λ e=>by injection e with e;omega)];simp[show ¬b=n by omega]
theorem PQ (r:List Val)(hr:r.length<=1048576)(H:Hp)(n:Nat):ak pG 135 [ay r] H n (CpR H n r):=by
 cases r with
 |cons x r=>exact Kt x r (by simp at hr;omega) H n
 |nil =>
  have A:=clone_nil H n;have B:=Ib H n;refine⟨A.1,λ φ D w xs hrel hv hf RR hR=>?_⟩
  cases hv with
  |cons _ y _ ys h1 h2 =>
  cases h2
  have h0:(∃ad cap,y=.slice (some ad) 0 cap)∨y=.slice none 0 0:=by
   unfold ay at h1
   cases h1 with
   |ds=>exact .inl ⟨_,_,rfl⟩
   |pW=>exact .inl ⟨_,_,rfl⟩
   |tW=>exact .inr rfl
  rcases h0 with⟨ad,cap,rfl⟩|rfl
  ·exact B.2 φ D w _ hrel (.cons _ _ _ _ (.pW _ _ _) .nil) hf RR hR
  exact A.2 φ D w _ hrel (.cons _ _ _ _ (.aV _ rfl) .nil) hf RR hR
end Go.Abs
namespace Go.Abs
open List
set_option maxRecDepth 100000
theorem BS:∀ {a b:List Nat},cmpL a b=0->a=b
 |[],[],_=>rfl
 |[],_::_,h=>by simp[cmpL]at h
 |_::_,[],h=>by simp[cmpL]at h
 |a :: x,b::y,h=>by
  rw[qQ]at h
  by_cases e:a=b
  ·subst e;rw[aw rfl]at h;rw[BS h]
  rw[ai e]at h
  split at h<;>omega
theorem zh:∀ {a b c:List Nat},cmpL a b<=0->cmpL b c<=0->cmpL a c<=0
 |[],b,[],_,_=>by simp[cmpL]
 |[],b,_::_,_,_=>by simp[cmpL]
 |_::_,[],c,h,_=>by simp[cmpL]at h
 |_::_,_::_,[],_,h=>by simp[cmpL]at h
 |a :: x,b::y,c::z,h,k=>by
  rw[qQ]at h k ⊢
  by_cases e:a=b
  ·subst e;rw[aw rfl]at h
   by_cases e:a=c
   ·subst e;rw[aw rfl]at k ⊢;exact zh h k
   rw[ai e]at k ⊢;exact k
  rw[ai e]at h
  have h1:a<b:=by
   by_cases q:a<b
   ·exact q
   rw[ai q]at h;omega
  by_cases e2:b=c
  ·subst e2;rw[ai e,aw h1];omega
  rw[ai e2]at k
  have h2:b<c:=by
   by_cases q:b<c
   ·exact q
   rw[ai q]at k;omega
  rw[ai ae,aw ae];omega
theorem G5 {a b:Val}(ha:a.may=true) (hb:b.may=true) (h:a.ord b=0):a=b:=by
 unfold Val.ord at h;obtain⟨k,n,s⟩:=a;obtain⟨q,m,t⟩:=b;simp only at h
 by_cases e:k=q
 ·subst e;rw[aw rfl]at h;unfold Val.may at ha hb;simp only at ha hb
  by_cases e2:k=2
  ·subst e2;rw[aw rfl]at h;simp at ha hb;rw[ha.1,hb.1,BS h]
  rw[ai e2]at h
  have hn:n=m:=by
   split at h
   ·omega
   split at h<;>omega
  subst hn
  have:s=[]/\t=[]:=by
   by_cases c0:k=0
   ·simp[c0]at ha hb;exact⟨ha.2,hb.2⟩
   by_cases c1:k=1
   ·simp[c1]at ha hb;exact⟨ha,hb⟩
   by_cases c9003:k=3
   ·simp[c9003]at ha hb;exact⟨ha.1,hb.1⟩
   simp[c0,c1,c9003,e2]at ha
  rw[this.1,this.2]
 rw[ai e]at h
 split at h<;>omega
theorem Uc {a b c:Val}(h:a.ord b<=0) (k:b.ord c<=0):a.ord c<=0:=by
 unfold Val.ord at h k ⊢
 by_cases e:a.kind=b.kind
 ·rw[aw e]at h;rw[e]at h ⊢
  by_cases e2:b.kind=c.kind
  ·rw[aw e2]at k ⊢
   by_cases e3:b.kind=2
   ·rw[aw e3]at h k ⊢;exact zh h k
   rw[ai e3]at h k ⊢
   repeat' split at h
   all_goals repeat' split at k
   all_goals repeat' split
   all_goals omega
  rw[ai e2]at k ⊢;exact k
 rw[ai e]at h
 have h1:rk a.kind<rk b.kind:=by
  by_cases q:rk a.kind<rk b.kind
  ·exact q
  rw[ai q]at h;omega
 by_cases e2:b.kind=c.kind
 ·rw[e2]at h1;rw[ai (by intro q;rw[q]at h1;omega),aw h1];omega
 rw[ai e2]at k
 have h2:rk b.kind<rk c.kind:=by
  by_cases q:rk b.kind<rk c.kind
  ·exact q
  rw[ai q]at k;omega
 rw[ai (by intro q;rw[q]at h1;omega),aw ae];omega
theorem AM:∀ {l m:List Val},eI l->eI m->dK l m=0->l=m
 |[],[],_,_,_=>rfl
 |[],_::_,_,_,h=>by simp[dK]at h;omega
 |_::_,[],_,_,h=>by simp[dK]at h;omega
 |a :: l,b::m,hl,hm,h=>by
  have ha:=hl a ah;have hb:=hm b ah;rw[dK,sU ha hb]at h
  by_cases e:a.ord b=0
  ·rw[ai (by simp[e])]at h;rw[G5 ha hb e,AM (λ v hv=>hl v (by simp[hv])) (λ v hv=>hm v (by simp[hv])) h]
  rw[aw e]at h;exact ar h e
theorem lg:∀ {l m n:List Val},eI l->eI m->eI n->dK l m<=0->dK m n<=0->dK l n<=0
 |[],m,n,_,_,_,_,_=>by
  cases n<;>simp[dK]
  omega
 |_::_,[],_,_,_,_,h,_=>by simp[dK]at h;omega
 |_::_,_::_,[],_,_,_,_,h=>by simp[dK]at h;omega
 |a :: l,b::m,c::n,hl,hm,hn,h,k=>by
  have ha:=hl a ah;have hb:=hm b ah;have hc:=hn c ah;have ih:=lg (l:=l) (m:=m) (n:=n) (λ v hv=>hl v (by simp[hv])) (λ v hv=>hm v (by simp[hv])) (λ v hv=>hn v (by simp[hv]));rw[dK,sU ha hb]at h;rw[dK,sU hb hc]at k;rw[dK,sU ha hc];have h1:a.ord b<=0:=by by_cases e:a.ord b=0<;>simp[e]at h ⊢;omega
  have k1:b.ord c<=0:=by by_cases e:b.ord c=0<;>simp[e]at k ⊢;omega
  have t:=Uc h1 k1
  by_cases e:a.ord c=0
  ·rw[ai (by simp[e])];have hac:=G5 ha hc e;subst hac;have:=OL ha hb;have e1:a.ord b=0:=ae;have e2:b.ord a=0:=ae;rw[ai (by simp[e1])]at h;rw[ai (by simp[e2])]at k;exact ih h k
  rw[aw e];exact t
theorem Ji {L M:List (List Val)}(h:L.Perm M)(hm:∀r∈L,eI r)(hL:L.Pairwise λ a b=>dK a b<=0)(hM:M.Pairwise λ a b=>dK a b<=0):L=M:=by
 refine Perm.eq_of_pairwise (le:=λ a b=>dK a b<=0) (λ a b ha hb h1 h2=>?_) hL hM h;have hb:=h.mem_iff.2 hb;have:=jI (hm a ha) (hm b hb);exact AM (hm a ha) (hm b hb) ae
end Go.Abs
namespace Go.Abs
open List
open Go.Proofs
set_option maxRecDepth 100000
section
variable {F:Fr}{H:Hp}{n:Nat}{m:List Dm}{Q:QA}
theorem aC.mv {H H':Hp}{n n':Nat}{v:AV}{l:List AV}{len sz:Nat}(h:aC H n v l len sz)(hn:n<=n')(hk:∀c,c<n->v=.sl c 0 len sz->H'.get c=H.get c):aC H' n' v l len sz:=by
 obtain⟨h0,h1|⟨b,k,rfl,hb,hk',ho⟩⟩:=h
 ·exact⟨h0,.inl h1⟩
 exact⟨h0,.inr ⟨b,k,rfl,ae,by rw[hk b hb rfl,hk'],ho⟩⟩
def SQ (K:Hp)(b N:Nat)(vs:List AV):Prop:=∃y,K.get b=some y/\((vs=[]/\y=.cells N [.aV (.slice none 0 0)] [] .nil)∨OwnB y vs)
theorem SQ.app {P:Program}{b N nx i:Nat}{vs:List AV}{v:AV}{pd:Pd}{r:List (Option GO)}(h:SQ H b N vs)(hi:i=vs.length)(hb:b<n)(hx:H.get nx=aR 1 [v])(hv:v.one=true)(hbig:i<1000000)
  (hgo:∀H' y,H'.get n=some y->OwnB y (vs++[v])->(∀c,c<n->c≠b->H'.get c=H.get c)->fE P r (pd.f (.sl n 0 (i+1) 1) F) H' (n+1) m Q):IK (Go.Abs.jh 1 24 n (.sl b 0 i 1) (.sl nx 0 1 1) H) pd r P F H n m Q:=by
 have hsc:aX H 1 (.sl nx 0 1 1)=some [v]:=by
  rw[bT (l:=[v]) hx (.list ah) ah];simp
 have h1:br [v]=true:=by rw[v9,hv];rfl
 obtain⟨y,hy,⟨rfl,rfl⟩|ho⟩:=h
 ·obtain rfl:i=0:=by simpa using hi
  have e:Go.Abs.jh 1 24 n (.sl b 0 0 1) (.sl nx 0 1 1) H=.mv (.sl n 0 1 1) b (.cells 1 [.aV (.slice none 0 0)] [] (Ov.bO [v] 0 .nil)):=by
   unfold Go.Abs.jh;rw[hsc];simp[sliceLen,oR,h1,hy,Ih,big,db]
  unfold IK;rw[e];refine hgo _ (.cells 1 [.aV (.slice none 0 0)] [] (Ov.bO [v] 0 .nil)) ah ?_ λ c hc hcb=>by simp[show ¬c=n by omega,hcb]
  refine⟨1,_,_,_,rfl,rfl,λ j=>?_,λ e=>?_⟩
  ·rw[cD,Ov.bF]
   by_cases hj:j=0
   ·subst hj;simp
   rw[ai ae,getElem?_eq_none (by simp;omega)]
  have:=Ov.bF [v] 0 .nil 0;rw[e,aw ah]at this;simp at this
 have hne:b≠n:=ae;have hs:aC H n (.sl b 0 i 1) vs i 1:=⟨ae,.inr ⟨b,y,rfl,hb,hy,ho⟩⟩;refine hs.app hsc rfl ah ae ae (by unfold big;omega) ae h1 λ H' ho hk=>?_;obtain⟨_,⟨e,_⟩|⟨b',y',e,_,hy',ho'⟩⟩:=ho
 ·cases e
 injection e with e;subst e;exact hgo H' y' hy' ho' λ c hc hcb=>hk c hc (by intro e;injection e with e;exact hcb e.symm)
end
theorem getD_lt {α:Type}{l:List α}{j:Nat}{d:α}(h:j<l.length):l.getD j d=l[j]:=by simp[getD,h]
theorem Pq {α:Type}{l:List α}{j:Nat}{d:α}(h:l.length<=j):l.getD j d=d:=by simp[getD,getElem?_eq_none h]
def N7 (vs:List AV)(j:Nat):AV:=vs.getD j (.aV (.slice none 0 0))
def rN (L:List (List Val))(j:Nat):List Val:=L.getD j []
def oz (K:Hp)(n0 n b:Nat)(vs:List AV)(L:List (List Val)):Prop:=∀j,j<vs.length->aC K n (N7 vs j) (cM (rN L j)) (rN L j).length 3/\(∀c,N7 vs j=.sl c 0 (rN L j).length 3->c≠b/\n0<=c)
theorem oz.mv {K K':Hp}{n0 n n' b b':Nat}{vs:List AV}{L:List (List Val)}(h:oz K n0 n b vs L)(hn:n<=n')(hk:∀c,c<n->c≠b->K'.get c=K.get c)(hb:b'=b∨n<=b'):oz K' n0 n' b' vs L:=by
 intro j hj;obtain⟨h1,h2⟩:=h j hj;refine⟨h1.mv hn λ c hc e=>hk c hc (h2 c e).1,λ c e=>⟨?_,(h2 c e).2⟩⟩;obtain⟨_,⟨e',_⟩|⟨c',_,e',hc,_⟩⟩:=h1
 ·rw[e']at e;cases e
 have e2:=e;rw[e']at e2;injection e2 with e2;have:=(h2 c e).1;omega
theorem oz.one {K:Hp}{n0 n b:Nat}{vs:List AV}{L:List (List Val)}(h:oz K n0 n b vs L)(j:Nat):(N7 vs j).one=true:=by
 by_cases hj:j<vs.length
 ·obtain⟨⟨_,⟨e,_⟩|⟨c,_,e,_⟩⟩,_⟩:=h j hj<;>rw[e]<;>rfl
 unfold N7;rw[Pq ae];rfl
def Y2 (L:List (List Val))(vs:List AV)(n0 n b:Nat):Cm Nat:={g:=40,first:=[],cap:=[],av:=N7 vs,c:=λ x y=>dK (rN L x) (rN L y),El:=λ x=>x<vs.length,J:=λ K=>oz K n0 n b vs L,bk:=b}
theorem af8 {L:List (List Val)}{vs:List AV}{n0 n b:Nat}{K:Hp}(hl:∀l∈L,l.length<=1048576)(_hvs:vs.length=L.length)(hK:oz K n0 n b vs L):(Y2 L vs n0 n b).Ok pG:=by
 have hlen:∀x,(rN L x).length<=1048576:=by
  intro x;unfold rN
  by_cases hx:x<L.length
  ·rw[getD_lt hx];exact hl _ (dw _)
  rw[Pq ae];simp
 refine⟨λ x y hx hy H k hJ=>?_,λ H K hJ hk=>hJ.mv (aK _) (λ c _ hc=>hk c hc) (.inl rfl),λ x=>hK.one x⟩;exact(C_ (rN L x) (rN L y) (hlen x) (hlen y)).PT ah k (.cons _ _ _ _ ((hJ x hx).1.nV (bc.pure ah)) (.cons _ _ _ _ ((hJ y hy).1.nV (bc.pure ah)) .nil))
end Go.Abs
namespace Go.Abs
open List
open Go.Proofs
set_option maxRecDepth 100000
theorem Vt {vs:List AV}:(range vs.length).map (N7 vs)=vs:=by
 apply ext_getElem
 ·simp
 intro i h1 h2;simp only[getElem_map,getElem_range,N7];exact getD_lt h2
end Go.Abs
namespace Go.Abs
open List
open Go.Proofs
open Classical
set_option maxRecDepth 100000
mutual
def Ex.vL (n:Int):Ex->Bool
 |.mk op v _ _ cG args=>decide (rU op=(args.length:Int))&&(!((decide (op=1)&&!v.may)||(decide (op=3)&&(decide (cG<0)||decide (n<=cG))))&&Ex.Bj n args)
def Ex.Bj (n:Int):List Ex->Bool
 |[]=>true
 |e::r=>e.vL n&&Ex.Bj n r
end
theorem Ex.ae9 (n:Int)(l:List Ex):(l.any λ e=>!e.vL n)=!Ex.Bj n l:=by
 induction l with
 |nil=>rfl
 |cons e r ih=>simp[Ex.Bj,ih]
theorem Ex.Df {n:Int}{l:List Ex}(h:Ex.Bj n l=true):∀e∈l,e.vL n=true:=by
 induction l with
 |nil=>intro e he;simp at he
 |cons e r ih =>
  simp[Ex.Bj]at h;intro x hx
  rcases mem_cons.1 hx with rfl|hx
  ·exact h.1
  exact ih h.2 x hx
theorem AO:∀(N:Nat) (e:Ex) (k:Int),e.sz<=N->N<=aU->aj pG 216 [e.av,zI k] (.bool (e.vL k))
 |0,e,_,h,_=>by have:=Ex.ny e;omega
 |N + 1,.mk op v t m cG args,k,ha,hN=>by
  simp only[Ex.sz]at ha;have hla:=Ex.rK args;have hp:=Xm op;have hm:=mV v;simp only[Val.av]at hm;refine pv c216 λ F hF=>?_;simp only[Ex.vL];simp[A216,hF,Ex.av,Ex.cells];refine bC.of (eh (l:=[(267,[zI op],λ H n=>.mk (zI (rU op)) H n)]) ?_) ?_
  ·simp only[mi];rintro y rfl;exact cR hp
  by_cases hlen:rU op=(args.length:Int)
  ·have fin:∀(F:Fr),F.get 2=some (.ptr 0 0)->F.get 3=some (.ptr 1 0)->VC pG (.seq MJ .ret) F ((Tr.put Tr.nil 0 (some (.cells 8 [] (Ex.mk op v t m cG args).cells .nil))).put 1 (aR 1 [zI k])) 2 [] (kU [aG 4] λ v1 H' _=>e_ H'.get v1 (.bool (Ex.Bj k args))):=by
    intro F f2 f3;simp[MJ,f2,f3,Ex.cells];refine aB.same (za (xs:=args) (p:=λ e=>!e.vL k) c268 (r_ (el:=Ex.av) (f:=269) (first:=[]) (cap:=[.ptr 1 0]) c303 (by unfold aU at *;omega) ah (λ i h=>⟨_,nP h,λ F H n uS=>by simp[uS]⟩) λ x hx=>?_)) ?_
    ·refine ak.forget ah (ak.of c269 (by simp[A269]) λ F hF=>?_);have hsx:=Ex.rJ hx;simp[A269,hF];refine aB.pure (AO N x k ae ae) ?_;simp;intro b h1 h2;subst h2;simp at h1
    simp[Ex.ae9];exact .bool ah
   by_cases h1:op=1
   ·subst h1;simp[ab,bX,hlen,vv];refine aB.pure hm ?_
    cases hv:v.may with
    |false=>simp[E9];exact .bool rfl
    |true=>simp[ab];refine fin _ ?_ ?_<;>simp[ab]
   by_cases h3:op=3
   ·subst h3
    by_cases hc:cG<0
    ·simp[ab,bX,hlen,vv,hc,E9];exact .bool rfl
    by_cases hk:k<=cG
    ·simp[ab,bX,hlen,vv,hc,hk,E9];exact .bool rfl
    simp[ab,bX,hlen,vv,hc,hk];refine fin _ ?_ ?_<;>simp[ab]
   simp[ab,bX,hlen,vv,h1,h3];refine fin _ ?_ ?_<;>simp[ab]
  simp[ab,bX,hlen,acf];exact .bool ah
theorem GI (e:Ex)(k:Int)(h:e.sz<=aU):aj pG 216 [e.av,zI k] (.bool (e.vL k)):=AO aU e k h (aK _)
def jD (rv:AV)(row:List Val):Prop:=(rv=ay row∨(row=[]/\rv=apx))/\row.length<=aU
theorem jD.pure {rv:AV}{row:List Val}(h:jD rv row):Pure rv:=by
 rcases h.1 with rfl|⟨_,rfl⟩
 ·exact xY _
 simp
theorem jD.one {rv:AV}{row:List Val}(h:jD rv row):rv.len=1/\rv.cells=[rv]:=by
 rcases h.1 with rfl|⟨_,rfl⟩
 ·simp[ay]
 simp
theorem jD.len {rv:AV}{row:List Val}(h:jD rv row):bm rv=.val (zI (row.length:Int)):=by
 rcases h.1 with rfl|⟨rfl,rfl⟩
 ·simp[ay]
 simp
theorem jD.ix {rv:AV}{row:List Val}(h:jD rv row){i:Nat}(hi:i<row.length){k:IntKind}:cK 3 rv (.int k (i:Int))=.val (.dp (row[i].cells++cM (row.drop (i+1)))):=by
 rcases h.1 with rfl|⟨rfl,rfl⟩
 ·exact fK hi
 simp at hi
theorem Gq {rv:AV}{row:List Val}(h:jD rv row):aj pG 217 [rv] (.bool (row.all Val.may)):=by
 refine gW c217 (by simp[h.pure]) ah (by simp[A217]) λ F hF=>?_;obtain⟨o1,o2⟩:=h.one;simp[A217,hF];refine aB.same (za (xs:=row) (p:=λ v=>!v.may) c270 (r_ (el:=Val.av) (f:=271) (first:=[]) (cap:=[]) c304 h.2 h.len (λ i hi=>⟨_,h.ix hi,λ F H n uS=>by simp[uS,gz]⟩) λ x hx=>?_)) ?_
 ·refine(aj.lK (v:=.bool (!x.may)) ?_ _ _);refine pv c271 λ F hF=>?_;have hm:=mV x;simp only[Val.av]at hm;simp[A271,hF,Val.av];refine aB.pure hm ?_;simp;exact .bool rfl
 simp;refine .bool ?_;rw[Bool.eq_iff_iff];simp
def opW (op:Int)(a b:Val):Val×Int:=if op<=7 then unS op a else biS op a b
mutual
def Ex.ev (row:List Val):Ex->Val×Int
 |.mk op v _ _ cG args=>if op=1 then (v,0)else if op=3 then (row.getD cG.toNat f_,0)else
  match Ex.YJ row args with
  |.inl e=>(f_,e)
  |.inr l=>opW op (l.getD 0 f_) (l.getD 1 f_)
def Ex.YJ (row:List Val):List Ex->Int ⊕ List Val
 |[]=>.inr []
 |e::r=>if (e.ev row).2≠0 then .inl (e.ev row).2 else match Ex.YJ row r with
  |.inl x=>.inl x
  |.inr l=>.inr ((e.ev row).1::l)
end
end Go.Abs
namespace Go.Abs
open List
open Go.Proofs
open Classical
set_option maxRecDepth 100000
section
variable {rv:AV}{row:List Val}
theorem apn (hr:jD rv row)(v:Val)(t m:List Nat)(cG:Int)(args:List Ex):aj pG 218 [(Ex.mk 1 v t m cG args).av,rv] (cO (v,0)):=by
 refine gW c218 (by simp[hr.pure]) (by simp[cO]) (by simp[A218]) λ F hF=>?_;simp[A218,hF,Ex.av,Ex.cells];exact fp
theorem apo (hr:jD rv row)(v:Val)(t m:List Nat)(cG:Nat)(hc:cG<row.length)(args:List Ex):aj pG 218 [(Ex.mk 3 v t m (cG:Int) args).av,rv] (cO (row[cG],0)):=by
 refine gW c218 (by simp[hr.pure]) (by simp[cO]) (by simp[A218]) λ F hF=>?_;obtain⟨o1,o2⟩:=hr.one;have hi:=hr.ix hc (k:=.i64);simp[A218,hF,Ex.av,Ex.cells,hi,gz,Val.av];exact fp
theorem apm (hr:jD rv row)(op:Int)(v:Val)(t m:List Nat)(cG:Int)(a:Ex)(h:4<=op/\op<=7){ra:Val×Int}(hc:aj pG 218 [a.av,rv] (cO ra)):aj pG 218 [(Ex.mk op v t m cG [a]).av,rv] (cO (if ra.2≠0 then (f_,ra.2)else unS op ra.1)):=by
 refine gW c218 (by simp[hr.pure]) (by simp[cO]) (by simp[A218]) λ F hF=>?_;obtain⟨o1,o2⟩:=hr.one;have h8:cK 8 (.ds (Ex.aT [a]) 1 8) (zI 0)=.val (.dp (a.cells++Ex.aT [])):=nP (l:=[a]) (i:=0) ah;simp[A218,hF,Ex.av,Ex.cells,show ¬op=1 by omega,show ¬op=3 by omega];refine aE.XC 1 (fL.step ?_);simp[NH,h8,hF];refine aB.pure hc ?_;simp[cO,Val.av,E8]
 by_cases he:ra.2=0
 ·simp[he,E7,Hr];simp[E6];refine fL.step ?_;simp;have e:op=4∨op=5∨op=6∨op=7:=ae
  rcases e with rfl|rfl|rfl|rfl
  ·have:=amF ra.1;simp only[cO,Val.av]at this;simp[qX,qW,Rr,Hr];refine aB.pure this ?_;simp;exact fp
  ·have:=amE ra.1;simp only[cO,Val.av]at this;simp[qX,qW,uk,Rq,Hr];refine aB.pure this ?_;simp;exact fp
  ·have:=xG (decide (ra.1.kind=0));simp only[Val.av]at this;simp[qX,qW,uk,xj,Ro,Hr];refine aB.pure this ?_;simp;exact fp
  have:=xG (!decide (ra.1.kind=0));simp only[Val.av]at this;simp[qX,qW,uk,xj,E4,Rn,Hr];refine aB.pure this ?_;simp;have hu:unS 7 ra.1=(gR (!decide (ra.1.kind=0)),0):=by simp[unS]
  rw[hu];exact fp
 simp[he,xk];exact fp
theorem apl (hr:jD rv row) (op:Int) (v:Val) (t m:List Nat) (cG:Int) (a b:Ex) (h:8<=op/\op<=21){ra rb:Val×Int}(hc:aj pG 218 [a.av,rv] (cO ra)) (hc2:ra.2=0->aj pG 218 [b.av,rv] (cO rb)):
  aj pG 218 [(Ex.mk op v t m cG [a,b]).av,rv] (cO (if ra.2≠0 then (f_,ra.2)else if rb.2≠0 then (f_,rb.2)else biS op ra.1 rb.1)):=by
 refine gW c218 (by simp[hr.pure]) (by simp[cO]) (by simp[A218]) λ F hF=>?_;obtain⟨o1,o2⟩:=hr.one;have h8:cK 8 (.ds (Ex.aT [a,b]) 2 8) (zI 0)=.val (.dp (a.cells++Ex.aT [b])):=nP (l:=[a,b]) (i:=0) ah;have h9:cK 8 (.ds (Ex.aT [a,b]) 2 8) (zI 1)=.val (.dp (b.cells++Ex.aT [])):=nP (l:=[a,b]) (i:=1) ah;obtain⟨k,hk,rfl⟩:∃k:Nat,k<14/\op=((8+k:Nat):Int):=⟨(op - 8).toNat,ae,ae⟩;obtain⟨hb,hi⟩:=ar7 k hk ra.1 rb.1;have hop:((8+k:Nat):Int) - 8=(k:Int):=ae;generalize hr':biS ((8+k:Nat):Int) ra.1 rb.1=r at hb ⊢;generalize ((8+k:Nat):Int)=op at hr' hop hF h ⊢;simp[A218,hF,Ex.av,Ex.cells,show ¬op=1 by omega,show ¬op=3 by omega];refine aE.XC 2 (fL.step ?_);simp[NH,h8,hF];refine aB.pure hc ?_;simp[cO,Val.av,E8]
 by_cases he:ra.2=0
 ·simp[he,E7,Hr,E6];refine fL.step ?_;simp[h9,hF];refine aB.pure (hc2 he) ?_;simp[cO,Val.av]
  by_cases hf:rb.2=0
  ·simp[hf,Hr];refine fL.step ?_;simp[qX,qW,uk,xj,E4,show ¬op=4 by omega,show ¬op=5 by omega,show ¬op=6 by omega,show ¬op=7 by omega];simp only[Rm,cO,Val.av]at hb ⊢;refine bC.of (eh (l:=[(274,[],λ H n=>.mk (.agg Yy 14) H n),(309+k,[.agg [zI ra.1.kind,zI ra.1.num,.str ra.1.s] 3,.agg [zI rb.1.kind,zI rb.1.num,.str rb.1.s] 3],λ H n=>.mk (.bo [.agg [zI r.1.kind,zI r.1.num,.str r.1.s] 3,zI r.2]) H n)]) ?_) ?_
   ·intro y hy;simp only[mem_cons,not_mem_nil,or_false]at hy
    rcases hy with rfl|rfl
    ·exact cR Y5
    exact cR hb
   have hx:Y6 14 1 false (.agg Yy 14) (zI (k:Int))=.val (.fn (.func (309+k)) [] []):=by
    have e:k=0∨k=1∨k=2∨k=3∨k=4∨k=5∨k=6∨k=7∨k=8∨k=9∨k=10∨k=11∨k=12∨k=13:=ae
    rcases e with rfl|rfl|rfl|rfl|rfl|rfl|rfl|rfl|rfl|rfl|rfl|rfl|rfl|rfl<;>rfl
   simp[ab,bX,u9,hop,hx,Hr,show IntKind.i64.wrap (k:Int)=k from dW _ ae ae];exact fp
  simp[hf,xk];exact fp
 simp[he,xk];exact fp
theorem Js (hr:jD rv row):∀(N:Nat) (e:Ex),e.sz<=N->N<=aU->e.vL (row.length:Int)=true->aj pG 218 [e.av,rv] (cO (e.ev row))
 |0,e,h,_,_=>by have:=Ex.ny e;omega
 |N + 1,.mk op v t m cG args,ha,hN,hk=>by
  simp only[Ex.sz]at ha;simp only[Ex.vL,dS,Bool.not_eq_true',Bool.or_eq_false_iff,Bool.and_eq_false_iff,decide_eq_true_eq,decide_eq_false_iff_not,Bool.not_eq_false']at hk;obtain⟨hl,⟨_,h3⟩,hL⟩:=hk;have hal:=Ex.Df hL;unfold Ex.ev
  by_cases o1:op=1
  ·subst o1;rw[aw rfl];exact apn hr v t m cG args
  by_cases o3:op=3
  ·subst o3;rw[ai o1,aw rfl]
   obtain⟨c,hc,rfl⟩:∃c:Nat,c<row.length/\cG=(c:Int):=by
    rcases h3 with h|h
    ·exact ar rfl h
    exact⟨cG.toNat,ae,ae⟩
   have e:row.getD (c:Int).toNat f_=row[c]:=by simp[getD,hc]
   rw[e];exact apo hr v t m c hc args
  rw[ai o1,ai o3];have hsz:∀x∈args,aj pG 218 [x.av,rv] (cO (x.ev row)):=λ x hx=>Js hr N x (by have:=Ex.rJ hx;omega) ae (hal x hx);unfold rU at hl;rw[ai ae]at hl
  by_cases h4:4<=op/\op<=7
  ·rw[aw h4]at hl
   match args,hl,hsz with
   |[a],_,hsz =>
    have:=apm hr op v t m cG a h4 (hsz a ah)
    by_cases he:(a.ev row).2=0
    ·simpa[Ex.YJ,he,opW,h4.2]using this
    simpa[Ex.YJ,he]using this
   |[],hl,_=>simp at hl
   |_::_::_,hl,_=>simp at hl;omega
  rw[ai h4]at hl
  by_cases h8:8<=op/\op<=21
  ·rw[aw h8]at hl
   match args,hl,hsz with
   |[a,b],_,hsz =>
    have:=apl hr op v t m cG a b h8 (hsz a ah) (λ _=>hsz b ah)
    by_cases he:(a.ev row).2=0
    ·by_cases hf:(b.ev row).2=0
     ·simpa[Ex.YJ,he,hf,opW,show ¬op<=7 by omega]using this
     simpa[Ex.YJ,he,hf]using this
    simpa[Ex.YJ,he]using this
   |[],hl,_=>simp at hl
   |[_],hl,_=>simp at hl
   |_::_::_::_,hl,_=>simp at hl;omega
  rw[ai h8]at hl;omega
def jo (row:List Val)(e:Ex):Val×Int:=if e.vL (row.length:Int)=true then (if row.all Val.may=true then e.ev row else (f_,5))else (f_,1)
theorem agC (hr:jD rv row)(e:Ex)(h:e.sz<=aU):aj pG 212 [e.av,rv] (cO (jo row e)):=by
 have hk:=GI e row.length h;have hw:=Gq hr;have ho:=Js hr aU e h (aK _);obtain⟨o1,o2⟩:=hr.one;have hlen:=hr.len;refine gW c212 (by simp[hr.pure]) (by simp[cO]) (by simp[A212]) λ F hF=>?_;simp[A212,hF,hlen];refine aB.pure hk ?_;unfold jo;generalize row.all Val.may=z at hw ⊢
 cases hm:e.vL (row.length:Int)with
 |false=>simp[acn,cO,f_,Val.av];exact fp
 |true =>
  simp[acm,hF];refine aB.pure hw ?_
  cases z with
  |false=>simp[ack,cO,f_,Val.av];exact fp
  |true =>
   simp[acj,hF];refine aB.pure (ho hm) ?_;generalize e.ev row=r;simp[cO,Val.av];exact fp
end
end Go.Abs
