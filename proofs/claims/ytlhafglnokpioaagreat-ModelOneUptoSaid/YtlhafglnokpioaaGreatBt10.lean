/- A part. -/
import Derived.Test.YtlhafglnokpioaaGreatBt9
noncomputable section
namespace Go.Abs
open List
open Go.Proofs
open Classical
set_option maxRecDepth 100000
section
variable {rv:AV}{row:List Val}
theorem alA (hr:mU rv row)(v:Val)(t m:List Nat)(dT:Int)(args:List Ex):ae pG 218 [(Ex.mk 1 v t m dT args).av,rv] (ct (v,0)):=by
 refine hU c218 (by simp[hr.pure]) (by simp[ct]) (by simp[A218]) λ F hF=>?_;simp[A218,hF,Ex.av,Ex.cells];exact .pure _ (by simp)
theorem alB (hr:mU rv row)(v:Val)(t m:List Nat)(dT:Nat)(hc:dT<row.length)(args:List Ex):ae pG 218 [(Ex.mk 3 v t m (dT:Int) args).av,rv] (ct (row[dT],0)):=by
 refine hU c218 (by simp[hr.pure]) (by simp[ct]) (by simp[A218]) λ F hF=>?_;obtain⟨o1,o2⟩:=hr.one;have hi:=hr.ix hc (k:=.i64);simp[A218,hF,Ex.av,Ex.cells,hi,gK,Val.av];exact .pure _ (by simp)
theorem alz (hr:mU rv row)(op:Int)(v:Val)(t m:List Nat)(dT:Int)(a:Ex)(h:4<=op/\op<=7){ra:Val×Int}(hc:ae pG 218 [a.av,rv] (ct ra)):ae pG 218 [(Ex.mk op v t m dT [a]).av,rv] (ct (if ra.2≠0 then (iw,ra.2)else unS op ra.1)):=by
 refine hU c218 (by simp[hr.pure]) (by simp[ct]) (by simp[A218]) λ F hF=>?_;obtain⟨o1,o2⟩:=hr.one;have h8:e9 8 (.ds (Ex.bq [a]) 1 8) (zI 0)=.val (.dp (a.cells++Ex.bq [])):=sD (l:=[a]) (i:=0) (by simp);simp[A218,hF,Ex.av,Ex.cells,show ¬op=1 by omega,show ¬op=3 by omega];refine aE.Py 1 (eE.step ?_);simp[JS,h8,hF];refine aw.pure hc ?_;simp[ct,Val.av,Cf]
 by_cases he:ra.2=0
 ·simp[he,Cd,EI];simp[Cc];refine eE.step ?_;simp;have e:op=4∨op=5∨op=6∨op=7:=by omega
  rcases e with rfl|rfl|rfl|rfl
  ·have:=aiR ra.1;simp only[ct,Val.av]at this;simp[pQ,pP,MV,EI];refine aw.pure this ?_;simp;exact .pure _ (by simp)
  ·have:=aiQ ra.1;simp only[ct,Val.av]at this;simp[pQ,pP,rT,MU,EI];refine aw.pure this ?_;simp;exact .pure _ (by simp)
  ·have:=vq (decide (ra.1.kind=0));simp only[Val.av]at this;simp[pQ,pP,rT,u6,MS,EI];refine aw.pure this ?_;simp;exact .pure _ (by simp)
  have:=vq (!decide (ra.1.kind=0));simp only[Val.av]at this;simp[pQ,pP,rT,u6,Cb,MR,EI];refine aw.pure this ?_;simp;have hu:unS 7 ra.1=(fA (!decide (ra.1.kind=0)),0):=by simp[unS]
  rw[hu];exact .pure _ (by simp)
 simp[he,u7];exact .pure _ (by simp)
theorem aly (hr:mU rv row) (op:Int) (v:Val) (t m:List Nat) (dT:Int) (a b:Ex) (h:8<=op/\op<=21){ra rb:Val×Int}(hc:ae pG 218 [a.av,rv] (ct ra)) (hc2:ra.2=0->ae pG 218 [b.av,rv] (ct rb)):
  ae pG 218 [(Ex.mk op v t m dT [a,b]).av,rv] (ct (if ra.2≠0 then (iw,ra.2)else if rb.2≠0 then (iw,rb.2)else biS op ra.1 rb.1)):=by
 refine hU c218 (by simp[hr.pure]) (by simp[ct]) (by simp[A218]) λ F hF=>?_;obtain⟨o1,o2⟩:=hr.one;have h8:e9 8 (.ds (Ex.bq [a,b]) 2 8) (zI 0)=.val (.dp (a.cells++Ex.bq [b])):=sD (l:=[a,b]) (i:=0) (by simp);have h9:e9 8 (.ds (Ex.bq [a,b]) 2 8) (zI 1)=.val (.dp (b.cells++Ex.bq [])):=sD (l:=[a,b]) (i:=1) (by simp);obtain⟨k,hk,rfl⟩:∃k:Nat,k<14/\op=((8+k:Nat):Int):=⟨(op - 8).toNat,by omega,by omega⟩;obtain⟨hb,hi⟩:=an' k hk ra.1 rb.1;have hop:((8+k:Nat):Int) - 8=(k:Int):=by omega
 generalize hr':biS ((8+k:Nat):Int) ra.1 rb.1=r at hb ⊢;generalize ((8+k:Nat):Int)=op at hr' hop hF h ⊢;simp[A218,hF,Ex.av,Ex.cells,show ¬op=1 by omega,show ¬op=3 by omega];refine aE.Py 2 (eE.step ?_);simp[JS,h8,hF];refine aw.pure hc ?_;simp[ct,Val.av,Cf]
 by_cases he:ra.2=0
 ·simp[he,Cd,EI,Cc];refine eE.step ?_;simp[h9,hF];refine aw.pure (hc2 he) ?_;simp[ct,Val.av]
  by_cases hf:rb.2=0
  ·simp[hf,EI];refine eE.step ?_;simp[pQ,pP,rT,u6,Cb,show ¬op=4 by omega,show ¬op=5 by omega,show ¬op=6 by omega,show ¬op=7 by omega];simp only[MQ,ct,Val.av]at hb ⊢;refine cj.of (dK (l:=[(274,[],λ H n=>.mk (.agg TV 14) H n),(309+k,[.agg [zI ra.1.kind,zI ra.1.num,.str ra.1.s] 3,.agg [zI rb.1.kind,zI rb.1.num,.str rb.1.s] 3],λ H n=>.mk (.aX [.agg [zI r.1.kind,zI r.1.num,.str r.1.s] 3,zI r.2]) H n)]) ?_) ?_
   ·intro y hy;simp only[mem_cons,not_mem_nil,or_false]at hy
    rcases hy with rfl|rfl
    ·exact cL UL
    exact cL hb
   have hx:UN 14 1 false (.agg TV 14) (zI (k:Int))=.val (.fn (.func (309+k)) [] []):=by
    have e:k=0∨k=1∨k=2∨k=3∨k=4∨k=5∨k=6∨k=7∨k=8∨k=9∨k=10∨k=11∨k=12∨k=13:=by omega
    rcases e with rfl|rfl|rfl|rfl|rfl|rfl|rfl|rfl|rfl|rfl|rfl|rfl|rfl|rfl<;>rfl
   simp[ab,bZ,sW,hop,hx,EI,show IntKind.i64.wrap (k:Int)=k from dY _ (by omega) (by omega)];exact fp
  simp[hf,u7];exact .pure _ (by simp)
 simp[he,u7];exact .pure _ (by simp)
theorem He (hr:mU rv row):∀(N:Nat) (e:Ex),e.sz<=N->N<=aM->e.Dw (row.length:Int)=true->ae pG 218 [e.av,rv] (ct (e.ev row))
 |0,e,h,_,_=>by have:=Ex.sj e;omega
 |N + 1,.mk op v t m dT args,ha,hN,hk=>by
  simp only[Ex.sz]at ha;simp only[Ex.Dw,dN,Bool.not_eq_true',Bool.or_eq_false_iff,Bool.and_eq_false_iff,decide_eq_true_eq,decide_eq_false_iff_not,Bool.not_eq_false']at hk;obtain⟨hl,⟨_,h3⟩,hL⟩:=hk;have hal:=Ex.Ap hL;unfold Ex.ev
  by_cases o1:op=1
  ·subst o1;rw[ao rfl];exact alA hr v t m dT args
  by_cases o3:op=3
  ·subst o3;rw[ah o1,ao rfl]
   obtain⟨c,hc,rfl⟩:∃c:Nat,c<row.length/\dT=(c:Int):=by
    rcases h3 with h|h
    ·exact ai rfl h
    exact⟨dT.toNat,by omega,by omega⟩
   have e:row.getD (c:Int).toNat iw=row[c]:=by simp[getD,hc]
   rw[e];exact alB hr v t m c hc args
  rw[ah o1,ah o3];have hsz:∀x∈args,ae pG 218 [x.av,rv] (ct (x.ev row)):=λ x hx=>He hr N x (by have:=Ex.vC hx;omega) (by omega) (hal x hx);unfold sy at hl;rw[ah (by omega)]at hl
  by_cases h4:4<=op/\op<=7
  ·rw[ao h4]at hl
   match args,hl,hsz with
   |[a],_,hsz =>
    have:=alz hr op v t m dT a h4 (hsz a (by simp))
    by_cases he:(a.ev row).2=0
    ·simpa[Ex.Z2,he,opW,h4.2]using this
    simpa[Ex.Z2,he]using this
   |[],hl,_=>simp at hl
   |_::_::_,hl,_=>simp at hl;omega
  rw[ah h4]at hl
  by_cases h8:8<=op/\op<=21
  ·rw[ao h8]at hl
   match args,hl,hsz with
   |[a,b],_,hsz =>
    have:=aly hr op v t m dT a b h8 (hsz a (by simp)) (λ _=>hsz b (by simp))
    by_cases he:(a.ev row).2=0
    ·by_cases hf:(b.ev row).2=0
     ·simpa[Ex.Z2,he,hf,opW,show ¬op<=7 by omega]using this
     simpa[Ex.Z2,he,hf]using this
    simpa[Ex.Z2,he]using this
   |[],hl,_=>simp at hl
   |[_],hl,_=>simp at hl
   |_::_::_::_,hl,_=>simp at hl;omega
  rw[ah h8]at hl;omega
def qd (row:List Val)(e:Ex):Val×Int:=if e.Dw (row.length:Int)=true then (if row.all Val.may=true then e.ev row else (iw,5))else (iw,1)
theorem acF (hr:mU rv row)(e:Ex)(h:e.sz<=aM):ae pG 212 [e.av,rv] (ct (qd row e)):=by
 have hk:=D7 e row.length h;have hw:=DF hr;have ho:=He hr aM e h (aP _);obtain⟨o1,o2⟩:=hr.one;have hlen:=hr.len;refine hU c212 (by simp[hr.pure]) (by simp[ct]) (by simp[A212]) λ F hF=>?_;simp[A212,hF,hlen];refine aw.pure hk ?_;unfold qd;generalize row.all Val.may=z at hw ⊢
 cases hm:e.Dw (row.length:Int)with
 |false=>simp[Yp,ct,iw,Val.av];exact fp
 |true =>
  simp[Yo,hF];refine aw.pure hw ?_
  cases z with
  |false=>simp[Yn,ct,iw,Val.av];exact fp
  |true =>
   simp[Ym,hF];refine aw.pure (ho hm) ?_;generalize e.ev row=r;simp[ct,Val.av];exact fp
end
end Go.Abs
namespace Go.Abs
open List
open Go.Proofs
open Classical
set_option maxRecDepth 100000
def holdL (row:List Val):List Ex->Bool×Int
 |[]=>(true,0)
 |e::r=>if (e.ev row).2≠0 then (false,(e.ev row).2)else if (e.ev row).1.kind≠0/\(e.ev row).1.kind≠3 then (false,30)else if (e.ev row).1≠fA true then (false,0)else holdL row r
def kB (row:List Val)(l:List Ex):Bool×Int:=if Ex.GG (row.length:Int) l=true then (if row.all Val.may=true then holdL row l else (false,5))else (false,1)
def aht (r:Bool×Int):AV:=.aX [.bool r.1,zI r.2]
theorem HB {row:List Val}{l:List Ex}{i:Nat}(h:i<l.length):holdL row (l.drop i)=if (l[i].ev row).2≠0 then (false,(l[i].ev row).2)else if (l[i].ev row).1.kind≠0/\(l[i].ev row).1.kind≠3 then (false,30)else if (l[i].ev row).1≠fA true then (false,0)else holdL row (l.drop (i+1)):=by
 rw[km h,holdL]
theorem Uj (b:Bool)(v u:Val):ly b [.i,.i,.s] (.agg [zI v.kind,zI v.num,.str v.s] 3) u.av=.val (.bool (b != decide (v=u))):=by
 have:=Ba b v u
 by_cases h:v=u
 ·simp[h,Val.av]
 simpa[h,Val.av]using this
section
variable {rv:AV}{row:List Val}
theorem ZS (hr:mU rv row) (l:List Ex) (hl:l.length<=aM) (hs:∀e∈l,e.sz<=aM):ae pG 150 [eX.ds l,rv] (aht (kB row l)):=by
 have hw:=DF hr;obtain⟨o1,o2⟩:=hr.one;have hlen:=hr.len;have hll:=eX.aD l;refine hU c150 (by simp[hr.pure]) (by simp[aht]) (by simp[A150]) λ F hF=>?_;simp[A150,hF,hll];unfold kB;generalize row.all Val.may=z at hw ⊢;refine aE.of (λ t F K n ms=>∃i,t=l.length - i/\i<=l.length/\(∀j (h:j<l.length),j<i->l[j].Dw (row.length:Int)=true)/\F.get 0=some (eX.ds l)/\F.get 1=some rv/\F.get 12=some (eX.ds l)/\F.get 13=some (zI (l.length:Int))/\F.get 14=some (zI (i:Int))/\ms=[]) l.length ⟨0,by omega,by omega,λ j _ h=>by omega,by simp[hF],by simp[hF],by simp,by simp,by simp,rfl⟩ ?_;rintro t F' K n ms ⟨i,rfl,hi,hok,f0,f1,f12,f13,f14,rfl⟩
 by_cases hlt:i<l.length
 ·have hx:=eX.ix (ik:=.i64) hlt;have hsx:=hs _ (b6 hlt);have hrt:=D7 l[i] row.length hsx;have hav:eX.av l[i]=l[i].av:=rfl;simp[J1,f14,f13,hlt,f12,hx,eX.mf,hav,f1,hlen];refine aw.pure hrt ?_
  cases hk:l[i].Dw (row.length:Int)with
  |false =>
   have:Ex.GG (row.length:Int) l=false:=by
    cases hz:Ex.GG (row.length:Int) l with
    |false=>rfl
    |true=>rw[Ex.Ap hz _ (b6 hlt)]at hk;cases hk
   simp[this,YX];exact .pure _ (by simp)
  |true =>
   simp[YW,f14,aC i (by unfold aM at *;omega)];refine⟨l.length - (i+1),by omega,i+1,by omega,by omega,λ j h hj=>?_,by simp[f0],by simp[f1],by simp[f12],by simp[f13],by simp⟩
   by_cases e:j=i
   ·subst e;exact hk
   exact hok j h (by omega)
 have hall : Ex.GG (row.length:Int) l=true:=by
  have:∀(l:List Ex),(∀e∈l,e.Dw (row.length:Int)=true)->Ex.GG (row.length:Int) l=true:=by
   intro l
   induction l with
   |nil=>intro _;rfl
   |cons e r ih=>intro h;simp[Ex.GG,h e (by simp),ih λ x hx=>h x (by simp[hx])]
  refine this l λ e he=>?_;obtain⟨j,hj,rfl⟩:=getElem_of_mem he;exact hok j hj (by omega)
 simp[J1,f14,f13,hlt,hall,YV,f1];refine aw.pure hw ?_
 cases z with
 |false=>simp[YU];exact .pure _ (by simp)
 |true =>
  simp[YT,f0,hll];have hev:∀x∈l,ae pG 218 [x.av,rv] (ct (x.ev row)):=λ x hx=>He hr aM x (hs x hx) (aP _) (Ex.Ap hall x hx);refine aE.of (λ t F K n ms=>∃i,t=l.length - i/\i<=l.length/\holdL row l=holdL row (l.drop i)/\F.get 1=some rv/\F.get 27=some (eX.ds l)/\F.get 28=some (zI (l.length:Int))/\F.get 29=some (zI (i:Int))/\ms=[]) l.length ⟨0,by omega,by omega,rfl,by simp[f1],by simp,by simp,by simp,rfl⟩ ?_;clear f0 f12 f13 f14 f1 hi hok hlt;rintro t F' K n ms ⟨i,rfl,hi,hd,f1,f27,f28,f29,rfl⟩
  by_cases hlt:i<l.length
  ·have hx := eX.ix (ik:=.i64) hlt;have hav:eX.av l[i]=l[i].av:=rfl;have hv:=hev _ (b6 hlt);rw[hd,HB hlt];generalize hre:l[i].ev row=re at hv ⊢;simp[J0,f29,f28,hlt,f27,hx,eX.mf,hav,f1];refine aw.pure hv ?_;have ht:=vq true;simp[ct,Val.av,NS]
   by_cases he:re.2=0
   ·simp[he,NQ]
    by_cases hk:re.1.kind=0∨re.1.kind=3
    ·have hkk:¬(re.1.kind≠0/\re.1.kind≠3):=by omega
     have ey:=Uj true re.1 (fA true);have yv:(fA true).av=.agg [zI (fA true).kind,zI (fA true).num,.str (fA true).s] 3:=rfl;have cond:(if re.1.kind=0 then false else !decide (re.1.kind=3))=false:=by rcases hk with h|h<;>simp[h]
     rcases hk with h0|h3
     ·have hne:¬re.1=fA true:=by intro e;rw[e]at h0;simp[fA]at h0
      simp[h0,CL];refine cj.of (dK (l:=[(219,[.bool true],λ H n=>.mk (fA true).av H n)]) ?_) ?_
      ·simp only[gp];rintro y rfl;exact cL ht
      rw[h0]at ey;simp[ab,bZ,ey,hne,CJ];exact .pure _ (by simp)
     simp[h3,CL];refine cj.of (dK (l:=[(219,[.bool true],λ H n=>.mk (fA true).av H n)]) ?_) ?_
     ·simp only[gp];rintro y rfl;exact cL ht
     rw[h3]at ey;simp[ab,bZ,ey];refine xZ.ofB (λ hz=>?_) (λ hz=>?_)
     ·have hne:¬re.1=fA true:=by simpa using hz
      simp[CJ,hne];exact .pure _ (by simp)
     have hne:re.1=fA true:=by simpa using hz
     simp[NN,ab,f29,aC i (by unfold aM at *;omega)];exact⟨l.length - (i+1),by omega,i+1,by omega,by omega,by rw[ao hne],by simp[f1],by simp[f27],by simp[f28],by simp⟩
    have h1:¬re.1.kind=0:=λ e=>hk (.inl e);have h3:¬re.1.kind=3:=λ e=>hk (.inr e);simp[h1,h3,NP];exact .pure _ (by simp)
   simp[he,NR];exact .pure _ (by simp)
  obtain rfl:i=l.length:=by omega
  simp[J0,f29,f28,NM,hd,holdL];exact .pure _ (by simp)
end
end Go.Abs
namespace Go.Abs
open List
open Go.Proofs
open Classical
set_option maxRecDepth 100000
section
variable {P:Program}
theorem ath.of {g:FuncId}{args l:List AV}{T I:AV}{len sz:Nat}(hp:aJ args) (hl:aJ l) (hT:Pure T) (hI:Pure I) (h:aj P g args .nil 0 (λ v H' n'=>∃b k,v=.agg [T,I,.sl b 0 len sz] 3/\b<n'/\H'.get b=some k/\OwnB k l/\l.length=len*sz)):
  ∀(H:Hp) (n:Nat),bc P g args H n (.agg [T,I,.sl n 0 len sz] 3) (H.put n (some (.cells (len*sz) [] l .nil))) (n+1):=by
 intro H n;refine⟨h.1,Nat.le_succ n,λ φ D w xs hr hv hf R hR=>?_⟩;refine h.2 lF D w xs (ri hr.ep) (hp.uh hv) (λ _ _=>rfl) R λ v H' n' φ' D' w' x ho e r hx=>?_;obtain⟨b,k,rfl,hb,hk,ho,hlen⟩:=ho
 cases hx with
 |agg _ _ _ hx _ =>
 cases hx with
 |cons _ y1 _ _ hT2 hx =>
 cases hx with
 |cons _ y2 _ _ hI2 hx =>
 cases hx with
 |cons _ x3 _ _ hx hn0 =>
 cases hn0
 cases hx with
 |sl _ _ _ _ cb co cz cap ad hp' hle had =>
 have hn:φ n=none:=hf n (aP _) (by omega);have hm:=Ph.gj (p:=(cb,co,cz)) hn;have hlive:=r.block hk hp'
 have hcb:w.heap.size<=cb:=by
  rcases e.live b _ (by rw[hk];simp) hp' with h|⟨b0,p0,hh,_⟩
  ·exact h
  simp at hh
 have hdn:∀c,D' c≠none->D c≠none∨w.heap.size<=c:=by
  intro c hc
  rcases e.jW c hc with h|h|⟨b0,p0,hh,_⟩
  ·exact .inl h
  ·exact .inr h
  simp at hh
 have hold:∀c p,H.get c≠none->φ c=some p->p.1<w.heap.size:=by
  intro c p hc hp
  cases hx:H.get c with
  |none=>exact ai hx hc
  |some k=>exact(hr.block hx hp).1
 have hhn:H.get n=none:=by
  cases hx:H.get n with
  |none=>rfl
  |some k=>obtain⟨p,hp,_⟩:=hr.blk n k hx;rw[hn]at hp;cases hp
 refine hR (φ.set n (cb,co,cz)) D' w' _ ⟨Nat.le_succ n,hm,?_,e.ep,e.size,λ c hc _=>e.keep c hc λ b p hb=>by simp at hb,?_,λ c hc=>(hdn c hc).elim .inl λ h=>.inr (.inl h),?_,e.os,e.out⟩ ⟨?_,?_,?_,r.ep⟩ ?_
 ·intro c h0 h1;unfold Ph.set at h1
  by_cases hc:c=n
  ·omega
  simp[hc,h0]at h1
 ·intro c p hc hp;rw[Tr.get_put]at hc;unfold Ph.set at hp
  by_cases hcn:c=n
  ·subst hcn;simp at hp;subst hp;exact .inl hcb
  simp[hcn]at hc hp;exact .inr ⟨c,p,hc,hp,rfl⟩
 ·intro c hc;rw[Tr.get_put]at hc
  by_cases hcn:c=n
  ·exact .inr (by omega)
  simp[hcn]at hc;exact .inl hc
 ·intro c kk hc;rw[Tr.get_put]at hc
  by_cases hcn:c=n
  ·subst hcn;simp at hc;subst hc;refine⟨(cb,co,cz),by simp[Ph.set],hlive.1,?_⟩;obtain⟨u,z,bs,t,rfl,hu,hg,hi⟩:=ho;obtain⟨cc,ee,fr,q1,q2,q3,q4,q5,q6⟩:=hlive.2;refine⟨cc,ee,fr,q1,q2,q3,λ i v hv=>?_,λ _ _=>hlen,by omega⟩;rw[jc]at hv
   split at hv
   ·have:=hg i;rw[hv]at this;obtain⟨y,hy,hvy⟩:=q4 i v this;exact⟨y,hy,(hl.mem v (mem_of_getElem? hv)).out hvy⟩
   cases hv
  rw[ah hcn]at hc;obtain⟨p,hp,hlt,hbk⟩:=hr.blk c kk hc;exact⟨p,hm _ _ hp,Nat.lt_of_lt_of_le hlt e.size,hbk.mono hm e.ep (e.keep _ hlt λ b p hb=>by simp at hb)⟩
 ·intro c d p q hc hd hp hq hpq;rw[Tr.get_put]at hc hd;unfold Ph.set at hp hq
  by_cases h1:c=n<;>by_cases h2:d=n<;>simp[h1,h2]at hc hd hp hq ⊢
  ·have:=hold d q hd hq;rw[<-hp]at hpq;simp at hpq;omega
  ·have:=hold c p hc hp;rw[<-hq]at hpq;simp at hpq;omega
  exact hr.inj c d p q hc hd hp hq hpq
 ·intro c p hc hp;rw[Tr.get_put]at hc;unfold Ph.set at hp
  by_cases h1:c=n
  ·subst h1;simp at hp;subst hp;exact r.sep b (cb,co,cz) (by rw[hk];simp) hp'
  simp[h1]at hc hp
  cases hD:D' p.1 with
  |none=>rfl
  |some x =>
   rcases hdn p.1 (by rw[hD];simp)with h|h
   ·exact ai (hr.sep c p hc hp) h
   have:=hold c p hc hp;omega
 exact .agg _ _ _ (.cons _ _ _ _ (hT.out hT2) (.cons _ _ _ _ (hI.out hI2) (.cons _ _ _ _ (.sl _ _ _ _ cb co cz cap ad (by simp[Ph.set]) hle had) .nil))) rfl
end
end Go.Abs
namespace Go.Abs
open List
open Go.Proofs
open Classical
set_option maxRecDepth 100000
def bH (L:List (List Val)):AV:=if L=[]then .ds [] 0 0 else .ds (bG L) L.length 1
@[simp] theorem OO (L:List (List Val)):Pure (bH L):=by
 unfold bH
 by_cases h:L=[]
 ·simp[h]
 simp[h]
def cS (L:List (List Val)):Prop:=L.Pairwise λ a b=>dZ a b<=0
def jZ (L:List (List Val)):List (List Val):=if h:∃L':List (List Val),L'.Perm L/\cS L' then Classical.choose h else L
theorem Q9 {L L':List (List Val)}(hp:L'.Perm L)(hs:cS L'):(jZ L).Perm L/\cS (jZ L):=by
 have h:∃L':List (List Val),L'.Perm L/\cS L':=⟨L',hp,hs⟩;unfold jZ;rw[dif_pos h];exact Classical.choose_spec h
theorem GW {L L':List (List Val)}(hm:∀r∈L,iR r)(hp:L'.Perm L)(hs:cS L'):L'=jZ L:=by
 obtain⟨h1,h2⟩:=Q9 hp hs;exact GY (hp.trans h1.symm) (λ r hr=>hm r (hp.mem_iff.1 hr)) hs h2
theorem akM (h:Hf)(b o sz:Nat):FJ h (.sl b o 0 sz) (.ds [] 0 0):=by
 intro φ D w x _ hx
 cases hx with
 |sl _ _ _ _ cb co cz cap ad=>exact .nZ _ _ _
theorem Tz {r:List Val}(hr:iR r):∀ {L:List (List Val)},(∀x∈L,iR x)->cS L->∃M:List (List Val),M.Perm (r::L)/\cS M
 |[],_,_=>⟨[r],.refl _,by simp[cS]⟩
 |x :: L,hm,hs=>by
  have hx:=hm x (by simp);have hL:∀y∈L,iR y:=λ y hy=>hm y (by simp[hy]);simp only[cS,pairwise_cons]at hs
  by_cases h:dZ r x<=0
  ·refine⟨r::x::L,.refl _,?_⟩;simp only[cS,pairwise_cons,mem_cons];refine⟨?_,hs⟩;rintro y (rfl|hy)
   ·exact h
   exact mq hr hx (hL y hy) h (hs.1 y hy)
  obtain⟨M,hp,hM⟩:=Tz hr hL hs.2;refine⟨x::M,(hp.cons x).trans (.swap _ _ _),?_⟩;simp only[cS,pairwise_cons];refine⟨λ y hy=>?_,hM⟩
  rcases mem_cons.1 (hp.mem_iff.1 hy)with rfl|hy
  ·have:=kh hr hx;omega
  exact hs.1 y hy
theorem Kq:∀ {L:List (List Val)},(∀x∈L,iR x)->∃M:List (List Val),M.Perm L/\cS M
 |[],_=>⟨[],.refl _,by simp[cS]⟩
 |r::L,hm=>by
  obtain⟨M,hp,hs⟩:=Kq (L:=L) λ x hx=>hm x (by simp[hx]);obtain⟨N,hq,ht⟩:=Tz (hm r (by simp)) (λ x hx=>hm x (by simp[hp.mem_iff.1 hx])) hs;exact⟨N,hq.trans (hp.cons r),ht⟩
theorem vF {L:List (List Val)}(hm:∀r∈L,iR r):(jZ L).Perm L/\cS (jZ L):=by
 obtain⟨M,hp,hs⟩:=Kq hm;exact Q9 hp hs
theorem acN (L:List (List Val))(hL:L.length<=100000)(hl:∀l∈L,l.length<=1048576)(hm:∀r∈L,iR r):ae pG 58 [aW L] (bH (jZ L)):=by
 obtain⟨hp,hs⟩:=vF hm;have h6:=aan L hL hl .nil 0;refine ae.ofR (by simp[aW]) (by simp) ?_
 by_cases h0:L=[]
 ·subst h0;have e:jZ []=[]:=by simpa using hp
  rw[e];refine(h6.zs (R2:=λ v _ _=>v=.ds [] 0 0) λ v K k ⟨_,_,b,vs,T,hv,_⟩=>⟨λ _=>none,K,_,pV.refl K,?_,rfl⟩).mono λ v K k hv=>?_
  ·subst hv;exact akM _ _ _ _
  subst hv;exact fp
 refine h6.mono λ v K k hR=>?_;obtain⟨L',q1,q2,q3⟩:=hR.nf (K':=K) λ _ _=>rfl;have:L'=jZ L:=GW hm q1 (q2 hm);subst this;have hn:¬jZ L=[]:=λ e=>h0 (by rw[e]at q1;simpa using q1.symm);unfold bH;rw[ah hn,q1.length_eq];exact q3
abbrev nS:AV:=.al (.slice none 0 0)
structure OwF (w:jP)(F:Fr):Prop where
 f1:F.get 1=some (.ptr 0 0)
 f2:F.get 2=some (.ptr 1 0)
 f3:F.get 3=some (.ptr 2 0)
structure OwM (w:jP)(i j:Nat)(vt vi vr:AV)(K:Hp)(m:Nat):Prop where
 hm:3<=m
 tp:cA K m
 k0:K.get 0=aG 3 (fc.cells w)
 k1:K.get 1=aG 3 [nS,nS,nS]
 k2:K.get 2=aG 3 [vt,vi,vr]
 ot:au K m vt (aA.l (w.aO.tables.take i)) i 4
 oi:au K m vi (aQ.l (w.aO.indexes.take j)) j 6
 ow:au K m vr ((w.rows.take i).map bH) i 1
 dt:∀c,blk vt=some c->3<=c
 di:∀c,blk vi=some c->3<=c/\blk vt≠some c/\blk vr≠some c
 dr:∀c,blk vr=some c->3<=c/\blk vt≠some c
 wz:i=0->vr=nS
theorem agm (w:jP)(hs:w.aO.dz)(hl:w.rows.length=w.aO.tables.length)(hS:∀L∈w.rows,ae pG 58 [aW L] (bH L))(F:Fr)(K:Hp)(m:Nat)(Q:QA)(hF:OwF w F)(f10:F.get 10=some (aA.ds w.aO.tables))(f11:F.get 11=some (zI (w.aO.tables.length:Int)))(f12:F.get 12=some (zI 0))(M:OwM w 0 0 nS nS nS K m)
  (hQ:∀vt vr F K m,OwF w F->OwM w w.aO.tables.length 0 vt nS vr K m->Q .normal F K m []):aE Oy pG F K m [] (fy 0 Q):=by
 have ht:=hs.t;unfold aM at ht;refine aE.of (λ q F K m ms=>∃(i:Nat) (vt vr:AV),q=w.aO.tables.length - i/\i<=w.aO.tables.length/\OwF w F/\F.get 10=some (aA.ds w.aO.tables)/\F.get 11=some (zI (w.aO.tables.length:Int))/\F.get 12=some (zI (i:Int))/\OwM w i 0 vt nS vr K m/\ms=[]) w.aO.tables.length ⟨0,_,_,by simp,by simp,hF,f10,f11,f12,M,rfl⟩ ?_;clear hF f10 f11 f12 M F K m;rintro q1 F K m ms ⟨i,vt,vr,rfl,hi,⟨f1,f2,f3⟩,f10,f11,f12,M,rfl⟩;have k0:=M.k0;rw[jf]at k0
 by_cases hlt:i<w.aO.tables.length
 ·have hxx:=aA.ix (ik:=.i64) hlt;have hld:=λ H=>aA.mf w.aO.tables[i] (aA.l (w.aO.tables.drop (i+1))) H;have htc:=hs.tc _ (b6 hlt);unfold aM at htc;have hir:i<w.rows.length:=by omega
  have hxr:=dM.ix (ik:=.i64) hir;have hxs:=hS _ (b6 hir);have hm:=M.hm;have tp:=M.tp;simp[Oy,f10,f11,f12,hlt,hxx,hld,aL.av];generalize hK1:Tr.put (Tr.put K m _) m _=K1;have g1:∀c,c<m->K1.get c=K.get c:=λ c hc=>by rw[<-hK1];simp[ga hc]
  have x1:K1.get m=aG 4 (aA.cells w.aO.tables[i]):=by rw[<-hK1];simp
  have t1:cA K1 (m+1):=λ c hc=>by
   have e1:¬c=m:=by omega
   rw[<-hK1];simp[e1,tp c (by omega)]
  clear hK1;rw[dB]at x1;simp[ae1,x1];refine aw.pure (LM w.aO.tables[i].cols (by unfold aM;omega)) ?_;have k21:=(g1 2 (by omega)).trans M.k2;have hto:=M.ot.cO;have hwo:=M.ow.cO;have hta:=λ c h=>M.ot.bg (c:=c) h;have hwa:=λ c h=>M.ow.bg (c:=c) h;simp[x1,ae0,f3,show ¬ 2=m by omega,k21];generalize hK3:Tr.put (Tr.put K1 m _) (m+1) _=K3;have g3:∀c,c<m->K3.get c=K1.get c:=λ c hc=>by rw[<-hK3];simp[ga hc]
  have x3:K3.get (m+1)=aG 4 (aA.cells w.aO.tables[i]):=by rw[<-hK3];simp[dB]
  have t3:cA K3 (m+1+1):=λ c hc=>by
   have e1:¬c=m:=by omega
   have e2:¬c=m+1:=by omega
   rw[<-hK3];simp[e1,e2,t1 c (by omega)]
  clear hK3;have ot3:au K3 (m+1+1) vt (aA.l (w.aO.tables.take i)) i 4:=M.ot.frame (by omega) λ c hc=>(g3 c (hta c hc)).trans (g1 c (hta c hc));refine au.rQ (k:=1) (new:=aA.cells w.aO.tables[i]) ot3 (aR x3) (by simp) (by simp) (by omega) (by omega) (by unfold big;omega) (by omega) (by simp) λ K4 o4 g4=>?_;have k24:=(g4 2 (by omega) λ h=>by have:=M.dt 2 h;omega).trans ((g3 2 (by omega)).trans k21);have k04:=(g4 0 (by omega) λ h=>by have:=M.dt 0 h;omega).trans ((g3 0 (by omega)).trans ((g1 0 (by omega)).trans k0));simp[f3,k24,aeZ];generalize hK5:Tr.put K4 2 _=K5;have g5:∀c,c≠2->K5.get c=K4.get c:=λ c hc=>by rw[<-hK5];simp[hc]
  have x5:K5.get 2=aG 3 [.sl (m+1+1) 0 (i+1) 4,nS,vr]:=by rw[<-hK5];simp
  clear hK5
  have t5:cA K5 (m+1+1+1):=λ c hc=>by
   rw[g5 c (by omega),g4 c (by omega) (λ h=>by have:=hta c h;omega),t3 c (by omega)]
  have k05:=(g5 0 (by omega)).trans k04;have arx:e9 1 (dM.ds w.rows) (zI (i:Int))=.val (.dp (aW w.rows[i]::dM.l (w.rows.drop (i+1)))):=hxr;have a5:∀c,c<m->c≠2->blk vt≠some c->K5.get c=K.get c:=λ c h1 h2 h3=>(g5 c h2).trans ((g4 c (by omega) h3).trans ((g3 c h1).trans (g1 c h1)));refine cj.of (dK (l:=[(58,[aW w.rows[i]],λ H n=>.mk (bH w.rows[i]) H n)]) ?_) ?_
  ·simp only[gp];rintro y rfl;exact cL hxs
  have tdl:(aW w.rows[i]).len=1/\(aW w.rows[i]).cells=[aW w.rows[i]]:=⟨rfl,rfl⟩
  have td:(bH w.rows[i]).len=1/\(bH w.rows[i]).cells=[bH w.rows[i]]/\(bH w.rows[i]).one=true:=by
   unfold bH;split<;>exact⟨rfl,rfl,rfl⟩
  have n5:=t5.none;have ow5:au K5 (m+1+1+1) vr ((w.rows.take i).map bH) i 1:=M.ow.frame (by omega) λ c hc=>a5 c (hwa c hc) (by have:=M.dr c hc;omega) (M.dr c hc).2;simp[ab,bZ,f1,f3,k05,x5,arx,td.1,td.2.1,cG,dj,n5];generalize hK6:Tr.put K5 (m+1+1+1) _=K6;have g6:∀c,c<m+1+1+1->K6.get c=K5.get c:=λ c hc=>by rw[<-hK6];simp[ga hc]
  have x6:K6.get (m+1+1+1)=aG 1 [bH w.rows[i]]:=by rw[<-hK6];simp
  have t6:cA K6 (m+1+1+1+1):=λ c hc=>by
   have e1:¬c=m+1+1+1:=by omega
   rw[<-hK6];simp[e1,t5 c (by omega)]
  clear hK6;have ow6:au K6 (m+1+1+1+1) vr ((w.rows.take i).map bH) i 1:=ow5.frame (by omega) λ c hc=>g6 c (ow5.bg hc);refine au.Bv (k:=1) (new:=[bH w.rows[i]]) ow6 (aR x6) (by simp) (by simp) (by omega) (by omega) (by unfold big;omega) (by omega) (by simp[td.2.2]) λ K7 o7 g7=>?_;have g7':∀c,c≠m+1+1+1+1->blk vr≠some c->K7.get c=K6.get c:=λ c h1 h2=>g7 c h1 λ e=>h2 (by rw[e];rfl);have nr:∀c,c<3->blk vr≠some c:=λ c h1 h2=>by have:=(M.dr c h2).1;omega
  have x7:=(g7' 2 (by omega) (nr 2 (by omega))).trans ((g6 2 (by omega)).trans x5)
  have t7:cA K7 (m+1+1+1+1+1):=λ c hc=>by
   rw[g7' c (by omega) (λ h=>by have:=hwa c h;omega),t6 c (by omega)]
  simp[ab,f3,x7,aeY,f12,aC i (by omega)];have b7:∀c,c<m+1+1+1->blk vr≠some c->K7.get c=K5.get c:=λ c h1 h2=>(g7' c (by omega) h2).trans (g6 c h1);have nt:∀c,c<3->blk vt≠some c:=λ c h1 h2=>by have:=M.dt c h2;omega
  refine⟨w.aO.tables.length - (i+1),by omega,i+1,rfl,hlt,⟨by simp[ab,f1],by simp[ab,f2],by simp[ab,f3]⟩,by simp[f10],by simp[f11],by simp,.sl (m+1+1) 0 (i+1) 4,.sl (m+1+1+1+1) 0 (i+1) 1,⟨by omega,λ c hc=>?_,?_,?_,by simp,?_,by simpa using au.nil _ _ 6,?_,λ c hc=>by simp at hc;omega,by simp,λ c hc=>by simp at hc;subst hc;simp,λ e=>by omega⟩⟩
  ·rw[Tr.get_put,ah (by omega)];exact t7 c hc
  ·rw[Tr.get_put,ah (by omega)];exact(b7 0 (by omega) (nr 0 (by omega))).trans k05
  ·rw[Tr.get_put,ah (by omega)];exact(b7 1 (by omega) (nr 1 (by omega))).trans ((a5 1 (by omega) (by omega) (nt 1 (by omega))).trans M.k1)
  ·rw[take_add_one,cE hlt,Option.toList,aL.dV,aL.lP];refine o4.frame (by omega) λ c hc=>?_;simp at hc;subst hc;rw[Tr.get_put,ah (by omega)];exact(b7 _ (by omega) (λ h=>by have:=hwa _ h;omega)).trans (g5 _ (by omega))
  rw[take_add_one,cE hir,Option.toList,map_append];refine o7.frame (by omega) λ c hc=>?_;simp at hc;subst hc;rw[Tr.get_put,ah (by omega)]
 obtain rfl:i=w.aO.tables.length:=by omega
 simp[Oy,f11,f12];exact hQ vt vr _ K m ⟨by simp[f1],by simp[f2],by simp[f3]⟩ M
theorem agl (w:jP)(hs:w.aO.dz)(vt vr:AV)(i:Nat)(F:Fr)(K:Hp)(m:Nat)(Q:QA)(hF:OwF w F)(f43:F.get 43=some (aQ.ds w.aO.indexes))(f44:F.get 44=some (zI (w.aO.indexes.length:Int)))(f45:F.get 45=some (zI 0))(M:OwM w i 0 vt nS vr K m)
  (hQ:∀vi F K m,OwF w F->OwM w i w.aO.indexes.length vt vi vr K m->Q .normal F K m []):aE Ox pG F K m [] (fy 2 Q):=by
 have ht:=hs.i;unfold aM at ht;refine aE.of (λ q F K m ms=>∃(j:Nat) (vi:AV),q=w.aO.indexes.length - j/\j<=w.aO.indexes.length/\OwF w F/\F.get 43=some (aQ.ds w.aO.indexes)/\F.get 44=some (zI (w.aO.indexes.length:Int))/\F.get 45=some (zI (j:Int))/\OwM w i j vt vi vr K m/\ms=[]) w.aO.indexes.length ⟨0,_,by simp,by simp,hF,f43,f44,f45,M,rfl⟩ ?_;clear hF f43 f44 f45 M F K m;rintro q1 F K m ms ⟨j,vi,rfl,hi,⟨f1,f2,f3⟩,f43,f44,f45,M,rfl⟩
 by_cases hlt:j<w.aO.indexes.length
 ·have hxx:=aQ.ix (ik:=.i64) hlt;have hld:=λ H=>aQ.mf w.aO.indexes[j] (aQ.l (w.aO.indexes.drop (j+1))) H;have htc:=hs.ic _ (b6 hlt);unfold aM at htc;have hm:=M.hm;have tp:=M.tp;simp[Ox,f43,f44,f45,hlt,hxx,hld,aL.av];generalize hK1:Tr.put (Tr.put K m _) m _=K1;have g1:∀c,c<m->K1.get c=K.get c:=λ c hc=>by rw[<-hK1];simp[ga hc]
  have x1:K1.get m=aG 6 (aQ.cells w.aO.indexes[j]):=by rw[<-hK1];simp
  have t1:cA K1 (m+1):=λ c hc=>by
   have e1:¬c=m:=by omega
   rw[<-hK1];simp[e1,tp c (by omega)]
  clear hK1;rw[eC]at x1;simp[XZ,x1];refine aw.pure (LL w.aO.indexes[j].cols (by unfold aM;omega)) ?_;have k21:=(g1 2 (by omega)).trans M.k2;have hto:=M.ot.cO;have hio:=M.oi.cO;have hwo:=M.ow.cO;have hta:=λ c h=>M.ot.bg (c:=c) h;have hia:=λ c h=>M.oi.bg (c:=c) h;have hwa:=λ c h=>M.ow.bg (c:=c) h;simp[x1,XY,f3,show ¬ 2=m by omega,k21];generalize hK3:Tr.put (Tr.put K1 m _) (m+1) _=K3;have g3:∀c,c<m->K3.get c=K1.get c:=λ c hc=>by rw[<-hK3];simp[ga hc]
  have x3:K3.get (m+1)=aG 6 (aQ.cells w.aO.indexes[j]):=by rw[<-hK3];simp[eC]
  have t3:cA K3 (m+1+1):=λ c hc=>by
   have e1:¬c=m:=by omega
   have e2:¬c=m+1:=by omega
   rw[<-hK3];simp[e1,e2,t1 c (by omega)]
  clear hK3;have ot3:au K3 (m+1+1) vi (aQ.l (w.aO.indexes.take j)) j 6:=M.oi.frame (by omega) λ c hc=>(g3 c (hia c hc)).trans (g1 c (hia c hc));refine au.rQ (k:=1) (new:=aQ.cells w.aO.indexes[j]) ot3 (aR x3) (by simp) (by simp) (by omega) (by omega) (by unfold big;omega) (by omega) (by simp) λ K4 o4 g4=>?_;have ni:∀c,c<3->blk vi≠some c:=λ c h1 h2=>by have:=(M.di c h2).1;omega
  have k24:=(g4 2 (by omega) (ni 2 (by omega))).trans ((g3 2 (by omega)).trans k21);simp[f3,k24,XX,f45,aC j (by omega)];have a4:∀c,c<m->blk vi≠some c->K4.get c=K.get c:=λ c h1 h3=>(g4 c (by omega) h3).trans ((g3 c h1).trans (g1 c h1));refine⟨w.aO.indexes.length - (j+1),by omega,j+1,rfl,hlt,⟨by simp[f1],by simp[f2],by simp[f3]⟩,by simp[f43],by simp[f44],by simp,.sl (m+1+1) 0 (j+1) 6,⟨by omega,λ c hc=>?_,?_,?_,by simp,?_,?_,?_,M.dt,λ c hc=>?_,M.dr,M.wz⟩⟩
  ·rw[Tr.get_put,ah (by omega),g4 c (by omega) (λ h=>by have:=hia c h;omega),t3 c (by omega)]
  ·rw[Tr.get_put,ah (by omega),a4 0 (by omega) (ni 0 (by omega))];exact M.k0
  ·rw[Tr.get_put,ah (by omega),a4 1 (by omega) (ni 1 (by omega))];exact M.k1
  ·refine M.ot.frame (by omega) λ c hc=>?_;have h1:=hta c hc;have h2:=M.dt c hc;rw[Tr.get_put,ah (by omega)];exact a4 c h1 λ h=>(M.di c h).2.1 hc
  ·rw[take_add_one,cE hlt,Option.toList,aL.dV,aL.lP];refine o4.frame (by omega) λ c hc=>?_;simp at hc;subst hc;rw[Tr.get_put,ah (by omega)]
  ·refine M.ow.frame (by omega) λ c hc=>?_;have h1:=hwa c hc;have h2:=(M.dr c hc).1;rw[Tr.get_put,ah (by omega)];exact a4 c h1 λ h=>(M.di c h).2.2 hc
  simp at hc;subst hc;exact⟨by omega,λ h=>by have:=hta _ h;omega,λ h=>by have:=hwa _ h;omega⟩
 obtain rfl:j=w.aO.indexes.length:=by omega
 simp[Ox,f44,f45];exact hQ vi _ K m ⟨by simp[f1],by simp[f2],by simp[f3]⟩ M
theorem FJ.agg {h:Hf}{l l':List AV}(n:Nat)(f:J5 h l l'):FJ h (.agg l n) (.agg l' n):=by
 intro φ D w x hr hx
 cases hx with
 |agg _ xs _ h1 h2 =>
  refine .agg _ _ _ ?_ (by rw[f.length];exact h2);clear h2
  induction f generalizing xs with
  |nil=>cases h1;exact .nil
  |cons v v' vs vs' a b ih =>
   cases h1 with
   |cons _ y _ ys h3 h4=>exact .cons _ _ _ _ (a φ D w y hr h3) (ih ys h4)
theorem agk (w:jP)(hs:w.aO.dz)(hl:w.rows.length=w.aO.tables.length)(hS:∀L∈w.rows,ae pG 58 [aW L] (bH L)):
  aj pG 24 [fc.av w] .nil 0 (λ v K n=>∃vt vi vr,v=.agg [vt,vi,vr] 3/\au K n vt (aA.l w.aO.tables) w.aO.tables.length 4/\au K n vi (aQ.l w.aO.indexes) w.aO.indexes.length 6/\au K n vr (w.rows.map bH) w.rows.length 1/\(∀c,blk vr=some c->blk vt≠some c/\blk vi≠some c)/\(w.rows=[]->vr=nS)):=by
 refine aj.of c24 (by simp[A24]) λ F hF=>?_;simp[A24,hF,aL.av,jf,aL.aD];refine agm w hs hl hS _ _ _ _ ⟨by simp,by simp,by simp⟩ (by simp) (by simp) (by simp) ⟨by omega,λ c hc=>by simp[show ¬c=0 by omega,show ¬c=1 by omega,show ¬c=2 by omega],by simp[jf],by simp,by simp,by simpa using au.nil _ _ 4,by simpa using au.nil _ _ 6,by simpa using au.nil _ _ 1,by simp,by simp,by simp,λ _=>rfl⟩ λ vt vr F K m ⟨f1,f2,f3⟩ M=>?_;have k0:=M.k0;rw[jf]at k0;simp[aeX,f1,k0,aL.aD];refine agl w hs vt vr _ _ _ _ _ ⟨by simp[f1],by simp[f2],by simp[f3]⟩ (by simp) (by simp) (by simp) M λ vi F K m ⟨f1,f2,f3⟩ M=>?_;have k1:=M.k1;have k2:=M.k2;have h1:=M.ot.cO;have h2:=M.oi.cO;have h3:=M.ow.cO;simp[XW,f2,f3,k1,k2,h1,h2,h3];have ot:=M.ot;have oi:=M.oi;have ow:=M.ow;rw[take_length]at ot oi;rw[<-hl,take_length]at ow;refine⟨vt,vi,vr,⟨rfl,rfl,rfl⟩,ot.frame (aP _) λ c hc=>?_,oi.frame (aP _) λ c hc=>?_,ow.frame (aP _) λ c hc=>?_,λ c hc=>⟨(M.dr c hc).2,λ h=>(M.di c h).2.2 hc⟩,λ h=>M.wz (by rw[<-hl,h];rfl)⟩
 ·have:=M.dt c hc;simp[show ¬c=1 by omega]
 ·have:=(M.di c hc).1;simp[show ¬c=1 by omega]
 have:=(M.dr c hc).1;simp[show ¬c=1 by omega]
theorem alj (w:jP)(hs:w.aO.dz)(hl:w.rows.length=w.aO.tables.length)(h0:w.rows≠[])(hS:∀L∈w.rows,ae pG 58 [aW L] (bH L))(H:Hp)(n:Nat):
  bc pG 24 [fc.av w] H n (.agg [aA.ds w.aO.tables,aQ.ds w.aO.indexes,.sl n 0 w.rows.length 1] 3) (H.put n (some (.cells (w.rows.length*1) [] (w.rows.map bH) .nil))) (n+1):=by
 refine ath.of (by simp) (aJ.nO λ v hv=>by obtain⟨L,_,rfl⟩:=mem_map.1 hv;simp) (by simp) (by simp) (((agk w hs hl hS).zs (R2:=λ v K n=>∃b k,v=.agg [aA.ds w.aO.tables,aQ.ds w.aO.indexes,.sl b 0 w.rows.length 1] 3/\b<n/\K.get b=some k/\OwnB k (w.rows.map bH)) λ v K n ⟨vt,vi,vr,hv,ot,oi,ow,hd,_⟩=>?_).mono λ v K n ⟨b,k,q1,q2,q3,q4⟩=>⟨b,k,q1,q2,q3,q4,by simp⟩) H n;subst hv;obtain⟨h1,⟨_,h2⟩|⟨b,k,rfl,hb,hk,ho⟩⟩:=ow
 ·exact ai (length_eq_zero_iff.1 h2) h0
 have hdb:=hd b rfl;have fz:∀ {v:AV} {l:List AV} {len sz:Nat},au K n v l len sz->blk v≠some b->aJ l->0<sz->eY (K.put b none).get v (.ds l len sz):=λ ov hb hp hz=>(ov.frame (H':=K.put b none) (aP _) λ c hc=>by rw[Tr.get_put,ah (λ e=>hb (by rw[<-e];exact hc))]).nf (bh.pure hp) hz;refine⟨(K.put b none).get,pick K [b],_,pV.some [b] (λ c y hc=>?_) (λ c hc=>?_),FJ.agg 3 (.cons _ _ _ _ (.nf (fz ot hdb.1 (by simp) (by omega))) (.cons _ _ _ _ (.nf (fz oi hdb.2 (by simp) (by omega))) (.cons _ _ _ _ (.refl _ _) .nil))),b,k,rfl,hb,by rw[eF (by simp)];exact hk,ho⟩
 ·rw[Tr.get_put]at hc
  split at hc
  ·cases hc
  exact hc
 intro hm;simp at hm;subst hm;simp at hc
def vh:List (AV×AV×Nat):=[(zI 1,.fn (.func 60) [] [],0),(zI 2,.fn (.func 61) [] [],1),(zI 3,.fn (.func 62) [] [],2),(zI 4,.fn (.func 63) [] [],3),(zI 5,.fn (.func 64) [] [],4),(zI 6,.fn (.func 65) [] [],5),(zI 7,.fn (.func 66) [] [],6),(zI 8,.fn (.func 67) [] [],7)]
theorem afE (H:Hp)(n:Nat):bc pG 25 [] H n (.map n) (H.put n (some (.map vh 8))) (n+1):=by
 have h:aj pG 25 [] .nil n (λ u K k=>u=.map n/\(∀b y,((Tr.nil:Hp).put n (some (.map vh 8))).get b=some y->∃y',K.get b=some y'/\QF y' y)/\k<=n+1):=by
  refine aj.of c25 (by simp[A25]) λ F hF=>?_;simp[A25,kD,qh,isKey,iC,dH];exact λ _ _ _ _ h=>h
 refine aj.okS h (by omega) (by simp) (by simp) (by simp) (λ b hb=>?_) (λ b _ hb=>?_)
 ·rcases hb with hb|hb
  ·simp at hb
  simp[show b=n by omega]
 rw[Tr.get_put,ah (by omega)]
def J' (k:Int):AV:=if 1<=k/\k<=8 then .fn (.func (59+k.toNat)) [] []else .al .nilFunc
theorem afG (k:Int)(H:Hp)(b:Nat)(hb:H.get b=some (.map vh 8)):eW .i (.al .nilFunc) false (.map b) (zI k) H=.val (J' k):=by
 unfold eW J';simp only[hb,isKey]
 by_cases h:1<=k/\k<=8
 ·rw[ao h];have:k=1∨k=2∨k=3∨k=4∨k=5∨k=6∨k=7∨k=8:=by omega
  rcases this with rfl|rfl|rfl|rfl|rfl|rfl|rfl|rfl<;>simp[vh,findKey,dH]
 rw[ah h];have e1:(k == 1)=false:=by simp;omega
 have e2:(k == 2)=false:=by simp;omega
 have e3:(k == 3)=false:=by simp;omega
 have e4:(k == 4)=false:=by simp;omega
 have e5:(k == 5)=false:=by simp;omega
 have e6:(k == 6)=false:=by simp;omega
 have e7:(k == 7)=false:=by simp;omega
 have e8:(k == 8)=false:=by simp;omega
 simp[vh,findKey,dH,e1,e2,e3,e4,e5,e6,e7,e8]
def gf (row:List Val)(l:List Ex):List Val:=l.map λ e=>(qd row e).1
def nV (row:List Val)(l:List Ex)(a:Int):Int:=l.foldl (λ a e=>m8 a (qd row e).2) a
theorem GP (row:List Val){l:List Ex}{i:Nat}(h:i<l.length):gf row (l.take (i+1))=gf row (l.take i)++[(qd row l[i]).1]:=by
 unfold gf;rw[take_add_one,cE h,Option.toList,map_append];rfl
theorem P6 (row:List Val){l:List Ex}{i:Nat}(h:i<l.length)(a:Int):nV row (l.take (i+1)) a=m8 (nV row (l.take i) a) (qd row l[i]).2:=by
 unfold nV;rw[take_add_one,cE h,Option.toList,List.foldl_append];rfl
theorem OL (l m:List Val):dL (l++m)=dL l++dL m:=by
 rw[<-ql,<-ql,<-ql,flatMap_append]
theorem GN {rv:AV}{row:List Val}(hr:mU rv row)(l:List Ex)(hl:l.length<=aM)(hs:∀e∈l,e.sz<=aM)(H:Hp)(n q:Nat)(acc:Int)(hq:H.get q=aG 1 [zI acc])(hqn:q<n)(ht:cA H n):
  aj pG 144 [eX.ds l,rv,.fn (.func 165) [] [.ptr q 0]] H n (λ u K k=>au K k u (dL (gf row l)) l.length 3/\(∀c,blk u=some c->n<=c)/\K.get q=aG 1 [zI (nV row l acc)]/\(∀c,c<n->c≠q->K.get c=H.get c)/\n<=k/\cA K k):=by
 unfold aM at hl;obtain⟨o1,o2⟩:=hr.one;have hll:=eX.aD l;refine aj.of c144 (by simp[A144]) λ F hF=>?_;simp[A144,hF,hll]
 refine aE.of (λ t F K m ms=>∃(i:Nat) (v:AV),t=l.length - i/\i<=l.length/\F.get 1=some rv/\F.get 2=some (.fn (.func 165) [] [.ptr q 0])/\F.get 7=some v/\F.get 12=some (eX.ds l)/\F.get 13=some (zI (l.length:Int))/\F.get 14=some (zI (i:Int))/\n<=m/\au K m v (dL (gf row (l.take i))) i 3/\(∀c,blk v=some c->n<=c)/\K.get q=aG 1 [zI (nV row (l.take i) acc)]/\(∀c,c<n->c≠q->K.get c=H.get c)/\cA K m/\ms=[]) l.length
  ⟨0,nS,by omega,by omega,by simp[hF],by simp[hF],by simp,by simp,by simp,by simp,by omega,by simpa[gf,dL]using au.nil _ _ 3,by simp,by simpa[nV]using hq,λ _ _ _=>rfl,ht,rfl⟩ ?_
 rintro t F' K m ms ⟨i,v,rfl,hi,f1,f2,f7,f12,f13,f14,hm,ho,hb,kq,kf,tp,rfl⟩
 by_cases hlt:i<l.length
 ·have hx:=eX.ix (ik:=.i64) hlt;have hav:eX.av l[i]=l[i].av:=rfl;have hev:=acF hr l[i] (hs _ (b6 hlt));have hone:=ho.cO;simp[J2,f14,f13,hlt,f12,hx,eX.mf,hav,f1];refine aw.pure hev ?_;generalize hre:qd row l[i]=re;simp[ct,Val.av,Y8,f2];generalize hK1:Tr.put (Tr.put (Tr.put (Tr.put K m _) m _) (m+1) _) (m+1) _=K1;have g1:∀c,c<m->K1.get c=K.get c:=λ c hc=>by rw[<-hK1];simp[ga hc]
  have x1:K1.get (m+1)=aG 3 [zI re.1.kind,zI re.1.num,.str re.1.s]:=by rw[<-hK1];simp
  have t1:cA K1 (m+1+1):=λ c hc=>by
   have e1:¬c=m:=by omega
   have e2:¬c=m+1:=by omega
   rw[<-hK1];simp[e1,e2,tp c (by omega)]
  clear hK1;refine aw.of (jB (nV row (l.take i) acc) re.2 ((g1 q (by omega)).trans kq)) λ u K2 n2 ⟨hu,q2,hn2,k2⟩=>?_;subst hu hn2;have x2:=(k2 (m+1) (by omega)).trans x1;simp[Y7,f7,x2];generalize hK3:Tr.put K2 (m+1+1) _=K3;have g3:∀c,c<m+1+1->K3.get c=K2.get c:=λ c hc=>by rw[<-hK3];simp[ga hc]
  have x3:K3.get (m+1+1)=aG 3 re.1.cells:=by rw[<-hK3];simp[Val.cells]
  have t3:cA K3 (m+1+1+1):=λ c hc=>by
   have e1:¬c=m+1+1:=by omega
   rw[<-hK3];simp[e1,k2 c (by omega),t1 c (by omega)]
  clear hK3;have a3:∀c,c<m->c≠q->K3.get c=K.get c:=λ c h1 h2=>(g3 c (by omega)).trans ((k2 c h2).trans (g1 c h1));have nq:blk v≠some q:=λ h=>by have:=hb q h;omega
  have o3:au K3 (m+1+1+1) v (dL (gf row (l.take i))) i 3:=ho.frame (by omega) λ c hc=>a3 c (ho.bg hc) (λ e=>nq (by rw[<-e];exact hc));refine au.rQ (k:=1) (new:=re.1.cells) o3 (aR x3) (by simp) (by simp[Val.cells]) (by omega) (by omega) (by unfold big;omega) (by omega) (by simp[Val.cells]) λ K4 o4 g4=>?_;simp[Y6,f14,aC i (by omega)];have nb:∀c,c<n->blk v≠some c:=λ c h1 h2=>by have:=hb c h2;omega
  refine⟨l.length - (i+1),by omega,i+1,by omega,by omega,by simp[f1],by simp[f2],by simp[f12],by simp[f13],by simp,by omega,?_,by omega,?_,λ c h1 h2=>?_,λ c hc=>?_⟩
  ·rw[GP row hlt,hre,OL];simpa[dL]using o4
  ·rw[P6 row hlt,hre];exact(g4 q (by omega) nq).trans ((g3 q (by omega)).trans q2)
  ·exact(g4 c (by omega) (nb c h1)).trans ((a3 c (by omega) h2).trans (kf c h1 h2))
  exact(g4 c (by omega) (λ h=>by have:=ho.bg h;omega)).trans (t3 c (by omega))
 obtain rfl:i=l.length:=by omega
 rw[take_length]at ho kq;have hone:=ho.cO;simp[J2,f14,f13,Y5,f7];exact⟨ho,hb,kq,kf,hm,tp⟩
theorem au.abU {K:Hp}{k n:Nat}{u:AV}{l:List AV}{len sz:Nat}(h:au K k u l len sz)(hb:∀c,blk u=some c->n<=c)(hp:aJ l)(hz:0<sz):eY (above n K) u (.ds l len sz):=by
 refine eY.mono (h:=(pick K (blk u).toList).get) (λ b y hy=>?_) ((h.frame (H':=pick K (blk u).toList) (aP _) λ c hc=>by rw[eF (by simp[hc])]).nf (bh.pure hp) hz);rw[ew]at hy
 split at hy
 ·rename_i hm;simp at hm;unfold above;rw[ao (hb b hm)];exact hy
 cases hy
theorem pV.cut (K:Hp)(n:Nat):pV (above n K) K (pick K (List.range n)):=
 pV.some _ te λ b hb hm=>by
  have:b<n:=by simpa using hm
  unfold above at hb;rw[ah (by omega)]at hb;exact hb rfl
theorem mK (K:Hp)(n:Nat):(∀c,c<n->(pick K (List.range n)).get c=K.get c)/\cA (pick K (List.range n)) n:=
 ⟨λ c hc=>eF (by simpa using hc),ku λ b hb=>by simpa using hb⟩
theorem DJ (l:List Val):aJ (dL l):=by simp
theorem OJ {rv:AV}{row:List Val}(hr:mU rv row)(l:List Ex)(hl:l.length<=aM)(hs:∀e∈l,e.sz<=aM)(H:Hp)(n q:Nat)(acc:Int)(hq:H.get q=aG 1 [zI acc])(hqn:q<n)(ht:cA H n):
  aj pG 144 [eX.ds l,rv,.fn (.func 165) [] [.ptr q 0]] H n (λ u K k=>u=aF (gf row l)/\K.get q=aG 1 [zI (nV row l acc)]/\(∀c,c<n->c≠q->K.get c=H.get c)/\n<=k/\cA K n):=by
 refine(GN hr l hl hs H n q acc hq hqn ht).zs λ u K k ⟨h1,h2,h3,h4,h5,h6⟩=>⟨above n K,pick K (List.range n),aF (gf row l),pV.cut K n,.nf ?_,rfl,?_,λ c hc hcq=>?_,h5,(mK K n).2⟩
 ·have:=h1.abU h2 (DJ _) (by omega);rw[show l.length=(gf row l).length by simp[gf]]at this;exact this
 ·rw[(mK K n).1 q hqn];exact h3
 rw[(mK K n).1 c hc];exact h4 c hc hcq
def dC (T I R:AV)(b:mZ)(N C W:AV)(c:Int):List AV:=T::I::R::(b.cells++[N,C,W,zI c])
@[simp] theorem ahV (T I R:AV)(b:mZ)(N C W:AV)(c:Int):(dC T I R b N C W c).length=32:=rfl
def Qm (s:bB)(id:Int):Int:=kL (λ t:bo=>decide (t.id=id)) s.tables
theorem aof {id:Int}(t:bo)(H:Hp)(n p q:Nat)(D:List AV)(h5:D[5]?=some (.int .u32 id))(hp:H.get p=aG 32 D)(hq:H.get q=aG 1 [.ptr p 0])(ht:cA H n):
  aj pG 208 [aA.av t,.ptr q 0] H n (λ u K k=>u=.bool (decide (t.id=id))/\K=H/\k=n):=by
 refine aj.forget (by simp) (aj.of c208 (by simp[A208]) λ F hF=>?_);have e1:¬p=n:=by have:=ht.lt hp;omega
 have e2:¬q=n:=by have:=ht.lt hq;omega
 simp[A208,hF,aL.av];have f1:F.get 1=some (.ptr q 0):=by simp[hF]
 generalize hK:Tr.put H n _=K;have kp:K.get p=aG 32 D:=by rw[<-hK];simp[e1,hp]
 have kq:K.get q=aG 1 [.ptr p 0]:=by rw[<-hK];simp[e2,hq]
 have kn:K.get n=aG 4 (aA.cells t):=by rw[<-hK];simp
 have kk:∀b,H.get b≠none->K.get b=H.get b:=λ b hb=>by
  have:¬b=n:=λ e=>hb (by rw[e];exact ht n (aP _));rw[<-hK];simp[this]
 clear hK hp hq hF;rw[dB]at kn;refine cj.of (cN (P:=pG)) ?_;simp[ab,f1,kp,kq,kn,h5];exact λ b hb=>kk b hb
theorem aog {s:bB}(hs:s.tables.length<=aM)(id:Int)(H:Hp)(n p:Nat)(D:List AV)(h0:D[0]?=some (aA.ds s.tables))(h5:D[5]?=some (.int .u32 id))(hp:H.get p=aG 32 D)(ht:cA H n):
  aj pG 139 [.ptr p 0] H n (λ u K k=>u=zI (Qm s id)/\K=H/\k=n):=by
 refine aj.forget (by simp) (aj.of c139 (by simp[A139]) λ F hF=>?_);have e1:¬p=n:=by have:=ht.lt hp;omega
 simp[A139,hF,e1,hp,h0];generalize hK:Tr.put H n _=K;have kp:K.get p=aG 32 D:=by rw[<-hK];simp[e1,hp]
 have kn:K.get n=aG 1 [.ptr p 0]:=by rw[<-hK];simp
 have kt:cA K (n+1):=λ b hb=>by
  have e:¬b=n:=by omega
  rw[<-hK];simp[e,ht b (by omega)]
 have kk:∀b,H.get b≠none->K.get b=H.get b:=λ b hb=>by
  have:¬b=n:=λ e=>hb (by rw[e];exact ht n (aP _));rw[<-hK];simp[this]
 clear hK hp hF;refine aw.same (nU (xs:=s.tables) (el:=aA.av) (f:=208) (first:=[]) (cap:=[.ptr n 0]) (p:=λ t:bo=>decide (t.id=id)) c161 hs (aA.aD _) (λ i h=>⟨_,aA.ix h,λ F H n pq=>by simp[pq,aA.mf]⟩) λ t _=>aof t K (n+1) p n D h5 kp kn kt) ?_;simp;exact⟨rfl,λ b hb=>kk b hb⟩
def Z5 (p:Nat)(D:List AV)(i:Int):Hp->Nat->iT:=λ H n=>if H.get p=aG 32 D/\p<n/\cT n D then .mk (zI i) H n else .fail
theorem Iw {p:Nat}{D:List AV}{i:Int}{H:Hp}{n:Nat}(hp:H.get p=aG 32 D)(hn:p<n)(hr:cT n D):Z5 p D i H n=.mk (zI i) H n:=by
 unfold Z5;rw[ao ⟨hp,hn,hr⟩]
theorem Ix {s:bB}(hs:s.tables.length<=aM)(id:Int)(p:Nat)(D:List AV)(h0:D[0]?=some (aA.ds s.tables))(h5:D[5]?=some (.int .u32 id)):
  ∀H n v H' n',Z5 p D (Qm s id) H n=.mk v H' n'->bc pG 139 [.ptr p 0] H n v H' n':=by
 intro H n v H' n' h;unfold Z5 at h
 by_cases hc:H.get p=aG 32 D/\p<n/\cT n D
 ·rw[ao hc]at h;injection h with e1 e2 e3;subst e1 e2 e3;obtain⟨hp,hn,hr⟩:=hc;refine aj.Dw [p] (by simp;exact hn) (by simp;exact hn) (λ b hb k hk=>?_) λ H0 ht hL=>?_
  ·have:b=p:=by simpa using hb
   subst this;rw[hp]at hk;injection hk with hk;subst hk;exact bT hr
  refine(aog hs id H0 n p D h0 h5 ((hL p (by simp)).trans hp) ht).mono λ u K k ⟨q1,q2,q3⟩=>?_;subst q1 q2;exact⟨.pure _ (by simp),λ _ _=>rfl⟩
 rw[ah hc]at h;cases h
structure iN (s:bB)(t:bo)(rows:List (List Val)):Prop where
 si:s.indexes.length<=aM
 sc:∀x∈s.indexes,x.cols.length<=aM
 rl:rows.length<=aM
 rv:∀r∈rows,r.length<=aM/\∀v∈r,v.eA
 ic:∀r∈rows,r.length=t.cols.length->∀x∈s.on t.id,mV x.cols r
 i16:∀x∈s.on t.id,x.cols.length<=16
 fl:∀r∈rows,r.length=t.cols.length
theorem iN.fits {s:bB}{t:bo}{rows:List (List Val)}(h:iN s t rows):ae pG 41 [fe.av s,aA.av t,aW rows] (zI (dR s t rows)):=TZ s t rows h.si h.sc h.rl h.rv h.ic h.i16 h.fl
structure uF (s:bB)(t:bo)(r:Nat)(len:Nat)(D:List AV):Prop where
 d0:D[0]?=some (aA.ds s.tables)
 d1:D[1]?=some (aQ.ds s.indexes)
 d2:D[2]?=some (.sl r 0 len 1)
 d5:D[5]?=some (.int .u32 t.id)
 d6:D[6]?=some (.str t.name)
 d7:D[7]?=some (bL.ds t.cols)
 d8:D[8]?=some (.int .u32 t.head)
 dl:D.length=32
theorem uF.aO {s:bB}{t:bo}{r len:Nat}{D:List AV}(h:uF s t r len D){H:Hp}{p:Nat}(hp:H.get p=aG 32 D):cZ 2 (.ptr p 0) H=.val (fe.av s):=by
 have e:(D.drop 0).take 2=[aA.ds s.tables,aQ.ds s.indexes]:=by
  apply ext_getElem?;intro i;rw[getElem?_take,drop_zero]
  match i with
  |0=>simp[h.d0]
  |1=>simp[h.d1]
  |i+2=>simp;omega
 obtain⟨u,z,bs,t',e1,e2⟩:=(OwnB.list (u:=32) (l:=D) h.dl.symm).fX (o:=0) (c:=2) (by rw[h.dl];omega);injection e1 with a1 a2 a3 a4;subst a1 a2 a3 a4;unfold cZ;simp only[hp,e2,e];rfl
theorem uF.tbl {s:bB}{t:bo}{r len:Nat}{D:List AV}(h:uF s t r len D){H:Hp}{p:Nat}(hp:H.get p=aG 32 D):cZ 4 (.ptr p 5) H=.val (aA.av t):=by
 have e:(D.drop 5).take 4=[.int .u32 t.id,.str t.name,bL.ds t.cols,.int .u32 t.head]:=by
  apply ext_getElem?;intro i;rw[getElem?_take,iV]
  match i with
  |0=>simp[h.d5]
  |1=>simp[h.d6]
  |2=>simp[h.d7]
  |3=>simp[h.d8]
  |i+4=>simp;omega
 obtain⟨u,z,bs,t',e1,e2⟩:=(OwnB.list (u:=32) (l:=D) h.dl.symm).fX (o:=5) (c:=4) (by rw[h.dl];omega);injection e1 with a1 a2 a3 a4;subst a1 a2 a3 a4;unfold cZ;simp only[hp,e2,e];rfl
def sw (s:bB)(t:bo)(L fr:List (List Val)):Int:=if dR s t fr≠0/\dR s t fr≠160 then dR s t fr else if 4096<L.length then 4 else dR s t L
theorem uM {H:Hp}{b i:Nat}{k:br}{L:List AV}(hb:H.get b=some k)(ho:OwnB k L)(hi:i<L.length){v:AV}(h1:v.len=1/\v.cells=[v]/\v.one=true):∃y,fZ 1 (.ptr b i) v H=.upd (.aX []) b y/\OwnB y (L.set i v):=by
 have ho':=ho;obtain⟨u,z,bs,t,rfl,h3,h4,_⟩:=ho;refine⟨ke u z bs t [v] i,?_,ho'.st hi _⟩;have hu:i+1<=u:=by omega
 simp[fZ,hb,hu,h1.1,h1.2.1,h1.2.2]
theorem vB (L:List (List Val)):(bH L).len=1/\(bH L).cells=[bH L]/\(bH L).one=true:=by
 unfold bH;split<;>exact⟨rfl,rfl,rfl⟩
theorem agc {s:bB}{t:bo}{L fr:List (List Val)}(hL:iN s t L) (hf:iN s t fr) (gw:s.tables.length<=aM) (hm:dR s t L=0->∀x∈L,iR x){k:Nat}(hk:Qm s t.id=(k:Int)) (RC:List AV) (qb:k<RC.length) (H:Hp) (n p r:Nat) (D:List AV) (y:br)
  (P:uF s t r RC.length D)(hp:H.get p=aG 32 D)(hr:H.get r=some y)(ho:OwnB y RC)(hpn:p<n)(_hrn:r<n)(_hpr:p≠r)(hRL:cT n D)(_ht:cA H n):
  aj pG 145 [.ptr p 0,aW L,aW fr] H n (λ u K k'=>u=zI (sw s t L fr)/\(∀c,c<n->c≠r->K.get c=H.get c)/\(sw s t L fr=0->∃y',K.get r=some y'/\OwnB y' (RC.set k (bH (jZ L))))/\n<=k'):=by
 have c1:=hf.fits;have c2:=hL.fits;have t1:(aW L).len=1/\(aW L).cells=[aW L]:=⟨rfl,rfl⟩;have t2:(aW fr).len=1/\(aW fr).cells=[aW fr]:=⟨rfl,rfl⟩;have s1:(fe.av s).len=2/\(aA.av t).len=4:=⟨rfl,rfl⟩;have EN:=P.aO hp;have al8:=P.tbl hp;refine aj.of c145 (by simp[A145]) λ F hF=>?_;have f0:F.get 0=some (.ptr p 0):=by simp[hF]
 have f1:F.get 1=some (aW L):=by simp[hF]
 have f2:F.get 2=some (aW fr):=by simp[hF]
 clear hF;simp[A145];refine cj.of (dK (l:=[(41,[fe.av s,aA.av t,aW fr],λ H n=>.mk (zI (dR s t fr)) H n)]) ?_) ?_
 ·simp only[gp];rintro y rfl;exact cL c1
 simp[ab,f0,f2,bZ,EN,al8];unfold sw;generalize dR s t fr=e1 at c1 ⊢
 have rest:∀F:Fr,F.get 0=some (.ptr p 0)->F.get 1=some (aW L)->VC pG (.seq (.seq CN (.cond (ar 30) (.seq JL .ret) .skip)) (.seq (.seq JK (.seq CM (.cond (ar 44) (.seq JJ .ret) .skip))) (.seq JI (.seq CP .ret)))) F H n []
   (iO [aI 6] λ u K k'=>u=zI (if 4096<L.length then 4 else dR s t L)/\(∀c,c<n->c≠r->K.get c=H.get c)/\((if 4096<L.length then 4 else dR s t L)=0->∃y',K.get r=some y'/\OwnB y' (RC.set k (bH (jZ L))))/\n<=k'):=by
  intro F f0 f1;have hlen:aZ (aW L)=.val (zI (L.length:Int)):=rfl
  by_cases h4:4096<L.length
  ·simp[CN,f1,hlen,show (4096:Int)<(L.length:Int) by omega,JL,h4]
  simp[CN,f1,hlen,show ¬(4096:Int)<(L.length:Int) by omega,JK,h4];refine cj.of (dK (l:=[(41,[fe.av s,aA.av t,aW L],λ H n=>.mk (zI (dR s t L)) H n)]) ?_) ?_
  ·simp only[gp];rintro y rfl;exact cL c2
  simp[ab,f0,f1,bZ,EN,al8]
  by_cases he:dR s t L=0
  ·have arB:=acN L (by omega) (λ l hl=>by have:=(hL.rv l hl).1;unfold aM at this;omega) (hm he);simp[CM,he,JI];have hix:=iF (bk:=r) (N:=RC.length) qb;have t3:=vB (jZ L);obtain⟨y',hst',ho'⟩:=uM hr ho qb t3;have hat:=Iw (i:=(k:Int)) hp hpn hRL;have HC:=Ix gw t.id p D P.d0 P.d5;rw[hk]at HC;refine cj.of (dK (l:=[(139,[.ptr p 0],Z5 p D (k:Int)),(58,[aW L],λ H n=>.mk (bH (jZ L)) H n)]) ?_) ?_
   ·intro x hx;simp only[mem_cons,not_mem_nil,or_false]at hx
    rcases hx with rfl|rfl
    ·exact HC
    exact cL arB
   simp[ab,f0,f1,bZ,sW,hat,hp,P.d2,hix,hst',CP];exact⟨λ c _ h1 h2=>ai h2 h1,ho'⟩
  simp[CM,he,JJ]
 by_cases h1:e1=0
 ·simp[CO,h1];rw[<-r6,<-r6];refine rest _ ?_ ?_<;>simp[ab,f0,f1]
 by_cases h2:e1=160
 ·simp[CO,h2];rw[<-r6,<-r6];refine rest _ ?_ ?_<;>simp[ab,f0,f1]
 simp[CO,h1,h2,Y4]
theorem yL (L:List (List Val)):aY (bG L)=true:=by
 induction L with
 |nil=>rfl
 |cons r L ih=>simp only[bG,map_cons]at ih ⊢;simp[aY,AV.one,aF,ih]
theorem Qg (L:List (List Val))(hL:L.length<=aM)(H:Hp)(n:Nat):bc pG 146 [bH L] H n (.sl n 0 L.length 1) (H.put n (some (.cells (L.length*1) [] (bG L) .nil))) (n+1):=by
 unfold aM at hL
 by_cases h0:L=[]
 ·subst h0;have e:bH []=.ds [] 0 0:=by simp[bH]
  rw[e]
  have h:aj pG 146 [.ds [] 0 0] .nil n (λ u K k=>u=.sl n 0 0 1/\(∀b y,((Tr.nil:Hp).put n (aG 0 [])).get b=some y->∃y',K.get b=some y'/\QF y' y)/\k<=n+1):=by
   refine aj.of c146 (by simp[A146]) λ F hF=>?_;simp[A146,hF,js,fS,iM,aV,sliceLen,lW];exact QF.refl _
  refine aj.okS h (by omega) (by simp) (by simp) (by simp) (λ b hb=>?_) (λ b _ hb=>?_)
  ·rcases hb with hb|hb
   ·simp at hb
   simp[show b=n by omega,bG]
  rw[Tr.get_put,ah (by omega)]
 obtain⟨r,L,rfl⟩:=exists_cons_of_ne_nil h0;have e:bH (r::L)=.ds (bG (r::L)) (L.length+1) 1:=by simp[bH]
 rw[e];refine ZT.of (by simp[fC]) (fC _) (by simp) ?_ H n;refine aj.of c146 (by simp[A146]) λ F hF=>?_;have hl:=OV (r::L);have hone:=yL (r::L);generalize bG (r::L)=C at hl hone hF ⊢;obtain⟨c,C,rfl⟩:∃c C',C=c::C':=by cases C with|nil=>simp at hl|cons a b=>exact⟨a,b,rfl⟩
 simp at hl hL;simp[A146,hF,js,fS];refine au.app (l:=[]) (len:=0) (new:=c::C) (k:=L.length+1) ⟨by simp,.inr ⟨0,_,rfl,by omega,by simp;rfl,.list (by simp)⟩⟩ (by simp) rfl (by simp[hl]) (by omega) (by omega) (by unfold big;omega) (by omega) hone λ H' ho hk=>?_;simp;simpa using ho
theorem nw.akB {h:Hf}{φ:Ph}{D:Da}{w:World}(hr:Rel φ D h w):∀ {l l':List AV}{xs:List Value},nw h l l'->bO φ D l xs->bO φ (Go.Abs.shut φ D h w) l' xs
 |[],[],_,_,.nil=>.nil
 |[],_::_,_,k,_=>by simp[nw]at k
 |_::_,[],_,k,_=>by simp[nw]at k
 |_::_,_::_,_,k,.cons _ _ _ _ h1 h2=>by
  simp only[uS]at k;exact .cons _ _ _ _ (k.1.vr hr h1) (nw.akB hr k.2 h2)
theorem acQ {P:Program}{g:FuncId}{args args':List AV}{h:Hf}{F F2:Fr}{H H2:Hp}{n:Nat}{R:AV->Hp->Nat->Prop}(s:ez h F H F2 H2)(ha:nw h args args')(hc:aj P g args' H2 n R):aj P g args H n R:=
 ⟨hc.1,λ φ D w xs hr hv hf RR hR=>hc.2 φ (Go.Abs.shut φ D h w) w xs (s.rel hr) (ha.akB (hr.sub s.sub) hv) hf RR λ v H' n' φ' D' w' x r e k hx=>hR v H' n' φ' D' w' x r (s.ext.trans e) k hx⟩
theorem ez.alr (F:Fr)(K:Hp)(b:Nat):ez (λ c=>if c=b then K.get c else none) F K F (K.put b none):=
 ⟨λ c k h=>by
  by_cases e:c=b
  ·simpa[e]using h
  ·simp[e]at h,λ c h=>by
  by_cases e:c=b
  ·simp[e]
  ·simp[e]at h,λ t v h=>⟨v,h,.inl rfl⟩,λ c y h=>by
  by_cases e:c=b
  ·simp[e]at h
  exact⟨y,by simpa[e]using h,.inl rfl⟩⟩
structure afo (L:List (List Val))(RC:List AV)(p r bl:Nat)(D:List AV)(H:Hp)(n:Nat):Prop where
 hp:H.get p=aG 32 D
 hr:H.get r=some (.cells RC.length [] RC .nil)
 hl:∃y,H.get bl=some y/\OwnB y (bG L)
 pn:p<n
 rn:r<n
 ln:bl<n
 rd:cT n D
def Sj (s:bB)(t:bo)(L fr:List (List Val))(k:Nat)(RC:List AV)(p r bl:Nat)(D:List AV):Hp->Nat->iT:=λ H n =>
 if afo L RC p r bl D H n then .mk (zI (sw s t L fr)) ((H.put bl none).put r (if sw s t L fr=0 then some (.cells RC.length [] (RC.set k (bH (jZ L))) .nil)else none)) n else .fail
theorem aaK {s:bB}{t:bo}{L fr:List (List Val)}(hL:iN s t L) (hf:iN s t fr) (gw:s.tables.length<=aM) (hm:dR s t L=0->∀x∈L,iR x){k:Nat}(hk:Qm s t.id=(k:Int)) (RC:List AV) (hRC:aJ RC) (qb:k<RC.length) (p r bl:Nat) (D:List AV)
  (P:uF s t r RC.length D)(hpr:p≠r)(hpl:p≠bl)(hrl:r≠bl):
  ∀H n v H' n',Sj s t L fr k RC p r bl D H n=.mk v H' n'->bc pG 145 [.ptr p 0,.sl bl 0 L.length 1,aW fr] H n v H' n':=by
 intro H n v H' n' h;unfold Sj at h
 by_cases hc:afo L RC p r bl D H n
 ·rw[ao hc]at h;injection h with e1 e2 e3;subst e1 e2 e3;obtain⟨hp,hr,⟨y,hy,ho⟩,pn,rn,ln,rd⟩:=hc;have hp0:(pick H [p,r,bl]).get p=aG 32 D:=by rw[eF (by simp)];exact hp
  have hr0:(pick H [p,r,bl]).get r=some (.cells RC.length [] RC .nil):=by rw[eF (by simp)];exact hr
  have hl0:(pick H [p,r,bl]).get bl=some y:=by rw[eF (by simp)];exact hy
  have top:cA (pick H [p,r,bl]) n:=ku λ b hb=>by
   simp at hb
   rcases hb with rfl|rfl|rfl<;>assumption
  have oy:tu n y:=by
   obtain⟨u,z,bs,t',rfl,_,hg,_⟩:=ho;intro i v hv;rw[hg]at hv;exact((fC L).jI).mem v (mem_of_getElem? hv)
  have hfz:eY (λ c=>if c=bl then (pick H [p,r,bl]).get c else none) (.sl bl 0 L.length 1) (aW L):=by
   obtain⟨u,z,bs,t',rfl,hg⟩:=ho.fX (o:=0) (c:=L.length*1) (by simp);refine .sl _ _ _ _ _ _ _ _ _ _ (by rw[ao rfl];exact hl0) hg ?_;rw[drop_zero,eZ (by simp)];exact bh.pure (fC L)
  have cl:=agc hL hf gw hm hk RC qb ((pick H [p,r,bl]).put bl none) n p r D _ P (by rw[Tr.get_put,ah hpl];exact hp0) (by rw[Tr.get_put,ah hrl];exact hr0) (OwnB.list rfl) pn rn hpr rd (λ b hb=>by rw[Tr.get_put,ah (by omega)];exact top b hb);have cr:aj pG 145 [.ptr p 0,.sl bl 0 L.length 1,aW fr] (pick H [p,r,bl]) n _:=acQ (ez.alr (Tr.nil:Fr) (pick H [p,r,bl]) bl) (by simp[FI,hfz]) cl;refine aj.okZ [p,r,bl] ?_ ?_ ?_ ?_ ?_ (cr.mono λ u K k' ⟨q1,q2,q3,_⟩=>⟨?_,?_⟩)
  ·simp[pn,ln];exact(fC fr).jI
  ·intro b hb;simp at hb
   rcases hb with rfl|rfl|rfl<;>assumption
  ·intro b hb x hx;simp at hb
   rcases hb with rfl|rfl|rfl
   ·rw[hp]at hx;injection hx with hx;subst hx;exact bT rd
   ·rw[hr]at hx;injection hx with hx;subst hx;exact bT hRC.jI
   rw[hy]at hx;injection hx with hx;subst hx;exact oy
  ·intro b hb x hx;simp at hb
   rcases hb with rfl|rfl|rfl
   ·rw[Tr.get_put,ah hpr,Tr.get_put,ah hpl,hp]at hx;injection hx with hx;subst hx;exact bT rd
   ·rw[Tr.get_put,ao rfl]at hx
    split at hx
    ·injection hx with hx;subst hx;refine bT (cT.of λ v hv=>?_)
     rcases mem_or_eq_of_mem_set hv with h|h
     ·exact hRC.jI.mem v h
     subst h;exact(OO _).jI
    cases hx
   rw[Tr.get_put,ah (Ne.symm hrl),Tr.get_put,ao rfl]at hx;cases hx
  ·intro b hb;simp at hb;rw[Tr.get_put,ah hb.2.1,Tr.get_put,ah hb.2.2]
  ·subst q1;exact fp
  intro b hb x hx;simp at hb
  rcases hb with rfl|rfl|rfl
  ·rw[Tr.get_put,ah hpr,Tr.get_put,ah hpl]at hx;refine⟨x,?_,.inl rfl⟩;rw[q2 b pn hpr,Tr.get_put,ah hpl,hp0,<-hp];exact hx
  ·rw[Tr.get_put,ao rfl]at hx
   split at hx
   ·rename_i e0;injection hx with hx;subst hx;obtain⟨y',h1,u,z,bs,t',rfl,h2,h3,_⟩:=q3 e0;refine⟨_,h1,.inr ⟨u,z,bs,t',RC.set k (bH (jZ L)),rfl,by simp[h2],by simp[h2],λ i v hv=>⟨v,by rw[h3];exact hv,.inl rfl⟩⟩⟩
   cases hx
  rw[Tr.get_put,ah (Ne.symm hrl),Tr.get_put,ao rfl]at hx;cases hx
 rw[ah hc]at h;cases h
def ba (l:List (List Ex)):List (List Val):=l.map (gf [])
def fE (l:List (List Ex)):Int:=l.foldl (λ a r=>nV [] r a) 0
theorem EW {l:List (List Ex)}{i:Nat}(h:i<l.length):ba (l.take (i+1))=ba (l.take i)++[gf [] l[i]]:=by
 unfold ba;rw[take_add_one,cE h,Option.toList,map_append];rfl
theorem EY {l:List (List Ex)}{i:Nat}(h:i<l.length):fE (l.take (i+1))=nV [] l[i] (fE (l.take i)):=by
 unfold fE;rw[take_add_one,cE h,Option.toList,List.foldl_append];rfl
theorem SN:mU Eo []:=⟨.inr ⟨rfl,rfl⟩,by unfold aM;simp⟩
theorem ag_ {l:List (List Ex)}(hl:l.length<=aM)(hs:∀r∈l,r.length<=aM/\∀e∈r,e.sz<=aM)(H:Hp)(n p:Nat)(F:Fr)(K:Hp)(Q:QA)(f0:F.get 0=some (.ptr p 0))(f3:F.get 3=some (.fn (.func 165) [] [.ptr n 0]))(f4:F.get 4=some nS)(f13:F.get 13=some (dA.ds l))(f14:F.get 14=some (zI (l.length:Int)))(f15:F.get 15=some (zI 0))
  (kq:K.get n=aG 1 [zI 0])(kf:∀c,c<n->K.get c=H.get c)(tp:cA K (n+1))
  (hQ:∀(v:AV) F K m,F.get 0=some (.ptr p 0)->F.get 3=some (.fn (.func 165) [] [.ptr n 0])->F.get 4=some v->n+1<=m->au K m v (bG (ba l)) l.length 1->(∀c,blk v=some c->n+1<=c)->K.get n=aG 1 [zI (fE l)]->(∀c,c<n->K.get c=H.get c)->cA K m->Q .normal F K m []):aE Om pG F K (n+1) [] (fy 0 Q):=by
 unfold aM at hl
 refine aE.of (λ t F K m ms=>∃(i:Nat) (v:AV),t=l.length - i/\i<=l.length/\F.get 0=some (.ptr p 0)/\F.get 3=some (.fn (.func 165) [] [.ptr n 0])/\F.get 4=some v/\F.get 13=some (dA.ds l)/\F.get 14=some (zI (l.length:Int))/\F.get 15=some (zI (i:Int))/\n+1<=m/\au K m v (bG (ba (l.take i))) i 1/\(∀c,blk v=some c->n+1<=c)/\K.get n=aG 1 [zI (fE (l.take i))]/\(∀c,c<n->K.get c=H.get c)/\cA K m/\ms=[]) l.length
  ⟨0,nS,by omega,by omega,f0,f3,f4,f13,f14,f15,by omega,by simpa[ba,bG]using au.nil _ _ 1,by simp,by simpa[fE]using kq,kf,tp,rfl⟩ ?_
 clear f0 f3 f4 f13 f14 f15 kq kf tp F K;rintro t F K m ms ⟨i,v,rfl,hi,f0,f3,f4,f13,f14,f15,hm,ho,hb,kq,kf,tp,rfl⟩
 by_cases hlt:i<l.length
 ·have hx:=dA.ix (ik:=.i64) hlt;have hx':e9 1 (dA.ds l) (zI (i:Int))=.val (.dp (eX.ds l[i]::dA.l (l.drop (i+1)))):=hx;obtain⟨h1,h2⟩:=hs _ (b6 hlt);have hone:=ho.cO;simp[Om,f15,f14,hlt,f13,hx',f4,f3];refine aw.of (OJ SN l[i] h1 h2 K m n _ kq (by omega) tp) λ u K2 m2 ⟨hu,q2,k2,hm2,t2⟩=>?_;subst hu;have r1:(aF (gf [] l[i])).len=1/\(aF (gf [] l[i])).cells=[aF (gf [] l[i])]/\(aF (gf [] l[i])).one=true:=⟨rfl,rfl,rfl⟩;simp[r1.1,r1.2.1];generalize hK3:Tr.put K2 m2 _=K3;have g3:∀c,c<m2->K3.get c=K2.get c:=λ c hc=>by rw[<-hK3];simp[ga hc]
  have x3:K3.get m2=aG 1 [aF (gf [] l[i])]:=by rw[<-hK3];simp
  have t3:cA K3 (m2+1):=λ c hc=>by
   have e1:¬c=m2:=by omega
   rw[<-hK3];simp[e1,t2 c (by omega)]
  clear hK3;have a3:∀c,c<m->c≠n->K3.get c=K.get c:=λ c h1 h2=>(g3 c (by omega)).trans (k2 c h1 h2);have nq:∀c,c<=n->blk v≠some c:=λ c hc h=>by have:=hb c h;omega
  have o3:au K3 (m2+1) v (bG (ba (l.take i))) i 1:=ho.frame (by omega) λ c hc=>a3 c (ho.bg hc) (λ e=>nq c (by omega) hc);refine au.rQ (k:=1) (new:=[aF (gf [] l[i])]) o3 (aR x3) (by simp) (by simp) (by omega) (by omega) (by unfold big;omega) (by omega) (by simp[r1.2.2]) λ K4 o4 g4=>?_;simp[ael,f15,aC i (by omega)];refine⟨l.length - (i+1),by omega,i+1,by omega,by omega,by simp[f0],by simp[f3],by simp[f13],by simp[f14],by simp,by omega,?_,by omega,?_,λ c h1=>?_,λ c hc=>?_⟩
  ·rw[EW hlt];simpa[bG]using o4
  ·rw[EY hlt];exact(g4 n (by omega) (nq n (by omega))).trans ((g3 n (by omega)).trans q2)
  ·exact(g4 c (by omega) (nq c (by omega))).trans ((a3 c (by omega) (by omega)).trans (kf c h1))
  exact(g4 c (by omega) (λ h=>by have:=ho.bg h;omega)).trans (t3 c (by omega))
 obtain rfl:i=l.length:=by omega
 rw[take_length]at ho kq;simp[Om,f15,f14];exact hQ v _ K m (by simp[f0]) (by simp[f3]) (by simp[f4]) hm ho hb kq kf tp
end Go.Abs
