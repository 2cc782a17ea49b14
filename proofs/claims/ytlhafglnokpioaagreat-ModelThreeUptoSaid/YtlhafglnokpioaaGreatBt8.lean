/- A part. -/
import Derived.Test.YtlhafglnokpioaaGreatBt7
noncomputable section
namespace Go.Abs
open List
open Go.Proofs
open Classical
set_option maxRecDepth 100000
section
variable {rv:AV}{row:List Val}
theorem apy (hr:jy rv row)(v:Val)(t m:List Nat)(cD:Int)(args:List Ex):aj pG 218 [(Ex.mk 1 v t m cD args).av,rv] (cT (v,0)):=by
 refine gf c218 (by simp[hr.pure]) (by simp[cT]) (by simp[A218]) λ F hF=>?_;simp[A218,hF,Ex.av,Ex.cells];exact fp
theorem apz (hr:jy rv row)(v:Val)(t m:List Nat)(cD:Nat)(hc:cD<row.length)(args:List Ex):aj pG 218 [(Ex.mk 3 v t m (cD:Int) args).av,rv] (cT (row[cD],0)):=by
 refine gf c218 (by simp[hr.pure]) (by simp[cT]) (by simp[A218]) λ F hF=>?_;obtain⟨o1,o2⟩:=hr.one;have hi:=hr.ix hc (k:=.i64);simp[A218,hF,Ex.av,Ex.cells,hi,gw,Val.av];exact fp
theorem apx (hr:jy rv row)(op:Int)(v:Val)(t m:List Nat)(cD:Int)(a:Ex)(h:4<=op/\op<=7){ra:Val×Int}(hc:aj pG 218 [a.av,rv] (cT ra)):aj pG 218 [(Ex.mk op v t m cD [a]).av,rv] (cT (if ra.2≠0 then (fq,ra.2)else Vu op ra.1)):=by
 refine gf c218 (by simp[hr.pure]) (by simp[cT]) (by simp[A218]) λ F hF=>?_;obtain⟨o1,o2⟩:=hr.one;have h8:bW 8 (.ds (Ex.aK [a]) 1 8) (zI 0)=.val (.dp (a.cells++Ex.aK [])):=nV (l:=[a]) (i:=0) ai;simp[A218,hF,Ex.av,Ex.cells,show ¬op=1 by omega,show ¬op=3 by omega];refine aF.XO 1 (eT.step ?_);simp[Om,h8,hF];refine aB.pure hc ?_;simp[cT,Val.av,FA]
 by_cases he:ra.2=0
 ·simp[he,Fz,HF];simp[Fv];refine eT.step ?_;simp;have e:op=4∨op=5∨op=6∨op=7:=ah
  rcases e with rfl|rfl|rfl|rfl
  ·have:=amV ra.1;simp only[cT,Val.av]at this;simp[qX,qW,RQ,HF];refine aB.pure this ?_;simp;exact fp
  ·have:=amU ra.1;simp only[cT,Val.av]at this;simp[qX,qW,uh,RP,HF];refine aB.pure this ?_;simp;exact fp
  ·have:=xu (decide (ra.1.kind=0));simp only[Val.av]at this;simp[qX,qW,uh,wV,RN,HF];refine aB.pure this ?_;simp;exact fp
  have:=xu (!decide (ra.1.kind=0));simp only[Val.av]at this;simp[qX,qW,uh,wV,Ft,RL,HF];refine aB.pure this ?_;simp;have hu:Vu 7 ra.1=(dx (!decide (ra.1.kind=0)),0):=by simp[Vu]
  rw[hu];exact fp
 simp[he,wW];exact fp
theorem apw (hr:jy rv row) (op:Int) (v:Val) (t m:List Nat) (cD:Int) (a b:Ex) (h:8<=op/\op<=21){ra rb:Val×Int}(hc:aj pG 218 [a.av,rv] (cT ra)) (hc2:ra.2=0->aj pG 218 [b.av,rv] (cT rb)):
  aj pG 218 [(Ex.mk op v t m cD [a,b]).av,rv] (cT (if ra.2≠0 then (fq,ra.2)else if rb.2≠0 then (fq,rb.2)else biS op ra.1 rb.1)):=by
 refine gf c218 (by simp[hr.pure]) (by simp[cT]) (by simp[A218]) λ F hF=>?_;obtain⟨o1,o2⟩:=hr.one;have h8:bW 8 (.ds (Ex.aK [a,b]) 2 8) (zI 0)=.val (.dp (a.cells++Ex.aK [b])):=nV (l:=[a,b]) (i:=0) ai;have h9:bW 8 (.ds (Ex.aK [a,b]) 2 8) (zI 1)=.val (.dp (b.cells++Ex.aK [])):=nV (l:=[a,b]) (i:=1) ai;obtain⟨k,hk,rfl⟩:∃k:Nat,k<14/\op=((8+k:Nat):Int):=⟨(op - 8).toNat,ah,ah⟩;obtain⟨hb,hi⟩:=ash k hk ra.1 rb.1;have hop:((8+k:Nat):Int) - 8=(k:Int):=ah;generalize hr':biS ((8+k:Nat):Int) ra.1 rb.1=r at hb ⊢;generalize ((8+k:Nat):Int)=op at hr' hop hF h ⊢;simp[A218,hF,Ex.av,Ex.cells,show ¬op=1 by omega,show ¬op=3 by omega];refine aF.XO 2 (eT.step ?_);simp[Om,h8,hF];refine aB.pure hc ?_;simp[cT,Val.av,FA]
 by_cases he:ra.2=0
 ·simp[he,Fz,HF,Fv];refine eT.step ?_;simp[h9,hF];refine aB.pure (hc2 he) ?_;simp[cT,Val.av]
  by_cases hf:rb.2=0
  ·simp[hf,HF];refine eT.step ?_;simp[qX,qW,uh,wV,Ft,show ¬op=4 by omega,show ¬op=5 by omega,show ¬op=6 by omega,show ¬op=7 by omega];simp only[RJ,cT,Val.av]at hb ⊢;refine bF.of (dX (l:=[(274,[],λ H n=>.mk (.agg YN 14) H n),(309+k,[.agg [zI ra.1.kind,zI ra.1.num,.str ra.1.s] 3,.agg [zI rb.1.kind,zI rb.1.num,.str rb.1.s] 3],λ H n=>.mk (.br [.agg [zI r.1.kind,zI r.1.num,.str r.1.s] 3,zI r.2]) H n)]) ?_) ?_
   ·intro y hy;simp only[mem_cons,not_mem_nil,or_false]at hy
    rcases hy with rfl|rfl
    ·exact cy Zj
    exact cy hb
   have hx:Zk 14 1 false (.agg YN 14) (zI (k:Int))=.val (.fn (.func (309+k)) [] []):=by
    have e:k=0∨k=1∨k=2∨k=3∨k=4∨k=5∨k=6∨k=7∨k=8∨k=9∨k=10∨k=11∨k=12∨k=13:=ah
    rcases e with rfl|rfl|rfl|rfl|rfl|rfl|rfl|rfl|rfl|rfl|rfl|rfl|rfl|rfl<;>rfl
   simp[ae,bY,sP,hop,hx,HF,show IntKind.i64.wrap (k:Int)=k from dY _ ah ah];exact fp
  simp[hf,wW];exact fp
 simp[he,wW];exact fp
theorem JI (hr:jy rv row):∀(N:Nat) (e:Ex),e.sz<=N->N<=aU->e.Aj (row.length:Int)=true->aj pG 218 [e.av,rv] (cT (e.ev row))
 |0,e,h,_,_=>by have:=Ex.kQ e;omega
 |N + 1,.mk op v t m cD args,ha,hN,hk=>by
  simp only[Ex.sz]at ha;simp only[Ex.Aj,dU,Bool.not_eq_true',Bool.or_eq_false_iff,Bool.and_eq_false_iff,decide_eq_true_eq,decide_eq_false_iff_not,Bool.not_eq_false']at hk;obtain⟨hl,⟨_,h3⟩,hL⟩:=hk;have hal:=Ex.Dx hL;unfold Ex.ev
  by_cases o1:op=1
  ·subst o1;rw[ay rfl];exact apy hr v t m cD args
  by_cases o3:op=3
  ·subst o3;rw[ak o1,ay rfl]
   obtain⟨c,hc,rfl⟩:∃c:Nat,c<row.length/\cD=(c:Int):=by
    rcases h3 with h|h
    ·exact aw rfl h
    exact⟨cD.toNat,ah,ah⟩
   have e:row.getD (c:Int).toNat fq=row[c]:=by simp[getD,hc]
   rw[e];exact apz hr v t m c hc args
  rw[ak o1,ak o3];have hsz:∀x∈args,aj pG 218 [x.av,rv] (cT (x.ev row)):=λ x hx=>JI hr N x (by have:=Ex.rI hx;omega) ah (hal x hx);unfold uG at hl;rw[ak ah]at hl
  by_cases h4:4<=op/\op<=7
  ·rw[ay h4]at hl
   match args,hl,hsz with
   |[a],_,hsz =>
    have:=apx hr op v t m cD a h4 (hsz a ai)
    by_cases he:(a.ev row).2=0
    ·simpa[Ex.BN,he,XE,h4.2]using this
    simpa[Ex.BN,he]using this
   |[],hl,_=>simp at hl
   |_::_::_,hl,_=>simp at hl;omega
  rw[ak h4]at hl
  by_cases h8:8<=op/\op<=21
  ·rw[ay h8]at hl
   match args,hl,hsz with
   |[a,b],_,hsz =>
    have:=apw hr op v t m cD a b h8 (hsz a ai) (λ _=>hsz b ai)
    by_cases he:(a.ev row).2=0
    ·by_cases hf:(b.ev row).2=0
     ·simpa[Ex.BN,he,hf,XE,show ¬op<=7 by omega]using this
     simpa[Ex.BN,he,hf]using this
    simpa[Ex.BN,he]using this
   |[],hl,_=>simp at hl
   |[_],hl,_=>simp at hl
   |_::_::_::_,hl,_=>simp at hl;omega
  rw[ak h8]at hl;omega
def mW (row:List Val)(e:Ex):Val×Int:=if e.Aj (row.length:Int)=true then (if row.all Val.may=true then e.ev row else (fq,5))else (fq,1)
theorem agH (hr:jy rv row)(e:Ex)(h:e.sz<=aU):aj pG 212 [e.av,rv] (cT (mW row e)):=by
 have hk:=GZ e row.length h;have hw:=GK hr;have ho:=JI hr aU e h (aL _);obtain⟨o1,o2⟩:=hr.one;have hlen:=hr.len;refine gf c212 (by simp[hr.pure]) (by simp[cT]) (by simp[A212]) λ F hF=>?_;simp[A212,hF,hlen];refine aB.pure hk ?_;unfold mW;generalize row.all Val.may=z at hw ⊢
 cases hm:e.Aj (row.length:Int)with
 |false=>simp[acF,cT,fq,Val.av];exact fp
 |true =>
  simp[acE,hF];refine aB.pure hw ?_
  cases z with
  |false=>simp[acD,cT,fq,Val.av];exact fp
  |true =>
   simp[acC,hF];refine aB.pure (ho hm) ?_;generalize e.ev row=r;simp[cT,Val.av];exact fp
end
end Go.Abs
namespace Go.Abs
open List
open Go.Proofs
open Classical
set_option maxRecDepth 100000
def holdL (row:List Val):List Ex->Bool×Int
 |[]=>(true,0)
 |e::r=>if (e.ev row).2≠0 then (false,(e.ev row).2)else if (e.ev row).1.kind≠0/\(e.ev row).1.kind≠3 then (false,30)else if (e.ev row).1≠dx true then (false,0)else holdL row r
def bL (row:List Val)(l:List Ex):Bool×Int:=if Ex.Jd (row.length:Int) l=true then (if row.all Val.may=true then holdL row l else (false,5))else (false,1)
def afS (r:Bool×Int):AV:=.br [.bool r.1,zI r.2]
theorem J9 {row:List Val}{l:List Ex}{i:Nat}(h:i<l.length):holdL row (l.drop i)=if (l[i].ev row).2≠0 then (false,(l[i].ev row).2)else if (l[i].ev row).1.kind≠0/\(l[i].ev row).1.kind≠3 then (false,30)else if (l[i].ev row).1≠dx true then (false,0)else holdL row (l.drop (i+1)):=by
 rw[gu h,holdL]
theorem YZ (b:Bool)(v u:Val):mY b [.i,.i,.s] (.agg [zI v.kind,zI v.num,.str v.s] 3) u.av=.val (.bool (b != decide (v=u))):=by
 have:=Ec b v u
 by_cases h:v=u
 ·simp[h,Val.av]
 simpa[h,Val.av]using this
section
variable {rv:AV}{row:List Val}
theorem Ja (hr:jy rv row) (l:List Ex) (hl:l.length<=aU) (hs:∀e∈l,e.sz<=aU):aj pG 150 [jc.ds l,rv] (afS (bL row l)):=by
 have hw:=GK hr;obtain⟨o1,o2⟩:=hr.one;have hlen:=hr.len;have hll:=jc.aT l;refine gf c150 (by simp[hr.pure]) (by simp[afS]) (by simp[A150]) λ F hF=>?_;simp[A150,hF,hll];unfold bL;generalize row.all Val.may=z at hw ⊢;refine aF.of (λ t F K n ms=>∃i,t=l.length - i/\i<=l.length/\(∀j (h:j<l.length),j<i->l[j].Aj (row.length:Int)=true)/\F.get 0=some (jc.ds l)/\F.get 1=some rv/\F.get 12=some (jc.ds l)/\F.get 13=some (zI (l.length:Int))/\F.get 14=some (zI (i:Int))/\ms=[]) l.length ⟨0,ah,ah,λ j _ h=>ah,by simp[hF],by simp[hF],ai,ai,ai,rfl⟩ ?_;rintro t F' K n ms ⟨i,rfl,hi,hok,f0,f1,f12,f13,f14,rfl⟩
 by_cases hlt:i<l.length
 ·have hx:=jc.ix (ik:=.i64) hlt;have hsx:=hs _ (dy hlt);have hrt:=GZ l[i] row.length hsx;have hav:jc.av l[i]=l[i].av:=rfl;simp[OB,f14,f13,hlt,f12,hx,jc.pT,hav,f1,hlen];refine aB.pure hrt ?_
  cases hk:l[i].Aj (row.length:Int)with
  |false =>
   have:Ex.Jd (row.length:Int) l=false:=by
    cases hz:Ex.Jd (row.length:Int) l with
    |false=>rfl
    |true=>rw[Ex.Dx hz _ (dy hlt)]at hk;cases hk
   simp[this,adi];exact fp
  |true =>
   simp[adh,f14,aE i (by unfold aU at *;omega)];refine⟨l.length - (i+1),ah,i+1,ah,ah,λ j h hj=>?_,by simp[f0],by simp[f1],by simp[f12],by simp[f13],ai⟩
   by_cases e:j=i
   ·subst e;exact hk
   exact hok j h ah
 have hall : Ex.Jd (row.length:Int) l=true:=by
  have:∀(l:List Ex),(∀e∈l,e.Aj (row.length:Int)=true)->Ex.Jd (row.length:Int) l=true:=by
   intro l
   induction l with
   |nil=>intro _;rfl
   |cons e r ih=>intro h;simp[Ex.Jd,h e ai,ih λ x hx=>h x (by simp[hx])]
  refine this l λ e he=>?_;obtain⟨j,hj,rfl⟩:=getElem_of_mem he;exact hok j hj ah
 simp[OB,f14,f13,hlt,hall,adg,f1];refine aB.pure hw ?_
 cases z with
 |false=>simp[adf];exact fp
 |true =>
  simp[ade,f0,hll];have hev:∀x∈l,aj pG 218 [x.av,rv] (cT (x.ev row)):=λ x hx=>JI hr aU x (hs x hx) (aL _) (Ex.Dx hall x hx);refine aF.of (λ t F K n ms=>∃i,t=l.length - i/\i<=l.length/\holdL row l=holdL row (l.drop i)/\F.get 1=some rv/\F.get 27=some (jc.ds l)/\F.get 28=some (zI (l.length:Int))/\F.get 29=some (zI (i:Int))/\ms=[]) l.length ⟨0,ah,ah,rfl,by simp[f1],ai,ai,ai,rfl⟩ ?_;clear f0 f12 f13 f14 f1 hi hok hlt;rintro t F' K n ms ⟨i,rfl,hi,hd,f1,f27,f28,f29,rfl⟩
  by_cases hlt:i<l.length
  ·have hx := jc.ix (ik:=.i64) hlt;have hav:jc.av l[i]=l[i].av:=rfl;have hv:=hev _ (dy hlt);rw[hd,J9 hlt];generalize hre:l[i].ev row=re at hv ⊢;simp[OA,f29,f28,hlt,f27,hx,jc.pT,hav,f1];refine aB.pure hv ?_;have ht:=xu true;simp[cT,Val.av,SZ]
   by_cases he:re.2=0
   ·simp[he,SX]
    by_cases hk:re.1.kind=0∨re.1.kind=3
    ·have hkk:¬(re.1.kind≠0/\re.1.kind≠3):=ah;have ey:=YZ true re.1 (dx true);have yv:(dx true).av=.agg [zI (dx true).kind,zI (dx true).num,.str (dx true).s] 3:=rfl;have cond:(if re.1.kind=0 then false else !decide (re.1.kind=3))=false:=by rcases hk with h|h<;>simp[h]
     rcases hk with h0|h3
     ·have hne:¬re.1=dx true:=by intro e;rw[e]at h0;simp[dx]at h0
      simp[h0,FP];refine bF.of (dX (l:=[(219,[.bool true],λ H n=>.mk (dx true).av H n)]) ?_) ?_
      ·simp only[mc];rintro y rfl;exact cy ht
      rw[h0]at ey;simp[ae,bY,ey,hne,FO];exact fp
     simp[h3,FP];refine bF.of (dX (l:=[(219,[.bool true],λ H n=>.mk (dx true).av H n)]) ?_) ?_
     ·simp only[mc];rintro y rfl;exact cy ht
     rw[h3]at ey;simp[ae,bY,ey];refine zY.ofB (λ hz=>?_) (λ hz=>?_)
     ·have hne:¬re.1=dx true:=by simpa using hz
      simp[FO,hne];exact fp
     have hne:re.1=dx true:=by simpa using hz
     simp[SU,ae,f29,aE i (by unfold aU at *;omega)];exact⟨l.length - (i+1),ah,i+1,ah,ah,by rw[ay hne],by simp[f1],by simp[f27],by simp[f28],ai⟩
    have h1:¬re.1.kind=0:=λ e=>hk (.inl e);have h3:¬re.1.kind=3:=λ e=>hk (.inr e);simp[h1,h3,SV];exact fp
   simp[he,SY];exact fp
  obtain rfl:i=l.length:=ah;simp[OA,f29,f28,SS,hd,holdL];exact fp
end
end Go.Abs
namespace Go.Abs
open List
open Go.Proofs
open Classical
set_option maxRecDepth 100000
section
variable {P:Program}
theorem ayq.of {g:FuncId}{args l:List AV}{T I:AV}{len sz:Nat}(hp:aS args) (hl:aS l) (hT:Pure T) (hI:Pure I) (h:ao P g args .nil 0 (λ v H' n'=>∃b k,v=.agg [T,I,.sl b 0 len sz] 3/\b<n'/\H'.get b=some k/\OwnB k l/\l.length=len*sz)):
  ∀(H:Hp) (n:Nat),bC P g args H n (.agg [T,I,.sl n 0 len sz] 3) (H.put n (some (.cells (len*sz) [] l .nil))) (n+1):=by
 intro H n;refine⟨h.1,Nat.le_succ n,λ φ D w xs hr hv hf R hR=>?_⟩;refine h.2 lF D w xs (tw hr.eQ) (hp.vW hv) (λ _ _=>rfl) R λ v H' n' φ' D' w' x ho e r hx=>?_;obtain⟨b,k,rfl,hb,hk,ho,hlen⟩:=ho
 cases hx with
 |agg _ _ _ hx _ =>
 cases hx with
 |cons _ y1 _ _ hT2 hx =>
 cases hx with
 |cons _ y2 _ _ hI2 hx =>
 cases hx with
 |cons _ x3 _ _ hx hn0 =>
 cases hn0
 cases hx with
 |sl _ _ _ _ cb co cz cap ad hp' hle had =>
 have hn:φ n=none:=hf n (aL _) ah;have hm:=Ph.gG (p:=(cb,co,cz)) hn;have hlive:=r.block hk hp'
 have hcb:w.heap.size<=cb:=by
  rcases e.live b _ (by rw[hk];simp) hp' with h|⟨b0,p0,hh,_⟩
  ·exact h
  simp at hh
 have hdn:∀c,D' c≠none->D c≠none∨w.heap.size<=c:=by
  intro c hc
  rcases e.kD c hc with h|h|⟨b0,p0,hh,_⟩
  ·exact .inl h
  ·exact .inr h
  simp at hh
 have hold:∀c p,H.get c≠none->φ c=some p->p.1<w.heap.size:=by
  intro c p hc hp
  cases hx:H.get c with
  |none=>exact aw hx hc
  |some k=>exact(hr.block hx hp).1
 have hhn:H.get n=none:=by
  cases hx:H.get n with
  |none=>rfl
  |some k=>obtain⟨p,hp,_⟩:=hr.blk n k hx;rw[hn]at hp;cases hp
 refine hR (φ.set n (cb,co,cz)) D' w' _ ⟨Nat.le_succ n,hm,?_,e.eQ,e.size,λ c hc _=>e.keep c hc λ b p hb=>by simp at hb,?_,λ c hc=>(hdn c hc).elim .inl λ h=>.inr (.inl h),?_,e.os,e.out⟩ ⟨?_,?_,?_,r.eQ⟩ ?_
 ·intro c h0 h1;unfold Ph.set at h1
  by_cases hc:c=n
  ·omega
  simp[hc,h0]at h1
 ·intro c p hc hp;rw[Tr.get_put]at hc;unfold Ph.set at hp
  by_cases hcn:c=n
  ·subst hcn;simp at hp;subst hp;exact .inl hcb
  simp[hcn]at hc hp;exact .inr ⟨c,p,hc,hp,rfl⟩
 ·intro c hc;rw[Tr.get_put]at hc
  by_cases hcn:c=n
  ·exact .inr ah
  simp[hcn]at hc;exact .inl hc
 ·intro c kk hc;rw[Tr.get_put]at hc
  by_cases hcn:c=n
  ·subst hcn;simp at hc;subst hc;refine⟨(cb,co,cz),by simp[Ph.set],hlive.1,?_⟩;obtain⟨u,z,bs,t,rfl,hu,hg,hi⟩:=ho;obtain⟨cc,ee,fr,q1,q2,q3,q4,q5,q6⟩:=hlive.2;refine⟨cc,ee,fr,q1,q2,q3,λ i v hv=>?_,λ _ _=>hlen,ah⟩;rw[jr]at hv
   split at hv
   ·have:=hg i;rw[hv]at this;obtain⟨y,hy,hvy⟩:=q4 i v this;exact⟨y,hy,(hl.mem v (mem_of_getElem? hv)).out hvy⟩
   cases hv
  rw[ak hcn]at hc;obtain⟨p,hp,hlt,hbk⟩:=hr.blk c kk hc;exact⟨p,hm _ _ hp,Nat.lt_of_lt_of_le hlt e.size,hbk.mono hm e.eQ (e.keep _ hlt λ b p hb=>by simp at hb)⟩
 ·intro c d p q hc hd hp hq hpq;rw[Tr.get_put]at hc hd;unfold Ph.set at hp hq
  by_cases h1:c=n<;>by_cases h2:d=n<;>simp[h1,h2]at hc hd hp hq ⊢
  ·have:=hold d q hd hq;rw[<-hp]at hpq;simp at hpq;omega
  ·have:=hold c p hc hp;rw[<-hq]at hpq;simp at hpq;omega
  exact hr.inj c d p q hc hd hp hq hpq
 ·intro c p hc hp;rw[Tr.get_put]at hc;unfold Ph.set at hp
  by_cases h1:c=n
  ·subst h1;simp at hp;subst hp;exact r.sep b (cb,co,cz) (by rw[hk];simp) hp'
  simp[h1]at hc hp
  cases hD:D' p.1 with
  |none=>rfl
  |some x =>
   rcases hdn p.1 (by rw[hD];simp)with h|h
   ·exact aw (hr.sep c p hc hp) h
   have:=hold c p hc hp;omega
 exact .agg _ _ _ (.cons _ _ _ _ (hT.out hT2) (.cons _ _ _ _ (hI.out hI2) (.cons _ _ _ _ (.sl _ _ _ _ cb co cz cap ad (by simp[Ph.set]) hle had) .nil))) rfl
end
end Go.Abs
namespace Go.Abs
open List
open Go.Proofs
open Classical
set_option maxRecDepth 100000
def dR (L:List (List Val)):AV:=if L=[]then .ds [] 0 0 else .ds (aQ L) L.length 1
@[simp] theorem anl (L:List (List Val)):Pure (dR L):=by
 unfold dR
 by_cases h:L=[]
 ·simp[h]
 simp[h]
def dQ (L:List (List Val)):Prop:=L.Pairwise λ a b=>dP a b<=0
def oV (L:List (List Val)):List (List Val):=if h:∃L':List (List Val),L'.Perm L/\dQ L' then Classical.choose h else L
theorem VS {L L':List (List Val)}(hp:L'.Perm L)(hs:dQ L'):(oV L).Perm L/\dQ (oV L):=by
 have h:∃L':List (List Val),L'.Perm L/\dQ L':=⟨L',hp,hs⟩;unfold oV;rw[dif_pos h];exact Classical.choose_spec h
theorem C6 {L L':List (List Val)}(hm:∀r∈L,iI r)(hp:L'.Perm L)(hs:dQ L'):L'=oV L:=by
 obtain⟨h1,h2⟩:=VS hp hs;exact Jw (hp.trans h1.symm) (λ r hr=>hm r (hp.mem_iff.1 hr)) hs h2
theorem aoQ (h:Hf)(b o sz:Nat):FJ h (.sl b o 0 sz) (.ds [] 0 0):=by
 intro φ D w x _ hx
 cases hx with
 |sl _ _ _ _ cb co cz cap ad=>exact .pY _ _ _
theorem Yr {r:List Val}(hr:iI r):∀ {L:List (List Val)},(∀x∈L,iI x)->dQ L->∃M:List (List Val),M.Perm (r::L)/\dQ M
 |[],_,_=>⟨[r],.refl _,by simp[dQ]⟩
 |x :: L,hm,hs=>by
  have hx:=hm x ai;have hL:∀y∈L,iI y:=λ y hy=>hm y (by simp[hy]);simp only[dQ,pairwise_cons]at hs
  by_cases h:dP r x<=0
  ·refine⟨r::x::L,.refl _,?_⟩;simp only[dQ,pairwise_cons,mem_cons];refine⟨?_,hs⟩;rintro y (rfl|hy)
   ·exact h
   exact kT hr hx (hL y hy) h (hs.1 y hy)
  obtain⟨M,hp,hM⟩:=Yr hr hL hs.2;refine⟨x::M,(hp.cons x).trans (.swap _ _ _),?_⟩;simp only[dQ,pairwise_cons];refine⟨λ y hy=>?_,hM⟩
  rcases mem_cons.1 (hp.mem_iff.1 hy)with rfl|hy
  ·have:=jD hr hx;omega
  exact hs.1 y hy
theorem OP:∀ {L:List (List Val)},(∀x∈L,iI x)->∃M:List (List Val),M.Perm L/\dQ M
 |[],_=>⟨[],.refl _,by simp[dQ]⟩
 |r::L,hm=>by
  obtain⟨M,hp,hs⟩:=OP (L:=L) λ x hx=>hm x (by simp[hx]);obtain⟨N,hq,ht⟩:=Yr (hm r ai) (λ x hx=>hm x (by simp[hp.mem_iff.1 hx])) hs;exact⟨N,hq.trans (hp.cons r),ht⟩
theorem ajQ {L:List (List Val)}(hm:∀r∈L,iI r):(oV L).Perm L/\dQ (oV L):=by
 obtain⟨M,hp,hs⟩:=OP hm;exact VS hp hs
abbrev nS:AV:=.aV (.slice none 0 0)
structure OwF (w:qf)(F:Fr):Prop where
 f1:F.get 1=some (.ptr 0 0)
 f2:F.get 2=some (.ptr 1 0)
 f3:F.get 3=some (.ptr 2 0)
structure OwM (w:qf)(i j:Nat)(vt vi vr:AV)(K:Hp)(m:Nat):Prop where
 hm:3<=m
 tp:dm K m
 k0:K.get 0=aN 3 (mX.cells w)
 k1:K.get 1=aN 3 [nS,nS,nS]
 k2:K.get 2=aN 3 [vt,vi,vr]
 ot:aD K m vt (aM.l (w.aY.tables.take i)) i 4
 oi:aD K m vi (bw.l (w.aY.indexes.take j)) j 6
 ow:aD K m vr ((w.rows.take i).map dR) i 1
 dt:∀c,blk vt=some c->3<=c
 di:∀c,blk vi=some c->3<=c/\blk vt≠some c/\blk vr≠some c
 dr:∀c,blk vr=some c->3<=c/\blk vt≠some c
 wz:i=0->vr=nS
theorem akj (w:qf)(hs:w.aY.gA)(hl:w.rows.length=w.aY.tables.length)(hS:∀L∈w.rows,aj pG 58 [dB L] (dR L))(F:Fr)(K:Hp)(m:Nat)(Q:QA)(hF:OwF w F)(f10:F.get 10=some (aM.ds w.aY.tables))(f11:F.get 11=some (zI (w.aY.tables.length:Int)))(f12:F.get 12=some (zI 0))(M:OwM w 0 0 nS nS nS K m)
  (hQ:∀vt vr F K m,OwF w F->OwM w w.aY.tables.length 0 vt nS vr K m->Q .normal F K m []):aF TD pG F K m [] (ig 0 Q):=by
 have ht:=hs.t;unfold aU at ht;refine aF.of (λ q F K m ms=>∃(i:Nat) (vt vr:AV),q=w.aY.tables.length - i/\i<=w.aY.tables.length/\OwF w F/\F.get 10=some (aM.ds w.aY.tables)/\F.get 11=some (zI (w.aY.tables.length:Int))/\F.get 12=some (zI (i:Int))/\OwM w i 0 vt nS vr K m/\ms=[]) w.aY.tables.length ⟨0,_,_,ai,ai,hF,f10,f11,f12,M,rfl⟩ ?_;clear hF f10 f11 f12 M F K m;rintro q1 F K m ms ⟨i,vt,vr,rfl,hi,⟨f1,f2,f3⟩,f10,f11,f12,M,rfl⟩;have k0:=M.k0;rw[uQ]at k0
 by_cases hlt:i<w.aY.tables.length
 ·have hxx:=aM.ix (ik:=.i64) hlt;have hld:=λ H=>aM.pT w.aY.tables[i] (aM.l (w.aY.tables.drop (i+1))) H;have htc:=hs.tc _ (dy hlt);unfold aU at htc;have hir:i<w.rows.length:=ah;have hxr:=iO.ix (ik:=.i64) hir;have hxs:=hS _ (dy hir);have hm:=M.hm;have tp:=M.tp;simp[TD,f10,f11,f12,hlt,hxx,hld,bf.av];generalize hK1:Tr.put (Tr.put K m _) m _=K1;have g1:∀c,c<m->K1.get c=K.get c:=λ c hc=>by rw[<-hK1];simp[jz hc]
  have x1:K1.get m=aN 4 (aM.cells w.aY.tables[i]):=by rw[<-hK1];simp
  have t1:dm K1 (m+1):=λ c hc=>by
   have e1:¬c=m:=ah;rw[<-hK1];simp[e1,tp c ah]
  clear hK1;rw[fc]at x1;simp[aiY,x1];refine aB.pure (P' w.aY.tables[i].cols (by unfold aU;omega)) ?_;have k21:=(g1 2 ah).trans M.k2;have hto:=M.ot.fS;have hwo:=M.ow.fS;have hta:=λ c h=>M.ot.db (c:=c) h;have hwa:=λ c h=>M.ow.db (c:=c) h;simp[x1,aiX,f3,show ¬ 2=m by omega,k21];generalize hK3:Tr.put (Tr.put K1 m _) (m+1) _=K3;have g3:∀c,c<m->K3.get c=K1.get c:=λ c hc=>by rw[<-hK3];simp[jz hc]
  have x3:K3.get (m+1)=aN 4 (aM.cells w.aY.tables[i]):=by rw[<-hK3];simp[fc]
  have t3:dm K3 (m+1+1):=λ c hc=>by
   have e1:¬c=m:=ah;have e2:¬c=m+1:=ah;rw[<-hK3];simp[e1,e2,t1 c ah]
  clear hK3;have ot3:aD K3 (m+1+1) vt (aM.l (w.aY.tables.take i)) i 4:=M.ot.frame ah λ c hc=>(g3 c (hta c hc)).trans (g1 c (hta c hc));refine aD.Vf (k:=1) (new:=aM.cells w.aY.tables[i]) ot3 (bu x3) ai ai ah ah (by unfold big;omega) ah ai λ K4 o4 g4=>?_;have k24:=(g4 2 ah λ h=>by have:=M.dt 2 h;omega).trans ((g3 2 ah).trans k21);have k04:=(g4 0 ah λ h=>by have:=M.dt 0 h;omega).trans ((g3 0 ah).trans ((g1 0 ah).trans k0));simp[f3,k24,aiW];generalize hK5:Tr.put K4 2 _=K5;have g5:∀c,c≠2->K5.get c=K4.get c:=λ c hc=>by rw[<-hK5];simp[hc]
  have x5:K5.get 2=aN 3 [.sl (m+1+1) 0 (i+1) 4,nS,vr]:=by rw[<-hK5];simp
  clear hK5
  have t5:dm K5 (m+1+1+1):=λ c hc=>by
   rw[g5 c ah,g4 c ah (λ h=>by have:=hta c h;omega),t3 c ah]
  have k05:=(g5 0 ah).trans k04;have awu:bW 1 (iO.ds w.rows) (zI (i:Int))=.val (.dp (dB w.rows[i]::iO.l (w.rows.drop (i+1)))):=hxr;have a5:∀c,c<m->c≠2->blk vt≠some c->K5.get c=K.get c:=λ c h1 h2 h3=>(g5 c h2).trans ((g4 c ah h3).trans ((g3 c h1).trans (g1 c h1)));refine bF.of (dX (l:=[(58,[dB w.rows[i]],λ H n=>.mk (dR w.rows[i]) H n)]) ?_) ?_
  ·simp only[mc];rintro y rfl;exact cy hxs
  have tdl:(dB w.rows[i]).len=1/\(dB w.rows[i]).cells=[dB w.rows[i]]:=⟨rfl,rfl⟩
  have td:(dR w.rows[i]).len=1/\(dR w.rows[i]).cells=[dR w.rows[i]]/\(dR w.rows[i]).one=true:=by
   unfold dR;split<;>exact⟨rfl,rfl,rfl⟩
  have n5:=t5.none;have ow5:aD K5 (m+1+1+1) vr ((w.rows.take i).map dR) i 1:=M.ow.frame ah λ c hc=>a5 c (hwa c hc) (by have:=M.dr c hc;omega) (M.dr c hc).2;simp[ae,bY,f1,f3,k05,x5,awu,td.1,td.2.1,bX,cS,n5];generalize hK6:Tr.put K5 (m+1+1+1) _=K6;have g6:∀c,c<m+1+1+1->K6.get c=K5.get c:=λ c hc=>by rw[<-hK6];simp[jz hc]
  have x6:K6.get (m+1+1+1)=aN 1 [dR w.rows[i]]:=by rw[<-hK6];simp
  have t6:dm K6 (m+1+1+1+1):=λ c hc=>by
   have e1:¬c=m+1+1+1:=ah;rw[<-hK6];simp[e1,t5 c ah]
  clear hK6;have ow6:aD K6 (m+1+1+1+1) vr ((w.rows.take i).map dR) i 1:=ow5.frame ah λ c hc=>g6 c (ow5.db hc);refine aD.zx (k:=1) (new:=[dR w.rows[i]]) ow6 (bu x6) ai ai ah ah (by unfold big;omega) ah (by simp[td.2.2]) λ K7 o7 g7=>?_;have g7':∀c,c≠m+1+1+1+1->blk vr≠some c->K7.get c=K6.get c:=λ c h1 h2=>g7 c h1 λ e=>h2 (by rw[e];rfl);have nr:∀c,c<3->blk vr≠some c:=λ c h1 h2=>by have:=(M.dr c h2).1;omega
  have x7:=(g7' 2 ah (nr 2 ah)).trans ((g6 2 ah).trans x5)
  have t7:dm K7 (m+1+1+1+1+1):=λ c hc=>by
   rw[g7' c ah (λ h=>by have:=hwa c h;omega),t6 c ah]
  simp[ae,f3,x7,aiV,f12,aE i ah];have b7:∀c,c<m+1+1+1->blk vr≠some c->K7.get c=K5.get c:=λ c h1 h2=>(g7' c ah h2).trans (g6 c h1);have nt:∀c,c<3->blk vt≠some c:=λ c h1 h2=>by have:=M.dt c h2;omega
  refine⟨w.aY.tables.length - (i+1),ah,i+1,rfl,hlt,⟨by simp[ae,f1],by simp[ae,f2],by simp[ae,f3]⟩,by simp[f10],by simp[f11],ai,.sl (m+1+1) 0 (i+1) 4,.sl (m+1+1+1+1) 0 (i+1) 1,⟨ah,λ c hc=>?_,?_,?_,ai,?_,by simpa using aD.nil _ _ 6,?_,λ c hc=>by simp at hc;omega,ai,λ c hc=>by simp at hc;subst hc;simp,λ e=>ah⟩⟩
  ·rw[Tr.get_put,ak ah];exact t7 c hc
  ·rw[Tr.get_put,ak ah];exact(b7 0 ah (nr 0 ah)).trans k05
  ·rw[Tr.get_put,ak ah];exact(b7 1 ah (nr 1 ah)).trans ((a5 1 ah ah (nt 1 ah)).trans M.k1)
  ·rw[take_add_one,cY hlt,Option.toList,bf.fu,bf.tM];refine o4.frame ah λ c hc=>?_;simp at hc;subst hc;rw[Tr.get_put,ak ah];exact(b7 _ ah (λ h=>by have:=hwa _ h;omega)).trans (g5 _ ah)
  rw[take_add_one,cY hir,Option.toList,map_append];refine o7.frame ah λ c hc=>?_;simp at hc;subst hc;rw[Tr.get_put,ak ah]
 obtain rfl:i=w.aY.tables.length:=ah;simp[TD,f11,f12];exact hQ vt vr _ K m ⟨by simp[f1],by simp[f2],by simp[f3]⟩ M
theorem aki (w:qf)(hs:w.aY.gA)(vt vr:AV)(i:Nat)(F:Fr)(K:Hp)(m:Nat)(Q:QA)(hF:OwF w F)(f43:F.get 43=some (bw.ds w.aY.indexes))(f44:F.get 44=some (zI (w.aY.indexes.length:Int)))(f45:F.get 45=some (zI 0))(M:OwM w i 0 vt nS vr K m)
  (hQ:∀vi F K m,OwF w F->OwM w i w.aY.indexes.length vt vi vr K m->Q .normal F K m []):aF TC pG F K m [] (ig 2 Q):=by
 have ht:=hs.i;unfold aU at ht;refine aF.of (λ q F K m ms=>∃(j:Nat) (vi:AV),q=w.aY.indexes.length - j/\j<=w.aY.indexes.length/\OwF w F/\F.get 43=some (bw.ds w.aY.indexes)/\F.get 44=some (zI (w.aY.indexes.length:Int))/\F.get 45=some (zI (j:Int))/\OwM w i j vt vi vr K m/\ms=[]) w.aY.indexes.length ⟨0,_,ai,ai,hF,f43,f44,f45,M,rfl⟩ ?_;clear hF f43 f44 f45 M F K m;rintro q1 F K m ms ⟨j,vi,rfl,hi,⟨f1,f2,f3⟩,f43,f44,f45,M,rfl⟩
 by_cases hlt:j<w.aY.indexes.length
 ·have hxx:=bw.ix (ik:=.i64) hlt;have hld:=λ H=>bw.pT w.aY.indexes[j] (bw.l (w.aY.indexes.drop (j+1))) H;have htc:=hs.ic _ (dy hlt);unfold aU at htc;have hm:=M.hm;have tp:=M.tp;simp[TC,f43,f44,f45,hlt,hxx,hld,bf.av];generalize hK1:Tr.put (Tr.put K m _) m _=K1;have g1:∀c,c<m->K1.get c=K.get c:=λ c hc=>by rw[<-hK1];simp[jz hc]
  have x1:K1.get m=aN 6 (bw.cells w.aY.indexes[j]):=by rw[<-hK1];simp
  have t1:dm K1 (m+1):=λ c hc=>by
   have e1:¬c=m:=ah;rw[<-hK1];simp[e1,tp c ah]
  clear hK1;rw[iQ]at x1;simp[acd,x1];refine aB.pure (P9 w.aY.indexes[j].cols (by unfold aU;omega)) ?_;have k21:=(g1 2 ah).trans M.k2;have hto:=M.ot.fS;have hio:=M.oi.fS;have hwo:=M.ow.fS;have hta:=λ c h=>M.ot.db (c:=c) h;have hia:=λ c h=>M.oi.db (c:=c) h;have hwa:=λ c h=>M.ow.db (c:=c) h;simp[x1,acb,f3,show ¬ 2=m by omega,k21];generalize hK3:Tr.put (Tr.put K1 m _) (m+1) _=K3;have g3:∀c,c<m->K3.get c=K1.get c:=λ c hc=>by rw[<-hK3];simp[jz hc]
  have x3:K3.get (m+1)=aN 6 (bw.cells w.aY.indexes[j]):=by rw[<-hK3];simp[iQ]
  have t3:dm K3 (m+1+1):=λ c hc=>by
   have e1:¬c=m:=ah;have e2:¬c=m+1:=ah;rw[<-hK3];simp[e1,e2,t1 c ah]
  clear hK3;have ot3:aD K3 (m+1+1) vi (bw.l (w.aY.indexes.take j)) j 6:=M.oi.frame ah λ c hc=>(g3 c (hia c hc)).trans (g1 c (hia c hc));refine aD.Vf (k:=1) (new:=bw.cells w.aY.indexes[j]) ot3 (bu x3) ai ai ah ah (by unfold big;omega) ah ai λ K4 o4 g4=>?_;have ni:∀c,c<3->blk vi≠some c:=λ c h1 h2=>by have:=(M.di c h2).1;omega
  have k24:=(g4 2 ah (ni 2 ah)).trans ((g3 2 ah).trans k21);simp[f3,k24,aca,f45,aE j ah];have a4:∀c,c<m->blk vi≠some c->K4.get c=K.get c:=λ c h1 h3=>(g4 c ah h3).trans ((g3 c h1).trans (g1 c h1));refine⟨w.aY.indexes.length - (j+1),ah,j+1,rfl,hlt,⟨by simp[f1],by simp[f2],by simp[f3]⟩,by simp[f43],by simp[f44],ai,.sl (m+1+1) 0 (j+1) 6,⟨ah,λ c hc=>?_,?_,?_,ai,?_,?_,?_,M.dt,λ c hc=>?_,M.dr,M.wz⟩⟩
  ·rw[Tr.get_put,ak ah,g4 c ah (λ h=>by have:=hia c h;omega),t3 c ah]
  ·rw[Tr.get_put,ak ah,a4 0 ah (ni 0 ah)];exact M.k0
  ·rw[Tr.get_put,ak ah,a4 1 ah (ni 1 ah)];exact M.k1
  ·refine M.ot.frame ah λ c hc=>?_;have h1:=hta c hc;have h2:=M.dt c hc;rw[Tr.get_put,ak ah];exact a4 c h1 λ h=>(M.di c h).2.1 hc
  ·rw[take_add_one,cY hlt,Option.toList,bf.fu,bf.tM];refine o4.frame ah λ c hc=>?_;simp at hc;subst hc;rw[Tr.get_put,ak ah]
  ·refine M.ow.frame ah λ c hc=>?_;have h1:=hwa c hc;have h2:=(M.dr c hc).1;rw[Tr.get_put,ak ah];exact a4 c h1 λ h=>(M.di c h).2.2 hc
  simp at hc;subst hc;exact⟨ah,λ h=>by have:=hta _ h;omega,λ h=>by have:=hwa _ h;omega⟩
 obtain rfl:j=w.aY.indexes.length:=ah;simp[TC,f44,f45];exact hQ vi _ K m ⟨by simp[f1],by simp[f2],by simp[f3]⟩ M
theorem FJ.agg {h:Hf}{l l':List AV}(n:Nat)(f:FJL h l l'):FJ h (.agg l n) (.agg l' n):=by
 intro φ D w x hr hx
 cases hx with
 |agg _ xs _ h1 h2 =>
  refine .agg _ _ _ ?_ (by rw[f.length];exact h2);clear h2
  induction f generalizing xs with
  |nil=>cases h1;exact .nil
  |cons v v' vs vs' a b ih =>
   cases h1 with
   |cons _ y _ ys h3 h4=>exact .cons _ _ _ _ (a φ D w y hr h3) (ih ys h4)
theorem Xz (w:qf)(hs:w.aY.gA)(hl:w.rows.length=w.aY.tables.length)(hS:∀L∈w.rows,aj pG 58 [dB L] (dR L)):
  ao pG 24 [mX.av w] .nil 0 (λ v K n=>∃vt vi vr,v=.agg [vt,vi,vr] 3/\aD K n vt (aM.l w.aY.tables) w.aY.tables.length 4/\aD K n vi (bw.l w.aY.indexes) w.aY.indexes.length 6/\aD K n vr (w.rows.map dR) w.rows.length 1/\(∀c,blk vr=some c->blk vt≠some c/\blk vi≠some c)/\(w.rows=[]->vr=nS)):=by
 refine ao.of c24 (by simp[A24]) λ F hF=>?_;simp[A24,hF,bf.av,uQ,bf.aT];refine akj w hs hl hS _ _ _ _ ⟨ai,ai,ai⟩ ai ai ai ⟨ah,λ c hc=>by simp[show ¬c=0 by omega,show ¬c=1 by omega,show ¬c=2 by omega],by simp[uQ],ai,ai,by simpa using aD.nil _ _ 4,by simpa using aD.nil _ _ 6,by simpa using aD.nil _ _ 1,ai,ai,ai,λ _=>rfl⟩ λ vt vr F K m ⟨f1,f2,f3⟩ M=>?_;have k0:=M.k0;rw[uQ]at k0;simp[aiU,f1,k0,bf.aT];refine aki w hs vt vr _ _ _ _ _ ⟨by simp[f1],by simp[f2],by simp[f3]⟩ ai ai ai M λ vi F K m ⟨f1,f2,f3⟩ M=>?_;have k1:=M.k1;have k2:=M.k2;have h1:=M.ot.fS;have h2:=M.oi.fS;have h3:=M.ow.fS;simp[ab',f2,f3,k1,k2,h1,h2,h3];have ot:=M.ot;have oi:=M.oi;have ow:=M.ow;rw[take_length]at ot oi;rw[<-hl,take_length]at ow;refine⟨vt,vi,vr,⟨rfl,rfl,rfl⟩,ot.frame (aL _) λ c hc=>?_,oi.frame (aL _) λ c hc=>?_,ow.frame (aL _) λ c hc=>?_,λ c hc=>⟨(M.dr c hc).2,λ h=>(M.di c h).2.2 hc⟩,λ h=>M.wz (by rw[<-hl,h];rfl)⟩
 ·have:=M.dt c hc;simp[show ¬c=1 by omega]
 ·have:=(M.di c hc).1;simp[show ¬c=1 by omega]
 have:=(M.dr c hc).1;simp[show ¬c=1 by omega]
def tj (n:Nat)(L:List (List (List Val))):AV:=if L=[]then nS else .sl n 0 L.length 1
theorem apn (w:qf)(hs:w.aY.gA)(hl:w.rows.length=w.aY.tables.length)(h0:w.rows≠[])(hS:∀L∈w.rows,aj pG 58 [dB L] (dR L))(H:Hp)(n:Nat):
  bC pG 24 [mX.av w] H n (.agg [aM.ds w.aY.tables,bw.ds w.aY.indexes,.sl n 0 w.rows.length 1] 3) (H.put n (some (.cells (w.rows.length*1) [] (w.rows.map dR) .nil))) (n+1):=by
 refine ayq.of ai (aS.rT λ v hv=>by obtain⟨L,_,rfl⟩:=mem_map.1 hv;simp) ai ai (((Xz w hs hl hS).zs (R2:=λ v K n=>∃b k,v=.agg [aM.ds w.aY.tables,bw.ds w.aY.indexes,.sl b 0 w.rows.length 1] 3/\b<n/\K.get b=some k/\OwnB k (w.rows.map dR)) λ v K n ⟨vt,vi,vr,hv,ot,oi,ow,hd,_⟩=>?_).mono λ v K n ⟨b,k,q1,q2,q3,q4⟩=>⟨b,k,q1,q2,q3,q4,ai⟩) H n;subst hv;obtain⟨h1,⟨_,h2⟩|⟨b,k,rfl,hb,hk,ho⟩⟩:=ow
 ·exact aw (length_eq_zero_iff.1 h2) h0
 have hdb:=hd b rfl;have fz:∀ {v:AV} {l:List AV} {len sz:Nat},aD K n v l len sz->blk v≠some b->aS l->0<sz->fj (K.put b none).get v (.ds l len sz):=λ ov hb hp hz=>(ov.frame (H':=K.put b none) (aL _) λ c hc=>by rw[Tr.get_put,ak (λ e=>hb (by rw[<-e];exact hc))]).nz (bp.pure hp) hz;refine⟨(K.put b none).get,pick K [b],_,rz.some [b] (λ c y hc=>?_) (λ c hc=>?_),FJ.agg 3 (.cons _ _ _ _ (.nz (fz ot hdb.1 ai ah)) (.cons _ _ _ _ (.nz (fz oi hdb.2 ai ah)) (.cons _ _ _ _ (.refl _ _) .nil))),b,k,rfl,hb,by rw[fK ai];exact hk,ho⟩
 ·rw[Tr.get_put]at hc
  split at hc
  ·cases hc
  exact hc
 intro hm;simp at hm;subst hm;simp at hc
def xm:List (AV×AV×Nat):=[(zI 1,.fn (.func 60) [] [],0),(zI 2,.fn (.func 61) [] [],1),(zI 3,.fn (.func 62) [] [],2),(zI 4,.fn (.func 63) [] [],3),(zI 5,.fn (.func 64) [] [],4),(zI 6,.fn (.func 65) [] [],5),(zI 7,.fn (.func 66) [] [],6),(zI 8,.fn (.func 67) [] [],7)]
theorem ajA (H:Hp)(n:Nat):bC pG 25 [] H n (.map n) (H.put n (some (.map xm 8))) (n+1):=by
 have h:ao pG 25 [] .nil n (λ u K k=>u=.map n/\(∀b y,((Tr.nil:Hp).put n (some (.map xm 8))).get b=some y->∃y',K.get b=some y'/\BLe y' y)/\k<=n+1):=by
  refine ao.of c25 (by simp[A25]) λ F hF=>?_;simp[A25,lx,rE,isKey,iH,dZ];exact λ _ _ _ _ h=>h
 refine ao.okS h ah ai ai ai (λ b hb=>?_) (λ b _ hb=>?_)
 ·rcases hb with hb|hb
  ·simp at hb
  simp[show b=n by omega]
 rw[Tr.get_put,ak ah]
def OJ (k:Int):AV:=if 1<=k/\k<=8 then .fn (.func (59+k.toNat)) [] []else .aV .nilFunc
theorem ajC (k:Int)(H:Hp)(b:Nat)(hb:H.get b=some (.map xm 8)):fg .i (.aV .nilFunc) false (.map b) (zI k) H=.val (OJ k):=by
 unfold fg OJ;simp only[hb,isKey]
 by_cases h:1<=k/\k<=8
 ·rw[ay h];have:k=1∨k=2∨k=3∨k=4∨k=5∨k=6∨k=7∨k=8:=ah
  rcases this with rfl|rfl|rfl|rfl|rfl|rfl|rfl|rfl<;>simp[xm,findKey,dZ]
 rw[ak h];have e1:(k == 1)=false:=by simp;omega
 have e2:(k == 2)=false:=by simp;omega
 have e3:(k == 3)=false:=by simp;omega
 have e4:(k == 4)=false:=by simp;omega
 have e5:(k == 5)=false:=by simp;omega
 have e6:(k == 6)=false:=by simp;omega
 have e7:(k == 7)=false:=by simp;omega
 have e8:(k == 8)=false:=by simp;omega
 simp[xm,findKey,dZ,e1,e2,e3,e4,e5,e6,e7,e8]
def fo (row:List Val)(l:List Ex):List Val:=l.map λ e=>(mW row e).1
def oo (row:List Val)(l:List Ex)(a:Int):Int:=l.foldl (λ a e=>je a (mW row e).2) a
theorem Jn (row:List Val){l:List Ex}{i:Nat}(h:i<l.length):fo row (l.take (i+1))=fo row (l.take i)++[(mW row l[i]).1]:=by
 unfold fo;rw[take_add_one,cY h,Option.toList,map_append];rfl
theorem U0 (row:List Val){l:List Ex}{i:Nat}(h:i<l.length)(a:Int):oo row (l.take (i+1)) a=je (oo row (l.take i) a) (mW row l[i]).2:=by
 unfold oo;rw[take_add_one,cY h,Option.toList,foldl_append];rfl
theorem AH (l m:List Val):dF (l++m)=dF l++dF m:=by
 rw[<-rH,<-rH,<-rH,flatMap_append]
theorem Jl {rv:AV}{row:List Val}(hr:jy rv row)(l:List Ex)(hl:l.length<=aU)(hs:∀e∈l,e.sz<=aU)(H:Hp)(n q:Nat)(acc:Int)(hq:H.get q=aN 1 [zI acc])(hqn:q<n)(ht:dm H n):
  ao pG 144 [jc.ds l,rv,.fn (.func 165) [] [.ptr q 0]] H n (λ u K k=>aD K k u (dF (fo row l)) l.length 3/\(∀c,blk u=some c->n<=c)/\K.get q=aN 1 [zI (oo row l acc)]/\(∀c,c<n->c≠q->K.get c=H.get c)/\n<=k/\dm K k):=by
 unfold aU at hl;obtain⟨o1,o2⟩:=hr.one;have hll:=jc.aT l;refine ao.of c144 (by simp[A144]) λ F hF=>?_;simp[A144,hF,hll]
 refine aF.of (λ t F K m ms=>∃(i:Nat) (v:AV),t=l.length - i/\i<=l.length/\F.get 1=some rv/\F.get 2=some (.fn (.func 165) [] [.ptr q 0])/\F.get 7=some v/\F.get 12=some (jc.ds l)/\F.get 13=some (zI (l.length:Int))/\F.get 14=some (zI (i:Int))/\n<=m/\aD K m v (dF (fo row (l.take i))) i 3/\(∀c,blk v=some c->n<=c)/\K.get q=aN 1 [zI (oo row (l.take i) acc)]/\(∀c,c<n->c≠q->K.get c=H.get c)/\dm K m/\ms=[]) l.length
  ⟨0,nS,ah,ah,by simp[hF],by simp[hF],ai,ai,ai,ai,ah,by simpa[fo,dF]using aD.nil _ _ 3,ai,by simpa[oo]using hq,λ _ _ _=>rfl,ht,rfl⟩ ?_
 rintro t F' K m ms ⟨i,v,rfl,hi,f1,f2,f7,f12,f13,f14,hm,ho,hb,kq,kf,tp,rfl⟩
 by_cases hlt:i<l.length
 ·have hx:=jc.ix (ik:=.i64) hlt;have hav:jc.av l[i]=l[i].av:=rfl;have hev:=agH hr l[i] (hs _ (dy hlt));have hone:=ho.fS;simp[OC,f14,f13,hlt,f12,hx,jc.pT,hav,f1];refine aB.pure hev ?_;generalize hre:mW row l[i]=re;simp[cT,Val.av,adq,f2];generalize hK1:Tr.put (Tr.put (Tr.put (Tr.put K m _) m _) (m+1) _) (m+1) _=K1;have g1:∀c,c<m->K1.get c=K.get c:=λ c hc=>by rw[<-hK1];simp[jz hc]
  have x1:K1.get (m+1)=aN 3 [zI re.1.kind,zI re.1.num,.str re.1.s]:=by rw[<-hK1];simp
  have t1:dm K1 (m+1+1):=λ c hc=>by
   have e1:¬c=m:=ah;have e2:¬c=m+1:=ah;rw[<-hK1];simp[e1,e2,tp c ah]
  clear hK1;refine aB.of (lh (oo row (l.take i) acc) re.2 ((g1 q ah).trans kq)) λ u K2 n2 ⟨hu,q2,hn2,k2⟩=>?_;subst hu hn2;have x2:=(k2 (m+1) ah).trans x1;simp[adp,f7,x2];generalize hK3:Tr.put K2 (m+1+1) _=K3;have g3:∀c,c<m+1+1->K3.get c=K2.get c:=λ c hc=>by rw[<-hK3];simp[jz hc]
  have x3:K3.get (m+1+1)=aN 3 re.1.cells:=by rw[<-hK3];simp[Val.cells]
  have t3:dm K3 (m+1+1+1):=λ c hc=>by
   have e1:¬c=m+1+1:=ah;rw[<-hK3];simp[e1,k2 c ah,t1 c ah]
  clear hK3;have a3:∀c,c<m->c≠q->K3.get c=K.get c:=λ c h1 h2=>(g3 c ah).trans ((k2 c h2).trans (g1 c h1));have nq:blk v≠some q:=λ h=>by have:=hb q h;omega
  have o3:aD K3 (m+1+1+1) v (dF (fo row (l.take i))) i 3:=ho.frame ah λ c hc=>a3 c (ho.db hc) (λ e=>nq (by rw[<-e];exact hc));refine aD.Vf (k:=1) (new:=re.1.cells) o3 (bu x3) ai (by simp[Val.cells]) ah ah (by unfold big;omega) ah (by simp[Val.cells]) λ K4 o4 g4=>?_;simp[ado,f14,aE i ah];have nb:∀c,c<n->blk v≠some c:=λ c h1 h2=>by have:=hb c h2;omega
  refine⟨l.length - (i+1),ah,i+1,ah,ah,by simp[f1],by simp[f2],by simp[f12],by simp[f13],ai,ah,?_,ah,?_,λ c h1 h2=>?_,λ c hc=>?_⟩
  ·rw[Jn row hlt,hre,AH];simpa[dF]using o4
  ·rw[U0 row hlt,hre];exact(g4 q ah nq).trans ((g3 q ah).trans q2)
  ·exact(g4 c ah (nb c h1)).trans ((a3 c ah h2).trans (kf c h1 h2))
  exact(g4 c ah (λ h=>by have:=ho.db h;omega)).trans (t3 c ah)
 obtain rfl:i=l.length:=ah;rw[take_length]at ho kq;have hone:=ho.fS;simp[OC,f14,f13,adn,f7];exact⟨ho,hb,kq,kf,hm,tp⟩
theorem aD.axn {K:Hp}{k n:Nat}{u:AV}{l:List AV}{len sz:Nat}(h:aD K k u l len sz)(hb:∀c,blk u=some c->n<=c)(hp:aS l)(hz:0<sz):fj (above n K) u (.ds l len sz):=by
 refine fj.mono (h:=(pick K (blk u).toList).get) (λ b y hy=>?_) ((h.frame (H':=pick K (blk u).toList) (aL _) λ c hc=>by rw[fK (by simp[hc])]).nz (bp.pure hp) hz);rw[eM]at hy
 split at hy
 ·rename_i hm;simp at hm;unfold above;rw[ay (hb b hm)];exact hy
 cases hy
theorem rz.cut (K:Hp)(n:Nat):rz (above n K) K (pick K (range n)):=
 rz.some _ CJ λ b hb hm=>by
  have:b<n:=by simpa using hm
  unfold above at hb;rw[ak ah]at hb;exact hb rfl
theorem Ed (K:Hp)(n:Nat):(∀c,c<n->(pick K (range n)).get c=K.get c)/\dm (pick K (range n)) n:=
 ⟨λ c hc=>fK (by simpa using hc),kW λ b hb=>by simpa using hb⟩
theorem vu (l:List Val):aS (dF l):=by simp[aC]
theorem TK {rv:AV}{row:List Val}(hr:jy rv row)(l:List Ex)(hl:l.length<=aU)(hs:∀e∈l,e.sz<=aU)(H:Hp)(n q:Nat)(acc:Int)(hq:H.get q=aN 1 [zI acc])(hqn:q<n)(ht:dm H n):
  ao pG 144 [jc.ds l,rv,.fn (.func 165) [] [.ptr q 0]] H n (λ u K k=>u=aC (fo row l)/\K.get q=aN 1 [zI (oo row l acc)]/\(∀c,c<n->c≠q->K.get c=H.get c)/\n<=k/\dm K n):=by
 refine(Jl hr l hl hs H n q acc hq hqn ht).zs λ u K k ⟨h1,h2,h3,h4,h5,h6⟩=>⟨above n K,pick K (range n),aC (fo row l),rz.cut K n,.nz ?_,rfl,?_,λ c hc hcq=>?_,h5,(Ed K n).2⟩
 ·have:=h1.axn h2 (vu _) ah;rw[show l.length=(fo row l).length by simp[fo]]at this;exact this
 ·rw[(Ed K n).1 q hqn];exact h3
 rw[(Ed K n).1 c hc];exact h4 c hc hcq
def dC (T I R:AV)(b:oU)(N C W:AV)(c:Int):List AV:=T::I::R::(b.cells++[N,C,W,zI c])
@[simp] theorem alT (T I R:AV)(b:oU)(N C W:AV)(c:Int):(dC T I R b N C W c).length=32:=rfl
def atI (s:cG)(id:Int):Int:=lJ (λ t:bR=>decide (t.id=id)) s.tables
theorem tB {H:Hp}{b i:Nat}{k:bJ}{L:List AV}(hb:H.get b=some k)(ho:OwnB k L)(hi:i<L.length){v:AV}(h1:v.len=1/\v.cells=[v]/\v.one=true):∃y,mC 1 (.ptr b i) v H=.upd (.br []) b y/\OwnB y (L.set i v):=by
 have ho':=ho;obtain⟨u,z,bs,t,rfl,h3,h4,_⟩:=ho;refine⟨mL u z bs t [v] i,?_,ho'.st hi _⟩;have hu:i+1<=u:=ah;simp[mC,hb,hu,h1.1,h1.2.1,h1.2.2]
end Go.Abs
namespace Go.Abs
open List
open Go.Proofs
open Classical
set_option maxRecDepth 100000
structure Cp (α:Type) where
 g:FuncId
 first:List AV
 cap:List AV
 av:α->AV
 c:α->α->Int
 El:α->Prop
 J:Hp->Prop
 bk:Nat
 lo:Nat
structure Cp.Ok {α:Type}(C:Cp α)(P:Program):Prop where
 call:∀x y,C.El x->C.El y->∀H n,C.J H->C.lo<n->bC P C.g (C.first++([C.av x,C.av y]++C.cap)) H n (zI (C.c x y)) H n
 stay:∀H K,C.J H->(∀b,b<=C.lo->b≠C.bk->K.get b=H.get b)->C.J K
 one:∀x,(C.av x).one=true
 bl:C.bk<=C.lo
 IK:∀x y,C.El x->C.El y->(C.c x y<0↔0<C.c y x)
 trans:∀x y z,C.El x->C.El y->C.El z->C.c x y<=0->C.c y z<=0->C.c x z<=0
def Cp.fv {α:Type}(C:Cp α):AV:=.fn (.func C.g) C.first C.cap
variable {α:Type}{C:Cp α}{P:Program}
theorem Cp.Ok.le (ho:C.Ok P){x y:α}(hx:C.El x)(hy:C.El y)(h:¬C.c y x<0):C.c x y<=0:=by
 have:=ho.IK y x hy hx;omega
def Cp.ce (C:Cp α)(x y:α):Ce:=ceT [(C.g,C.first++([C.av x,C.av y]++C.cap),λ H n=>if C.J H/\C.lo<n then .mk (zI (C.c x y)) H n else .fail)]
theorem Cp.iT (ho:C.Ok P){x y:α}(hx:C.El x)(hy:C.El y):iD P (C.ce x y):=by
 refine dX ?_;simp only[mc];rintro z rfl H n v H' n' h;dsimp only at h
 split at h
 ·rename_i hc;injection h with h1 h2 h3;subst h1 h2 h3;exact ho.call x y hx hy H n hc.1 hc.2
 cases h
theorem Cp.ei {x y:α}{H:Hp}{n:Nat}(h:C.J H)(hn:C.lo<n):(C.ce x y).call C.g (C.first++C.av x::C.av y::C.cap) H n=.mk (zI (C.c x y)) H n:=by
 show (C.ce x y).call C.g (C.first++([C.av x,C.av y]++C.cap)) H n=_;unfold Cp.ce;rw[bY];simp[h,hn]
def swp (d:Nat->α)(i j:Nat):Nat->α:=λ k=>if k=j then d i else if k=i then d j else d k
inductive PS (a b:Nat):(Nat->α)->(Nat->α)->Prop
 |refl (d:Nat->α):PS a b d d
 |sw {d e:Nat->α} (i j:Nat):PS a b d e->a<=i->i<b->a<=j->j<b->PS a b d (swp e i j)
variable {a b N:Nat}{d e f:Nat->α}
theorem PS.trans (h:PS a b d e)(k:PS a b e f):PS a b d f:=by
 induction k with
 |refl=>exact h
 |sw i j _ h1 h2 h3 h4 ih=>exact .sw i j ih h1 h2 h3 h4
theorem PS.one {i j:Nat}(h1:a<=i)(h2:i<b)(h3:a<=j)(h4:j<b):PS a b d (swp d i j):=.sw i j (.refl d) h1 h2 h3 h4
theorem PS.out (h:PS a b d e){k:Nat}(hk:k<a∨b<=k):e k=d k:=by
 induction h with
 |refl=>rfl
 |sw i j _ h1 h2 h3 h4 ih=>rw[<-ih];unfold swp;rw[ak ah,ak ah]
theorem PS.val (h:PS a b d e){k:Nat}(h1:a<=k)(h2:k<b):∃k',a<=k'/\k'<b/\e k=d k':=by
 induction h generalizing k with
 |refl=>exact⟨k,h1,h2,rfl⟩
 |sw i j _ g1 g2 g3 g4 ih =>
  unfold swp
  split
  ·exact ih g1 g2
  split
  ·exact ih g3 g4
  exact ih h1 h2
theorem PS.wide (h:PS a b d e){a' b':Nat}(ha:a'<=a)(hb:b<=b'):PS a' b' d e:=by
 induction h with
 |refl=>exact .refl _
 |sw i j _ h1 h2 h3 h4 ih=>exact .sw i j ih ah ah ah ah
theorem PS.all (h:PS a b d e)(hb:b<=N){E:α->Prop}(hE:∀k,k<N->E (d k)):∀k,k<N->E (e k):=λ k hk=>by
 by_cases h1:k<a∨b<=k
 ·rw[h.out h1];exact hE k hk
 obtain⟨k',_,h3,h4⟩:=h.val (k:=k) ah ah;rw[h4];exact hE k' ah
theorem OO (i j:Nat){β:Type}(g:α->β):((range N).map λ k=>g (swp d i j k))=(((range N).map λ k=>g (d k)).set i (g (d j))).set j (g (d i)):=by
 refine ext_getElem ai λ k h1 h2=>?_;simp only[getElem_map,getElem_range,getElem_set,swp]
 by_cases e1:j=k
 ·subst e1;simp
 by_cases e2:i=k
 ·subst e2;simp[e1,Ne.symm e1]
 simp[e1,e2,Ne.symm e1,Ne.symm e2]
theorem Xv (X Y Z:List α)(x y:α):(X++y::(Y++x::Z)).Perm (X++x::(Y++y::Z)):=
 Perm.append_left X (((perm_middle.cons y).trans (.swap x y _)).trans ((perm_middle.symm).cons x))
theorem Xw {l:List α}{i j:Nat}(hij:i<j) (hj:j<l.length):((l.set i l[j]).set j l[i]).Perm l:=by
 obtain⟨X,hX⟩:∃X,X=l.take i:=⟨_,rfl⟩;obtain⟨Y,hY⟩:∃Y,Y=(l.drop (i+1)).take (j - i - 1):=⟨_,rfl⟩;obtain⟨Z,hZ⟩:∃Z,Z=l.drop (j+1):=⟨_,rfl⟩
 have e:l=X++l[i]::(Y++l[j]::Z):=by
  have h1:l.drop (i+1)=Y++l[j]::Z:=by
   rw[hY,hZ]
   have h2:(l.drop (i+1)).drop (j - i - 1)=l[j]::l.drop (j+1):=by
    rw[drop_drop,show i+1+(j - i - 1)=j by omega];exact gu hj
   rw[<-h2,take_append_drop]
  rw[<-h1,hX,<-gu ah,take_append_drop]
 have lX:X.length=i:=by rw[hX,length_take];omega
 have lY:j=X.length+1+Y.length:=by rw[hY,lX,length_take,length_drop];omega
 generalize l[i]=x at *;generalize l[j]=y at *;subst e;rw[<-lX,lY,aez];exact Xv X Y Z x y
theorem VN {i j:Nat}(hi:i<N)(hj:j<N):((range N).map (swp d i j)).Perm ((range N).map d):=by
 have key:∀ {i j:Nat} {d:Nat->α},i<j->j<N->((range N).map (swp d i j)).Perm ((range N).map d):=by
  intro i j d hij hj;have h1:=OO (N:=N) (d:=d) i j (λ x=>x);have h2:=Xw (l:=(range N).map d) hij (by simpa using hj);simp only[getElem_map,getElem_range]at h2;have h3:(range N).map (swp d i j)=(((range N).map d).set i (d j)).set j (d i):=h1;rw[h3];exact h2
 rcases Nat.lt_trichotomy i j with h|h|h
 ·exact key h hj
 ·subst h;have:swp d i i=d:=by funext k;unfold swp;split<;>simp_all
  rw[this]
 have:swp d i j=swp d j i:=by funext k;unfold swp;by_cases h1:k=j<;>by_cases h2:k=i<;>simp_all
 rw[this];exact key h hi
theorem PS.perm (h:PS a b d e)(hb:b<=N):((range N).map e).Perm ((range N).map d):=by
 induction h with
 |refl=>exact .refl _
 |sw i j _ h1 h2 h3 h4 ih=>exact(VN ah ah).trans ih
def eW (C:Cp α)(H0:Hp)(n N:Nat)(d:Nat->α)(K:Hp):Prop:=(∃y,K.get C.bk=some y/\OwnB y ((range N).map λ k=>C.av (d k)))/\∀b,b≠C.bk->b<n->K.get b=H0.get b
variable {H0 K:Hp}{n:Nat}
theorem eW.ld (h:eW C H0 n N d K){i:Nat}(hi:i<N):cN (.ptr C.bk i) K=.val (C.av (d i)):=by
 obtain⟨⟨y,h1,h2⟩,_⟩:=h;rw[nP h1 h2 (by simpa using hi)];simp
theorem eW.J (ho:C.Ok P)(h:eW C H0 n N d K)(hJ:C.J H0)(hn:C.lo<n):C.J K:=ho.stay _ _ hJ λ b h1 h2=>h.2 b h2 ah
theorem eW.two (ho:C.Ok P)(h:eW C H0 n N d K){i j:Nat}(hi:i<N)(hj:j<N):∃y1 y2,mC 1 (.ptr C.bk i) (C.av (d j)) K=.upd (.br []) C.bk y1/\mC 1 (.ptr C.bk j) (C.av (d i)) (K.put C.bk (some y1))=.upd (.br []) C.bk y2/\eW C H0 n N (swp d i j) ((K.put C.bk (some y1)).put C.bk (some y2)):=by
 obtain⟨⟨y,h1,h2⟩,h3⟩:=h;have hv:∀x,(C.av x).len=1/\(C.av x).cells=[C.av x]/\(C.av x).one=true:=λ x=>⟨(yt (ho.one x)).1,(yt (ho.one x)).2,ho.one x⟩;obtain⟨y1,s1,o1⟩:=tB h1 h2 (i:=i) (by simpa using hi) (hv (d j));obtain⟨y2,s2,o2⟩:=tB (H:=K.put C.bk (some y1)) (by rw[Tr.get_put,ay rfl]) o1 (i:=j) (by simpa using hj) (hv (d i));refine⟨y1,y2,s1,s2,⟨y2,by rw[Tr.get_put,ay rfl],?_⟩,λ b hb hn=>?_⟩
 ·rw[OO];exact o2
 rw[Tr.get_put,ak hb,Tr.get_put,ak hb];exact h3 b hb hn
theorem eW.refl {H:Hp}(h:∃y,H.get C.bk=some y/\OwnB y ((range N).map λ k=>C.av (d k))):eW C H n N d H:=⟨h,λ _ _ _=>rfl⟩
end Go.Abs
namespace Go.Abs
open List
open Go.Proofs
open Classical
set_option maxRecDepth 100000
variable {α:Type}{C:Cp α}{P:Program}{a b N:Nat}{d e:Nat->α}
def jd (C:Cp α)(a b:Nat)(d:Nat->α):Prop:=∀p q,a<=p->p<q->q<b->C.c (d p) (d q)<=0
def zX (C:Cp α)(a i j:Nat)(d:Nat->α):Prop:=∀p q,a<=p->p<q->q<=i->q≠j->C.c (d p) (d q)<=0
theorem zX.of {i:Nat}(h:jd C a i d):zX C a i i d:=λ p q h1 h2 h3 h4=>h p q h1 h2 ah
theorem zX.step {i j:Nat}(h:zX C a i j d)(h1:a<j)(h2:j<=i)(hl:C.c (d j) (d (j - 1))<0):zX C a i (j - 1) (swp d j (j - 1)):=by
 intro p q g1 g2 g3 g4;unfold swp;rw[ak g4]
 by_cases e1:p=j - 1
 ·rw[ay e1]
  by_cases e2:q=j
  ·rw[ay e2];omega
  rw[ak e2];exact h j q ah ah g3 e2
 rw[ak e1]
 by_cases e2:q=j
 ·rw[ay e2,ak ah];exact h p (j - 1) g1 ah ah ah
 rw[ak e2]
 by_cases e3:p=j
 ·rw[ay e3];exact h (j - 1) q ah ah g3 e2
 rw[ak e3];exact h p q g1 g2 g3 e2
theorem zX.fin (ho:C.Ok P)(hE:∀k,k<N->C.El (d k)){i j:Nat}(h:zX C a i j d)(h1:a<=j)(h2:j<=i)(hi:i<N)(hl:a<j->¬C.c (d j) (d (j - 1))<0):jd C a (i+1) d:=by
 intro p q g1 g2 g3
 by_cases e:q=j
 ·subst e;have h3:=ho.le (hE (q - 1) ah) (hE q ah) (hl ah)
  by_cases e2:p=q - 1
  ·rw[e2];exact h3
  exact ho.trans _ (d (q - 1)) _ (hE _ ah) (hE _ ah) (hE _ ah) (h p (q - 1) g1 ah ah ah) h3
 exact h p q g1 g2 ah e
theorem ak4 (ho:C.Ok pG){H0 H:Hp}{n0 n:Nat}(hd:eW C H0 n0 N d H) (hJ:C.J H0) (hn0:C.lo<n0) (hn:n0<=n) (hE:∀k,k<N->C.El (d k)) (hab:a<=b) (hbN:b<=N) (hN:N<1000000):
  ao pG 265 [.sl C.bk 0 N 1,zI (a:Int),zI (b:Int),C.fv] H n (λ w K j=>w=.br []/\(∃d',PS a b d d'/\jd C a b d'/\eW C H0 n0 N d' K)/\j=n):=by
 refine ao.of c265 (by simp[A265]) λ F hF=>?_;have w0:IntKind.i64.wrap ((a:Int)+1)=((a+1:Nat):Int):=by rw[aR _ ah ah];omega
 simp[A265,hF,w0];refine aF.of (λ t F' K n' ms=>∃i d',t=N+1 - i/\a+1<=i/\i<=N+1/\F'.get 0=some (.sl C.bk 0 N 1)/\F'.get 1=some (zI (a:Int))/\F'.get 2=some (zI (b:Int))/\F'.get 3=some C.fv/\F'.get 8=some (zI (i:Int))/\n=n'/\ms=[]/\PS a b d d'/\jd C a i d'/\eW C H0 n0 N d' K) (N+1 - (a+1)) ⟨a+1,d,rfl,ah,ah,by simp[hF],by simp[hF],by simp[hF],by simp[hF],ai,rfl,rfl,.refl d,λ p q h1 h2 h3=>ah,hd⟩ ?_;rintro t F1 K n' ms ⟨i,d1,rfl,hi1,hi2,f0,f1,f2,f3,f8,rfl,rfl,ps,so,hK⟩
 by_cases hlt:i<b
 ·have hlt':(i:Int)<(b:Int):=ah;simp[vj,f8,f2,hlt'];refine aF.of (λ t F' K' n' ms=>∃j d2,j=t/\a<=j/\j<=i/\F'.get 0=some (.sl C.bk 0 N 1)/\F'.get 1=some (zI (a:Int))/\F'.get 2=some (zI (b:Int))/\F'.get 3=some C.fv/\F'.get 8=some (zI (i:Int))/\F'.get 9=some (zI (j:Int))/\n=n'/\ms=[]/\PS a b d d2/\zX C a i j d2/\eW C H0 n0 N d2 K') i ⟨i,d1,rfl,ah,ah,by simp[f0],by simp[f1],by simp[f2],by simp[f3],by simp[f8],ai,rfl,rfl,ps,.of so,hK⟩ ?_;clear f0 f1 f2 f3 f8 hK so ps d1;rintro t F2 K' n' ms ⟨j,d2,rfl,hj1,hj2,f0,f1,f2,f3,f8,f9,rfl,rfl,ps,so,hK⟩;have hE2:=ps.all hbN hE;have w1:IntKind.i64.wrap ((i:Int)+1)=((i+1:Nat):Int):=by rw[aR _ ah ah];omega
  have done:(a<j->¬C.c (d2 j) (d2 (j - 1))<0)->jd C a (i+1) d2:=λ h=>so.fin ho hE2 hj1 hj2 ah h
  by_cases h0:j=a
  ·subst h0;simp[zS];refine bF.of (bq (P:=pG)) ?_;simp[ae,f1,f9,ER,f8,w1];exact⟨N+1 - (i+1),ah,i+1,rfl,ah,ah,f0,f2,f3,ai,d2,ps,done ah,hK⟩
  have hBa:(a:Int)<(j:Int):=ah;have w2:IntKind.i64.wrap ((j:Int) - 1)=((j - 1:Nat):Int):=by rw[aR _ ah ah];omega
  have x1:=bK (bk:=C.bk) (N:=N) (i:=j) ah;have x2:=bK (bk:=C.bk) (N:=N) (i:=j - 1) ah;have l1:=hK.ld (i:=j) ah;have l2:=hK.ld (i:=j - 1) ah;obtain⟨y1,y2,s1,s2,t2⟩:=hK.two ho (i:=j) (j:=j - 1) ah ah;have hJ':=hK.J ho hJ hn0;generalize hj':j - 1=j' at *;simp[zS];refine bF.of (C.iT ho (hE2 j ah) (hE2 j' ah)) ?_;simp[ae,f0,f1,f3,f9,hBa,Cp.fv,w2,x1,x2,l1,l2,Cp.ei hJ' (show C.lo<n by omega)]
  by_cases hlt0:C.c (d2 j) (d2 j')<0
  ·simp[hlt0,ab_];refine bF.of (bq (P:=pG)) ?_;simp[ae,f0,f1,f2,f3,f8,f9,Cp.fv,w2,x1,x2,l1,l2,s1,s2,ab9];refine⟨j',ah,ah,ah,rfl,swp d2 j j',.sw j j' ps ah ah ah ah,?_,by simpa using t2⟩;rw[<-hj']at hlt0 ⊢;exact so.step ah hj2 hlt0
  simp[ae,hlt0,ER,f0,f1,f2,f3,f8,w1,Cp.fv];exact⟨N+1 - (i+1),ah,i+1,rfl,ah,ah,ai,d2,ps,done λ _=>by simpa[hj']using hlt0,hK⟩
 have hlt':¬(i:Int)<(b:Int):=ah;simp[vj,f8,f2,hlt'];exact⟨d1,ps,λ p q h1 h2 h3=>so p q h1 h2 ah,hK⟩
end Go.Abs
namespace Go.Abs
open List
open Go.Proofs
open Classical
set_option maxRecDepth 100000
variable {α:Type}{C:Cp α}{P:Program}{a b N:Nat}{d e:Nat->α}
def nu (p:Prop):Prop:=p
theorem nu.in {p:Prop}(h:p):nu p:=h
def Fs (C:Cp α)(N a si sj i j:Nat)(F:Fr):Prop:=F.get 0=some (.sl C.bk 0 N 1)/\F.get 1=some (zI (a:Int))/\F.get 4=some C.fv/\F.get si=some (zI (i:Int))/\F.get sj=some (zI (j:Int))
theorem aeE {Q:QA}(ho:C.Ok pG){H0 K:Hp}{n0 n:Nat}(hd:eW C H0 n0 N d K)(hJ:C.J H0)(hn0:C.lo<n0)(hn:n0<=n)(hE:∀k,k<N->C.El (d k))(haN:a<N)(hN:N<1000000){F:Fr}{i j:Nat}(hF:Fs C N a 12 13 i j F)(hj:j<N)(hi:i<=j+1)
  (hQ:∀F' i',Fs C N a 12 13 i' j F'->i<=i'->i'<=j+1->(∀k,i<=k->k<i'->C.c (d k) (d a)<0)->(i'<=j->0<=C.c (d i') (d a))->Q (.exit 0) F' K n []):aF Gl pG F K n [] Q:=by
 refine aF.of (λ t F' K' n' ms=>nu (∃i',t=j+1 - i'/\i<=i'/\i'<=j+1/\Fs C N a 12 13 i' j F'/\K'=K/\n'=n/\ms=[]/\∀k,i<=k->k<i'->C.c (d k) (d a)<0)) (j+1 - i) (nu.in ⟨i,rfl,aL _,hi,hF,rfl,rfl,rfl,λ k h1 h2=>ah⟩) ?_;rintro t F' K' n' ms ⟨i',rfl,h1,h2,⟨f0,f1,f4,f12,f13⟩,rfl,rfl,rfl,h3⟩
 by_cases hlt:i'<=j
 ·have hlt':(i':Int)<=(j:Int):=ah;have x1:=bK (bk:=C.bk) (N:=N) (i:=i') ah;have x2:=bK (bk:=C.bk) (N:=N) (i:=a) haN;have l1:=hd.ld (i:=i') ah;have l2:=hd.ld (i:=a) haN;have hJ':=hd.J ho hJ hn0;simp[Gl];refine bF.of (C.iT ho (hE i' ah) (hE a haN)) ?_;simp[ae,f0,f1,f4,f12,f13,hlt,Cp.fv,x1,x2,l1,l2,Cp.ei hJ' (show C.lo<n' by omega)]
  by_cases hc:C.c (d i') (d a)<0
  ·
   have w:IntKind.i64.wrap ((i':Int)+1)=((i'+1:Nat):Int):=by rw[aR _ ah ah];omega
   simp[hc,abO,ae,f12,w];refine⟨j+1 - (i'+1),ah,nu.in ⟨i'+1,rfl,ah,ah,⟨by simp[ae,f0],by simp[ae,f1],by simp[ae,f4],ai,by simp[ae,f13]⟩,λ k g1 g2=>?_⟩⟩
   by_cases e:k=i'
   ·rw[e];omega
   exact h3 k g1 ah
  
  simp[hc];exact hQ _ i' ⟨by simp[ae,f0],by simp[ae,f1],by simp[ae,f4],by simp[ae,f12],by simp[ae,f13]⟩ h1 h2 h3 λ _=>ah
 have hlt':¬(i':Int)<=(j:Int):=ah;simp[Gl];refine bF.of (bq (P:=pG)) ?_;simp[ae,f12,f13,hlt];exact hQ _ i' ⟨by simp[ae,f0],by simp[ae,f1],by simp[ae,f4],by simp[ae,f12],by simp[ae,f13]⟩ h1 h2 h3 λ h=>aw h hlt
theorem aeD {Q:QA}(ho:C.Ok pG){H0 K:Hp}{n0 n:Nat}(hd:eW C H0 n0 N d K)(hJ:C.J H0)(hn0:C.lo<n0)(hn:n0<=n)(hE:∀k,k<N->C.El (d k))(haN:a<N)(hN:N<1000000){F:Fr}{i j:Nat}(hF:Fs C N a 12 13 i j F)(hj:j<N)(hi:i<=j+1)(hi0:0<i)
  (hQ:∀F' j',Fs C N a 12 13 i j' F'->j'<=j->i<=j'+1->(∀k,j'<k->k<=j->0<=C.c (d k) (d a))->(i<=j'->C.c (d j') (d a)<0)->Q (.exit 2) F' K n []):aF Gk pG F K n [] Q:=by
 refine aF.of (λ t F' K' n' ms=>nu (∃j',j'=t/\j'<=j/\i<=j'+1/\Fs C N a 12 13 i j' F'/\K'=K/\n'=n/\ms=[]/\∀k,j'<k->k<=j->0<=C.c (d k) (d a))) j (nu.in ⟨j,rfl,aL _,hi,hF,rfl,rfl,rfl,λ k h1 h2=>ah⟩) ?_;rintro t F' K' n' ms ⟨j',rfl,h1,h2,⟨f0,f1,f4,f12,f13⟩,rfl,rfl,rfl,h3⟩
 by_cases hlt:i<=j'
 ·have hlt':(i:Int)<=(j':Int):=ah;have x1:=bK (bk:=C.bk) (N:=N) (i:=j') ah;have x2:=bK (bk:=C.bk) (N:=N) (i:=a) haN;have l1:=hd.ld (i:=j') ah;have l2:=hd.ld (i:=a) haN;have hJ':=hd.J ho hJ hn0;simp[Gk];refine bF.of (C.iT ho (hE j' ah) (hE a haN)) ?_;simp[ae,f0,f1,f4,f12,f13,hlt,Cp.fv,x1,x2,l1,l2,Cp.ei hJ' (show C.lo<n' by omega)]
  by_cases hc:C.c (d j') (d a)<0
  ·
   simp[hc];exact hQ _ j' ⟨by simp[ae,f0],by simp[ae,f1],by simp[ae,f4],by simp[ae,f12],by simp[ae,f13]⟩ h1 h2 h3 λ _=>ah
  
  have w:IntKind.i64.wrap ((j':Int) - 1)=((j' - 1:Nat):Int):=by rw[aR _ ah ah];omega
  simp[hc,abN,ae,f13,w];refine⟨j' - 1,ah,nu.in ⟨ah,ah,⟨by simp[ae,f0],by simp[ae,f1],by simp[ae,f4],by simp[ae,f12],ai⟩,λ k g1 g2=>?_⟩⟩
  by_cases e:k=j'
  ·rw[e];omega
  exact h3 k ah g2
 have hlt':¬(i:Int)<=(j':Int):=ah;simp[Gk];refine bF.of (bq (P:=pG)) ?_;simp[ae,f12,f13,hlt];exact hQ _ j' ⟨by simp[ae,f0],by simp[ae,f1],by simp[ae,f4],by simp[ae,f12],by simp[ae,f13]⟩ h1 h2 h3 λ h=>aw h hlt
theorem aeC {Q:QA}(ho:C.Ok pG){H0 K:Hp}{n0 n:Nat}(hd:eW C H0 n0 N d K)(hJ:C.J H0)(hn0:C.lo<n0)(hn:n0<=n)(hE:∀k,k<N->C.El (d k))(haN:a<N)(hN:N<1000000){F:Fr}{i j:Nat}(hF:Fs C N a 12 13 i j F)(hj:j<N)(hi:i<=j+1)
  (hQ:∀F' i',Fs C N a 12 13 i' j F'->i<=i'->i'<=j+1->(∀k,i<=k->k<i'->C.c (d k) (d a)<0)->(i'<=j->0<=C.c (d i') (d a))->Q (.exit 6) F' K n []):aF Gj pG F K n [] Q:=by
 refine aF.of (λ t F' K' n' ms=>nu (∃i',t=j+1 - i'/\i<=i'/\i'<=j+1/\Fs C N a 12 13 i' j F'/\K'=K/\n'=n/\ms=[]/\∀k,i<=k->k<i'->C.c (d k) (d a)<0)) (j+1 - i) (nu.in ⟨i,rfl,aL _,hi,hF,rfl,rfl,rfl,λ k h1 h2=>ah⟩) ?_;rintro t F' K' n' ms ⟨i',rfl,h1,h2,⟨f0,f1,f4,f12,f13⟩,rfl,rfl,rfl,h3⟩
 by_cases hlt:i'<=j
 ·have hlt':(i':Int)<=(j:Int):=ah;have x1:=bK (bk:=C.bk) (N:=N) (i:=i') ah;have x2:=bK (bk:=C.bk) (N:=N) (i:=a) haN;have l1:=hd.ld (i:=i') ah;have l2:=hd.ld (i:=a) haN;have hJ':=hd.J ho hJ hn0;simp[Gj];refine bF.of (C.iT ho (hE i' ah) (hE a haN)) ?_;simp[ae,f0,f1,f4,f12,f13,hlt,Cp.fv,x1,x2,l1,l2,Cp.ei hJ' (show C.lo<n' by omega)]
  by_cases hc:C.c (d i') (d a)<0
  ·
   have w:IntKind.i64.wrap ((i':Int)+1)=((i'+1:Nat):Int):=by rw[aR _ ah ah];omega
   simp[hc,Q2,ae,f12,w];refine⟨j+1 - (i'+1),ah,nu.in ⟨i'+1,rfl,ah,ah,⟨by simp[ae,f0],by simp[ae,f1],by simp[ae,f4],ai,by simp[ae,f13]⟩,λ k g1 g2=>?_⟩⟩
   by_cases e:k=i'
   ·rw[e];omega
   exact h3 k g1 ah
  
  simp[hc];exact hQ _ i' ⟨by simp[ae,f0],by simp[ae,f1],by simp[ae,f4],by simp[ae,f12],by simp[ae,f13]⟩ h1 h2 h3 λ _=>ah
 have hlt':¬(i':Int)<=(j:Int):=ah;simp[Gj];refine bF.of (bq (P:=pG)) ?_;simp[ae,f12,f13,hlt];exact hQ _ i' ⟨by simp[ae,f0],by simp[ae,f1],by simp[ae,f4],by simp[ae,f12],by simp[ae,f13]⟩ h1 h2 h3 λ h=>aw h hlt
theorem aeB {Q:QA}(ho:C.Ok pG){H0 K:Hp}{n0 n:Nat}(hd:eW C H0 n0 N d K)(hJ:C.J H0)(hn0:C.lo<n0)(hn:n0<=n)(hE:∀k,k<N->C.El (d k))(haN:a<N)(hN:N<1000000){F:Fr}{i j:Nat}(hF:Fs C N a 12 13 i j F)(hj:j<N)(hi:i<=j+1)(hi0:0<i)
  (hQ:∀F' j',Fs C N a 12 13 i j' F'->j'<=j->i<=j'+1->(∀k,j'<k->k<=j->0<=C.c (d k) (d a))->(i<=j'->C.c (d j') (d a)<0)->Q (.exit 8) F' K n []):aF Gi pG F K n [] Q:=by
 refine aF.of (λ t F' K' n' ms=>nu (∃j',j'=t/\j'<=j/\i<=j'+1/\Fs C N a 12 13 i j' F'/\K'=K/\n'=n/\ms=[]/\∀k,j'<k->k<=j->0<=C.c (d k) (d a))) j (nu.in ⟨j,rfl,aL _,hi,hF,rfl,rfl,rfl,λ k h1 h2=>ah⟩) ?_;rintro t F' K' n' ms ⟨j',rfl,h1,h2,⟨f0,f1,f4,f12,f13⟩,rfl,rfl,rfl,h3⟩
 by_cases hlt:i<=j'
 ·have hlt':(i:Int)<=(j':Int):=ah;have x1:=bK (bk:=C.bk) (N:=N) (i:=j') ah;have x2:=bK (bk:=C.bk) (N:=N) (i:=a) haN;have l1:=hd.ld (i:=j') ah;have l2:=hd.ld (i:=a) haN;have hJ':=hd.J ho hJ hn0;simp[Gi];refine bF.of (C.iT ho (hE j' ah) (hE a haN)) ?_;simp[ae,f0,f1,f4,f12,f13,hlt,Cp.fv,x1,x2,l1,l2,Cp.ei hJ' (show C.lo<n' by omega)]
  by_cases hc:C.c (d j') (d a)<0
  ·
   simp[hc];exact hQ _ j' ⟨by simp[ae,f0],by simp[ae,f1],by simp[ae,f4],by simp[ae,f12],by simp[ae,f13]⟩ h1 h2 h3 λ _=>ah
  
  have w:IntKind.i64.wrap ((j':Int) - 1)=((j' - 1:Nat):Int):=by rw[aR _ ah ah];omega
  simp[hc,Q1,ae,f13,w];refine⟨j' - 1,ah,nu.in ⟨ah,ah,⟨by simp[ae,f0],by simp[ae,f1],by simp[ae,f4],by simp[ae,f12],ai⟩,λ k g1 g2=>?_⟩⟩
  by_cases e:k=j'
  ·rw[e];omega
  exact h3 k ah g2
 have hlt':¬(i:Int)<=(j':Int):=ah;simp[Gi];refine bF.of (bq (P:=pG)) ?_;simp[ae,f12,f13,hlt];exact hQ _ j' ⟨by simp[ae,f0],by simp[ae,f1],by simp[ae,f4],by simp[ae,f12],by simp[ae,f13]⟩ h1 h2 h3 λ h=>aw h hlt
theorem aeG {Q:QA}(ho:C.Ok pG){H0 K:Hp}{n0 n:Nat}(hd:eW C H0 n0 N d K)(hJ:C.J H0)(hn0:C.lo<n0)(hn:n0<=n)(hE:∀k,k<N->C.El (d k))(haN:a<N)(hN:N<1000000){F:Fr}{i j:Nat}(hF:Fs C N a 11 12 i j F)(hj:j<N)(hi:i<=j+1)
  (hQ:∀F' i',Fs C N a 11 12 i' j F'->i<=i'->i'<=j+1->(∀k,i<=k->k<i'->0<=C.c (d a) (d k))->(i'<=j->C.c (d a) (d i')<0)->Q (.exit 2) F' K n []):aF Gn pG F K n [] Q:=by
 refine aF.of (λ t F' K' n' ms=>nu (∃i',t=j+1 - i'/\i<=i'/\i'<=j+1/\Fs C N a 11 12 i' j F'/\K'=K/\n'=n/\ms=[]/\∀k,i<=k->k<i'->0<=C.c (d a) (d k))) (j+1 - i) (nu.in ⟨i,rfl,aL _,hi,hF,rfl,rfl,rfl,λ k h1 h2=>ah⟩) ?_;rintro t F' K' n' ms ⟨i',rfl,h1,h2,⟨f0,f1,f4,f12,f13⟩,rfl,rfl,rfl,h3⟩
 by_cases hlt:i'<=j
 ·have hlt':(i':Int)<=(j:Int):=ah;have x1:=bK (bk:=C.bk) (N:=N) (i:=i') ah;have x2:=bK (bk:=C.bk) (N:=N) (i:=a) haN;have l1:=hd.ld (i:=i') ah;have l2:=hd.ld (i:=a) haN;have hJ':=hd.J ho hJ hn0;simp[Gn];refine bF.of (C.iT ho (hE a haN) (hE i' ah)) ?_;simp[ae,f0,f1,f4,f12,f13,hlt,Cp.fv,x1,x2,l1,l2,Cp.ei hJ' (show C.lo<n' by omega)]
  by_cases hc:C.c (d a) (d i')<0
  ·
   simp[hc];exact hQ _ i' ⟨by simp[ae,f0],by simp[ae,f1],by simp[ae,f4],by simp[ae,f12],by simp[ae,f13]⟩ h1 h2 h3 λ _=>ah
  
  have w:IntKind.i64.wrap ((i':Int)+1)=((i'+1:Nat):Int):=by rw[aR _ ah ah];omega
  simp[hc,abT,ae,f12,w];refine⟨j+1 - (i'+1),ah,nu.in ⟨i'+1,rfl,ah,ah,⟨by simp[ae,f0],by simp[ae,f1],by simp[ae,f4],ai,by simp[ae,f13]⟩,λ k g1 g2=>?_⟩⟩
  by_cases e:k=i'
  ·rw[e];omega
  exact h3 k g1 ah
 have hlt':¬(i':Int)<=(j:Int):=ah;simp[Gn];refine bF.of (bq (P:=pG)) ?_;simp[ae,f12,f13,hlt];exact hQ _ i' ⟨by simp[ae,f0],by simp[ae,f1],by simp[ae,f4],by simp[ae,f12],by simp[ae,f13]⟩ h1 h2 h3 λ h=>aw h hlt
theorem aeF {Q:QA}(ho:C.Ok pG){H0 K:Hp}{n0 n:Nat}(hd:eW C H0 n0 N d K)(hJ:C.J H0)(hn0:C.lo<n0)(hn:n0<=n)(hE:∀k,k<N->C.El (d k))(haN:a<N)(hN:N<1000000){F:Fr}{i j:Nat}(hF:Fs C N a 11 12 i j F)(hj:j<N)(hi:i<=j+1)(hi0:0<i)
  (hQ:∀F' j',Fs C N a 11 12 i j' F'->j'<=j->i<=j'+1->(∀k,j'<k->k<=j->C.c (d a) (d k)<0)->(i<=j'->0<=C.c (d a) (d j'))->Q (.exit 4) F' K n []):aF Gm pG F K n [] Q:=by
 refine aF.of (λ t F' K' n' ms=>nu (∃j',j'=t/\j'<=j/\i<=j'+1/\Fs C N a 11 12 i j' F'/\K'=K/\n'=n/\ms=[]/\∀k,j'<k->k<=j->C.c (d a) (d k)<0)) j (nu.in ⟨j,rfl,aL _,hi,hF,rfl,rfl,rfl,λ k h1 h2=>ah⟩) ?_;rintro t F' K' n' ms ⟨j',rfl,h1,h2,⟨f0,f1,f4,f12,f13⟩,rfl,rfl,rfl,h3⟩
 by_cases hlt:i<=j'
 ·have hlt':(i:Int)<=(j':Int):=ah;have x1:=bK (bk:=C.bk) (N:=N) (i:=j') ah;have x2:=bK (bk:=C.bk) (N:=N) (i:=a) haN;have l1:=hd.ld (i:=j') ah;have l2:=hd.ld (i:=a) haN;have hJ':=hd.J ho hJ hn0;simp[Gm];refine bF.of (C.iT ho (hE a haN) (hE j' ah)) ?_;simp[ae,f0,f1,f4,f12,f13,hlt,Cp.fv,x1,x2,l1,l2,Cp.ei hJ' (show C.lo<n' by omega)]
  by_cases hc:C.c (d a) (d j')<0
  ·
   have w:IntKind.i64.wrap ((j':Int) - 1)=((j' - 1:Nat):Int):=by rw[aR _ ah ah];omega
   simp[hc,abS,ae,f13,w];refine⟨j' - 1,ah,nu.in ⟨ah,ah,⟨by simp[ae,f0],by simp[ae,f1],by simp[ae,f4],by simp[ae,f12],ai⟩,λ k g1 g2=>?_⟩⟩
   by_cases e:k=j'
   ·rw[e];omega
   exact h3 k ah g2
  
  simp[hc];exact hQ _ j' ⟨by simp[ae,f0],by simp[ae,f1],by simp[ae,f4],by simp[ae,f12],by simp[ae,f13]⟩ h1 h2 h3 λ _=>ah
 have hlt':¬(i:Int)<=(j':Int):=ah;simp[Gm];refine bF.of (bq (P:=pG)) ?_;simp[ae,f12,f13,hlt];exact hQ _ j' ⟨by simp[ae,f0],by simp[ae,f1],by simp[ae,f4],by simp[ae,f12],by simp[ae,f13]⟩ h1 h2 h3 λ h=>aw h hlt
end Go.Abs
