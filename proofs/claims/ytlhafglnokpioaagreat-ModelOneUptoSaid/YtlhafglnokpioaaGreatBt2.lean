/- A part. -/
import Derived.Test.YtlhafglnokpioaaGreatBt1
noncomputable section
namespace Go.Abs
open List
open Go.Proofs
open Classical
set_option maxRecDepth 100000
theorem aw.ok {P:Program}{F:Fr}{H H':Hp}{n n':Nat}{m:List Dm}{Q:QA}{f:FuncId}{vs:List AV}{pd:Pd}{r:List (Option GO)}{v:AV}(h:bc P f vs H n v H' n')(k:fj P r (pd.f v F) H' n' m Q):aw f vs pd r P F H n m Q:=
 aw.of h.jE λ u K j ⟨a,b,c⟩=>by subst a b c;exact k
def uD (v1 v2:AV)(err:Int):br:=.cells 3 [] [v1,v2,zI err] .nil
theorem EF (ns:List (List Nat))(ts:List bo)(hl:(aB ts).length<=aM)(ht:ts.length<=aM)(hc:∀t∈ts,t.cols.length<=aM):ae pG 196 [.agg (lC ns ts) 2] (.ds (cu (aB ts)) (aB ts).length 1):=
 ae.ofR (by simp[lC]) (by simp) ((abx ns ts hl ht hc).mono λ v H' n' h=>h.nf (bh.pure (by simp)) (by omega))
theorem abI {α:Type}(p:α->Bool)(l:List α):kL p l<(l.length:Int):=by
 unfold kL
 split
 ·rename_i q hq;have:=(findIdx?_eq_some_iff_findIdx_eq.1 hq).1;omega
 omega
theorem EE (t:bo)(r:List bo):(aB (t::r)).length=t.cols.length+(aB r).length:=by
 simp[aB,bo.kinds]
theorem sx (table name:List Nat):∀(l:List (List Nat×bo)) (at0:Nat) (found:Int) (src:Bool),found<at0->(gJ table name l at0 found src).2=0->0<=(gJ table name l at0 found src).1/\(gJ table name l at0 found src).1<(at0:Int)+((aB (l.map (·.2))).length:Int)
 |[],at0,found,src,hf,h=>by
  unfold gJ at h ⊢
  split
  ·rename_i h0;simp[aB];omega
  rename_i h0;rw[ah h0]at h
  split at h<;>simp at h
 |(n, t)::r,at0,found,src,hf,h=>by
  have hk:=abI (λ c:ny=>decide (c.name=name)) t.cols;unfold gJ at h ⊢;simp only[map_cons,EE]
  split
  ·rename_i h0;rw[ao h0]at h
   split
   ·rename_i h1;rw[ao h1]at h;simp at h
   rename_i h1;rw[ah h1]at h;have:=sx table name r (at0+t.cols.length) _ true (by omega) h;omega
  rename_i h0;rw[ah h0]at h;have:=sx table name r (at0+t.cols.length) found _ (by omega) h;omega
def lh (ns:List (List Nat))(ts:List bo)(table name:List Nat):Int×Int:=gJ table name (ns.zip ts) 0 (-1) false
theorem Pj {ns:List (List Nat)}{ts:List bo}(hn:ns.length=ts.length){table name:List Nat}(h:(lh ns ts table name).2=0):0<=(lh ns ts table name).1/\(lh ns ts table name).1<((aB ts).length:Int):=by
 have:=sx table name (ns.zip ts) 0 (-1) false (by omega) h;rw[map_snd_zip (by omega)]at this;unfold lh;omega
mutual
def Ex.bd (ns:List (List Nat)) (ts:List bo):Ex->Int->Ex×Int×Int
 |.mk op v t m dT args,err =>
  if op=2 then (if (lh ns ts t m).2=0 then (.mk 3 ⟨0,0,[]⟩ [] [] (lh ns ts t m).1 [],(aB ts).getD (lh ns ts t m).1.toNat 0,err)else (.mk op v t m dT args,0,keep err (lh ns ts t m).2 true))
  else if op=1 then (.mk op v t m dT args,v.kind,err)
  else (.mk op ⟨0,0,[]⟩ [] [] 0 (Ex.lY ns ts args err).1,(j9 op).1.kind,keep (Ex.lY ns ts args err).2.2 203 (!(j9 op).1.fits (Ex.lY ns ts args err).2.1))
def Ex.lY (ns:List (List Nat))(ts:List bo):List Ex->Int->List Ex×List Int×Int
 |[],err=>([],[],err)
 |e::r,err=>((e.bd ns ts err).1::(Ex.lY ns ts r (e.bd ns ts err).2.2).1,(e.bd ns ts err).2.1::(Ex.lY ns ts r (e.bd ns ts err).2.2).2.1,(Ex.lY ns ts r (e.bd ns ts err).2.2).2.2)
end
theorem Ex.FQ (ns:List (List Nat))(ts:List bo)(a:Ex):∀(l:List Ex)(err:Int),Ex.lY ns ts (l++[a]) err=((Ex.lY ns ts l err).1++[(a.bd ns ts (Ex.lY ns ts l err).2.2).1],(Ex.lY ns ts l err).2.1++[(a.bd ns ts (Ex.lY ns ts l err).2.2).2.1],(a.bd ns ts (Ex.lY ns ts l err).2.2).2.2)
 |[],err=>by simp[Ex.lY]
 |e::r,err=>by simp[Ex.lY,Ex.FQ ns ts a r]
theorem Ex.Bt (ns:List (List Nat))(ts:List bo):∀(l:List Ex)(err:Int),(Ex.lY ns ts l err).1.length=l.length/\(Ex.lY ns ts l err).2.1.length=l.length
 |[],err=>by simp[Ex.lY]
 |e::r,err=>by simp[Ex.lY,Ex.Bt ns ts r]
theorem Ex.U1 (ns:List (List Nat))(ts:List bo){l:List Ex}{i:Nat}(h:i<l.length)(err:Int):Ex.lY ns ts (l.take (i+1)) err=((Ex.lY ns ts (l.take i) err).1++[(l[i].bd ns ts (Ex.lY ns ts (l.take i) err).2.2).1],(Ex.lY ns ts (l.take i) err).2.1++[(l[i].bd ns ts (Ex.lY ns ts (l.take i) err).2.2).2.1],(l[i].bd ns ts (Ex.lY ns ts (l.take i) err).2.2).2.2):=by
 rw[take_add_one,cE h];exact Ex.FQ ns ts l[i] (l.take i) err
structure WkS (H:Hp)(n:Nat)(ns:List (List Nat))(ts:List bo)(s b k w p:Nat)(v1 v2:AV)(err:Int):Prop where
 hs:H.get s=aG 2 (lC ns ts)
 hb:H.get b=aG 1 [.ptr p 0]
 hk:H.get k=aG 1 [.ds (cu (aB ts)) (aB ts).length 1]
 hw:H.get w=aG 1 [.fn (.func 197) [] [.ptr s 0,.ptr b 0,.ptr k 0,.ptr w 0]]
 hp:H.get p=some (uD v1 v2 err)
 ls:s<n
 lb:b<n
 lk:k<n
 lw:w<n
 lp:p<n
theorem WkS.ne {H:Hp}{n:Nat}{ns:List (List Nat)}{ts:List bo}{s b k w p:Nat}{v1 v2:AV}{err:Int}(h:WkS H n ns ts s b k w p v1 v2 err):s≠p/\b≠p/\k≠p/\w≠p:=by
 refine⟨?_,?_,?_,?_⟩<;>rintro rfl
 ·have:=h.hs.symm.trans h.hp;injection this with this;injection this with this;omega
 ·have:=h.hb.symm.trans h.hp;injection this with this;injection this with this;omega
 ·have:=h.hk.symm.trans h.hp;injection this with this;injection this with this;omega
 have:=h.hw.symm.trans h.hp;injection this with this;injection this with this;omega
theorem WkS.next {H K:Hp}{n n':Nat}{ns:List (List Nat)}{ts:List bo}{s b k w p:Nat}{v1 v2:AV}{err err':Int}(h:WkS H n ns ts s b k w p v1 v2 err)(hn:n<=n')(hk:∀c,c<n->c≠p->K.get c=H.get c)(hp:K.get p=some (uD v1 v2 err')):WkS K n' ns ts s b k w p v1 v2 err':=by
 obtain⟨n1,n2,n3,n4⟩:=h.ne;have l1:=h.ls;have l2:=h.lb;have l3:=h.lk;have l4:=h.lw;have l5:=h.lp;exact⟨(hk s h.ls n1).trans h.hs,(hk b h.lb n2).trans h.hb,(hk k h.lk n3).trans h.hk,(hk w h.lw n4).trans h.hw,hp,by omega,by omega,by omega,by omega,by omega⟩
theorem Ex.nf {h:Hf}{op:Int}{v:Val}{t m:List Nat}{dT:Int}{args:List Ex}{x:AV}(hx:eY h x (.ds (Ex.bq args) args.length 8)):bh h [zI op,zI v.kind,zI v.num,.str v.s,.str t,.str m,zI dT,x] (Ex.mk op v t m dT args).cells:=by
 rw[Ex.cells];exact .cons _ _ _ _ fp (.cons _ _ _ _ fp (.cons _ _ _ _ fp (.cons _ _ _ _ fp (.cons _ _ _ _ fp (.cons _ _ _ _ fp (.cons _ _ _ _ fp (.cons _ _ _ _ hx .nil)))))))
theorem Ex.amQ {h:Hf}{cs:List AV}{e:Ex}{kd:Int}(hx:bh h cs e.cells):eY h (.aX [.agg cs 8,zI kd]) (.aX [e.av,zI kd]):=
 .aX _ _ (.cons _ _ _ _ (.agg _ _ _ hx) (.cons _ _ _ _ fp .nil))
theorem au.rQ {P:Program}{H:Hp}{n:Nat}{F:Fr}{m:List Dm}{Q:QA}{v x:AV}{l new:List AV}{len sz fP k:Nat}{pd:Pd}{r:List (Option GO)}(h:au H n v l len sz)(hx:aV H sz x=some new)(hk:sliceLen x=some k)(hn:new.length=k*sz)
  (hs:0<sz)(hk0:0<k)(hbig:len+k<=big)(hby:fP<=4096)(h1:aY new=true)
  (hgo:∀H',au H' (n+1) (.sl n 0 (len+k) sz) (l++new) (len+k) sz->(∀c,c≠n->blk v≠some c->H'.get c=H.get c)->fj P r (pd.f (.sl n 0 (len+k) sz) F) H' (n+1) m Q):Dy (Go.Abs.iM sz fP n v x H) pd r P F H n m Q:=by
 obtain⟨H',e,h1,h2⟩:=h.iM hx hk hn hs hk0 hbig hby h1;unfold Dy;rw[e];exact hgo H' h1 λ c hc hb=>h2 c hc λ e=>hb (by rw[e];rfl)
theorem au.EV {H:Hp}{n n0:Nat}{v:AV}{l l':List AV}{len sz:Nat}(h:au H n v l len sz)(hn:∀c,blk v=some c->n0<=c)(hl:bh (above n0 H) l l')(hz:0<sz):eY (above n0 H) v (.ds l' len sz):=by
 obtain⟨s',rfl⟩:∃k,sz=k+1:=⟨sz - 1,by omega⟩;obtain⟨h0,⟨rfl,rfl⟩|⟨b,k,rfl,hb,hk,ho⟩⟩:=h
 ·have:l=[]:=by simpa using h0
  subst this;cases hl;exact .nil _
 obtain⟨u,z,bs,t,rfl,hg⟩:=ho.fX (o:=0) (c:=len*(s'+1)) (by omega);refine .sl _ _ _ _ _ _ _ _ _ _ ?_ hg ?_
 ·unfold above;rw[ao (hn b rfl)];exact hk
 rw[drop_zero,eZ (by omega)];exact hl
structure WkI (H0:Hp)(n b w p:Nat)(v1 v2:AV)(op:Int)(ec:List AV)(args:List Ex)(A:List Ex×List Int×Int)(i:Nat)(va vk:AV)(F:Fr)(K:Hp)(mm:Nat):Prop where
 hi:i<=args.length
 f2:F.get 2=some (.ptr b 0)
 f4:F.get 4=some (.ptr w 0)
 f5:F.get 5=some (.ptr n 0)
 f6:F.get 6=some (.ptr (n+1) 0)
 f10:F.get 10=some (.ptr (n+2) 0)
 f11:F.get 11=some vk
 f55:F.get 55=some (.ds (Ex.bq args) args.length 8)
 f56:F.get 56=some (zI (args.length:Int))
 f57:F.get 57=some (zI (i:Int))
 hmm:n+3<=mm
 tp:cA K mm
 kf:∀c,c<n->c≠p->K.get c=H0.get c
 kp:K.get p=some (uD v1 v2 A.2.2)
 kn:K.get n=aG 8 ec
 kr:K.get (n+1)=aG 8 [zI 0,zI 0,zI 0,.str [],.str [],.str [],zI 0,.al (.slice none 0 0)]
 ko:K.get (n+2)=aG 8 [zI op,zI 0,zI 0,.str [],.str [],.str [],zI 0,va]
 oa:au K mm va (Ex.bq A.1) i 8
 ok:au K mm vk (cu A.2.1) i 1
 da:∀c,blk va=some c->n+3<=c/\blk vk≠some c
 dk:∀c,blk vk=some c->n+3<=c
theorem QO (ns:List (List Nat)) (ts:List bo) (v1 v2:AV) (hv1:Pure v1) (hv2:Pure v2) (hn:ns.length=ts.length) (hl:(aB ts).length<=aM) (ht:ts.length<=aM) (hc:∀t∈ts,t.cols.length<=aM):
  ∀(N:Nat) (e:Ex) (err:Int) (H:Hp) (n s b k w p:Nat),e.sz<=N->N<=aM->e.may=true->WkS H n ns ts s b k w p v1 v2 err ->
   bc pG 197 [e.av,.ptr s 0,.ptr b 0,.ptr k 0,.ptr w 0] H n (.aX [(e.bd ns ts err).1.av,zI (e.bd ns ts err).2.1]) (H.put p (some (uD v1 v2 (e.bd ns ts err).2.2))) n
 |0,e,_,_,_,_,_,_,_,_,h,_,_,_=>by have:=Ex.sj e;omega
 |N + 1,.mk op v t m dT args,err,H,n,s,b,k,w,p,hsz,hN,hmay,hs=>by
  obtain⟨ns1,ns2,ns3,ns4⟩:=hs.ne;have hlt:=hs.ls;have hlb:=hs.lb;have hlk:=hs.lk;have hlw:=hs.lw;have hlp:=hs.lp;have hpu:=Ex.tM (.mk op v t m dT args);refine aj.okB (p:=p) [s,b,k,w,p] (by simp) (by simp[Ex.av,hpu.jI,hlt,hlb,hlk,hlw]) (by simp[hlt,hlb,hlk,hlw,hlp]) ?_ (bT (by simp[hv1.jI,hv2.jI])) ?_
  ·intro c hm y hy;simp only[mem_cons,not_mem_nil,or_false]at hm
   rcases hm with rfl|rfl|rfl|rfl|rfl
   ·rw[hs.hs]at hy;injection hy with hy;subst hy;exact bT (aJ.jI (by simp[lC]))
   ·rw[hs.hb]at hy;injection hy with hy;subst hy;exact bT (by simp[hlp])
   ·rw[hs.hk]at hy;injection hy with hy;subst hy;exact bT (aJ.jI (by simp))
   ·rw[hs.hw]at hy;injection hy with hy;subst hy;exact bT (by simp[jH,hlt,hlb,hlk,hlw])
   rw[hs.hp]at hy;injection hy with hy;subst hy;exact bT (by simp[hv1.jI,hv2.jI])
  intro H0 htop ja;have hs0:WkS H0 n ns ts s b k w p v1 v2 err:=⟨(ja _ (by simp)).trans hs.hs,(ja _ (by simp)).trans hs.hb,(ja _ (by simp)).trans hs.hk,(ja _ (by simp)).trans hs.hw,(ja _ (by simp)).trans hs.hp,hlt,hlb,hlk,hlw,hlp⟩;clear ja hs;have ps:=ga hlt;have pb:=ga hlb;have pk:=ga hlk;have pp:=ga hlp;have pp':=KT hlp
  by_cases h2:op=2
  ·have hpl:=aaM ns ts t m hn hl ht hc;refine aj.of c197 (by simp[A197]) λ F hF=>?_;simp[A197,hF,Ex.av,Ex.cells,h2,hs0.hs,ps];refine aw.pure hpl ?_;have hpS:gJ t m (ns.zip ts) 0 (-1) false=lh ns ts t m:=rfl;rw[hpS];generalize hq:lh ns ts t m=q;obtain⟨q1,q2⟩:=q;simp[YE,hF,hs0.hb,pb];generalize hH1:Tr.put _ (n+1) _=H1;have k1:∀c,c<n->H1.get c=H0.get c:=λ c hc=>by rw[<-hH1];simp[ga hc]
   have k2:H1.get n=some (.cells 8 [] (Ex.mk 2 v t m dT args).cells .nil):=by rw[<-hH1];simp[Ex.cells]
   have k3:H1.get (n+1)=aG 8 [zI 0,zI 0,zI 0,.str [],.str [],.str [],zI 0,.al (.slice none 0 0)]:=by rw[<-hH1];simp
   clear hH1;refine aw.ok (HG p v1 v2 err q2 (!decide (q2=0)) H1 (n+1+1) hv1 hv2 (by omega) ((k1 p hlp).trans hs0.hp)) ?_
   by_cases hf:q2=0
   ·subst hf;have hlt2:=Pj hn (table:=t) (name:=m) (by rw[hq]);rw[hq]at hlt2;obtain⟨hq1,hq3⟩:=hlt2;obtain⟨i,hi⟩:∃i:Nat,q1=(i:Int):=⟨q1.toNat,by omega⟩;subst hi;have hil:i<(aB ts).length:=by simp at hq3;omega
    have kb1:=(k1 k hlk).trans hs0.hk;simp[JF];refine cj.of (cN (P:=pG)) ?_;simp[ab,hF,pp,pp',pk,ns3,k3,kb1,uQ hil];have hb:(Ex.mk 2 v t m dT args).bd ns ts err=(.mk 3 ⟨0,0,[]⟩ [] [] (i:Int) [],(aB ts)[i],err):=by simp[Ex.bd,hq,getD,hil]
    rw[hb];refine⟨Ex.amQ (Ex.nf (v:=⟨0,0,[]⟩) (.nil 7)),λ c h1 h3=>?_,.inl (by simp[uD,keep])⟩;simp[ga h1,h3,k1 c h1]
   simp[JF,YD,hf,k2,k3,pp',Ex.cells];have hb:(Ex.mk 2 v t m dT args).bd ns ts err=(.mk 2 v t m dT args,0,keep err q2 true):=by simp[Ex.bd,hq,hf]
   rw[hb];refine⟨.pure _ (by simp),λ c h1 h3=>?_,uD v1 v2 (keep err q2 true),by simp[pp,uD],.inl rfl⟩;simp[ga h1,h3,k1 c h1]
  by_cases h1:op=1
  ·have hb:(Ex.mk op v t m dT args).bd ns ts err=(.mk op v t m dT args,v.kind,err):=by simp[Ex.bd,h1]
   rw[hb];refine aj.of c197 (by simp[A197]) λ F hF=>?_;simp[A197,hF,Ex.av,Ex.cells,h1];refine cj.of (cN (P:=pG)) ?_;simp[ab];subst h1;refine⟨.pure _ (by simp),λ c h1 h3=>?_,uD v1 v2 err,by simp[pp,hs0.hp],.inl rfl⟩;simp[ga h1]
  have hb:(Ex.mk op v t m dT args).bd ns ts err=(.mk op ⟨0,0,[]⟩ [] [] 0 (Ex.lY ns ts args err).1,(j9 op).1.kind,keep (Ex.lY ns ts args err).2.2 203 (!(j9 op).1.fits (Ex.lY ns ts args err).2.1)):=by rw[Ex.bd,ah h2,ah h1]
  rw[hb];have hla:=Ex.GV args
  have hml:Ex.wq args=true/\(args.length:Int)=(if op<=7 then 1 else 2)/\4<=op/\op<=21:=by
   rw[Ex.may,ah h1,ah h2]at hmay;simp only[dN,decide_eq_true_eq]at hmay;exact⟨hmay.2.2.2,hmay.2.1,hmay.1⟩
  obtain⟨hma,hln,ho1,ho2⟩:=hml;simp only[Ex.sz]at hsz;unfold aM at hN;refine aj.of c197 (by simp[A197]) λ F hF=>?_;simp[A197,hF,Ex.av,Ex.cells,h1,h2];generalize hH1:Tr.put _ (n+1+1) _=H1;have k0:∀c,c<n->H1.get c=H0.get c:=λ c hc=>by rw[<-hH1];simp[ga hc]
  have k1:H1.get n=some (.cells 8 [] (Ex.mk op v t m dT args).cells .nil):=by rw[<-hH1];simp[Ex.cells]
  have k2:H1.get (n+1)=aG 8 [zI 0,zI 0,zI 0,.str [],.str [],.str [],zI 0,.al (.slice none 0 0)]:=by rw[<-hH1];simp
  have k3:H1.get (n+2)=aG 8 [zI op,zI 0,zI 0,.str [],.str [],.str [],zI 0,.al (.slice none 0 0)]:=by rw[<-hH1];simp
  have k4:cA H1 (n+3):=λ c hc=>by
   have q1:¬c=n:=by omega
   have q2:¬c=n+1:=by omega
   have q3:¬c=n+2:=by omega
   rw[<-hH1];simp[q1,q2,q3,htop c (by omega)]
  clear hH1
  refine aE.of (λ q F K mm ms=>∃(i:Nat) (va vk:AV),q=args.length - i/\WkI H0 n b w p v1 v2 op ((Ex.mk op v t m dT args).cells) args (Ex.lY ns ts (args.take i) err) i va vk F K mm/\ms=[]) args.length
   ⟨0,.al (.slice none 0 0),.al (.slice none 0 0),by simp,⟨by simp,by simp[hF],by simp[hF],by simp,by simp,by simp,by simp,by simp,by simp,by simp,by omega,k4,λ c hc _=>k0 c hc,by simpa[Ex.lY]using(k0 p hlp).trans hs0.hp,k1,k2,k3,by simpa[Ex.lY,Ex.bq]using au.nil _ _ 8,by simpa[Ex.lY,cu]using au.nil _ _ 1,by simp,by simp⟩,rfl⟩ ?_
  clear hF F k0 k1 k2 k3 k4 H1;rintro q F K mm ms ⟨i,va,vk,rfl,I,rfl⟩;have f2:=I.f2;have f4:=I.f4;have f5:=I.f5;have f6:=I.f6;have f10:=I.f10;have f11:=I.f11;have f55:=I.f55;have f56:=I.f56;have f57:=I.f57;have hmm:=I.hmm
  by_cases hlt2:i<args.length
  ·have hx:=sD (k:=.i64) hlt2;have hsm:=Ex.vC (b6 hlt2);have hwk:=(I.kf w hlw ns4).trans hs0.hw;have mw:=ga (show w<mm by omega);simp[JU,f4,f55,f56,f57,hlt2,hx,hwk,mw];generalize hK1:Tr.put _ mm (some (br.cells 8 [] args[i].cells Ov.nil))=K1;have g1:∀c,c<mm->K1.get c=K.get c:=λ c hc=>by rw[<-hK1];simp[ga hc]
   have t1:cA K1 (mm+1):=λ c hc=>by
    have q1:¬c=mm:=by omega
    rw[<-hK1];simp[q1,I.tp c (by omega)]
   clear hK1;have hs1:WkS K1 (mm+1) ns ts s b k w p v1 v2 (Ex.lY ns ts (args.take i) err).2.2:=hs0.next (by omega) (λ c h3 h4=>(g1 c (by omega)).trans (I.kf c h3 h4)) ((g1 p (by omega)).trans I.kp);refine aw.ok (QO ns ts v1 v2 hv1 hv2 hn hl ht hc N args[i] _ K1 (mm+1) s b k w p (by omega) (by unfold aM;omega) (Ex.Ez hma i hlt2) hs1) ?_;have htk:=Ex.U1 ns ts hlt2 err;have hlen:=Ex.Bt ns ts (args.take i) err;generalize hA:Ex.lY ns ts (args.take i) err=A at I hs1 htk hlen ⊢;generalize hX:args[i].bd ns ts A.2.2=X at htk ⊢;obtain⟨x1,kd,er⟩:=X;obtain⟨xs,ks,er0⟩:=A;simp only at htk hlen;have oa:=I.oa;have ok:=I.ok;have ko1:=(g1 (n+2) (by omega)).trans I.ko;have q1:(n+2=p)=False:=by simp only[eq_iff_iff,iff_false];omega
   have q2:(n+1=mm)=False:=by simp only[eq_iff_iff,iff_false];omega
   simp[NF,f10,ko1,q1,q2];generalize hK3:Tr.put _ (mm+1+1) _=K3;have e3:∀c,c<mm->c≠p->K3.get c=K.get c:=λ c h3 h4=>by rw[<-hK3];simp[ga h3,h4,g1 c h3]
   have p3:K3.get p=some (uD v1 v2 er):=by rw[<-hK3];simp[ga (show p<mm by omega)]
   have x3:K3.get (mm+1+1)=aG 8 x1.cells:=by rw[<-hK3];simp
   have t3:cA K3 (mm+1+1+1):=λ c hc=>by
    have r1:¬c=mm+1+1:=by omega
    have r2:¬c=mm+1:=by omega
    have r3:¬c=p:=by omega
    rw[<-hK3];simp[r1,r2,r3,t1 c (by omega)]
   clear hK3;have oa3:au K3 (mm+1+1+1) va (Ex.bq xs) i 8:=oa.frame (by omega) λ c hc=>e3 c (oa.bg hc) (by have:=(I.da c hc).1;omega);have ok3:au K3 (mm+1+1+1) vk (cu ks) i 1:=ok.frame (by omega) λ c hc=>e3 c (ok.bg hc) (by have:=I.dk c hc;omega);refine au.rQ (k:=1) (new:=x1.cells) oa3 (aR x3) (by simp) (by simp) (by omega) (by omega) (by unfold big;omega) (by omega) (by simp) λ K4 o4 g4=>?_;have ok4:au K4 (mm+1+1+1) vk (cu ks) i 1:=ok3.frame (by omega) λ c hc=>g4 c (by have:=ok.bg hc;omega) λ h=>(I.da c h).2 hc;have e4:∀c,c<mm->c≠p->blk va≠some c->K4.get c=K.get c:=λ c h3 h4 h5=>(g4 c (by omega) h5).trans (e3 c h3 h4);have p4:K4.get p=some (uD v1 v2 er):=(g4 p (by omega) λ h=>by have:=(I.da p h).1;omega).trans p3;have t4:cA K4 (mm+1+1+1+1):=λ c hc=>(g4 c (by omega) λ h=>by have:=oa.bg h;omega).trans (t3 c (by omega));clear g4 e3 p3 x3 t3 oa3 ok3;simp[f11];generalize hK5:Tr.put K4 (mm+1+1+1+1) _=K5;have g5:∀c,c<mm+1+1+1+1->K5.get c=K4.get c:=λ c h3=>by rw[<-hK5];simp[ga h3]
   have x5:K5.get (mm+1+1+1+1)=aG 1 (cu [kd]):=by rw[<-hK5];simp[cu]
   have t5:cA K5 (mm+1+1+1+1+1):=λ c hc=>by
    have r1:¬c=mm+1+1+1+1:=by omega
    rw[<-hK5];simp[r1,t4 c (by omega)]
   clear hK5;have QJ:au K5 (mm+1+1+1+1+1) (.sl (mm+1+1+1) 0 (i+1) 8) (Ex.bq xs++x1.cells) (i+1) 8:=o4.frame (by omega) λ c hc=>g5 c (by simp at hc;omega);have ok5:au K5 (mm+1+1+1+1+1) vk (cu ks) i 1:=ok4.frame (by omega) λ c hc=>g5 c (by have:=ok.bg hc;omega);refine au.rQ (k:=1) (new:=cu [kd]) ok5 (by rw[dy x5 (OwnB.list (by simp)) (by simp)];simp[cu]) (by simp) (by simp) (by omega) (by omega) (by unfold big;omega) (by omega) (by simp) λ K6 o6 g6=>?_;have Pz:au K6 (mm+1+1+1+1+1+1) (.sl (mm+1+1+1) 0 (i+1) 8) (Ex.bq xs++x1.cells) (i+1) 8:=QJ.frame (by omega) λ c hc=>g6 c (by simp at hc;omega) λ h=>by have:=ok.bg h;simp at hc;omega
   have e6:∀c,c<mm->c≠p->blk va≠some c->blk vk≠some c->K6.get c=K.get c:=λ c h3 h4 h5 h6=>(g6 c (by omega) h6).trans ((g5 c (by omega)).trans (e4 c h3 h4 h5));have p6:K6.get p=some (uD v1 v2 er):=(g6 p (by omega) λ h=>by have:=I.dk p h;omega).trans ((g5 p (by omega)).trans p4);have t6:cA K6 (mm+1+1+1+1+1+1):=λ c hc=>(g6 c (by omega) λ h=>by have:=ok.bg h;omega).trans (t5 c (by omega));have na:∀c,c<n+3->blk va≠some c:=λ c h3 h=>by have:=(I.da c h).1;omega
   have nk:∀c,c<n+3->blk vk≠some c:=λ c h3 h=>by have:=I.dk c h;omega
   have ko6:=(e6 (n+2) (by omega) (by omega) (na _ (by omega)) (nk _ (by omega))).trans I.ko;clear g6 g5 QJ ok5 t5 t4 p4 e4 ok4 o4;simp[ko6,f10,ND,f57,aC i (by omega)];have qq:∀c,c≠n+2->(K6.put (n+2) (some (br.cells 8 [] [zI op,zI 0,zI 0,.str [],.str [],.str [],zI 0,.sl (mm+1+1+1) 0 (i+1) 8] .nil))).get c=K6.get c:=λ c h3=>by simp[h3]
   refine⟨args.length - (i+1),by omega,i+1,rfl,.sl (mm+1+1+1) 0 (i+1) 8,.sl (mm+1+1+1+1+1) 0 (i+1) 1,?_⟩;rw[htk];refine⟨hlt2,by simp[f2],by simp[f4],by simp[f5],by simp[f6],by simp[f10],by simp,by simp[f55],by simp[f56],by simp,by omega,λ c h3=>(qq c (by omega)).trans (t6 c h3),λ c h3 h4=>(qq c (by omega)).trans ((e6 c (by omega) h4 (na c (by omega)) (nk c (by omega))).trans (I.kf c h3 h4)),(qq p (by omega)).trans p6,(qq n (by omega)).trans ((e6 n (by omega) (by omega) (na n (by omega)) (nk n (by omega))).trans I.kn),(qq (n+1) (by omega)).trans ((e6 (n+1) (by omega) (by omega) (na (n+1) (by omega)) (nk (n+1) (by omega))).trans I.kr),by simp,?_,?_,by simp;omega,by simp;omega⟩
   ·have:=Pz.frame (H':=(K6.put (n+2) (some (br.cells 8 [] [zI op,zI 0,zI 0,.str [],.str [],.str [],zI 0,.sl (mm+1+1+1) 0 (i+1) 8] .nil)))) (aP _) λ c hc=>qq c (by simp at hc;omega);simpa[Ex.yn,Ex.bq]using this
   have:=o6.frame (H':=(K6.put (n+2) (some (br.cells 8 [] [zI op,zI 0,zI 0,.str [],.str [],.str [],zI 0,.sl (mm+1+1+1) 0 (i+1) 8] .nil)))) (aP _) λ c hc=>qq c (by simp at hc;omega);simpa[rE]using this
  have hie:i=args.length:=by have:=I.hi;omega
  subst hie;rw[take_length]at I;have hlen:=Ex.Bt ns ts args err
  have hfit:(j9 op).1.any=true->(j9 op).1.alike=true->2<=(Ex.lY ns ts args err).2.1.length:=by
   intro ha hk;rw[hlen.2]
   by_cases h7:op<=7
   ·have:op=4∨op=5∨op=6∨op=7:=by omega
    rcases this with h|h|h|h<;>subst h<;>simp[j9]at ha hk
   rw[ah h7]at hln;omega
  generalize hA:Ex.lY ns ts args err=A at I hlen hfit ⊢;obtain⟨xs,ks,er⟩:=A;have ft:=ahC (j9 op).1 ks (by simp at hlen;rw[hlen.2];unfold aM;omega) hfit;have hwp:=DG op;simp[JU,NC,f56,f57,f5,I.kn,Ex.cells];refine aw.pure hwp ?_;generalize hw:j9 op=W at ft ⊢;obtain⟨⟨w1,w2,w3,w4,w5⟩,wb⟩:=W;simp[Want.av];generalize hK7:Tr.put _ mm (some (br.cells 5 [] [zI w1,zI w2,zI w3,.bool w4,.bool w5] .nil))=K7;have g7:∀c,c<mm->K7.get c=K.get c:=λ c hc=>by rw[<-hK7];simp[ga hc]
  have x7:K7.get mm=aG 5 [zI w1,zI w2,zI w3,.bool w4,.bool w5]:=by rw[<-hK7];simp
  have t7:cA K7 (mm+1):=λ c hc=>by
   have q1:¬c=mm:=by omega
   rw[<-hK7];simp[q1,I.tp c (by omega)]
  clear hK7;have oa7:au K7 (mm+1) va (Ex.bq xs) args.length 8:=I.oa.frame (by omega) λ c hc=>g7 c (I.oa.bg hc);have ok7:au K7 (mm+1) vk (cu ks) args.length 1:=I.ok.frame (by omega) λ c hc=>g7 c (I.ok.bg hc);have hb7:=(g7 b (by omega)).trans ((I.kf b hlb ns2).trans hs0.hb);have p7:=(g7 p (by omega)).trans I.kp;have o7:=(g7 (n+2) (by omega)).trans I.ko;have r7:=(g7 (n+1) (by omega)).trans I.kr;have pp7:(p=mm)=False:=by simp only[eq_iff_iff,iff_false];omega
  have pp8:(mm=p)=False:=by simp only[eq_iff_iff,iff_false];omega
  have bp8:(b=p)=False:=by simp[ns2]
  simp only at hlen;rw[hlen.2]at ft;have hfl:=HG p v1 v2 er 203 (!(Want.mk w1 w2 w3 w4 w5).fits ks) K7 (mm+1) hv1 hv2 (by omega) p7;simp only[NB,kZ];refine cj.of (xe (l:=[⟨200,[Want.av ⟨w1,w2,w3,w4,w5⟩,vk],K7,mm+1,.bool ((Want.mk w1 w2 w3 w4 w5).fits ks),K7,mm+1⟩,⟨50,[.ptr p 0,zI 203,.bool (!(Want.mk w1 w2 w3 w4 w5).fits ks)],K7,mm+1,.aX [],K7.put p (some (uD v1 v2 (keep er 203 (!(Want.mk w1 w2 w3 w4 w5).fits ks)))),mm+1⟩]) ?_) ?_
  ·simp only[mem_cons,not_mem_nil,or_false];rintro c (rfl|rfl)
   ·exact ft.LO (by simp) _ (.cons _ _ _ _ fp (.cons _ _ _ _ (ok7.nf (bh.pure (by simp)) (by omega)) .nil))
   exact hfl
  have e2:∀l c1 c2,(Z4 [⟨200,l,K7,mm+1,.bool ((Want.mk w1 w2 w3 w4 w5).fits ks),K7,mm+1⟩,⟨50,[.ptr p 0,zI 203,.bool (!(Want.mk w1 w2 w3 w4 w5).fits ks)],K7,mm+1,.aX [],K7.put p (some (uD v1 v2 (keep er 203 (!(Want.mk w1 w2 w3 w4 w5).fits ks)))),mm+1⟩]).call 50 c1 K7 c2=(Z4 [⟨50,[.ptr p 0,zI 203,.bool (!(Want.mk w1 w2 w3 w4 w5).fits ks)],K7,mm+1,.aX [],K7.put p (some (uD v1 v2 (keep er 203 (!(Want.mk w1 w2 w3 w4 w5).fits ks)))),mm+1⟩]).call 50 c1 K7 c2:=λ l c1 c2=>UK (by decide);simp[ab,f2,f11,x7,hb7,Want.av,qT,e2];generalize (keep er 203 (!(Want.mk w1 w2 w3 w4 w5).fits ks))=er';have k8:∀c,c≠p->(K7.put p (some (uD v1 v2 er'))).get c=K7.get c:=λ c hc=>by simp[hc]
  have p8:(K7.put p (some (uD v1 v2 er'))).get p=some (uD v1 v2 er'):=by simp
  generalize K7.put p (some (uD v1 v2 er'))=K8 at k8 p8 ⊢;have o8:=(k8 (n+2) (by omega)).trans o7;have r8:=(k8 (n+1) (by omega)).trans r7;have x8:=(k8 mm (by omega)).trans x7;have q1:(mm=n+1)=False:=by simp only[eq_iff_iff,iff_false];omega
  have q2:(p=n+1)=False:=by simp only[eq_iff_iff,iff_false];omega
  simp only[NA,kZ];refine cj.of (cN (P:=pG)) ?_;simp[ab,f6,f10,o8,r8,x8,q1,q2,p8,I.oa.cO];refine⟨Ex.amQ (Ex.nf (v:=⟨0,0,[]⟩) ?_),λ c h3 h4=>?_,.inl rfl⟩
  ·have oa8:au (K8.put (n+1) (some (br.cells 8 [] [zI op,zI 0,zI 0,.str [],.str [],.str [],zI 0,va] .nil))) (mm+1) va (Ex.bq xs) args.length 8:=oa7.frame (aP _) λ c hc=>by
    have:=(I.da c hc).1;have r1:¬c=n+1:=by omega
    simp[r1,k8 c (by omega)]
   rw[hlen.1];exact oa8.EV (λ c hc=>by have:=(I.da c hc).1;omega) (bh.pure (Ex.Aj xs)) (by omega)
  have r1:¬c=n+1:=by omega
  simp[r1,k8 c h4,g7 c (by omega),I.kf c h3 h4]
def clC (z:List AV)(sz fP:Nat):CF:={res:=[aI 2],code:=.seq (.mc [oP (bm 2) (ej (aT (.al (.slice none 0 0))))]) (.seq (.seq (.mc [oP (bm 3) (ej (ar 0)),oP (bm 4) (e2 (js false .slice) (ar 3) (aT (.al (.slice none 0 0))))]) (.cond (ar 4) (.seq (.mc [oP (bm 2) (ej (aT (.al (.slice none 0 0))))]) .ret) .skip)) (.seq (.mc [oP (bm 5) (aK z 0 sz []),oP (bm 6) (ej (ar 0)),oP (bm 7) (db sz fP (ar 5) (ar 6)),oP (bm 2) (ej (ar 7))]) .ret)),nt:=8}
theorem rL {g:FuncId}{z:List AV}{sz fP:Nat}(hc:HU pG g=some (clC z sz fP))(hs:0<sz)(hz:sz<=64)(hby:fP<=4096)(cs:List AV)(len:Nat)(hl:len<=aM)(hcs:cs.length=len*sz)(hp:aJ cs)(h1:aY cs=true):ae pG g [.ds cs len sz] (.ds cs len sz):=by
 refine ae.ofR (by simp[hp]) (by simp[hp]) ?_
 have A:len=0->aj pG g [.al (.slice none 0 0)] .nil 0 (λ v1 H' _=>eY H'.get v1 (.ds cs len sz)):=λ h0=>by
  subst h0;have:cs=[]:=by simpa using hcs
  subst this;obtain⟨k,rfl⟩:∃k,sz=k+1:=⟨sz - 1,by omega⟩;refine aj.of hc (by simp[clC]) λ F hF=>?_;simp[clC,hF,js,fS];exact .nil _
 have B:len=0->aj pG g [.ds [] 0 0] .nil 0 (λ v1 H' _=>eY H'.get v1 (.ds cs len sz)):=λ h0=>by
  subst h0;have:cs=[]:=by simpa using hcs
  subst this;refine aj.of hc (by simp[clC]) λ F hF=>?_;simp[clC,hF,js,fS,iM,aV,sliceLen,lW];exact .sl 0 0 0 sz 0 [] [] .nil [] [] (by simp) (by simp) .nil
 have C:0<len->aj pG g [.ds cs len sz] .nil 0 (λ v1 H' _=>eY H'.get v1 (.ds cs len sz)):=λ h0=>by
  refine aj.of hc (by simp[clC]) λ F hF=>?_;obtain⟨len,rfl⟩:∃k,len=k+1:=⟨len - 1,by omega⟩;unfold aM at hl;simp[clC,hF,js,fS];have ow:au (Tr.put Tr.nil 0 (some (br.cells 0 [] [] .nil))) 1 (.sl 0 0 0 sz) [] 0 sz:=⟨by simp,.inr ⟨0,.cells 0 [] [] .nil,rfl,by omega,by simp,.list rfl⟩⟩;refine au.app (x:=.ds cs (len+1) sz) (new:=cs) (k:=len+1) ow (by simp[aV]) (by simp[sliceLen]) hcs hs h0 (by unfold big;omega) hby h1 λ H' ho hk=>?_;simp;simp only[nil_append,qw]at ho;exact ho.nf (bh.pure hp) hs
 by_cases h0:len=0
 ·have A:=A h0;have B:=B h0;refine⟨A.1,λ φ D w xs hrel hv hf RR hR=>?_⟩
  cases hv with
  |cons _ y _ ys h1 h2 =>
  cases h2
  have h0:(∃ad cap,y=.slice (some ad) 0 cap)∨y=.slice none 0 0:=by
   subst h0
   cases h1 with
   |ds=>exact .inl ⟨_,_,rfl⟩
   |nZ=>exact .inl ⟨_,_,rfl⟩
   |rH=>exact .inr rfl
  rcases h0 with⟨ad,cap,rfl⟩|rfl
  ·exact B.2 φ D w _ hrel (.cons _ _ _ _ (.nZ _ _ _) .nil) hf RR hR
  exact A.2 φ D w _ hrel (.cons _ _ _ _ (.al _ rfl) .nil) hf RR hR
 exact C (by omega)
theorem LM (l:List ny)(hl:l.length<=aM):ae pG 57 [bL.ds l] (bL.ds l):=rL (z:=[.str [],zI 0,.bool false]) (sz:=3) (fP:=32) c57 (by omega) (by omega) (by omega) _ _ hl (by simp) (by simp) (by simp)
theorem LL (l:List Int)(hl:l.length<=aM):ae pG 59 [cQ.ds l] (cQ.ds l):=rL (z:=[zI 0]) (sz:=1) (fP:=8) c59 (by omega) (by omega) (by omega) _ _ hl (by simp) (by simp) (by simp)
def abX (z:List AV)(sz:Nat):CF:={res:=[bU 4 sz,aI 5],code:=(.seq (.mc [oP (bm 4) (ak z sz),oP (bm 5) (ej (aT (.bool false)))]) (.seq (.seq (.mc [oP (bm 9) (ej (ar 0)),oP (bm 10) (e1 aZ (ar 9)),oP (bm 11) (ej (aT (zI 0)))]) (.block 0 (.loop (.seq (.mc [oP (bm 12) (e2 (dq .lss) (ar 11) (ar 10))]) (.seq (.cond (ar 12) .skip (.exit 0)) (.seq (.block 1 (.seq (.mc [oP (bm 13) (e2 (e9 sz) (ar 9) (ar 11)),oP (bm 14) (iI sz (ar 13)),oP (bm 7) (ak z sz),oP pZ (dm sz (ar 7) (ar 14))]) (.seq (.mc [oP (bm 15) (ej (ar 1)),oP (bm 16) (iI sz (ar 7)),vP (bm 17) (ar 15) [(ar 16)]]) (.cond (ar 17) (.seq (.mc [oP (bm 18) (iI sz (ar 7)),oP pZ (dm sz (ar 4) (ar 18)),oP (bm 5) (ej (aT (.bool true)))]) .ret) .skip)))) (.mc [oP (bm 19) (e2 (dq .add) (ar 11) (aT (zI 1))),oP (bm 11) (ej (ar 19))]))))))) (.seq (.mc [oP (bm 8) (ak z sz)]) (.seq (.mc [oP (bm 20) (iI sz (ar 8)),oP pZ (dm sz (ar 4) (ar 20)),oP (bm 5) (ej (aT (.bool false)))]) .ret)))),nt:=21}
theorem a68:A125=abX [(.int .u32 0),(.str []),(.al (.slice none 0 0)),(.int .u32 0)] 4:=rfl
def je {α:Type}(zero:α)(p:α->Bool)(l:List α):α×Bool:=match l.find? p with
 |some x=>(x,true)
 |none=>(zero,false)
theorem E4 {α:Type}{sz:Nat}(E:aL α sz){g:FuncId}{z:List AV}(hc:HU pG g=some (abX z sz)) (_hs:1<sz) (hs2:sz<=64) (hz:z.length=sz) (h1:aY z=true){zero:α}(hzz:∀h,bh h z (E.cells zero)){f:FuncId}{b:Nat}{y:br}{p:α->Bool}(xs:List α) (hl:xs.length<=aM) (H:Hp) (n:Nat) (hb:b<n) (hy:H.get b=some y) (hr:tu n y)
  (hp:∀x∈xs,∀(K:Hp)(k:Nat),K.get b=some y->cA K k->aj pG f [E.av x,.ptr b 0] K k (λ u K' k'=>u=.bool (p x)/\K'=K/\k'=k)):
  bc pG g [E.ds xs,.fn (.func f) [] [.ptr b 0]] H n (.aX [E.av (je zero p xs).1,.bool (je zero p xs).2]) H n:=by
 refine aj.Dw [b] (by simp[jH,hb,Pure.jI]) (by simpa using hb) (λ c hm k hk=>?_) λ H0 ht ja=>?_
 ·simp at hm;subst hm;rw[hy]at hk;injection hk with hk;subst hk;exact hr
 have hb0:=(ja b (by simp)).trans hy;refine aj.of hc (by simp[abX]) λ F hF=>?_;simp[abX,hF,aL.aD];unfold aM at hl;refine aE.of (λ q F K m ms=>∃i,q=xs.length - i/\i<=xs.length/\F.get 1=some (.fn (.func f) [] [.ptr b 0])/\F.get 4=some (.ptr n 0)/\F.get 9=some (E.ds xs)/\F.get 10=some (zI (xs.length:Int))/\F.get 11=some (zI (i:Int))/\n<m/\cA K m/\(∀c,c<n->K.get c=H0.get c)/\K.get n=aG sz z/\(∀j (h:j<xs.length),j<i->p xs[j]=false)/\ms=[]) xs.length ⟨0,by simp,by simp,by simp[hF],by simp,by simp,by simp,by simp,by omega,λ c h3=>?_,λ c h3=>?_,by simp,by simp,rfl⟩ ?_
 ·have q1:¬c=n:=by omega
  simp[q1,ht c (by omega)]
 ·have q1:¬c=n:=by omega
  simp[q1]
 clear hF F;rintro q F K m ms ⟨i,rfl,hi,f1,f4,f9,f10,f11,hm,tp,kf,kn,hj,rfl⟩;have hEl:(E.av zero).len=sz:=Eq.trans rfl rfl
 by_cases hlt:i<xs.length
 ·have hx:=E.ix (ik:=.i64) hlt;have hld:=λ H=>E.mf xs[i] (E.l (xs.drop (i+1))) H;have hav:∀a,(E.av a).len=sz:=λ a=>Eq.trans rfl rfl;have hac:∀a,(E.av a).cells=E.cells a:=λ a=>Eq.trans rfl rfl;simp[f1,f9,f10,f11,hlt,hx,hld,hz,hs2,hav,hac];generalize hK1:Tr.put _ m (some (br.cells sz [] (E.cells xs[i]) .nil))=K1;have g1:∀c,c<m->K1.get c=K.get c:=λ c hc=>by rw[<-hK1];simp[ga hc]
  have x1:K1.get m=aG sz (E.cells xs[i]):=by rw[<-hK1];simp
  have t1:cA K1 (m+1):=λ c hc=>by
   have q1:¬c=m:=by omega
   rw[<-hK1];simp[q1,tp c (by omega)]
  clear hK1;have b1:=(g1 b (by omega)).trans ((kf b hb).trans hb0);refine aw.same (hp xs[i] (b6 hlt) K1 (m+1) b1 t1) ?_;have q1:(n=m)=False:=by simp only[eq_iff_iff,iff_false];omega
  have q2:(m=n)=False:=by simp only[eq_iff_iff,iff_false];omega
  cases hpx:p xs[i]with
  |true =>
   have hf:je zero p xs=(xs[i],true):=by
    unfold je;rw[find?_eq_some_iff_getElem.2 ⟨hpx,i,hlt,rfl,λ j h2=>by simp[hj j (by omega) h2]⟩]
   rw[hf];have kn1:=(g1 n hm).trans kn;simp[f4,x1,kn1,hz,hs2];refine⟨.pure _ (by simp),λ c h3=>?_⟩;have q3:¬c=n:=by omega
   simp[q3,g1 c (by omega),kf c h3]
  |false =>
   simp[f1,f4,f9,f10,f11,aC i (by omega)];refine⟨_,by omega,i+1,rfl,hlt,rfl,by omega,t1,λ c h3=>(g1 c (by omega)).trans (kf c h3),(g1 n hm).trans kn,λ j h h2=>?_⟩
   by_cases e:j=i
   ·subst e;exact hpx
   exact hj j h (by omega)
 have hie:i=xs.length:=by omega
 subst hie
 have hf:je zero p xs=(zero,false):=by
  unfold je;rw[find?_eq_none.2 λ x hx=>?_];obtain⟨j,h2,rfl⟩:=getElem_of_mem hx;simp[hj j h2 h2]
 rw[hf];have q1:(n=m)=False:=by simp only[eq_iff_iff,iff_false];omega
 simp[f4,f10,f11,hz,h1,kn,q1,hs2];refine⟨.aX _ _ (.cons _ _ _ _ (.agg _ _ _ (hzz _)) (.cons _ _ _ _ fp .nil)),λ c h3=>?_⟩;have q3:¬c=n:=by omega
 have q4:¬c=m:=by omega
 simp[q3,q4,kf c h3]
def bo.zero:bo:=⟨0,[],[],0⟩
def mb.zero:mb:=⟨0,0,[],[],false,0⟩
theorem ac0 (t:bo)(b:Bool)(h:t.cols.length<=aM):ae pG 124 [aA.av t,.bool b] (.aX [aA.av t,.bool b]):=by
 refine pv c124 λ F hF=>?_;simp[A124,hF,aL.av,dB];refine aw.pure (LM t.cols h) ?_;simp[hF,aL.ds];exact fp
theorem abj (t:bo)(s:List Nat)(b:Nat)(H:Hp)(n:Nat)(hb:H.get b=aG 1 [.str s])(ht:cA H n):aj pG 195 [aA.av t,.ptr b 0] H n (λ u K k=>u=.bool (decide (t.name=s))/\K=H/\k=n):=by
 refine aj.forget (by simp) (aj.of c195 (by simp[A195]) λ F hF=>?_);have q:¬b=n:=by have:=ht.lt hb;omega
 simp[A195,hF,aL.av,dB,q,hb];rintro c hc rfl;exact ai (ht _ (aP _)) hc
theorem akH (t:bo)(i:Int)(b:Nat)(H:Hp)(n:Nat)(hb:H.get b=aG 1 [.int .u32 i])(ht:cA H n):aj pG 126 [aA.av t,.ptr b 0] H n (λ u K k=>u=.bool (decide (t.id=i))/\K=H/\k=n):=by
 refine aj.forget (by simp) (aj.of c126 (by simp[A126]) λ F hF=>?_);have q:¬b=n:=by have:=ht.lt hb;omega
 simp[A126,hF,aL.av,dB,q,hb];rintro c hc rfl;exact ai (ht _ (aP _)) hc
def bB.named (s:bB)(name:List Nat):bo×Bool:=je bo.zero (λ t:bo=>decide (t.name=name)) s.tables
def bB.table (s:bB)(i:Int):bo×Bool:=je bo.zero (λ t:bo=>decide (t.id=i)) s.tables
def bB.index (s:bB)(name:List Nat):mb×Bool:=je mb.zero (λ x:mb=>decide (x.name=name)) s.indexes
theorem gU {α:Type}{zero:α}{p:α->Bool}{l:List α}{Q:α->Prop}(h0:Q zero)(hl:∀x∈l,Q x):Q (je zero p l).1:=by
 unfold je
 split
 ·rename_i x hx;exact hl x (mem_of_find?_eq_some hx)
 exact h0
structure bB.dz (s:bB):Prop where
 t:s.tables.length<=aM
 i:s.indexes.length<=aM
 tc:∀t∈s.tables,t.cols.length<=aM
 ic:∀x∈s.indexes,x.cols.length<=aM
theorem akt (h:Hf):bh h [(.int .u32 0),(.str []),(.al (.slice none 0 0)),(.int .u32 0)] (aA.cells bo.zero):=
 .cons _ _ _ _ fp (.cons _ _ _ _ fp (.cons _ _ _ _ (.nil 2) (.cons _ _ _ _ fp .nil)))
theorem abk (s:bB)(hs:s.dz)(name:List Nat):ae pG 115 [fe.av s,.str name] (.aX [aA.av (s.named name).1,.bool (s.named name).2]):=by
 refine pv c115 λ F hF=>?_;simp[A115,hF,aL.av,dI];refine aw.ok (E4 aA (a68▸c125) (by omega) (by omega) rfl rfl akt (p:=λ t:bo=>decide (t.name=name)) (y:=.cells 1 [] [.str name] .nil) s.tables hs.t _ _ (by omega) (by simp) (bT (by simp)) λ x _ K k hb ht=>abj x name _ K k hb ht) ?_;simp;refine aw.pure (ac0 _ _ (gU (Q:=λ t:bo=>t.cols.length<=aM) (by simp[bo.zero]) hs.tc)) ?_;simp[aL.av];exact fp
theorem aai (s:bB)(hs:s.dz)(i:Int):ae pG 51 [fe.av s,.int .u32 i] (.aX [aA.av (s.table i).1,.bool (s.table i).2]):=by
 refine pv c51 λ F hF=>?_;simp[A51,hF,aL.av,dI];refine aw.ok (E4 aA (a68▸c125) (by omega) (by omega) rfl rfl akt (p:=λ t:bo=>decide (t.id=i)) (y:=.cells 1 [] [.int .u32 i] .nil) s.tables hs.t _ _ (by omega) (by simp) (bT (by simp)) λ x _ K k hb ht=>akH x i _ K k hb ht) ?_;simp;refine aw.pure (ac0 _ _ (gU (Q:=λ t:bo=>t.cols.length<=aM) (by simp[bo.zero]) hs.tc)) ?_;simp[aL.av];exact fp
def eg (s:bB)(err:Int):br:=uD (aA.ds s.tables) (aQ.ds s.indexes) err
theorem uX (s:bB)(err:Int)(n:Nat):tu n (eg s err):=bT (aJ.jI (by simp))
theorem ach {g:FuncId}{c:CF}{args:List AV}{H:Hp}{n p:Nat}{v0:AV}{s:bB}{err err':Int}(hc:HU pG g=some c)(hl:(AV.ptr p 0::args).length<=c.nt)(hp:aJ args)(hpn:p<n)(hb:H.get p=some (eg s err))
  (h:∀(F:Fr)(H0:Hp),(∀i,F.get i=(AV.ptr p 0::args)[i]?)->cA H0 n->H0.get p=some (eg s err)->VC pG c.code F H0 n [] (iO c.res λ v K _=>eY (above n K) v v0/\(∀c,c<n->c≠p->K.get c=H0.get c)/\K.get p=some (eg s err'))):
  bc pG g (.ptr p 0::args) H n v0 (H.put p (some (eg s err'))) n:=by
 refine aj.okB (p:=p) [p] (by simp) (by simp[hpn,hp.jI]) (by simpa using hpn) (λ b hm k hk=>?_) (uX _ _ _) λ H0 ht ja=>?_
 ·simp at hm;subst hm;rw[hb]at hk;injection hk with hk;subst hk;exact uX _ _ _
 refine(aj.of hc hl λ F hF=>h F H0 hF ht ((ja p (by simp)).trans hb)).mono λ v K k ⟨h1,h2,h3⟩=>⟨h1,h2,_,h3,.inl rfl⟩
theorem tY (p:Nat)(s:bB)(err e:Int)(is:Bool)(H:Hp)(n:Nat)(hpn:p<n)(hp:H.get p=some (eg s err)):
  bc pG 50 [.ptr p 0,zI e,.bool is] H n (.aX []) (H.put p (some (eg s (keep err e is)))) n:=HG p _ _ err e is H n (by simp) (by simp) hpn hp
theorem zV (s:bB)(hs:s.dz)(name:List Nat)(p:Nat)(err:Int)(H:Hp)(n:Nat)(hpn:p<n)(hp:H.get p=some (eg s err)):
  bc pG 47 [.ptr p 0,.str name] H n (aA.av (s.named name).1) (H.put p (some (eg s (keep err 200 (!(s.named name).2))))) n:=by
 refine ach c47 (by simp[A47]) (by simp) hpn hp λ F H0 hF ht hp0=>?_;have q:=ga hpn;have q':=KT hpn;simp only[eg,uD]at hp0;simp[A47,hF,hp0,q];refine aw.pure (abk s hs name) ?_;generalize s.named name=t;simp[aex,hF,aL.av];refine aw.ok (tY p s err 200 (!t.2) _ _ (by omega) (by simp[q,hp0,eg,uD])) ?_;simp[aew,q,q'];refine⟨.pure _ (by simp),λ c h1 h2=>?_⟩;simp[h2,ga h1]
theorem ahF (ns:List (List Nat))(ts:List bo)(hn:ns.length=ts.length)(hl:(aB ts).length<=aM)(ht:ts.length<=aM)(hc:∀t∈ts,t.cols.length<=aM)(s:bB)(e:Ex)(he:e.sz<=aM)(hm:e.may=true)(p:Nat)(err:Int)(H:Hp)(n:Nat)(hpn:p<n)(hp:H.get p=some (eg s err)):
  bc pG 128 [.ptr p 0,.agg (lC ns ts) 2,e.av] H n (.aX [(e.bd ns ts err).1.av,zI (e.bd ns ts err).2.1]) (H.put p (some (eg s (e.bd ns ts err).2.2))) n:=by
 refine ach c128 (by simp[A128]) (by simp[lC,Ex.av]) hpn hp λ F H0 hF htop hp0=>?_;have q:=ga hpn;have q':=KT hpn;simp[A128,hF,lC];refine aw.pure (EF ns ts hl ht hc) ?_;simp[Zf,Ze,Zd];refine aw.ok (QO ns ts (aA.ds s.tables) (aQ.ds s.indexes) (by simp) (by simp) hn hl ht hc aM e err _ _ (n+1) n (n+1+1+1+1) (n+1+1+1+1+1) p he (aP _) hm ⟨by simp[lC],by simp,by simp,by simp,by simp[q,hp0];rfl,by omega,by omega,by omega,by omega,by omega⟩) ?_;generalize e.bd ns ts err=X;obtain⟨x1,kd,er⟩:=X;have q3:(n+1+1+1=p)=False:=by simp only[eq_iff_iff,iff_false];omega
 simp[q3,q];refine⟨.pure _ (by simp),λ c h1 h2=>?_,rfl⟩;simp[h2,ga h1]
def fG (ns:List (List Nat))(ts:List bo)(e:Ex)(err:Int):List Ex×Int:=
 if e.bare 0 then ([],err)else ((e.bd ns ts err).1.split,keep (e.bd ns ts err).2.2 203 (decide ((e.bd ns ts err).2.1≠3)&&decide ((e.bd ns ts err).2.1≠0)))
mutual
theorem Ex.adF (ns:List (List Nat)) (ts:List bo):∀(e:Ex) (err:Int),(e.bd ns ts err).1.sz<=e.sz
 |.mk op v t m dT args,err=>by
  unfold Ex.bd
  split
  ·split
   ·simp[Ex.sz,Ex.zW]
   exact aP _
  split
  ·exact aP _
  have:=Ex.U2 ns ts args err;simp only[Ex.sz];omega
theorem Ex.U2 (ns:List (List Nat))(ts:List bo):∀(l:List Ex)(err:Int),Ex.zW (Ex.lY ns ts l err).1<=Ex.zW l
 |[],err=>by simp[Ex.lY]
 |e::r,err=>by
  have h1:=Ex.adF ns ts e err;have h2:=Ex.U2 ns ts r (e.bd ns ts err).2.2;simp only[Ex.lY,Ex.zW];omega
end
def C25 (e:Ex):Prop:=∀(ns:List (List Nat))(ts:List bo)(_hn:ns.length=ts.length)(_hl:(aB ts).length<=aM)(_ht:ts.length<=aM)(_hc:∀t∈ts,t.cols.length<=aM)(s:bB)(p:Nat)(err:Int)(H:Hp)(n:Nat)(_hpn:p<n)(_hp:H.get p=some (eg s err)),bc pG 53 [.ptr p 0,.agg (lC ns ts) 2,e.av] H n (eX.ds (fG ns ts e err).1) (H.put p (some (eg s (fG ns ts e err).2))) n
theorem UB {e:Ex}(h0:e.bare 0):C25 e:=by
 intro ns ts hn hl ht hc s p err H n hpn hp;refine ach c53 (by simp[A53]) (by simp[lC,Ex.av]) hpn hp λ F H0 hF htop hp0=>?_;have q:=ga hpn;have q':=KT hpn;have hb:fG ns ts e err=([],err):=by simp[fG,h0]
 rw[hb];obtain⟨op,v,t,m,dT,args⟩:=e;have hop:op=0:=h0.1;simp[A53,hF,lC,Ex.av,Ex.cells,hop,q,hp0];refine⟨.nil 7,λ c h1 h2=>?_⟩;simp[ga h1]
theorem amY (ns:List (List Nat))(ts:List bo)(hn:ns.length=ts.length)(hl:(aB ts).length<=aM)(ht:ts.length<=aM)(hc:∀t∈ts,t.cols.length<=aM)(s:bB)(e:Ex)(he:e.sz<=aM)(hm:e.may=true)(kind:Int)(p:Nat)(err:Int)(H:Hp)(n:Nat)(hpn:p<n)(hp:H.get p=some (eg s err)):
  bc pG 127 [.ptr p 0,.agg (lC ns ts) 2,e.av,zI kind] H n (e.bd ns ts err).1.av (H.put p (some (eg s (keep (e.bd ns ts err).2.2 203 (decide ((e.bd ns ts err).2.1≠0)&&decide ((e.bd ns ts err).2.1≠kind)))))) n:=by
 refine ach c127 (by simp[A127]) (by simp[lC,Ex.av]) hpn hp λ F H0 hF htop hp0=>?_;have q:=ga hpn;have q':=KT hpn;have hx:=λ H n=>ahF ns ts hn hl ht hc s e he hm p err H n;generalize e.bd ns ts err=X at hx ⊢;obtain⟨x1,kd,er⟩:=X;have hav:e.av=.agg e.cells 8:=Eq.trans rfl rfl;simp only[hav]at hx;simp[A127,hF,lC];refine aw.ok (hx _ _ (by omega) (by simp[q,hp0])) ?_
 by_cases h3:kd=0
 ·simp[CU,hF,h3];refine aw.ok (tY p s er 203 false _ _ (by omega) (by simp[q])) ?_;simp[CS,q',q];refine⟨.pure _ (by simp),λ c h1 h2=>?_⟩;simp[h2,ga h1]
 by_cases h4:kd=kind
 ·subst h4;simp[CU,hF,h3];refine aw.ok (tY p s er 203 false _ _ (by omega) (by simp[q])) ?_;simp[CS,q',q];refine⟨.pure _ (by simp),λ c h1 h2=>?_⟩;simp[h2,ga h1]
 simp[CU,hF,h3,h4];refine aw.ok (tY p s er 203 true _ _ (by omega) (by simp[q])) ?_;simp[CS,q',q];refine⟨.pure _ (by simp),λ c h1 h2=>?_⟩;simp[h2,ga h1]
theorem aco (t:bo):ae pG 54 [aA.av t] (.agg (lC [t.name] [t]) 2):=by
 refine hU c54 (by simp) (by simp[lC]) (by simp[A54]) λ F hF=>?_;simp[A54,hF,aL.av,dB];exact .agg _ _ _ (.cons _ _ _ _ (.sl 2 0 1 1 1 [] [.str t.name] .nil [.str t.name] _ (by simp) (by simp) (bh.pure (by simp))) (.cons _ _ _ _ (.sl 3 0 1 4 4 [] [.int .u32 t.id,.str t.name,bL.ds t.cols,.int .u32 t.head] .nil [.int .u32 t.id,.str t.name,bL.ds t.cols,.int .u32 t.head] _ (by simp) (by simp) (bh.pure (by simp))) .nil))
def dA:aL (List Ex) 1:=⟨λ l=>[eX.ds l],λ _=>rfl,λ _=>by simp,λ _=>by simp[aL.ds]⟩
def Up:aL (Int×Bool) 2:=⟨λ k=>[zI k.1,.bool k.2],λ _=>rfl,λ _=>by simp,λ _=>by simp⟩
theorem Be (l:List Ex):dA.cells l=[eX.ds l]:=rfl
theorem HO (x:Src):gA.cells x=.str x.table::.str x.name::x.cond.cells:=rfl
theorem Us (e:Ex):eX.cells e=e.cells:=rfl
@[simp] theorem aL.aqd {α:Type}{k:Nat}(E:aL α k)(l:List α):(E.ds l).len=1:=Eq.trans rfl rfl
@[simp] theorem aL.ajR {α:Type}{k:Nat}(E:aL α k)(l:List α):(E.ds l).cells=[E.ds l]:=Eq.trans rfl rfl
@[simp] theorem aL.asR {α:Type}{k:Nat}(E:aL α k)(l:List α):(E.ds l).one=true:=Eq.trans rfl rfl
structure bN where
 kind:Int
 table:List Nat
 name:List Nat
 cols:List ny
 on:List (List Nat)
 uniq:Bool
 rows:List (List Ex)
 sets:List St1
 cond:Ex
 q:cM
def bN.cells (x:bN):List AV:=zI x.kind::.str x.table::.str x.name::bL.ds x.cols::cK.ds x.on::.bool x.uniq::dA.ds x.rows::ahQ.ds x.sets::(x.cond.cells++x.q.cells)
@[simp] theorem cM.aid (q:cM):q.cells.length=15:=q.bf
@[simp] theorem bN.bf (x:bN):x.cells.length=31:=by simp[bN.cells]
@[simp] theorem bN.pure (x:bN):aJ x.cells:=by simp[bN.cells,cM.pure]
def bN.av (x:bN):AV:=.agg x.cells 31
@[simp] theorem bN.atC (x:bN):Pure x.av:=by simp[bN.av]
theorem bN.c1 (x:bN)(h:1<x.cells.length):x.cells[1]=.str x.table:=by simp[bN.cells]
theorem bN.c6 (x:bN)(h:6<x.cells.length):x.cells[6]=dA.ds x.rows:=by simp[bN.cells]
theorem bN.cc (x:bN):(x.cells.drop 8).take 8=x.cond.cells:=by
 simp only[bN.cells,drop_succ_cons,drop_zero];rw[take_append_of_le_length (by simp),eZ (by simp)]
theorem bN.cq (x:bN):x.cells.drop 16=x.q.cells:=by
 simp only[bN.cells,drop_succ_cons];rw[drop_append_of_le_length (by simp),drop_eq_nil_of_le (by simp),nil_append]
structure mZ where
 kind:Int
 name:List Nat:=[]
 table:bo:=bo.zero
 index:mb:=mb.zero
 cols:List ny:=[]
 rows:List (List Ex):=[]
 new:List Ex:=[]
 wM:List bo:=[]
 on:List (List Ex):=[]
 cond:List Ex:=[]
 items:List Ex:=[]
 names:List (List Nat):=[]
 kinds:List Int:=[]
 order:List (Int×Bool):=[]
 sS:Bool:=false
 limited:Bool:=false
 limit:Int:=0
def mZ.cells (b:mZ):List AV:=[zI b.kind,.str b.name,.int .u32 b.table.id,.str b.table.name,bL.ds b.table.cols,.int .u32 b.table.head,.int .u32 b.index.id,.int .u32 b.index.table,.str b.index.name,cQ.ds b.index.cols,.bool b.index.uniq,.int .u32 b.index.root,
 bL.ds b.cols,dA.ds b.rows,eX.ds b.new,aA.ds b.wM,dA.ds b.on,eX.ds b.cond,eX.ds b.items,cK.ds b.names,cQ.ds b.kinds,Up.ds b.order,.bool b.sS,.bool b.limited,zI b.limit]
@[simp] theorem mZ.pure (b:mZ):aJ b.cells:=by simp[mZ.cells]
def lj (kind:Int):List AV:=[zI kind,.str [],.int .u32 0,.str [],.al (.slice none 0 0),.int .u32 0,.int .u32 0,.int .u32 0,.str [],.al (.slice none 0 0),.bool false,.int .u32 0,
 .al (.slice none 0 0),.al (.slice none 0 0),.al (.slice none 0 0),.al (.slice none 0 0),.al (.slice none 0 0),.al (.slice none 0 0),.al (.slice none 0 0),.al (.slice none 0 0),.al (.slice none 0 0),.al (.slice none 0 0),.bool false,.bool false,zI 0]
def nw (h:Hf):List AV->List AV->Prop
 |[],[]=>True
 |v::l,v'::l'=>FI h v v'/\nw h l l'
 |_,_=>False
@[simp] theorem ahE (h:Hf):nw h [] []=True:=by simp[nw]
@[simp] theorem uS (h:Hf)(v v':AV)(l l':List AV):nw h (v::l) (v'::l')=(FI h v v'/\nw h l l'):=by simp[nw]
@[simp] theorem auO (h:Hf)(v:AV):FI h v v=True:=by simp[FI]
@[simp] theorem auP {α:Type}{k:Nat}(h:Hf)(E:aL α (k+1)):FI h (.al (.slice none 0 0)) (E.ds [])=True:=by
 simp only[eq_iff_iff,iff_true];exact .inr (.nil k)
theorem nw.at {h:Hf}:∀ {l l':List AV},nw h l l'->l'.length=l.length/\∀(i:Nat) v',l'[i]?=some v'->∃v,l[i]?=some v/\FI h v v'
 |[],[],_=>⟨rfl,λ i v' hv=>by simp at hv⟩
 |[],_::_,k=>by simp[nw]at k
 |_::_,[],k=>by simp[nw]at k
 |v::l,v'::l',k=>by
  simp only[uS]at k;obtain⟨h1,h2⟩:=nw.at k.2;refine⟨by simp[h1],λ i w hw=>?_⟩
  cases i with
  |zero=>simp at hw;subst hw;exact⟨v,rfl,k.1⟩
  |succ i=>simpa using h2 i w (by simpa using hw)
theorem nw.bz {h:Hf}{l l':List AV}{u:Nat}(k:nw h l l')(hu:l.length=u):BZ h (.cells u [] l .nil) (.cells u [] l' .nil):=by
 obtain⟨h1,h2⟩:=k.at;refine .inr ⟨u,[],l,.nil,l',rfl,rfl,by omega,λ i v' hv=>?_⟩;obtain⟨v,h3,h4⟩:=h2 i v' hv;refine⟨v,?_,h4⟩;rw[jc,ao (by have:=(pS.1 h3).1;omega)];exact h3
theorem nw.refl (h:Hf):∀l:List AV,nw h l l
 |[]=>by simp
 |v::l=>by simp[nw.refl h l]
theorem ais {g:FuncId}{c:CF}{args:List AV}{H:Hp}{n p o:Nat}{v0:AV}{s:bB}{err err':Int}{l0 l1:List AV}(hc:HU pG g=some c)(hl:(AV.ptr p 0::(args++[.ptr o 0])).length<=c.nt)(hp:aJ args)(hpn:p<n)(hon:o<n)(hpo:p≠o)(hb:H.get p=some (eg s err))(ho:H.get o=aG 25 l0)(hr0:cT n l0)(hr1:cT n l1)
  (h:∀(F:Fr)(H0:Hp),(∀i,F.get i=(AV.ptr p 0::(args++[.ptr o 0]))[i]?)->cA H0 n->H0.get p=some (eg s err)->H0.get o=aG 25 l0 ->
   VC pG c.code F H0 n [] (iO c.res λ v K _=>eY (above n K) v v0/\(∀c,c<n->c≠p->c≠o->K.get c=H0.get c)/\K.get p=some (eg s err')/\∃l,K.get o=aG 25 l/\l.length=25/\nw (above n K) l l1)):
  bc pG g (.ptr p 0::(args++[.ptr o 0])) H n v0 ((H.put p (some (eg s err'))).put o (aG 25 l1)) n:=by
 refine aj.okZ [p,o] ?_ (by simp[hpn,hon]) (λ b hm k hk=>?_) (λ b hm k hk=>?_) (λ b hm=>?_) ?_
 ·simp only[gZ,KB];refine⟨hpn,cT.of λ v hv=>?_⟩
  rcases mem_append.1 hv with h1|h1
  ·exact(hp.jI (n:=n)).mem v h1
  simp at h1;subst h1;simpa using hon
 ·simp only[mem_cons,not_mem_nil,or_false]at hm
  rcases hm with rfl|rfl
  ·rw[hb]at hk;injection hk with hk;subst hk;exact uX _ _ _
  rw[ho]at hk;injection hk with hk;subst hk;exact bT hr0
 ·simp only[mem_cons,not_mem_nil,or_false]at hm
  rcases hm with rfl|rfl
  ·simp[hpo]at hk;subst hk;exact uX _ _ _
  simp at hk;subst hk;exact bT hr1
 ·simp at hm;simp[hm.1,hm.2]
 refine(aj.of hc hl λ F hF=>h F _ hF (ku (by simp[hpn,hon])) ((eF (by simp)).trans hb) ((eF (by simp)).trans ho)).mono λ v K k ⟨h1,h2,h3,l,h4,h5,h6⟩=>⟨h1,λ b hm y hy=>?_⟩;simp only[mem_cons,not_mem_nil,or_false]at hm
 rcases hm with rfl|rfl
 ·simp[hpo]at hy;subst hy;exact⟨_,h3,.inl rfl⟩
 simp at hy;subst hy;exact⟨_,h4,h6.bz h5⟩
def keeps (e:Int)(p:Nat->Bool):Nat->Int->Int
 |0,err=>err
 |n+1,err=>keep (keeps e p n err) e (p n)
def qg (l:List ny)(i:Nat):ny:=l.getD i ⟨[],0,false⟩
theorem UF {l:List ny}{i:Nat}(h:i<l.length):qg l i=l[i]:=by simp[qg,h]
def ah8 (l:List ny)(i:Nat):Bool:=(l.take i).any λ d=>decide (d.name=(qg l i).name)
def ab5 (s:bB)(x:bN)(err:Int):mZ×Int:=({kind:=x.kind,name:=x.table,cols:=x.cols},keeps 205 (ah8 x.cols) x.cols.length (keep err 200 (s.named x.table).2))
def qf (t:bo)(name:List Nat):Int:=kL (λ c:ny=>decide (c.name=name)) t.cols
def onE (t:bo)(on:List (List Nat)):Nat->Int->Int
 |0,err=>err
 |i+1,err=>keep (keep (onE t on i err) 201 (decide (qf t (on.getD i [])<0))) 205 (decide (on.getD i []∈on.take i))
def indexB (s:bB)(x:bN)(err:Int):mZ×Int:=
 ({kind:=x.kind,table:=(s.named x.table).1,index:={id:=0,table:=(s.named x.table).1.id,name:=x.name,cols:=x.on.map (qf (s.named x.table).1),uniq:=x.uniq,root:=0}},onE (s.named x.table).1 x.on x.on.length (keep (keep err 200 (!(s.named x.table).2)) 202 (s.index x.name).2))
def aq6 (kind:Int)(t:bo)(name:List Nat)(u:Bool)(va:AV):List AV:=[zI kind,.str [],.int .u32 t.id,.str t.name,bL.ds t.cols,.int .u32 t.head,.int .u32 0,.int .u32 t.id,.str name,va,.bool u,.int .u32 0,
 .al (.slice none 0 0),.al (.slice none 0 0),.al (.slice none 0 0),.al (.slice none 0 0),.al (.slice none 0 0),.al (.slice none 0 0),.al (.slice none 0 0),.al (.slice none 0 0),.al (.slice none 0 0),.al (.slice none 0 0),.bool false,.bool false,zI 0]
structure IxI (H0:Hp)(n p o:Nat)(s:bB)(t:bo)(x:bN)(e0:Int)(i:Nat)(va:AV)(F:Fr)(K:Hp)(m:Nat):Prop where
 hi:i<=x.on.length
 f0:F.get 0=some (.ptr p 0)
 f2:F.get 2=some (.ptr o 0)
 f4:F.get 4=some (.ptr n 0)
 f45:F.get 45=some (cK.ds x.on)
 f46:F.get 46=some (zI (x.on.length:Int))
 f47:F.get 47=some (zI (i:Int))
 hm:n<m
 tp:cA K m
 kf:∀c,c<n->c≠p->c≠o->K.get c=H0.get c
 kp:K.get p=some (eg s (onE t x.on i e0))
 kn:K.get n=aG 31 x.cells
 ko:K.get o=aG 25 (aq6 x.kind t x.name x.uniq va)
 oa:au K m va (cQ.l ((x.on.take i).map (qf t))) i 1
 da:∀c,blk va=some c->n<c
theorem bc.conv {P:Program}{g:FuncId}{args args':List AV}{H H':Hp}{n n':Nat}{v:AV}(h:bc P g args' H n v H' n')(hc:∀ φ D xs,bO φ D args xs->bO φ D args' xs):bc P g args H n v H' n':=
 ⟨h.1,h.2.1,λ φ D w xs hr hv=>h.2.2 φ D w xs hr (hc φ D xs hv)⟩
theorem VR.alJ {φ:Ph}{D:Da}{x:Value}{α:Type}{k:Nat}(E:aL α (k+1))(h:VR φ D (.al (.slice none 0 0)) x):VR φ D (E.ds []) x:=by
 cases h;exact .rH _
def tN (F:Fr):List Nat->Fr
 |[]=>.nil
 |b::r=>(tN F r).put b (F.get b)
theorem yU (F:Fr)(L:List Nat)(c:Nat):(tN F L).get c=if c∈L then F.get c else none:=by
 induction L with
 |nil=>simp[tN]
 |cons b r ih =>
  simp only[tN,Tr.get_put,ih,mem_cons]
  by_cases h:c=b
  ·subst h;simp
  simp[h]
theorem eI {F:Fr}{L:List Nat}{c:Nat}(h:c∈L):(tN F L).get c=F.get c:=by rw[yU,ao h]
theorem yT {F:Fr}{L:List Nat}{c:Nat}{v:AV}(h:(tN F L).get c=some v):F.get c=some v:=by
 rw[yU]at h
 split at h
 ·exact h
 cases h
theorem Ri {F F2:Fr}{K:Hp}{m:Nat}{va x:AV}{l cs:List AV}{len k sz:Nat}(hF:∀(t:Nat) v,F2.get t=some v->F.get t=some v) (ha:au K m va (l++[x]) (len+1) 1) (hx:au K m x cs k sz) (hz:0<sz) (hcs:aJ cs) (hd:∀c,blk va=some c->blk x≠some c):
  ∃h K2,ez h F K F2 K2/\au K2 m va (l++[.ds cs k sz]) (len+1) 1/\∀c,blk va≠some c->blk x≠some c->K2.get c=K.get c:=by
 have hfz:∀h:Hf,(∀c,blk x=some c->h c=K.get c)->eY h x (.ds cs k sz):=by
  intro h hh;obtain⟨s',rfl⟩:∃s',sz=s'+1:=⟨sz - 1,by omega⟩;obtain⟨h0,⟨rfl,rfl⟩|⟨b,kk,rfl,hb,hk,ho⟩⟩:=hx
  ·have:cs=[]:=by simpa using h0
   subst this;exact .nil _
  obtain⟨u,z,bs,t,rfl,hg⟩:=ho.fX (o:=0) (c:=k*(s'+1)) (by omega);refine .sl _ _ _ _ _ _ _ _ _ _ ((hh b rfl).trans hk) hg ?_;rw[drop_zero,eZ (by omega)];exact bh.pure hcs
 obtain⟨h0,⟨_,h1⟩|⟨b,kb,rfl,hb,hk,ho⟩⟩:=ha
 ·omega
 have hxb:blk x≠some b:=hd b rfl;obtain⟨u,z,bs,t,rfl,hu,hg,hi⟩:=ho
 refine⟨λ c=>if blk x=some c then K.get c else none,(match blk x with
  |some c=>K.put c none
  |none=>K).put b (aG u (l++[AV.ds cs k sz])),⟨λ c y hc=>?_,λ c hc=>?_,λ t v hv=>⟨v,hF t v hv,.inl rfl⟩,λ c y hc=>?_⟩,⟨by simpa using h0,.inr ⟨b,.cells u [] (l++[AV.ds cs k sz]) .nil,rfl,hb,by simp,OwnB.list (by simpa using hu)⟩⟩,λ c h3 h4=>?_⟩
 ·split at hc
  ·exact hc
  cases hc
 ·have hc:(if blk x=some c then K.get c else none)≠none:=hc
  by_cases he:blk x=some c
  ·have hcb:c≠b:=λ e=>hxb (by rw[he,e]);rw[he];simp[hcb]
  simp[he]at hc
 ·by_cases hcb:c=b
  ·subst hcb;simp at hc;subst hc;refine⟨_,hk,.inr ⟨u,z,bs,t,_,rfl,rfl,by simpa using hu.symm,λ i v' hv=>?_⟩⟩
   by_cases hil:i<l.length
   ·rw[getElem?_append_left hil]at hv;exact⟨v',by rw[hg,getElem?_append_left hil];exact hv,.inl rfl⟩
   rw[getElem?_append_right (by omega)]at hv
   have:i=l.length:=by
    have:=(pS.1 hv).1;simp at this;omega
   subst this;simp at hv;subst hv;refine⟨x,by rw[hg];simp,.inr (hfz _ λ c hc=>ao hc)⟩
  rw[Tr.get_put,ah hcb]at hc;refine⟨y,?_,.inl rfl⟩
  cases hbx:blk x with
  |none=>rw[hbx]at hc;exact hc
  |some d =>
   rw[hbx]at hc;simp only[Tr.get_put]at hc
   split at hc
   ·cases hc
   exact hc
 have h5:c≠b:=λ e=>h3 (by rw[e];rfl);rw[Tr.get_put,ah h5]
 cases hbx:blk x with
 |none=>rfl
 |some d =>
  have:c≠d:=λ e=>h4 (by rw[hbx,e]);simp[this]
theorem au.Aw {H:Hp}{n:Nat}{v:AV}{l:List AV}{len sz:Nat}(h:au H n v l len sz):v.len=1/\v.cells=[v]:=by
 obtain⟨_,⟨rfl,_⟩|⟨b,k,rfl,_⟩⟩:=h<;>exact⟨rfl,rfl⟩
end Go.Abs
