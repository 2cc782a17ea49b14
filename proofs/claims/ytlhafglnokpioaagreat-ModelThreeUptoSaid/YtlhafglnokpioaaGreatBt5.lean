/- A part. -/
import Derived.Test.YtlhafglnokpioaaGreatBt4
noncomputable section
namespace Go.Abs
open List
open Go.Proofs
open Classical
set_option maxRecDepth 100000
def yE (l:List pz)(i:Nat):Int:=match (l.take i).getLast? with
 |some t=>t.id
 |none=>0
theorem afz (l:List pz):yE l 0=0:=by simp[yE]
theorem afy {l:List pz}{i:Nat}(h:i<l.length):yE l (i+1)=l[i].id:=by
 unfold yE;rw[take_add_one,cY h];simp only[Option.toList,getLast?_concat]
structure am7 (s:cG)(i:Nat)(h:i<s.indexes.length):Prop where
 id:yE s.indexes i<s.indexes[i].id
 name:fH s.indexes[i].name
 table:(s.table s.indexes[i].table).2=true
 cols:fX (s.table s.indexes[i].table).1 s.indexes[i].cols
 new:∀t∈s.indexes.take i,t.name≠s.indexes[i].name
def TF (s:cG):Prop:=∀i h,am7 s i h
theorem akM (s:cG)(hs:s.gA)(F:Fr)(K:Hp)(n:Nat)(Q:QA)(S:Lm s K n)(f1:F.get 1=some (.ptr 0 0))(f2:F.get 2=some (.ptr 1 0))(f5:F.get 5=some (.int .u32 0))(f39:F.get 74=some (bw.ds s.indexes))(f40:F.get 75=some (zI (s.indexes.length:Int)))(f41:F.get 76=some (zI 0))
  (hok:TF s->∀F' K' n',Lm s K' n'->F'.get 1=some (.ptr 0 0)->F'.get 2=some (.ptr 1 0)->Q .normal F' K' n' [.cD 6])
  (hbad:¬TF s->∀F' K' n',Lm s K' n'->F'.get 2=some (.ptr 1 0)->Q .ret F' K' n' [.cD 6]):aF TA pG F K n [.cD 6] (ig 4 Q):=by
 have ht:=hs.i;unfold aU at ht;refine aF.of (λ t F K n ms=>∃i,t=s.indexes.length - i/\i<=s.indexes.length/\F.get 1=some (.ptr 0 0)/\F.get 2=some (.ptr 1 0)/\F.get 5=some (.int .u32 (yE s.indexes i))/\F.get 74=some (bw.ds s.indexes)/\F.get 75=some (zI (s.indexes.length:Int))/\F.get 76=some (zI (i:Int))/\Lm s K n/\(∀k,(h:k<s.indexes.length)->k<i->am7 s k h)/\ms=[.cD 6]) s.indexes.length ⟨0,ai,ai,f1,f2,by simp[afz,f5],f39,f40,by simp[f41],S,λ k _ h=>ah,rfl⟩ ?_;clear S f1 f2 f5 f39 f40 f41 F K n;rintro t F K n ms ⟨i,rfl,hil,f1,f2,f5,f39,f40,f41,S,hP,rfl⟩
 by_cases hlt:i<s.indexes.length
 ·have hx := bw.ix (ik:=.i64) hlt;have hld:=λ H=>bw.pT s.indexes[i] (bw.l (s.indexes.drop (i+1))) H;have S1:=S.alloc (.cells 6 [] [.int .u32 0,.int .u32 0,.str [],.aV (.slice none 0 0),.bool false,.int .u32 0] .nil) (.cells 6 [] (bw.cells s.indexes[i]) .nil);have hsl:=bw.TV (l:=s.indexes) (i:=i) hil;simp[TA,f39,f40,f41,hlt,hx,hld,bf.av];generalize hK1:Tr.put (Tr.put K n _) n _=K1 at S1 ⊢;have kn:K1.get n=aN 6 (bw.cells s.indexes[i]):=by rw[<-hK1];simp
  clear hK1;have BB:=kn;rw[iQ]at BB;have k0:=S1.k0;rw[fe]at k0;have no:¬am7 s i hlt->¬TF s:=λ h h2=>h (h2 i hlt);have h23:=aet s hs s.indexes[i].table;have hav:lj.av s=.agg [aM.ds s.tables,bw.ds s.indexes] 2:=rfl;rw[hav]at h23;simp[abd,f1,k0,BB];refine aB.pure h23 ?_;have hcl:(s.table s.indexes[i].table).1.cols.length<=aU:=lg (Q:=λ t:bR=>t.cols.length<=aU) (by simp[bR.zero,aU]) hs.tc;have h48:=λ c=>Xu (s.table s.indexes[i].table).1 c hcl;generalize hT:s.table s.indexes[i].table=T at h48 hcl ⊢;obtain⟨t,ok⟩:=T;have S2:=S1.alloc (.cells 4 [] [.int .u32 0,.str [],.aV (.slice none 0 0),.int .u32 0] .nil) (.cells 4 [] (aM.cells t) .nil);simp[bf.av];generalize hK2:Tr.put (Tr.put K1 (n+1) _) (n+1) _=K2 at S2 ⊢;have kn2:K2.get n=aN 6 (bw.cells s.indexes[i]):=by rw[<-hK2];simp[kn]
  have kt:K2.get (n+1)=aN 4 (aM.cells t):=by rw[<-hK2];simp
  clear hK2 kn BB k0 S1;have BB:=kn2;rw[iQ]at BB;have k0:=S2.k0;rw[fe]at k0;have k1:=S2.k1;have h48':=h48 s.indexes[i].cols;simp only[bf.av]at h48'
  by_cases h1:s.indexes[i].id<=yE s.indexes i
  ·simp[LV,BB,f5,h1,vc,f2,k1];refine hbad (no λ h=>aw h.id ah) _ _ _ S2.re ?_;simp[f2]
  simp[LV,BB,f5,h1];refine aB.pure (name44 s.indexes[i].name) ?_
  by_cases h2:fH s.indexes[i].name
  ·cases ok with
   |false =>
    simp[h2,vc,f2,k1];refine hbad (no λ h=>?_) _ _ _ S2.re ?_
    ·have:=h.table;rw[hT]at this;simp at this
    simp[f2]
   |true =>
   simp[h2,BB,kt];refine aB.pure h48' ?_
   by_cases h3:fX t s.indexes[i].cols
   ·simp[h3,f1,k0,wq,vB,hsl];refine aB.same (al3 (p:=λ d=>decide (d.name=s.indexes[i].name)) (first:=[]) (cap:=[.ptr n 0]) (s.indexes.take i) (by simp;unfold aU;omega) λ d _=>ap3 d s.indexes[i] n K2 (n+1+1) kn2 S2.top) ?_
    by_cases h4:∃t∈s.indexes.take i,t.name=s.indexes[i].name
    ·have h4':((s.indexes.take i).any λ d=>decide (d.name=s.indexes[i].name))=true:=by simpa using h4
     simp[h4',vc,f2,k1];refine hbad (no λ h=>?_) _ _ _ S2.re ?_
     ·obtain⟨t,ht1,ht2⟩:=h4;exact h.new t ht1 ht2
     simp[f2]
    have h4':((s.indexes.take i).any λ d=>decide (d.name=s.indexes[i].name))=false:=by
     rw[Bool.eq_false_iff];intro h;exact h4 (by simpa using h)
    simp[h4',abc,abb,BB,f1,f2,f39,f40,f41,aE i ah];refine⟨_,ah,i+1,rfl,hlt,by simp[afy hlt],rfl,S2,λ k h hk=>?_⟩
    by_cases e:k=i
    ·subst e;exact⟨ah,h2,by rw[hT],by rw[hT];exact h3,λ t ht1 ht2=>h4 ⟨t,ht1,ht2⟩⟩
    exact hP k h ah
   simp[h3,vc,f2,k1];refine hbad (no λ h=>h3 ?_) _ _ _ S2.re ?_
   ·have:=h.cols;rwa [hT]at this
   simp[f2]
  simp[h2,vc,f2,k1];refine hbad (no λ h=>h2 h.name) _ _ _ S2.re ?_;simp[f2]
 obtain rfl:i=s.indexes.length:=ah;simp[TA,f40,f41];refine hok (λ k h=>hP k h h) _ _ _ S ?_ ?_
 ·simp[f1]
 simp[f2]
@[simp] theorem atK (b:Nat):(AV.map b).len=1:=rfl
@[simp] theorem anB (b:Nat):(AV.map b).cells=[.map b]:=rfl
@[simp] theorem atJ (b:Nat):(AV.map b).one=true:=rfl
structure fN (s:cG):Prop where
 t:s.tables.length<=32
 i:s.indexes.length<=64
 pages:vh s.pages
 tabs:zD s.tables
 ixs:TF s
theorem ag8 (s:cG) (hs:s.gA):aj pG 37 [lj.av s] (.bool (decide (fN s))):=by
 refine pv c37 λ F hF=>?_
 by_cases h1:32<s.tables.length
 ·have:¬fN s:=λ h=>aw h.t ah;simp[A37,hF,bf.av,fe,bf.aT,show (32:Int)<(s.tables.length:Int) by omega];exact .bool (by simp[this])
 have h1':¬(32:Int)<(s.tables.length:Int):=ah
 by_cases h2:64<s.indexes.length
 ·have:¬fN s:=λ h=>aw h.i ah;simp[A37,hF,bf.av,fe,bf.aT,h1',show (64:Int)<(s.indexes.length:Int) by omega];exact .bool (by simp[this])
 have h2':¬(64:Int)<(s.indexes.length:Int):=ah;simp[A37,hF,bf.av,fe,bf.aT,h1',h2',lx];refine aB.of (ae3 s _ _) ?_;rintro v K n ⟨rfl,rfl,rfl⟩;simp;refine Lo.of ?_;generalize hF1:(Fp 24 _ _:Fr)=F1;have f1:F1.get 1=some (.ptr 0 0):=by rw[<-hF1];simp
 have f2:F1.get 2=some (.ptr 1 0):=by rw[<-hF1];simp
 have f3:F1.get 3=some (.ptr 3 0):=by rw[<-hF1];simp
 clear hF1 hF F;refine ao.mono (ae2 s hs F1 _ _ f2 f3 ?_) ?_
 ·refine⟨by simp[fe],ai,by simp[PD],ai,ai,ai,ai,ah,λ b hb=>?_⟩;simp[show ¬b=0 by omega,show ¬b=1 by omega,show ¬b=2 by omega,show ¬b=3 by omega,show ¬b=4 by omega,show ¬b=5 by omega,show ¬b=6 by omega]
 rintro v K n (⟨hp,S⟩|⟨hp,X⟩)
 ·refine⟨_,_,_,_,_,_,_,S.k5,ai,ai,?_⟩
  have S1:Lm s (K.put 5 none) n:=⟨by simp[S.k0],by simp[S.k1],by simp[S.k6],S.n7,λ b hb=>by
   have:=S.n7;simp[show ¬b=5 by omega,S.top b hb]⟩
  clear S;generalize Tr.put K 5 none=K1 at S1 ⊢;have k0:=S1.k0;rw[fe]at k0;simp[aiI,abj,f1,k0,bf.aT];refine akN s hs _ _ _ _ S1 (by simp[f1]) (by simp[f2]) ai ai ai ai (λ ht F' K' n' S' g1 g2=>?_) (λ ht F' K' n' S' g2=>?_)
  ·have k0:=S'.k0;rw[fe]at k0;simp[abf,abe,g1,k0,bf.aT];refine akM s hs _ _ _ _ S' (by simp[g1]) (by simp[g2]) ai ai ai ai (λ hi F3 K3 n3 S3 w1 w2=>?_) (λ hi F3 K3 n3 S3 w2=>?_)
   ·have:fN s:=⟨ah,ah,hp,ht,hi⟩;have k1:=S3.k1;have k6:=S3.k6;simp[aba,w2,k1,k6];exact .bool (by simp[this])
   have:¬fN s:=λ h=>hi h.ixs;have k1:=S3.k1;have k6:=S3.k6;simp[w2,k1,k6];exact .bool (by simp[this])
  have:¬fN s:=λ h=>ht h.tabs;have k1:=S'.k1;have k6:=S'.k6;simp[g2,k1,k6];exact .bool (by simp[this])
 obtain⟨k1,⟨nt,G,ps,a,b,k5⟩,k6⟩:=X;have:¬fN s:=λ h=>hp h.pages;refine⟨_,_,_,_,_,_,_,k5,ai,ai,?_⟩;simp[f2,k1,k6];exact .bool (by simp[this])
def M5:CT:=.seq (.seq ET (.cond (aA 107) (.seq MR .ret) .skip)) (.seq MQ .ret)
structure amS (s:cG)(b:oU)(err:Int)(K:Hp):Prop where
 k2:K.get 2=aN 25 (oY 0)
 k3:K.get 3=some (fP s err)
 k4:∃l,K.get 4=aN 25 l/\l.length=25/\bo l=true/\∀h,uk h l b.cells
theorem uk.YL {h:Hf}:∀ {l l':List AV},uk h l l'->aS l'->bp h l l'
 |[],[],_,_=>.nil
 |[],_::_,k,_=>by simp[uk]at k
 |_::_,[],k,_=>by simp[uk]at k
 |v::l,v'::l',k,hp=>by
  simp only[P1]at k;simp at hp;refine .cons _ _ _ _ ?_ (uk.YL k.2 hp.2)
  rcases k.1 with rfl|h1
  ·exact .pure _ hp.1
  exact h1
theorem yp (k:Int)(h:Hf):uk h (oY k) (oU.cells {kind:=k}):=by
 simp[oY,oU.cells,bR.zero,pz.zero]
@[simp] theorem XB (k:Int):(oY k).length=25:=rfl
theorem XA (k:Int):bo (oY k)=true:=by simp[oY]
def agk:oU:={kind:=0}
def Eb (r:oU×Int):oU×Int:=if r.2=0 then r else (agk,r.2)
theorem Va (s:cG)(b:oU)(err:Int)(F:Fr)(K:Hp)(n:Nat)(f4:F.get 4=some (.ptr 2 0))(f6:F.get 6=some (.ptr 3 0))(f7:F.get 7=some (.ptr 4 0))(O:amS s b err K):
  VC pG M5 F K n [] (kH [cj 4 25,aH 5] λ v1 H' _=>fj H'.get v1 (.br [.agg (Eb (b,err)).1.cells 25,zI (Eb (b,err)).2])):=by
 obtain⟨k2,k3,l,k4,hl,ha,hz⟩:=O;simp only[fP,zq]at k3;have hzo:oY 0=[(zI 0),(.str []),(.int .u32 0),(.str []),(.aV (.slice none 0 0)),(.int .u32 0),(.int .u32 0),(.int .u32 0),(.str []),(.aV (.slice none 0 0)),(.bool false),(.int .u32 0),(.aV (.slice none 0 0)),(.aV (.slice none 0 0)),(.aV (.slice none 0 0)),(.aV (.slice none 0 0)),(.aV (.slice none 0 0)),(.aV (.slice none 0 0)),(.aV (.slice none 0 0)),(.aV (.slice none 0 0)),(.aV (.slice none 0 0)),(.aV (.slice none 0 0)),(.bool false),(.bool false),(zI 0)]:=rfl;have zl:=XB 0;have zo:=XA 0;have zf:=yp 0
 by_cases h0:err=0
 ·subst h0;generalize oY 0=z at *;have hp:patch z 0 l=some l:=Bi ah;simp[M5,ET,MQ,f4,f6,f7,k2,k3,k4,ha,hp,Eb];exact .br _ _ (.cons _ _ _ _ (.agg _ _ _ ((hz _).YL ai)) (.cons _ _ _ _ fp .nil))
 simp[M5,ET,MR,f6,k3,h0,Eb];rw[<-hzo];generalize oY 0=z at *;have hp:patch z 0 z=some z:=Bi rfl;refine bF.of (bq (P:=pG)) ?_;simp[ae,f4,f6,k2,k3,zo,hp];exact .br _ _ (.cons _ _ _ _ (.agg _ _ _ ((zf _).YL ai)) (.cons _ _ _ _ fp .nil))
def C5:CT:=(.seq ach (.cond (aA 27) ai0 (.seq acg (.cond (aA 32) aiZ (.seq MZ (.cond (aA 39) acw (.seq MY (.cond (aA 44) (.seq acv (.seq acu (.seq acs acr))) (.seq MX (.cond (aA 67) acq (.seq MW (.cond (aA 72) (.seq acp (.seq aco (.cond (aA 83) acn .skip))) (.seq MV (.cond (aA 92) acm (.seq MU (.cond (aA 97) MS .skip))))))))))))))))
theorem b5:A23.code=(.seq I1 (.seq (.seq IZ (.cond (aA 17) (.seq RI .ret) .skip)) (.seq ack (.seq acj (.seq (.seq aci (.block 0 C5)) M5))))):=rfl
def VI (s:cG)(x:dE)(err:Int):oU×Int:=({kind:=x.kind,table:=(s.table (s.index x.name).1.table).1,index:=(s.index x.name).1},keep err 202 (!(s.index x.name).2))
def aga (s:cG)(x:dE)(err:Int):oU×Int:=
 if keep err 200 (!(s.named x.table).2)≠0 then ({kind:=x.kind,table:=(s.named x.table).1},keep err 200 (!(s.named x.table).2))
 else ({kind:=x.kind,table:=(s.named x.table).1,cond:=(ew [(s.named x.table).1.name] [(s.named x.table).1] x.cond 0).1},(ew [(s.named x.table).1.name] [(s.named x.table).1] x.cond 0).2)
def vQ (s:cG)(x:dE):oU×Int:=
 if x.kind=1 then agb s x 0
 else if x.kind=2 then ({kind:=x.kind,table:=(s.named x.table).1},keep 0 200 (!(s.named x.table).2))
 else if x.kind=3 then indexB s x 0
 else if x.kind=4 then VI s x 0
 else if x.kind=5 then afH s x 0
 else if x.kind=6 then aga s x 0
 else if x.kind=7 then aeq s x 0
 else if x.kind=8 then gq s x.q x.kind 0
 else ({kind:=x.kind},0)
def cu (s:cG)(x:dE):oU×Int:=if fN s/\x.may=true then Eb (vQ s x)else (agk,1)
structure E5 (s:cG)(x:dE)(F:Fr)(K:Hp):Prop where
 f2:F.get 2=some (.ptr 0 0)
 f3:F.get 3=some (.ptr 1 0)
 f4:F.get 4=some (.ptr 2 0)
 f6:F.get 6=some (.ptr 3 0)
 f7:F.get 7=some (.ptr 4 0)
 f26:F.get 26=some (zI x.kind)
 k0:K.get 0=aN 2 (lj.cells s)
 k1:K.get 1=aN 31 x.cells
 k2:K.get 2=aN 25 (oY 0)
 k3:K.get 3=some (fP s 0)
 k4:K.get 4=aN 25 (oY x.kind)
 top:dm K 5
def am9 (s:cG)(x:dE)(Q:QA):Prop:=∀F' K' n',F'.get 4=some (.ptr 2 0)->F'.get 6=some (.ptr 3 0)->F'.get 7=some (.ptr 4 0)->amS s (vQ s x).1 (vQ s x).2 K'->Q .normal F' K' n' []
theorem oU.one (b:oU):bo b.cells=true:=by simp[oU.cells,bf.ds]
theorem XD {s:cG}{b:oU}{e:Int}{K:Hp}(k2:K.get 2=aN 25 (oY 0)):amS s b e ((K.put 3 (some (fP s e))).put 4 (aN 25 b.cells)):=
 ⟨by simp[k2],ai,_,ai,rfl,b.one,λ h=>uk.refl h _⟩
theorem agn (s:cG)(hs:s.gA)(x:dE)(hq:x.q.gA s)(hC:C25 x.q.cond)(hS:∀y∈x.q.ar,C25 y.cond)(hI:I76 x.q)(hO:O28 x.q)(hk:x.kind=8)(F:Fr)(K:Hp)(Q:QA)(E:E5 s x F K)(hQ:am9 s x Q):VC pG C5 F K 5 [] Q:=by
 obtain⟨f2,f3,f4,f6,f7,f26,k0,k1,k2,k3,k4,top⟩:=E;have hc:=aeS s hs x.q hq hC hS hI hO x.kind 3 4 0 K 5 ah ah ah k3 k4;have hb:vQ s x=gq s x.q x.kind 0:=by simp[vQ,hk]
 have xl:=x.bm;have xq:=x.tq;rw[<-hb]at hc;have hav:x.q.av=.agg x.q.cells 15:=Eq.trans rfl rfl;rw[hav]at hc;rw[hk]at f26;generalize x.cells=xs at *;generalize x.q.cells=qs at *;have hg:jT 31 [] xs .nil 16 15=some qs:=by simp[xl,xq]
 simp[C5,ach,acg,MZ,MY,MX,MW,MV,MU,MS,f26,f3,f6,f7,k1,hg];refine aB.ok hc ?_;simp;exact hQ _ _ _ (by simp[f4]) (by simp[f6]) (by simp[f7]) (XD k2)
theorem Hg (k:Int):oY k=[zI k,.str [],.int .u32 0,.str [],.aV (.slice none 0 0),.int .u32 0,.int .u32 0,.int .u32 0,.str [],.aV (.slice none 0 0),.bool false,.int .u32 0,
 .aV (.slice none 0 0),.aV (.slice none 0 0),.aV (.slice none 0 0),.aV (.slice none 0 0),.aV (.slice none 0 0),.aV (.slice none 0 0),.aV (.slice none 0 0),.aV (.slice none 0 0),.aV (.slice none 0 0),.aV (.slice none 0 0),.bool false,.bool false,zI 0]:=rfl
theorem dE.av5 {x:dE}(h:x.may=true):x.ok=true:=by
 unfold dE.may at h;rw[dU]at h;exact h.1
theorem bG.P0 {s:cG}(ho:fN s){x:dE}(hx:x.sm) (h:x.q.may=true):x.q.gA s:=by
 have hm:x.q.cond.maybe=true/\x.q.ar.length<=4/\(x.q.star=true->x.q.items.length=0)/\(x.q.star=false->x.q.items.length<=16)/\(∀y∈x.q.items,y.e.may=true)/\jP x.q.ar=true:=by
  simp only[bG.may,dU,all_eq_true,decide_eq_true_eq]at h;obtain⟨⟨⟨⟨⟨⟨⟨⟨h1,h2⟩,h3⟩,h4⟩,h5⟩,h6⟩,h7⟩,h8⟩,h9⟩:=h;refine⟨h1,h2,λ e=>?_,λ e=>?_,λ y hy=>?_,h8⟩
  ·rw[e]at h6;simpa using h6
  ·rw[e]at h6;simp at h6;exact h6.2
  have:=h7 y hy;simp only[nD.ok,dU]at this;exact this.1
 obtain⟨h1,h2,h3,h4,h5,h6⟩:=hm
 have hcols:∀y:Src,(s.tb y).cols.length<=16:=λ y=>lg (Q:=λ t:bR=>t.cols.length<=16) (by simp[bR.zero]) λ t ht=>by
  obtain⟨i,hi,rfl⟩:=getElem_of_mem ht;exact(ho.tabs i hi).cols.2.1
 have hk:∀l:List Src,(aI (l.map s.tb)).length<=16*l.length:=by
  intro l
  induction l with
  |nil=>simp[aI]
  |cons y l ih =>
   have:=hcols y;simp only[aI,map_cons,flatMap_cons,length_append,length_cons]at ih ⊢;simp only[bR.kinds,length_map]at ih ⊢;omega
 refine⟨?_,hx.ar,hx.order,λ y hy=>⟨hx.item y hy,h5 y hy⟩,λ y hy=>⟨hx.src y hy,?_⟩,hx.qc,h1⟩
 ·have:=hk x.q.ar
  have:x.q.items.length<=16:=by
   cases e:x.q.star with
   |true=>have:=h3 e;omega
   |false=>exact h4 e
  unfold aU;omega
 cases hs:x.q.ar with
 |nil=>rw[hs]at hy;cases hy
 |cons z r =>
  rw[hs]at h6 hy;simp only[jP,dU,all_eq_true]at h6;simp only[Ex.maybe,Bool.or_eq_true]
  rcases mem_cons.1 hy with rfl|hy
  ·have:=h6.1;simp only[Src.ok,if_true,dU]at this;exact .inl this.2.2
  have:=h6.2 y hy;simp only[Src.ok,dU]at this;exact .inr this.2.2
theorem ams (s:cG)(hs:s.gA)(x:dE)(h17:aj pG 45 [x.av] (.bool x.may))(hbd:x.ok=true->fN s->∀(F:Fr)(K:Hp)(Q:QA),E5 s x F K->am9 s x Q->VC pG C5 F K 5 [] Q):aj pG 23 [lj.av s,x.av] (.br [.agg (cu s x).1.cells 25,zI (cu s x).2]):=by
 refine pv c23 λ F hF=>?_;have kK:=ag8 s hs;have hav:x.av=.agg x.cells 31:=Eq.trans rfl rfl;have hsv:lj.av s=.agg [aM.ds s.tables,bw.ds s.indexes] 2:=rfl;have x0:=x.g0;have xl:=x.bm;have xp:=x.pure;rw[hav]at hF h17;rw[hsv]at hF kK
 have body:fN s/\x.may=true->∀(F:Fr) (K:Hp),E5 s x F K->VC pG C5 F K 5 [] (ig 0 (nj pG M5 (kH [cj 4 25,aH 5] λ v1 H' _=>fj H'.get v1 (.br [.agg (cu s x).1.cells 25,zI (cu s x).2])))):=by
  rintro⟨ho,hm⟩ F K E;have hb:cu s x=Eb (vQ s x):=by simp[cu,ho,hm]
  have ok:=dE.av5 hm
  have fin:am9 s x (ig 0 (nj pG M5 (kH [cj 4 25,aH 5] λ v1 H' _=>fj H'.get v1 (.br [.agg (cu s x).1.cells 25,zI (cu s x).2])))):=by
   intro F' K' n' g4 g6 g7 O;rw[hb];exact Va s _ _ F' K' n' g4 g6 g7 O
  exact hbd ok ho F K _ E fin
 have hz0:=Hg 0;have hzk:=Hg x.kind;clear hs hav hbd;have hR:A23.res=[cj 4 25,aH 5]:=rfl;simp only[hR,b5]
 by_cases ho:fN s
 ·by_cases hm:x.may=true
  ·have body:=body ⟨ho,hm⟩;generalize cu s x=R at *;generalize hxs:x.cells=xs at *;simp only[ho,decide_true]at kK;simp only[hm]at h17;simp[I1,hF];simp[IZ];refine aB.pure kK ?_;simp;refine aB.pure h17 ?_;simp[ack,acj,aci,x0];rw[<-hz0,<-hzk];refine body _ _ ⟨?_,?_,?_,?_,?_,?_,?_,?_,?_,?_,?_,λ b hb=>?_⟩
   ·simp
   ·simp
   ·simp
   ·simp
   ·simp
   ·simp
   ·simp[fe]
   ·simp[hxs]
   ·simp
   ·simp[fP,zq]
   ·simp
   simp[show ¬b=0 by omega,show ¬b=1 by omega,show ¬b=2 by omega,show ¬b=3 by omega,show ¬b=4 by omega]
  have hb:cu s x=(agk,1):=by simp[cu,hm]
  have hm':x.may=false:=by simpa using hm
  rw[hb];clear body;generalize hxs:x.cells=xs at *;simp only[ho,decide_true]at kK;simp only[hm']at h17;simp[I1,hF];simp[IZ];refine aB.pure kK ?_;simp;refine aB.pure h17 ?_;simp[RI];exact .br _ _ (.cons _ _ _ _ (.agg _ _ _ ((yp 0 _).YL ai)) (.cons _ _ _ _ fp .nil))
 have hb:cu s x=(agk,1):=by simp[cu,ho]
 rw[hb];clear body h17;generalize hxs:x.cells=xs at *;simp only[ho,decide_false]at kK;simp[I1,hF];simp[IZ];refine aB.pure kK ?_;simp[RI];exact .br _ _ (.cons _ _ _ _ (.agg _ _ _ ((yp 0 _).YL ai)) (.cons _ _ _ _ fp .nil))
end Go.Abs
namespace Go.Abs
open List
open Go.Proofs
open Classical
set_option maxRecDepth 100000
variable {α:Type}{k:Nat}
end Go.Abs
namespace Go.Abs
open List
open Go.Proofs
open Classical
set_option maxRecDepth 100000
end Go.Abs
namespace Go.Abs
open List
open Go.Proofs
open Classical
set_option maxRecDepth 100000
section
variable {F:Fr}{H:Hp}{n:Nat}
end
end Go.Abs
namespace Go.Abs
open List
open Go.Proofs
open Classical
set_option maxRecDepth 100000
theorem aoK (t:bR)(r:List AV)(H:Hp):eE 4 (.dp (.int .u32 t.id::.str t.name::dV.ds t.cols::.int .u32 t.head::r)) H=.val (aM.av t):=aM.pT t r H
theorem take_snoc {α:Type}{l:List α}{i:Nat}(h:i<l.length):l.take (i+1)=l.take i++[l[i]]:=by
 rw[take_add_one,cY h];rfl
def TbP (l:List bR)(i:Nat):Prop:=∀h:i<l.length,l[i].id≠0/\fH l[i].name/\jX l[i].cols/\∀k (hk:k<i),(l[k]'ah).id<l[i].id/\(l[k]'ah).name≠l[i].name
theorem xE (l:List bR) (h0:∀t∈l,0<=t.id):zD l↔∀i,TbP l i:=by
 constructor
 ·intro h
  have asc:∀i (hi:i<l.length),0<l[i].id/\∀k (hk:k<i),(l[k]'ah).id<l[i].id:=by
   intro i
   induction i with
   |zero=>intro hi;have:=(h 0 hi).id;rw[DJ]at this;exact⟨this,λ k hk=>ah⟩
   |succ i ih =>
    intro hi;obtain⟨a1,a2⟩:=ih ah;have:=(h (i+1) hi).id;rw[DI ah]at this;refine⟨ah,λ k hk=>?_⟩
    by_cases e:k=i
    ·subst e;exact this
    have:=a2 k ah;omega
  intro i hi;refine⟨by have:=(asc i hi).1;omega,(h i hi).name,(h i hi).cols,λ k hk=>⟨(asc i hi).2 k hk,(h i hi).new _ (mem_take_iff_getElem.2 ⟨k,ah,rfl⟩)⟩⟩
 intro h i hi;refine⟨?_,(h i hi).2.1,(h i hi).2.2.1,λ t ht=>?_⟩
 ·cases i with
  |zero=>rw[DJ];have:=(h 0 hi).1;have:=h0 _ (dy hi);omega
  |succ i=>rw[DI ah];exact((h (i+1) hi).2.2.2 i ah).1
 obtain⟨k,hk,rfl⟩:=mem_take_iff_getElem.1 ht;exact((h i hi).2.2.2 k ah).2
structure cG.pq (s:cG):Prop where
 t:∀t∈s.tables,0<=t.id
 i:∀t∈s.indexes,0<=t.id
theorem dY (i:Int)(h1 : -2147483648<=i)(h2:i<2147483648):IntKind.i64.wrap i=i:=by
 simp[IntKind.wrap,IntKind.signed,IntKind.bits];omega
@[simp] theorem an9 (a b:List Nat):Ix (.str a) (.str b)=.val (zI (cmpL a b)):=Eq.trans rfl rfl
def rk (k:Int):Int:=if k=2 then 3 else if k=1 then 2 else if k=3 then 1 else 0
def pl (k:Int):Int:=if k=0 then 0 else if k=3 then 1 else if k=1 then 2 else 3
theorem WX (k:Int):aj pG 227 [zI k] (zI (rk k)):=by
 refine pv c227 λ F hF=>?_;unfold rk
 by_cases h2:k=2
 ·subst h2;simp[A227,hF,dY];exact fp
 by_cases h1:k=1
 ·subst h1;simp[A227,hF,dY];exact fp
 by_cases h3:k=3
 ·subst h3;simp[A227,hF,dY];exact fp
 simp[A227,hF,h1,h2,h3];exact fp
theorem O6 (k:Int):aj pG 158 [zI k] (zI (pl k)):=by
 refine pv c158 λ F hF=>?_;unfold pl
 by_cases h0:k=0
 ·subst h0;simp[A158,hF];exact fp
 by_cases h3:k=3
 ·subst h3;simp[A158,hF];exact fp
 by_cases h1:k=1
 ·subst h1;simp[A158,hF];exact fp
 simp[A158,hF,h0,h1,h3];exact fp
theorem al8 (a b:List Nat):aj pG 285 [.str a,.str b] (zI (cmpL a b)):=by
 refine pv c285 λ F hF=>?_;simp[A285,hF];exact fp
theorem al5 (a b:List Nat):aj pG 228 [.str a,.str b] (zI (cmpL a b)):=by
 refine pv c228 λ F hF=>?_;simp[A228,hF];refine aB.pure (al8 a b) ?_;simp;exact fp
theorem U8 {a b:List Nat}{i:Nat}(ha:i<a.length) (hb:i<b.length):cmpL (a.drop i) (b.drop i)=if a[i]<b[i]then -1 else if b[i]<a[i]then 1 else cmpL (a.drop (i+1)) (b.drop (i+1)):=by
 rw[gu ha,gu hb];simp only[cmpL]
 by_cases e:a[i]=b[i]
 ·simp[e]
 rw[show Nat.beq a[i] b[i]=false by simpa using e];dsimp only
 by_cases h:a[i]<b[i]
 ·rw[show Nat.blt a[i] b[i]=true by rw[Nat.blt_eq];exact h];simp[h]
 rw[show Nat.blt a[i] b[i]=false by cases q:Nat.blt a[i] b[i]with
  |false=>rfl
  |true=>rw[Nat.blt_eq]at q;exact aw q h]
 rw[ak h,ay ah]
theorem agj (a b:List Nat) (ha:a.length<2147483648) (_hb:b.length<2147483648):aj pG 159 [.str a,.str b] (zI (cmpL a b)):=by
 refine pv c159 λ F hF=>?_;simp[A159];refine aF.of (λ k F K m ms=>∃i,k=a.length - i/\i<=a.length/\i<=b.length/\F.get 0=some (.str a)/\F.get 1=some (.str b)/\F.get 5=some (zI (i:Int))/\K=.nil/\ms=[]/\cmpL a b=cmpL (a.drop i) (b.drop i)) a.length ⟨0,by simp[hF]⟩ ?_;rintro k F K m ms ⟨i,rfl,hi,hib,f0,f1,f5,rfl,rfl,he⟩
 by_cases hlt:i<a.length
 ·by_cases Ko:i<b.length
  ·have hx:=wR (k:=.i64) hlt;have hy:=wR (k:=.i64) Ko;rw[U8 hlt Ko]at he;simp[zU,f0,f1,f5,hlt,Ko];refine bF.of (bq (P:=pG)) ?_;simp[ae,f0,f1,f5,hx,hy]
   by_cases h1:a[i]<b[i]
   ·rw[ay h1]at he;simp[h1,adb,he];exact fp
   rw[ak h1]at he;simp[h1,ada];refine bF.of (bq (P:=pG)) ?_;simp[ae,f0,f1,f5,hx,hy]
   by_cases h2:b[i]<a[i]
   ·rw[ay h2]at he;simp[h2,ac',he];exact fp
   rw[ak h2]at he;simp[h2,ac_,ae,f0,f1,f5,aE i ah];exact⟨a.length - (i+1),ah,i+1,rfl,hlt,Ko,ah,he⟩
  have:i=b.length:=ah;subst this
  have:cmpL a b=1:=by
   rw[he,drop_length,gu hlt];rfl
  simp[zU,f0,f1,f5,hlt,FM,FN,SQ,this,show ¬a.length<b.length by omega];exact fp
 have:i=a.length:=ah;subst this
 by_cases Ko:a.length<b.length
 ·have:cmpL a b = -1:=by
   rw[he,drop_length,gu Ko];rfl
  simp[zU,f0,f1,f5,FM,ac9,this,Ko];exact fp
 have hl:b.length=a.length:=ah
 have:cmpL a b=0:=by
  rw[he,drop_length,<-hl,drop_length];rfl
 simp[zU,f0,f1,f5,FM,FN,SN,this,hl];exact fp
def Val.ord (v u:Val):Int:=if v.kind=u.kind then (if v.kind=2 then cmpL v.s u.s else if v.num<u.num then -1 else if u.num<v.num then 1 else 0)else (if rk v.kind<rk u.kind then -1 else 1)
theorem O9 (v u:Val):aj pG 164 [v.av,u.av] (zI (v.ord u)):=by
 refine pv c164 λ F hF=>?_;obtain⟨k,a,s⟩:=v;obtain⟨q,b,t⟩:=u;simp only[Val.ord]
 by_cases hk:k=q
 ·subst hk
  by_cases h2:k=2
  ·subst h2;simp[A164,hF,Val.av];refine aB.pure (al5 s t) ?_;simp;exact fp
  by_cases h3:a<b
  ·simp[A164,hF,Val.av,h2,h3];exact fp
  by_cases h4:b<a
  ·simp[A164,hF,Val.av,h2,h3,h4];exact fp
  simp[A164,hF,Val.av,h2,h3,h4];exact fp
 simp[A164,hF,Val.av,hk];refine bF.of (dX (l:=[(227,[zI k],λ H n=>.mk (zI (rk k)) H n),(227,[zI q],λ H n=>.mk (zI (rk q)) H n)]) ?_) ?_
 ·intro x hx;simp only[mem_cons,not_mem_nil,or_false]at hx
  rcases hx with rfl|rfl
  ·exact cy (WX k)
  exact cy (WX q)
 simp[ae];rw[bY];simp[ae];rw[sP (λ _ h=>by simp at h;exact aw h.symm hk),bY];simp
 by_cases hr:rk k<rk q
 ·simp[hr,ac3];exact fp
 simp[hr,ac2];exact fp
theorem agY {k:Int}(h:k=0∨k=1∨k=2∨k=3):rk k=pl k:=by
 rcases h with rfl|rfl|rfl|rfl<;>rfl
theorem Val.jF {v:Val}(h:v.may=true):v.kind=0∨v.kind=1∨v.kind=2∨v.kind=3:=by
 unfold Val.may at h
 by_cases h0:v.kind=0
 ·exact .inl h0
 by_cases h1:v.kind=1
 ·exact .inr (.inl h1)
 by_cases h2:v.kind=2
 ·exact .inr (.inr (.inl h2))
 by_cases h3:v.kind=3
 ·exact .inr (.inr (.inr h3))
 simp[h0,h1,h2,h3]at h
theorem Val.lQ {v:Val}(h:v.may=true)(h2:v.kind=2):v.s.length<=64:=by
 unfold Val.may at h;simp[h2]at h;exact h.2
theorem agz (v u:Val)(hv:v.may=true)(hu:u.may=true):aj pG 79 [v.av,u.av] (zI (v.ord u)):=by
 refine pv c79 λ F hF=>?_;have kv:=Val.jF hv;have ku:=Val.jF hu;have lv:=Val.lQ hv;have lu:=Val.lQ hu;clear hv hu;obtain⟨k,a,s⟩:=v;obtain⟨q,b,t⟩:=u;simp only at kv ku lv lu;simp only[Val.ord];have ev:=agY kv;have eu:=agY ku
 have inj:pl k=pl q↔k=q:=by
  rcases kv with rfl|rfl|rfl|rfl<;>rcases ku with rfl|rfl|rfl|rfl<;>decide
 rw[ev,eu]
 have fin:∀(F:Fr) (H:Hp) (m:Nat),F.get 2=some (.ptr 0 0)->F.get 3=some (.ptr 1 0)->F.get 5=some (zI (pl k))->F.get 6=some (zI (pl q)) ->
   H.get 0=aN 3 [zI k,zI a,.str s]->H.get 1=aN 3 [zI q,zI b,.str t] ->
   VC pG (.seq (.seq vU (.cond (aA 15) (.seq aaf .ret) .skip)) (.seq (.seq zG (.cond (aA 18) (.seq aae .ret) .skip)) (.seq (.seq CN (.cond (aA 21) (.seq aad .ret) .skip)) (.seq (.seq IU (.cond (aA 31) (.seq aac .ret) .skip)) (.seq (.seq Ep (.cond (aA 36) (.seq Lu .ret) .skip)) (.seq Lt .ret)))))) F H m []
    (kH [aH 4] λ v1 H' _=>fj H'.get v1 (zI (if k=q then (if k=2 then cmpL s t else if a<b then -1 else if b<a then 1 else 0)else (if pl k<pl q then -1 else 1)))):=by
  intro F H m f2 f3 f5 f6 h0 h1
  by_cases hk:k=q
  ·subst hk
   by_cases h2:k=2
   ·subst h2;simp[vU,zG,CN,aad,f2,f3,f5,f6,h0,h1];have:=lv rfl;have:=lu rfl;refine aB.pure (agj s t ah ah) ?_;simp;exact fp
   by_cases h3:a<b
   ·simp[vU,zG,CN,IU,aac,f2,f3,f5,f6,h0,h1,h2,h3];exact fp
   by_cases h4:b<a
   ·simp[vU,zG,CN,IU,Ep,Lu,f2,f3,f5,f6,h0,h1,h2,h3,h4];exact fp
   simp[vU,zG,CN,IU,Ep,Lt,f2,f3,f5,f6,h0,h1,h2,h3,h4];exact fp
  by_cases hr:pl k<pl q
  ·simp[vU,aaf,f5,f6,hr,hk];exact fp
  have:pl q<pl k:=by
   have:pl k≠pl q:=λ e=>hk (inj.1 e);omega
  simp[vU,zG,aae,f5,f6,hr,this,hk];exact fp
 simp[A79,hF,Val.av];refine bF.of (dX (l:=[(158,[zI k],λ H n=>.mk (zI (pl k)) H n),(158,[zI q],λ H n=>.mk (zI (pl q)) H n)]) ?_) ?_
 ·intro x hx;simp only[mem_cons,not_mem_nil,or_false]at hx
  rcases hx with rfl|rfl
  ·exact cy (O6 k)
  exact cy (O6 q)
 simp[ae];rw[bY];simp[ae];rw[sP (λ _ h H n=>by simp at h;subst h;rw[bY]),bY];simp;refine fin _ _ _ ?_ ?_ ?_ ?_ ?_ ?_<;>simp[ae]
def Val.cmp (v u:Val):Int×Int:=if v.may&&u.may then (v.ord u,0)else (0,5)
theorem U6 (v u:Val):aj pG 89 [v.av,u.av] (.br [zI (v.cmp u).1,zI (v.cmp u).2]):=by
 refine pv c89 λ F hF=>?_;unfold Val.cmp;simp[A89,hF,Val.av];refine aB.pure (mT v) ?_;generalize hv:v.may=p
 cases p with
 |false =>
  simp[Z8];exact fp
 |true =>
  simp;refine aB.pure (mT u) ?_;generalize hu:u.may=p
  cases p with
  |false =>
   simp[Z8];exact fp
  |true =>
   simp[ah6];refine aB.pure (O9 v u) ?_;simp;exact fp
def dF:List Val->List AV
 |[]=>[]
 |v::r=>v.cells++dF r
@[simp] theorem Val.bm (v:Val):v.cells.length=3:=by simp[Val.cells]
@[simp] theorem ang (l:List Val):(dF l).length=l.length*3:=by
 induction l with
 |nil=>simp[dF]
 |cons e r ih=>simp[dF,ih];omega
theorem Jo (l:List Val)(i:Nat)(h:i<l.length):(dF l).drop (i*3)=l[i].cells++dF (l.drop (i+1)):=by
 induction l generalizing i with
 |nil=>simp at h
 |cons e r ih =>
  cases i with
  |zero=>simp[dF]
  |succ i =>
   have:(i+1)*3=e.cells.length+i*3:=by simp;omega
   rw[dF,this,<-drop_drop,drop_left' rfl];simpa using ih i (by simpa using h)
@[simp] theorem ajF (l:List Val):aS (dF l):=by
 induction l with
 |nil=>simp[dF]
 |cons e r ih=>simp[dF,Val.cells,ih]
theorem fM {l:List Val}{i:Nat}{k:IntKind}(h:i<l.length):bW 3 (.ds (dF l) l.length 3) (.int k (i:Int))=.val (.dp (l[i].cells++dF (l.drop (i+1)))):=by
 rw[tY h,Jo l i h]
theorem gw (v:Val)(r:List AV)(H:Hp):eE 3 (.dp (v.cells++r)) H=.val v.av:=qS r v.bm
theorem PN (v:Val)(r:List AV)(H:Hp):cN (.dp (v.cells++r)) H=.val (zI v.kind):=Eq.trans rfl rfl
theorem Val.ext_iff (v u:Val):v=u↔v.kind=u.kind/\v.num=u.num/\v.s=u.s:=by
 cases v;cases u;simp
theorem Ec (b:Bool) (v u:Val):mY b [.i,.i,.s] v.av u.av=.val (.bool (b != decide (v=u))):=by
 obtain⟨k,a,s⟩:=v;obtain⟨q,c,t⟩:=u
 have he:bP [.i,.i,.s] [zI k,zI a,.str s] [zI q,zI c,.str t]=some (decide ((Val.mk k a s)=Val.mk q c t)):=by
  simp only[bP,dZ,fD,if_true]
  by_cases h1:k=q
  ·subst h1;rw[show (k == k)=true by simp]
   by_cases h2:a=c
   ·subst h2;rw[show (a == a)=true by simp]
    by_cases h3:s=t
    ·subst h3;simp
    rw[show (s == t)=false by simpa using h3];simp[Val.ext_iff,h3]
   rw[show (a == c)=false by simpa using h2];simp[Val.ext_iff,h2]
  rw[show (k == q)=false by simpa using h1];simp[Val.ext_iff,h1]
 unfold mY Val.av;simp only[he];rfl
structure Idx where
 id:Int
 table:Int
 name:List Nat
 cols:List Int
 uniq:Bool
 root:Int
def Idx.cells (x:Idx):List AV:=[.int .u32 x.id,.int .u32 x.table,.str x.name,.ds (cU x.cols) x.cols.length 1,.bool x.uniq,.int .u32 x.root]
def Idx.av (x:Idx):AV:=.agg x.cells 6
@[simp] theorem Idx.pure (x:Idx):Pure x.av:=by simp[Idx.av,Idx.cells]
structure Spn where
 eq:List Val
 aqv:Bool
 lo:Val
 akO:Bool
 aqw:Bool
 hi:Val
 alq:Bool
def Spn.cells (s:Spn):List AV:=[.ds (dF s.eq) s.eq.length 3,.bool s.aqv,zI s.lo.kind,zI s.lo.num,.str s.lo.s,.bool s.akO,.bool s.aqw,zI s.hi.kind,zI s.hi.num,.str s.hi.s,.bool s.alq]
def Spn.av (s:Spn):AV:=.agg s.cells 11
@[simp] theorem Spn.pure (s:Spn):Pure s.av:=by simp[Spn.av,Spn.cells]
def aC (r:List Val):AV:=.ds (dF r) r.length 3
@[simp] theorem xR (r:List Val):Pure (aC r):=by simp[aC]
structure Ins where
 op:Int
 a:Int
 b:Int
 c:Int
 n:Int
 j:Int
 ex:Int
 id:Int
 lo:Int
 hi:Int
 akO:Bool
 alq:Bool
 v:Val
def Ins.cells (x:Ins):List AV:=[zI x.op,zI x.a,zI x.b,zI x.c,zI x.n,zI x.j,zI x.ex,.int .u32 x.id,zI x.lo,zI x.hi,.bool x.akO,.bool x.alq,zI x.v.kind,zI x.v.num,.str x.v.s]
def Ins.av (x:Ins):AV:=.agg x.cells 15
def HI:List Ins->List AV
 |[]=>[]
 |x::r=>x.cells++HI r
@[simp] theorem Ins.bm (x:Ins):x.cells.length=15:=by simp[Ins.cells]
@[simp] theorem ap' (l:List Ins):(HI l).length=l.length*15:=by
 induction l with
 |nil=>simp[HI]
 |cons e r ih=>simp[HI,ih];omega
theorem UR (l:List Ins):aS (HI l):=by
 induction l with
 |nil=>simp[HI]
 |cons e r ih=>simp[HI,Ins.cells,ih]
structure Cod where
 avB:Int
 cur:Int
 l:List Ins
def Cod.cells (c:Cod):List AV:=[zI c.avB,zI c.cur,.ds (HI c.l) c.l.length 15]
def Cod.av (c:Cod):AV:=.agg c.cells 3
@[simp] theorem Cod.pure (c:Cod):Pure c.av:=by simp[Cod.av,Cod.cells,UR]
@[simp] theorem Ins.pure (x:Ins):Pure x.av:=by simp[Ins.av,Ins.cells]
def cV (a b:Val):Int:=if a.may&&b.may then a.ord b else if a.may then -1 else if b.may then 1 else 0
def dP:List Val->List Val->Int
 |a::l,b::m=>if cV a b≠0 then cV a b else dP l m
 |l,m=>(l.length:Int) - (m.length:Int)
def rN:List Val->List Val->Int
 |a::l,b::m=>if a.ord b≠0 then a.ord b else rN l m
 |[],[]=>0
 |[],_::_ => -1
 |_::_,[]=>1
theorem TZ {l m:List Val}{i:Nat}(hl:i<l.length)(hm:i<m.length):dP (l.drop i) (m.drop i)=if cV l[i] m[i]≠0 then cV l[i] m[i]else dP (l.drop (i+1)) (m.drop (i+1)):=by
 rw[gu hl,gu hm,dP]
theorem TY {l m:List Val}{i:Nat}(hl:i<l.length)(hm:i<m.length):rN (l.drop i) (m.drop i)=if l[i].ord m[i]≠0 then l[i].ord m[i]else rN (l.drop (i+1)) (m.drop (i+1)):=by
 rw[gu hl,gu hm,rN]
theorem WC {l m:List Val}{i:Nat}(h1:i<=l.length)(h2:i<=m.length)(h:i=l.length∨i=m.length):dP (l.drop i) (m.drop i)=(l.length:Int) - (m.length:Int):=by
 have:l.drop i=[]∨m.drop i=[]:=by
  rcases h with rfl|rfl
  ·exact .inl (drop_length ..)
  exact .inr (drop_length ..)
 rcases this with e|e
 ·have h':l.length - i=0:=by rw[<-length_drop,e];rfl
  rw[e,dP.eq_2 _ _ (by rintro a l' b m' h;cases h)];simp;omega
 have h':m.length - i=0:=by rw[<-length_drop,e];rfl
 rw[e,dP.eq_2 _ _ (by rintro a l' b m' _ h;cases h)];simp;omega
theorem WB {l m:List Val}{i:Nat}(h1:i<=l.length)(h2:i<=m.length)(h:i=l.length∨i=m.length):rN (l.drop i) (m.drop i)=if l.length<m.length then -1 else if m.length<l.length then 1 else 0:=by
 rcases Nat.lt_trichotomy l.length m.length with c|c|c
 ·obtain rfl:i=l.length:=ah;rw[drop_length,gu c,ay c];rfl
 ·have:i=l.length:=ah;subst this;rw[drop_length,c,drop_length,ak ah,ak ah];rfl
 obtain rfl:i=m.length:=ah;rw[drop_length,gu c,ak ah,ay c];rfl
theorem Dv (l m:List Val) (hl:l.length<=1048576) (hm:m.length<=1048576):aj pG 40 [aC l,aC m] (zI (dP l m)):=by
 refine pv c40 λ F hF=>?_
 have hmin:Ht .i64 (l.length:Int) [zI (m.length:Int)]=some (zI ((min l.length m.length:Nat):Int)):=by
  unfold Ht;simp[Ht];omega
 obtain⟨M,hM⟩:∃M,M=min l.length m.length:=⟨_,rfl⟩;rw[<-hM]at hmin;simp[A40,hF,aC,yZ,UC,hmin];refine aF.of (λ k F K n ms=>∃i,k=M - i/\i<=l.length/\i<=m.length/\F.get 0=some (aC l)/\F.get 1=some (aC m)/\F.get 12=some (zI (M:Int))/\F.get 13=some (zI (i:Int))/\K=.nil/\ms=[]/\dP l m=dP (l.drop i) (m.drop i)) M ⟨0,by simp[hF,aC]⟩ ?_;rintro k F K n ms ⟨i,rfl,hi,hib,f0,f1,f12,f13,rfl,rfl,he⟩
 by_cases hlt:i<M
 ·have h1 : i<l.length:=ah;have h2:i<m.length:=ah;have hx:=fM (k:=.i64) h1;have hy:=fM (k:=.i64) h2;rw[TZ h1 h2]at he;simp[adP,f12,f13,hlt];refine bF.of (dX (l:=[(89,[l[i].av,m[i].av],λ H n=>.mk (.br [zI (l[i].cmp m[i]).1,zI (l[i].cmp m[i]).2]) H n)]) ?_) ?_
  ·intro x hx;simp only[mem_cons,not_mem_nil,or_false]at hx;subst hx;exact cy (U6 l[i] m[i])
  simp[ae,f0,f1,aC,hx,hy,gw];rw[bY];have w:=aE i ah;unfold cV at he;unfold Val.cmp
  by_cases ha:l[i].may=true
  ·by_cases hb:m[i].may=true
   ·rw[ha,hb]at he ⊢;simp at he ⊢
    by_cases hc:l[i].ord m[i]=0
    ·rw[ay hc]at he;simp[IV,u9,hc,LS,ae,f13,w,f0,f1,f12,aC];exact⟨M - (i+1),ah,i+1,rfl,ah,ah,ah,he⟩
    rw[ak hc]at he;simp[IV,u9,hc,Et,he];exact fp
   have hb:m[i].may=false:=by simpa using hb
   rw[ha,hb]at he ⊢;simp at he ⊢;simp[IV,aa6,aa5,ae,f0,aC,hx,gw];refine aB.pure (mT l[i]) ?_;simp[ha,aiA,u9,Et,he];exact fp
  have ha:l[i].may=false:=by simpa using ha
  rw[ha]at he ⊢;simp at he ⊢;simp[IV,aa6,aa5,ae,f0,aC,hx,gw];refine aB.pure (mT l[i]) ?_;simp[ha,aiz,ae,f1,aC,hy,gw];refine aB.pure (mT m[i]) ?_
  by_cases hb:m[i].may=true
  ·rw[hb]at he ⊢;simp at he;simp[aa8,u9,Et,he];exact fp
  have hb:m[i].may=false:=by simpa using hb
  rw[hb]at he ⊢;simp at he;simp[u9,LS,ae,f13,w,f0,f1,f12,aC];exact⟨M - (i+1),ah,i+1,rfl,ah,ah,ah,he⟩
 have e:i=M:=ah;rw[WC hi hib ah]at he;simp[adP,f12,f13,hlt,aa7,f0,f1,aC,dY ((l.length:Int) - (m.length:Int)) ah ah,he];exact fp
theorem agy (l m:List Val) (hl:l.length<=1048576) (_hm:m.length<=1048576) (al:∀v∈l,v.may=true) (am:∀v∈m,v.may=true):aj pG 30 [aC l,aC m] (zI (rN l m)):=by
 refine pv c30 λ F hF=>?_;obtain⟨M,hM⟩:∃M,M=min l.length m.length:=⟨_,rfl⟩;simp[A30];refine aF.of (λ k F K n ms=>∃i,k=M - i/\i<=l.length/\i<=m.length/\F.get 0=some (aC l)/\F.get 1=some (aC m)/\F.get 5=some (zI (i:Int))/\K=.nil/\ms=[]/\rN l m=rN (l.drop i) (m.drop i)) M ⟨0,by simp[hF,aC]⟩ ?_;rintro k F K n ms ⟨i,rfl,hi,hib,f0,f1,f5,rfl,rfl,he⟩
 by_cases hlt:i<M
 ·have h1:i<l.length:=ah;have h2:i<m.length:=ah;have hx:=fM (k:=.i64) h1;have hy:=fM (k:=.i64) h2;rw[TY h1 h2]at he;simp[I5,f0,f1,f5,aC,h1,h2];refine bF.of (dX (l:=[(79,[l[i].av,m[i].av],λ H n=>.mk (zI (l[i].ord m[i])) H n)]) ?_) ?_
  ·intro x hx;simp only[mem_cons,not_mem_nil,or_false]at hx;subst hx;exact cy (agz l[i] m[i] (al _ (dy _)) (am _ (dy _)))
  simp[ae,f0,f1,f5,aC,hx,hy,gw];rw[bY];have w:=aE i ah;simp[aiT]
  by_cases hc:l[i].ord m[i]=0
  ·rw[ak (by simp[hc])]at he;simp[hc,aiR,ae,f0,f1,f5,w,aC];exact⟨M - (i+1),ah,i+1,rfl,ah,ah,ah,he⟩
  rw[ay hc]at he;simp[hc,aiS,he];exact fp
 rw[WB hi hib ah]at he
 by_cases c1:i<l.length
 ·have c2:¬i<m.length:=ah;have c9003:m.length<l.length:=ah;have c9004:¬l.length<m.length:=ah;simp[I5,f0,f1,f5,aC,c1,c2,c9003,c9004,QU,aby,abA,he];exact fp
 by_cases c2:l.length<m.length
 ·simp[I5,f0,f1,f5,aC,c1,c2,QU,aiQ,he];exact fp
 have c9003:¬m.length<l.length:=ah;simp[I5,f0,f1,f5,aC,c1,c2,c9003,QU,aby,abz,he];exact fp
theorem amN (l m:List Val) (hl:l.length<=1048576):aj pG 35 [aC l,aC m] (.bool (decide (l=m))):=by
 refine pv c35 λ F hF=>?_;simp[A35,hF,aC]
 by_cases hlm:l.length=m.length
 ·simp[hlm,aiO];refine aF.of (λ k F K n ms=>∃i,k=l.length - i/\i<=l.length/\F.get 0=some (aC l)/\F.get 1=some (aC m)/\F.get 5=some (zI (i:Int))/\K=.nil/\ms=[]/\(l=m↔l.drop i=m.drop i)) l.length ⟨0,by simp[hF,aC]⟩ ?_;rintro k F K n ms ⟨i,rfl,hi,f0,f1,f5,rfl,rfl,he⟩
  by_cases hlt:i<l.length
  ·have h2:i<m.length:=ah;have hx:=fM (k:=.i64) hlt;have hy:=fM (k:=.i64) h2;rw[gu hlt,gu h2,List.cons.injEq]at he;simp[adS,f0,f5,aC,hlt];refine bF.of (bq (P:=pG)) ?_;simp[ae,f0,f1,f5,aC,hx,hy,gw,Ec]
   by_cases hc:l[i]=m[i]
   ·have w:=aE i ah;simp[hc,aiM,ae,f0,f1,f5,w,aC];exact⟨l.length - (i+1),ah,i+1,rfl,ah,ah,by rw[he];simp[hc]⟩
   have:¬l=m:=λ e=>hc (he.1 e).1;simp[hc,aiN,this];exact fp
  have e:i=l.length:=ah;have:l=m:=he.2 (by rw[e,drop_length,hlm,drop_length]);subst this;simp[adS,f0,f5,aC,hlt,aiL];exact fp
 have:¬l=m:=λ e=>hlm (by rw[e]);simp[hlm,aiP,this];exact fp
def aQ (L:List (List Val)):List AV:=L.map aC
@[simp] theorem anp (L:List (List Val)):(aQ L).length=L.length:=by simp[aQ]
@[simp] theorem ajS (L:List (List Val)):aS (aQ L):=aS.rT λ v hv=>by
 simp only[aQ,mem_map]at hv;obtain⟨i,_,rfl⟩:=hv;simp
theorem Jy (l:List (List Val))(i:Nat)(h:i<l.length):(aQ l).drop i=aC l[i]::aQ (l.drop (i+1)):=by
 rw[aQ,<-map_drop,gu h];rfl
theorem kz {l:List (List Val)}{i:Nat}{k:IntKind}(h:i<l.length):bW 1 (.ds (aQ l) l.length 1) (.int k (i:Int))=.val (.dp (aC l[i]::aQ (l.drop (i+1)))):=by
 rw[tY h,Nat.mul_one,Jy l i h]
theorem Vj (L M:List (List Val)) (hL:L.length<=1048576) (hl:∀l∈L,l.length<=1048576):aj pG 16 [.ds (aQ L) L.length 1,.ds (aQ M) M.length 1] (.bool (decide (L=M))):=by
 refine pv c16 λ F hF=>?_;simp[A16,hF]
 by_cases hlm:L.length=M.length
 ·simp[hlm,ai'];refine aF.of (λ k F K n ms=>∃i,k=L.length - i/\i<=L.length/\F.get 0=some (.ds (aQ L) L.length 1)/\F.get 1=some (.ds (aQ M) M.length 1)/\F.get 5=some (zI (i:Int))/\K=.nil/\ms=[]/\(L=M↔L.drop i=M.drop i)) L.length ⟨0,by simp[hF]⟩ ?_;rintro k F K n ms ⟨i,rfl,hi,f0,f1,f5,rfl,rfl,he⟩
  by_cases hlt:i<L.length
  ·have h2:i<M.length:=ah;have hx:=kz (k:=.i64) hlt;have hy:=kz (k:=.i64) h2;rw[gu hlt,gu h2,List.cons.injEq]at he;simp[ad0,f0,f5,hlt];refine bF.of (dX (l:=[(35,[aC L[i],aC M[i]],λ H n=>.mk (.bool (decide (L[i]=M[i]))) H n)]) ?_) ?_
   ·intro x hx;simp only[mem_cons,not_mem_nil,or_false]at hx;subst hx;exact cy (amN L[i] M[i] (hl _ (dy _)))
   simp[ae,f0,f1,f5,hx,hy];rw[bY]
   by_cases hc:L[i]=M[i]
   ·have w:=aE i ah;simp[hc,ai9,ae,f0,f1,f5,w];exact⟨L.length - (i+1),ah,i+1,rfl,ah,ah,by rw[he];simp[hc]⟩
   have:¬L=M:=λ e=>hc (he.1 e).1;simp[hc,ai_,this];exact fp
  have e:i=L.length:=ah;have:L=M:=he.2 (by rw[e,drop_length,hlm,drop_length]);subst this;simp[ad0,f0,f5,hlt,ai8];exact fp
 have:¬L=M:=λ e=>hlm (by rw[e]);simp[hlm,aja,this];exact fp
def Ao (c:q7)(v:Val):Int:=if v.may=false then 5 else if v.kind≠0/\v.kind≠c.kind then 30 else if v.kind=0/\c.need=true then 50 else 0
def D8:List q7->List Val->Int
 |c::cs,v::vs=>if Ao c v=0 then D8 cs vs else Ao c v
 |_,_=>0
theorem UW {c:List q7}{v:List Val}{i:Nat}(h1:i<c.length)(h2:i<v.length):D8 (c.drop i) (v.drop i)=if Ao c[i] v[i]=0 then D8 (c.drop (i+1)) (v.drop (i+1))else Ao c[i] v[i]:=by
 rw[gu h1,gu h2];rfl
def sH (c:List q7)(v:List Val):Int:=if jX c/\v.length=c.length then D8 c v else 1
theorem YQ (c : List q7) (v:List Val) (hv:v.length<=aU):aj pG 38 [dV.ds c,aC v] (zI (sH c v)):=by
 unfold aU at hv;refine pv c38 λ F hF=>?_;unfold sH;simp[A38,hF];refine aB.pure (ag6 c) ?_
 by_cases hc:jX c
 ·by_cases hl:v.length=c.length
  ·simp[hc,hF,aC,bf.aT,hl,aiH];refine aF.of (λ k F K n ms=>∃i,k=v.length - i/\i<=v.length/\F.get 0=some (dV.ds c)/\F.get 17=some (aC v)/\F.get 18=some (zI (v.length:Int))/\F.get 19=some (zI (i:Int))/\ms=[]/\D8 c v=D8 (c.drop i) (v.drop i)) v.length ⟨0,by simp[hF,aC,hl]⟩ ?_;rintro k F K n ms ⟨i,rfl,hi,f0,f17,f18,f19,rfl,he⟩
   by_cases hlt:i<v.length
   ·have hx:=fM (k:=.i64) hlt;have hy:=dV.ix (ik:=.i64) (l:=c) (i:=i) ah;rw[uS]at hy;rw[UW ah hlt]at he;rw[aC]at f17;rw[he];generalize v[i]=u at *;generalize c[i]=d at *;have hm:=mT u;simp only[Val.av]at hm;simp[adR,f18,f19,hlt,f17,hx,gw,Val.av];refine aB.pure hm ?_
    by_cases h1:u.may=true
    ·simp[h1,aiF];refine bF.of (bq (P:=pG)) ?_
     by_cases h2:u.kind=0
     ·by_cases h3:d.need=true
      ·simp[ae,f0,hy,h2,Eu,h3,aa',Ao,h1];exact fp
      simp[ae,f0,hy,h2,Eu,h3,LU,Ao,h1,f17,f18,f19,aE i ah];exact⟨_,ah,i+1,rfl,hlt,by simp[aC],rfl,ai⟩
     by_cases h3:u.kind=d.kind
     ·simp[ae,f0,hy,h3,Eu,LU,Ao,h1,f17,f18,f19,aE i ah,show ¬d.kind=0 by omega];exact⟨_,ah,i+1,rfl,hlt,by simp[aC],rfl,ai⟩
     simp[ae,f0,hy,h2,h3,aiE,Ao,h1];exact fp
    simp[h1,aiG,Ao];exact fp
   obtain rfl:i=v.length:=ah;rw[he];simp[adR,f18,f19,aa_,D8];exact fp
  simp[hc,hF,aC,bf.aT,hl,aa9];exact fp
 simp[hc,aa9];exact fp
def BH (H:Hp):List Nat->Hp
 |[]=>H
 |b::r=>(BH H r).put b none
def xw (H:Hp):List (Nat×List AV)->Hp
 |[]=>H
 |e::r=>(xw H r).put e.1 (some (.cells e.2.length [] e.2 .nil))
theorem mU (H:Hp)(L:List Nat)(c:Nat):(BH H L).get c=if c∈L then none else H.get c:=by
 induction L with
 |nil=>simp[BH]
 |cons b r ih =>
  simp only[BH,Tr.get_put,ih,mem_cons]
  by_cases h:c=b
  ·simp[h]
  simp[h]
theorem mK (H:Hp)(M:List (Nat×List AV))(c:Nat)(h:c∉M.map (·.1)):(xw H M).get c=H.get c:=by
 induction M with
 |nil=>rfl
 |cons e r ih =>
  simp only[map_cons,mem_cons,not_or]at h;simp only[xw,Tr.get_put,ak h.1,ih h.2]
theorem s6 (H:Hp)(M:List (Nat×List AV))(hd:(M.map (·.1)).Nodup):∀e∈M,(xw H M).get e.1=some (.cells e.2.length [] e.2 .nil):=by
 induction M with
 |nil=>intro e h;simp at h
 |cons a r ih =>
  simp only[map_cons,nodup_cons]at hd;intro e h;simp only[xw,Tr.get_put]
  rcases mem_cons.1 h with rfl|h
  ·simp
  have:e.1≠a.1:=λ e2=>hd.1 (e2▸mem_map_of_mem h);rw[ak this,ih hd.2 e h]
theorem ao.Jd {P:Program}{g:FuncId}{args:List AV}{H:Hp}{n n':Nat}{v0:AV}(L:List Nat) (M:List (Nat×List AV)) (ha:dO n args) (hL:∀b∈L,b<n) (hx:∀b∈L,H.get b≠none) (hb:∀b∈L,∀k,H.get b=some k->wv n k)
  (hn:n<=n')(hd:(M.map (·.1)).Nodup)(hM:∀e∈M,e.1∈L∨(n<=e.1/\e.1<n'))(h:ao P g args (pick H L) n (λ v K k=>v=v0/\(∀e∈M,∃y,K.get e.1=some y/\OwnB y e.2)/\k<=n')):
  ∃H1,bC P g args H n v0 H1 n'/\(∀e∈M,H1.get e.1=some (.cells e.2.length [] e.2 .nil))/\(∀c,c∉L->c<n∨n'<=c->H1.get c=H.get c):=by
 have hout:∀c,c∉L->c<n∨n'<=c->c∉M.map (·.1):=λ c h1 h2 h3=>by
  obtain⟨e,h4,rfl⟩:=mem_map.1 h3
  rcases hM e h4 with h5|h5
  ·exact h1 h5
  omega
 refine⟨xw (BH H (L++range' n (n' - n))) M,ao.okS (S:=pick H L) (S':=xw (BH .nil (L++range' n (n' - n))) M) (h.mono λ v K k ⟨h1,h2,h3⟩=>⟨h1,λ b y hy=>?_,h3⟩) hn ha (λ b k hk=>?_) (λ b k hk=>?_) (λ b hb=>?_) (λ b hb1 hb2=>?_),s6 _ M hd,λ c h1 h2=>?_⟩
 ·by_cases h4:b∈M.map (·.1)
  ·obtain⟨e,h5,rfl⟩:=mem_map.1 h4;rw[s6 _ M hd e h5]at hy;injection hy with hy;obtain⟨y',h6,h7⟩:=h2 e h5;exact⟨y',h6,hy▸h7.ble rfl⟩
  rw[mK _ _ _ h4,mU]at hy
  split at hy<;>simp at hy
 ·rw[eM]at hk
  split at hk
  ·rename_i hm;exact⟨hL b hm,hb b hm k hk⟩
  cases hk
 ·rw[eM]at hk
  split at hk
  ·exact hk
  cases hk
 ·by_cases h4:b∈M.map (·.1)
  ·obtain⟨e,h5,rfl⟩:=mem_map.1 h4;rw[s6 _ M hd e h5,s6 _ M hd e h5]
  rw[mK _ _ _ h4,mK _ _ _ h4,mU,mU];rw[eM]at hb;rw[ay,ay]
  all_goals
   rw[mem_append,mem_range'_1]
   rcases hb with hb|hb
   ·split at hb
    ·rename_i hm;exact .inl hm
    exact aw rfl hb
   exact .inr ah
 ·by_cases hm:b∈L
  ·rw[eM,ay hm]at hb1;exact aw hb1 (hx b hm)
  rw[mK _ _ _ (hout b hm ah),mU,ak];rw[mem_append,mem_range'_1];rintro(h|h)
  ·exact hm h
  omega
 rw[mK _ _ _ (hout c h1 h2),mU,ak];rw[mem_append,mem_range'_1];rintro(h|h)
 ·exact h1 h
 omega
theorem dN (k j:IntKind)(a:Int):bZ k (.int j a)=.val (.int k (k.wrap a)):=by
 simp only[bZ,kh]
def gV (l:List Nat):List AV:=l.map λ b:Nat=>.int .u8 (b:Int)
@[simp] theorem au1 (l:List Nat):(gV l).length=l.length:=by simp[gV]
theorem Em (a b:List Nat):gV (a++b)=gV a++gV b:=by simp[gV]
theorem Zo (l:List Nat):fO (gV l):=by
 induction l with
 |nil=>simp[gV]
 |cons a r ih=>simpa[gV]using ih
theorem t_ (l:List Nat):bo (gV l)=true:=by
 induction l with
 |nil=>rfl
 |cons a r ih=>simpa[gV]using ih
@[simp] theorem ax0 (c:Bool)(b o:Nat):kG c .ptr (.ptr b o) (.aV (.pointer none))=.val (.bool c):=by cases c<;>exact Eq.trans rfl rfl
theorem qR (k j:IntKind)(a b:Int)(h:0<=b):eO .shr (.int k a) (.int j b)=.val (.int k (a.fdiv (2 ^ (min b.toNat k.bits)))):=by
 obtain⟨b,rfl⟩:=Int.eq_ofNat_of_zero_le h;simp only[eO,kh];rfl
theorem wQ (k j:IntKind)(a b:Int)(h:0<=b):eO .shl (.int k a) (.int j b)=.val (.int k (k.wrap (a*2 ^ (min b.toNat k.bits)))):=by
 obtain⟨b,rfl⟩:=Int.eq_ofNat_of_zero_le h;simp only[eO,kh];rfl
theorem CB (k:IntKind)(a b:Int):bS .or k a b=.val (.int k (k.wrap (BitVec.ofInt k.bits a ||| BitVec.ofInt k.bits b).toNat)):=by simp[bS]
theorem sR (k:IntKind)(a b:Int):bS .xor k a b=.val (.int k (k.wrap (BitVec.ofInt k.bits a ^^^ BitVec.ofInt k.bits b).toNat)):=by simp[bS]
@[simp] theorem au0:bQ .or=uJ (bS .or):=Eq.trans rfl rfl
@[simp] theorem arZ:bQ .xor=uJ (bS .xor):=Eq.trans rfl rfl
structure nC (H:Hp)(n p:Nat)(v:AV)(l:List Nat):Prop where
 hp:H.get p=aN 2 [.bool true,v]
 pn:p<n
 hv:(v=.aV (.slice none 0 0)/\l=[])∨∃b,v=.sl b 0 l.length 1/\b<n/\b≠p/\H.get b=some (.cells l.length [] (gV l) .nil)/\0<l.length
def OH (p:Nat)(v:AV):List Nat:=p::(blk v).toList
theorem AL {x:Nat}(h:x<256):IntKind.u8.wrap (x:Int)=(x:Int):=by simp[IntKind.wrap,IntKind.signed,IntKind.bits];omega
theorem pE {x:Nat}(h:x<18446744073709551616):IntKind.u64.wrap (x:Int)=(x:Int):=by simp[IntKind.wrap,IntKind.signed,IntKind.bits];omega
theorem aeX {H:Hp}{n p:Nat}{v:AV}{l:List Nat}(ht:dm H n)(W:nC H n p v l)(x:Nat)(hx:x<256)(hl:l.length<1048576):
  ao pG 229 [.ptr p 0,.int .u8 (x:Int),zI 1] H n (λ u K k=>u=.br []/\K.get p=aN 2 [.bool true,.sl (n+1) 0 (l.length+1) 1]/\(∃y,K.get (n+1)=some y/\OwnB y (gV (l++[x])))/\k=n+2):=by
 obtain⟨hp,pn,hv⟩:=W;have z:=ht.none;have e1:=jz pn;have e2:=XU pn;refine ao.of c229 (by simp[A229]) λ F hF=>?_;simp[A229,hF,hp];refine aF.XO 1 (eT.step ?_);simp[adY];refine bF.of (bq (P:=pG)) ?_;have s1:eO .shr (.int .u64 (x:Int)) (zI 0)=.val (.int .u64 (x:Int)):=by rw[qR _ _ _ _ ah];simp
 simp[ae,hF,hp,bX,cS,z,pE (show x<18446744073709551616 by omega),AL hx,s1,dY,dN]
 rcases hv with⟨rfl,rfl⟩|⟨b,rfl,hbn,hbp,hb,hl0⟩
 ·rw[Zl (new:=gV [x]) (k:=1) (bu (by simp[gV])) ai ah ah (by unfold big;omega) ah (t_ _)];simp[ae,hF,hp,e1,M8,dY];refine eT.step ?_;simp[ae,e2];exact .list ai
 have hpb:¬p=b:=λ e=>hbp e.symm;have b1:=jz hbn;have b2:=XU hbn;rw[aml (new:=gV [x]) (k:=1) (b:=b) (u:=l.length) (z:=[]) (bs:=gV l) (t:=.nil) (by simp[b1,hb]) ah (bu (by simp[gV])) ai ah ah (by unfold big;omega) ah (t_ _)];simp[ae,hF,hp,e1,hpb,M8,dY];refine eT.step ?_;simp[Em,ae,e2];have:=OwnB.app (u:=l.length) (z:=[]) (bs:=gV l) (l:=gV l) (new:=gV [x]) (t:=.nil) (OwnB.list ai) (by simp[gV]);simpa using this
theorem vp {g:FuncId}{args:List AV}{H:Hp}{n n' p b':Nat}{v:AV}{l new:List Nat}(W:nC H n p v l) (ha:dO n args) (hn:n<=b'/\b'<n') (hl:0<(l++new).length)
  (h:∀S,dm S n->nC S n p v l->ao pG g args S n (λ u K k=>u=.br []/\K.get p=aN 2 [.bool true,.sl b' 0 (l++new).length 1]/\(∃y,K.get b'=some y/\OwnB y (gV (l++new)))/\k=n')):
  ∃H1,bC pG g args H n (.br []) H1 n'/\nC H1 n' p (.sl b' 0 (l++new).length 1) (l++new)/\∀c,c∉OH p v->c<n∨n'<=c->H1.get c=H.get c:=by
 have W0:=W;obtain⟨hp,pn,hv⟩:=W
 have hL:∀c∈OH p v,c<n/\H.get c≠none/\∀k,H.get c=some k->wv n k:=by
  intro c hc
  rcases mem_cons.1 hc with rfl|hc
  ·refine⟨pn,by rw[hp];simp,λ k hk=>?_⟩;rw[hp]at hk;injection hk with hk;subst hk;refine bV ?_
   rcases hv with⟨rfl,_⟩|⟨b,rfl,hb,_⟩
   ·simp
   simp[hb]
  rcases hv with⟨rfl,_⟩|⟨b,rfl,hb,_,hg,_⟩
  ·simp at hc
  simp at hc;subst hc;refine⟨hb,by rw[hg];simp,λ k hk=>?_⟩;rw[hg]at hk;injection hk with hk;subst hk;exact bV (Zo l).jQ
 have hS:nC (pick H (OH p v)) n p v l:=by
  refine⟨by rw[fK (by simp[OH]),hp],pn,?_⟩
  rcases hv with h|⟨b,rfl,h1,h2,h3,h4⟩
  ·exact .inl h
  exact .inr ⟨b,rfl,h1,h2,by rw[fK (by simp[OH]),h3],h4⟩
 obtain⟨H1,h1,h2,h3⟩:=ao.Jd (n':=n') (OH p v) [(p,[.bool true,.sl b' 0 (l++new).length 1]),(b',gV (l++new))] ha (λ c hc=>(hL c hc).1) (λ c hc=>(hL c hc).2.1) (λ c hc=>(hL c hc).2.2) ah (by simp;omega) (by
  intro e he;simp at he
  rcases he with rfl|rfl
  ·exact .inl (by simp[OH])
  exact .inr hn) ((h _ (kW λ c hc=>(hL c hc).1) hS).mono λ u K k ⟨a1,a2,a3,a4⟩=>⟨a1,λ e he=>by
  simp only[mem_cons,not_mem_nil,or_false]at he
  rcases he with rfl|rfl
  ·exact⟨_,a2,.list rfl⟩
  exact a3,ah⟩)
 have q1:=h2 _ (mem_cons_self ..);have q2:=h2 _ (mem_cons_of_mem _ (mem_cons_self ..));exact⟨H1,h1,⟨by simpa using q1,ah,.inr ⟨b',rfl,hn.2,ah,by simpa using q2,hl⟩⟩,h3⟩
theorem aj_ {H:Hp}{n p:Nat}{v:AV}{l:List Nat}(W:nC H n p v l)(x:Nat)(hx:x<256)(hl:l.length<1048576):
  ∃H1,bC pG 229 [.ptr p 0,.int .u8 (x:Int),zI 1] H n (.br []) H1 (n+2)/\nC H1 (n+2) p (.sl (n+1) 0 (l++[x]).length 1) (l++[x])/\∀c,c∉OH p v->c<n∨n+2<=c->H1.get c=H.get c:=
 vp W (by simp[W.pn]) ah ai λ S ht WS=>by simpa using aeX ht WS x hx hl
theorem CW {H:Hp}{n p:Nat}{v:AV}{l:List Nat}(W:nC H n p v l)(x:Nat)(hx:x<256)(hl:l.length<1048576):
  ∃H1,bC pG 167 [.ptr p 0,.int .u8 (x:Int)] H n (.br []) H1 (n+2)/\nC H1 (n+2) p (.sl (n+1) 0 (l++[x]).length 1) (l++[x])/\∀c,c∉OH p v->c<n∨n+2<=c->H1.get c=H.get c:=
 vp W (by simp[W.pn]) ah ai λ S _ WS=>by
  obtain⟨H1,h1,h2,_⟩:=aj_ WS x hx hl;refine ao.of c167 (by simp[A167]) λ F hF=>?_;simp[A167,hF];refine aB.ok h1 ?_;simp
  rcases h2.hv with⟨h,_⟩|⟨b,h,_,_,h3,_⟩
  ·cases h
  injection h with h;subst h;exact⟨by simpa using h2.hp,_,h3,.list ai⟩
def ez (n:Nat):List Nat:=if n<=127 then [n]else (n % 128+128)::ez (n / 128)
 termination_by n
 decreasing_by omega
theorem mJ (n:Nat):0<(ez n).length:=by unfold ez;split<;>simp
theorem xn (k n:Nat)(h:n<128 ^ (k+1)):(ez n).length<=k+1:=by
 induction k generalizing n with
 |zero=>unfold ez;rw[ay ah];simp
 |succ k ih =>
  unfold ez
  split
  ·simp
  have:=ih (n / 128) (by rw[Nat.div_lt_iff_lt_mul ah];rwa [Nat.pow_succ]at h);simp;omega
theorem AK (n:Nat):∀b∈ez n,b<256:=by
 induction n using ez.induct with
 |case1 n h=>unfold ez;rw[ay h];simp;omega
 |case2 n h ih=>unfold ez;rw[ak h];simp only[mem_cons,forall_eq_or_imp];exact⟨ah,ih⟩
theorem apr:∀x:Fin 256,(BitVec.ofInt 8 (x.val:Int) ||| BitVec.ofInt 8 128).toNat=x.val % 128+128:=by decide
theorem akl {x:Nat}:IntKind.u8.wrap (BitVec.ofInt IntKind.u8.bits (IntKind.u8.wrap (x:Int)) ||| BitVec.ofInt IntKind.u8.bits 128).toNat=((x % 128+128:Nat):Int):=by
 have h1:IntKind.u8.wrap (x:Int)=((x % 256:Nat):Int):=by simp[IntKind.wrap,IntKind.signed,IntKind.bits]
 have h2:=apr ⟨x % 256,ah⟩;rw[h1]
 have h3:(BitVec.ofInt IntKind.u8.bits ((x % 256:Nat):Int) ||| BitVec.ofInt IntKind.u8.bits 128).toNat=x % 128+128:=by
  refine Eq.trans h2 ?_;show x % 256 % 128+128=_;omega
 rw[h3,AL ah]
theorem avY (x:Nat):bS .or .u8 (IntKind.u8.wrap (x:Int)) 128=.val (.int .u8 ((x % 128+128:Nat):Int)):=by rw[CB,akl]
theorem OM {H:Hp}{n p:Nat}{v:AV}{l:List Nat}(W:nC H n p v l) (x:Nat) (hx:x<18446744073709551616) (hl:l.length<1048000):
  ∃H1,bC pG 286 [.ptr p 0,.int .u64 (x:Int)] H n (.br []) H1 (n+2*(ez x).length)/\nC H1 (n+2*(ez x).length) p (.sl (n+2*(ez x).length - 1) 0 (l++ez x).length 1) (l++ez x)/\∀c,c∉OH p v->c<n∨n+2*(ez x).length<=c->H1.get c=H.get c:=
 vp W (by simp[W.pn]) (by have:=mJ x;omega) (by have:=mJ x;simp;omega) λ S ht WS=>by
  have hxl:(ez x).length<=10:=xn 9 x ah;refine ao.of c286 (by simp[A286]) λ F hF=>?_;simp[A286];refine aF.of (λ k F K m ms=>∃(y:Nat) (u:AV) (d:List Nat),k=y/\y<18446744073709551616/\F.get 0=some (.ptr p 0)/\F.get 1=some (.int .u64 (y:Int))/\ms=[]/\nC K m p u (l++d)/\ez x=d++ez y/\m=n+2*d.length) x ⟨x,v,[],by simp[hF,hx,WS]⟩ ?_;clear hF F;rintro k F K m ms ⟨y,u,d,hk,hy,f0,f1,rfl,WK,hd,rfl⟩;have hdl:d.length<=10:=by have:=congrArg length hd;simp at this;omega
  by_cases h:y<=127
  ·simp[NU,f1,show ¬(127:Int)<(y:Int) by omega];have e:ez y=[y]:=by unfold ez;rw[ay h]
   obtain⟨H1,h1,h2,_⟩:=CW WK y ah (by simp;omega);simp[abI,f0,f1,dN,AL (show y<256 by omega)];refine aB.ok h1 ?_;rw[e]at hd;have el:(ez x).length=d.length+1:=by rw[hd];simp
   rw[hd,<-append_assoc];simp
   rcases h2.hv with⟨h,_⟩|⟨b,h,_,_,h3,_⟩
   ·cases h
   injection h with h;subst h;have hp':=h2.hp;simp only[append_assoc,length_append,length_singleton]at hp' h3;rw[show n+2*(d.length+1) - 1=n+2*d.length+1 by omega];exact⟨hp',⟨_,h3,.list ai⟩,ah⟩
  simp[NU,f1,show (127:Int)<(y:Int) by omega];have e:ez y=(y % 128+128)::ez (y / 128):=by rw[ez,ak h]
  obtain⟨H1,h1,h2,_⟩:=CW WK (y % 128+128) ah (by simp;omega);simp[abK,f0,f1,dN,avY];refine aB.ok h1 ?_
  have s7:eO .shr (.int .u64 (y:Int)) (.int .u64 7)=.val (.int .u64 ((y / 128:Nat):Int)):=by
   rw[qR _ _ _ _ ah];simp[IntKind.bits,Int.fdiv_eq_ediv_of_nonneg]
  simp[abJ,f0,f1,s7];exact⟨y / 128,ah,ah,ah,_,d++[y % 128+128],by simpa using h2,by rw[hd,e];simp,by simp;omega⟩
structure Val.pq (v:Val):Prop where
 lo : -9223372036854775808<=v.num
 hi:v.num<9223372036854775808
 b:∀c∈v.s,c<256
def zz (x:Int):Nat:=if 0<=x then (2*x).toNat else (-2*x - 1).toNat
theorem agL {x:Int}(h1 : -9223372036854775808<=x)(h2:x<9223372036854775808):zz x<18446744073709551616:=by unfold zz;split<;>omega
theorem ajJ (s:List Nat):VJ s=gV s:=by
 induction s with
 |nil=>rfl
 |cons a r _=>simp[gV,VJ]
def arN (n:Nat):AV->bD
 |.str l=>.new (.sl n 0 l.length 1) (.cells l.length [] (gV l) .nil)
 |_=>.fail
@[simp] theorem arM (n:Nat)(l:List Nat):arN n (.str l)=.new (.sl n 0 l.length 1) (.cells l.length [] (gV l) .nil):=Eq.trans rfl rfl
@[simp] theorem axO (x:G)(F:Fr)(H:Hp)(n:Nat):U4 x F H n=oE (x.f F) (arN n):=by
 unfold U4 oE
 cases x.f F with
 |none=>rfl
 |some v=>cases v<;>first|rfl|(dsimp only;rw[bN,ajJ];rfl)
theorem ajY {H:Hp}{n p q b:Nat}{l s:List Nat}(W:nC H n p (.sl b 0 l.length 1) l)(hq:H.get q=some (.cells s.length [] (gV s) .nil))(hl:l.length<1048000)(hs:s.length<=64):
  ao pG 288 [.ptr p 0,.sl q 0 s.length 1] H n (λ u K k=>u=.br []/\(s=[]->K.get p=H.get p/\K.get b=H.get b/\k=n)/\(s≠[]->K.get p=aN 2 [.bool true,.sl n 0 (l++s).length 1]/\(∃y,K.get n=some y/\OwnB y (gV (l++s)))/\k=n+1)):=by
 obtain⟨hp,pn,hv⟩:=W
 obtain⟨hbn,hbp,hb⟩:b<n/\b≠p/\H.get b=some (.cells l.length [] (gV l) .nil):=by
  rcases hv with⟨h,_⟩|⟨b',h,h1,h2,h3,_⟩
  ·cases h
  injection h with h;subst h;exact⟨h1,h2,h3⟩
 refine ao.of c288 (by simp[A288]) λ F hF=>?_;simp[A288,hF,hp]
 have hsc:aX H 1 (.sl q 0 s.length 1)=some (gV s):=by
  rw[bU hq (.list ai) ai];simp[fZ]
 by_cases hs0:s=[]
 ·subst hs0
  have e:gZ 1 1 n (.sl b 0 l.length 1) (.sl q 0 0 1) H=.val (.sl b 0 l.length 1):=by
   unfold gZ;simp only[length_nil]at hsc;rw[hsc];rfl
  simp[e,hp,hbp]
 have hs1:0<s.length:=length_pos_iff.2 hs0;have hO:aD H n (.sl b 0 l.length 1) (gV l) l.length 1:=⟨ai,.inr ⟨b,_,rfl,hbn,hb,.list ai⟩⟩;refine aD.app hO hsc (k:=s.length) ai ai ah hs1 (by unfold big;omega) ah (t_ _) λ H' hO' hf=>?_
 have hp':H'.get p=aN 2 [.bool true,.sl b 0 l.length 1]:=by
  rw[hf p pn,hp];intro h;injection h with h;exact hbp h
 obtain⟨_,⟨h,_⟩|⟨b',k,h,hb,hk,ho⟩⟩:=hO'
 ·cases h
 injection h with h;subst h;have e2:=XU pn;simp[hp',hs0,hk,e2];rw[Em];exact ho
theorem VK {H:Hp}{n p:Nat}{v:AV}{l:List Nat}(W:nC H n p v l)(s:List Nat)(hl:l.length<1040000)(hs:s.length<=64):
  ao pG 235 [.ptr p 0,.str s] H n (λ u K k=>u=.br []/\k=(if s=[]then n+3 else n+4)/\K.get p=aN 2 [.bool true,.sl (if s=[]then n+1 else n+3) 0 (l++(ez s.length++s)).length 1]/\∃y,K.get (if s=[]then n+1 else n+3)=some y/\OwnB y (gV (l++(ez s.length++s)))):=by
 have hu:(ez s.length).length=1:=by unfold ez;rw[ay ah];rfl
 obtain⟨H1,h1,h2,_⟩:=OM W s.length ah ah;rw[hu,show n+2*1=n+2 by omega]at h1 h2;rw[show n+2 - 1=n+1 by omega]at h2;have w:IntKind.u64.wrap (s.length:Int)=(s.length:Int):=pE ah;refine ao.of c235 (by simp[A235]) λ F hF=>?_;simp[A235,hF,dN,w];refine aB.ok h1 ?_;simp[acx,hF];generalize hK:Tr.put H1 _ _=K
 have h2':nC K (n+3) p (.sl (n+1) 0 (l++ez s.length).length 1) (l++ez s.length):=by
  obtain⟨a,b,c⟩:=h2;refine⟨by rw[<-hK,Tr.get_put,ak ah,a],ah,?_⟩
  rcases c with⟨h,_⟩|⟨b',h,h3,h4,h5,h6⟩
  ·cases h
  injection h with h;subst h;exact .inr ⟨_,rfl,ah,h4,by rw[<-hK,Tr.get_put,ak ah,h5],h6⟩
 refine aB.of (ajY (q:=n+2) h2' (s:=s) (by rw[<-hK];simp) (by simp;omega) hs) λ u K' k' ⟨e1,e2,e3⟩=>?_;subst e1;simp
 by_cases h0:s=[]
 ·subst h0;obtain⟨a1,a2,a3⟩:=e2 rfl;obtain⟨b',h,h3,h4,h5,h6⟩:=h2'.hv.resolve_left (by rintro⟨h,_⟩;cases h);injection h with h;subst h;refine⟨by simp[a3],by rw[a1,h2'.hp];simp,_,by simp only[if_true];rw[a2,h5],by simpa using OwnB.list (l:=gV (l++ez 0)) ai⟩
 obtain⟨a1,a2,a3⟩:=e3 h0;simp only[ak h0];refine⟨ah,by simpa[Nat.add_assoc]using a1,by simpa using a2⟩
def txB (s:List Nat)(n:Nat):Nat:=if s=[]then n+1 else n+3
def txN (s:List Nat)(n:Nat):Nat:=if s=[]then n+3 else n+4
theorem agM (s:List Nat)(n:Nat):n<txB s n/\txB s n<txN s n:=by unfold txB txN;split<;>omega
theorem aes {H:Hp}{n p:Nat}{v:AV}{l:List Nat}(W:nC H n p v l)(s:List Nat)(hl:l.length<1040000)(hs:s.length<=64):
  ∃H1,bC pG 235 [.ptr p 0,.str s] H n (.br []) H1 (txN s n)/\nC H1 (txN s n) p (.sl (txB s n) 0 (l++(ez s.length++s)).length 1) (l++(ez s.length++s))/\∀c,c∉OH p v->c<n∨txN s n<=c->H1.get c=H.get c:=by
 have hu:(ez s.length).length=1:=by unfold ez;rw[ay ah];rfl
 have:=agM s n;exact vp W (by simp[W.pn]) ah (by simp;omega) λ S _ WS=>(VK WS s hl hs).mono λ u K k ⟨a,b,c,d⟩=>⟨a,c,d,b⟩
end Go.Abs
