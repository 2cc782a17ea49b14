/- A part. -/
import Derived.Test.YtlhafglnokpioaaGreatBt1
noncomputable section
namespace Go.Abs
open List
open Go.Proofs
open Classical
set_option maxRecDepth 100000
def nD.ok (x:nD):Bool:=x.e.may&&decide (x.name=[]∨cO x.name)
def Src.ok (first:Bool)(x:Src):Bool:=decide (cO x.table)&&(decide (x.name=[]∨cO x.name)&&(if first then decide (x.cond.bare 0)else x.cond.may))
def Ord.ok (x:Ord):Bool:=decide (cO x.name)
def jP:List Src->Bool
 |[]=>true
 |x::r=>x.ok true&&r.all (Src.ok false)
def bG.may (q:bG):Bool:=(((q.cond.maybe&&decide (q.ar.length<=4)&&decide (q.order.length<=16)&&decide (0<=q.limit)&&(q.limited||decide (q.limit=0))&&(if q.star then decide (q.items.length=0)else decide (1<=q.items.length/\q.items.length<=16)))&&q.items.all nD.ok)&&jP q.ar)&&q.order.all Ord.ok
theorem W5 (q:bG)(hl:q.order.length<=aU)(b:Bool)(F:Fr)(K:Hp)(n:Nat)(Q:QA)(h1:F.get 1=some (.ptr 0 0))(h3:F.get 3=some (.bool b))(k0:K.get 0=aN 15 q.cells)
  (hn:0<n)(hQ:∀F' K' n',F'.get 1=some (.ptr 0 0)->K'.get 0=aN 15 q.cells->0<n'->F'.get 3=some (.bool (b&&q.order.all Ord.ok))->Q .normal F' K' n' []):
  VC pG (.seq qZ (.block 4 (.loop sX))) F K n [] Q:=by
 have hc:(q.cells)[12]?=some (pf.ds q.order):=by
  simp only[bG.cells];rw[getElem?_append_right ai];simp
 have hc2:∀h,q.cells[12]'h=pf.ds q.order:=λ h=>by
  have:=cY h;rw[hc]at this;injection this with this;exact this.symm
 unfold aU at hl;simp[qZ,h1,k0,bG.bm,hc2,pf.aT];obtain⟨Hl,ho⟩:∃f:Nat->Bool,∀i,f i=(b&&(q.order.take i).all Ord.ok):=⟨_,λ _=>rfl⟩;have h0:Hl 0=b:=by rw[ho];simp
 refine aF.of (λ t F' K' n' ms=>∃i,t=q.order.length - i/\i<=q.order.length/\F'.get 3=some (.bool (Hl i))/\F'.get 123=some (pf.ds q.order)/\F'.get 124=some (zI (q.order.length:Int))/\F'.get 125=some (zI (i:Int))/\F'.get 1=some (.ptr 0 0)/\K'.get 0=aN 15 q.cells/\0<n'/\ms=[]) q.order.length ⟨0,ai,ai,by simp[h3,h0],ai,ai,ai,by simp[h1],k0,hn,rfl⟩ ?_;rintro t F' K' n' ms ⟨i,rfl,hi,f3,f123,f124,f125,g1',kk,hn',rfl⟩
 by_cases hlt:i<q.order.length
 ·have q0:¬n'=0:=ah;have q0':¬ 0=n':=ah;have hx:=pf.ix (ik:=.i64) hlt;have hld:=λ H=>pf.pT q.order[i] (pf.l (q.order.drop (i+1))) H
  have ht:Hl (i+1)=(Hl i&&q.order[i].ok):=by
   rw[ho,ho,take_add_one,cY hlt,all_append];simp only[Option.toList,all_cons,all_nil,Bool.and_true,Bool.and_assoc]
  have hcl:pf.cells q.order[i]=[.str q.order[i].name,.bool q.order[i].desc]:=Eq.trans rfl rfl;simp[sX,f123,f124,f125,hlt,hx,hld,bf.av];simp only[hcl];generalize hb:Hl i=b1 at f3 ht
  cases b1 with
  |false =>
   simp[FY,FX,f3,f125,aE i ah,q0'];refine⟨_,ah,i+1,rfl,ah,?_,f123,f124,ai,g1',kk⟩;rw[ht];rfl
  |true =>
   simp[FY,f3];refine aB.pure (qD q.order[i].name) ?_;simp[FX,f125,aE i ah,q0'];refine⟨_,ah,i+1,rfl,ah,?_,f123,f124,ai,g1',kk⟩;rw[ht];simp[Ord.ok]
 have hie:i=q.order.length:=ah;rw[hie,ho,take_length]at f3;simp[sX,f124,f125,hie];exact hQ _ _ _ (by simp[g1']) kk hn' (by simp[f3])
theorem W7 (q:bG) (hl:q.items.length<=aU) (hz:∀x∈q.items,x.e.sz<=aU) (b:Bool) (F:Fr) (K:Hp) (n:Nat) (Q:QA) (h1:F.get 1=some (.ptr 0 0)) (h3:F.get 3=some (.bool b)) (k0:K.get 0=aN 15 q.cells)
  (hn:0<n)(hQ:∀F' K' n',F'.get 1=some (.ptr 0 0)->K'.get 0=aN 15 q.cells->0<n'->F'.get 3=some (.bool (b&&q.items.all nD.ok))->Q .normal F' K' n' []):
  VC pG (.seq FU (.block 0 (.loop zV))) F K n [] Q:=by
 have hc:(q.cells)[2]?=some (my.ds q.items):=by
  simp[bG.cells]
 have hc2:∀h,q.cells[2]'h=my.ds q.items:=λ h=>by simp[bG.cells]
 unfold aU at hl;simp[FU,h1,k0,bG.bm,hc2,my.aT];obtain⟨Hl,ho⟩:∃f:Nat->Bool,∀i,f i=(b&&(q.items.take i).all nD.ok):=⟨_,λ _=>rfl⟩;have h0:Hl 0=b:=by rw[ho];simp
 refine aF.of (λ t F' K' n' ms=>∃i,t=q.items.length - i/\i<=q.items.length/\F'.get 3=some (.bool (Hl i))/\F'.get 56=some (my.ds q.items)/\F'.get 57=some (zI (q.items.length:Int))/\F'.get 58=some (zI (i:Int))/\F'.get 1=some (.ptr 0 0)/\K'.get 0=aN 15 q.cells/\0<n'/\ms=[]) q.items.length ⟨0,ai,ai,by simp[h3,h0],ai,ai,ai,by simp[h1],k0,hn,rfl⟩ ?_;rintro t F' K' n' ms ⟨i,rfl,hi,f3,f56,f57,f58,g1',kk,hn',rfl⟩
 by_cases hlt:i<q.items.length
 ·have q0:¬n'=0:=ah;have q0':¬ 0=n':=ah;have hx:=my.ix (ik:=.i64) hlt;have hld:=λ H=>my.pT q.items[i] (my.l (q.items.drop (i+1))) H
  have ht:Hl (i+1)=(Hl i&&q.items[i].ok):=by
   rw[ho,ho,take_add_one,cY hlt,all_append];simp only[Option.toList,all_cons,all_nil,Bool.and_true,Bool.and_assoc]
  have hcl:my.cells q.items[i]=q.items[i].e.cells++[.str q.items[i].name]:=Eq.trans rfl rfl;simp[zV,f56,f57,f58,hlt,hx,hld,bf.av];simp only[hcl];generalize hb:Hl i=b1 at f3 ht
  cases b1 with
  |false =>
   simp[NQ,zP,f3,f58,aE i ah,q0'];refine⟨_,ah,i+1,rfl,ah,?_,f56,f57,ai,g1',kk⟩;rw[ht];rfl
  |true =>
   simp[NQ,f3];have hm:=X5 q.items[i].e (hz _ (dy hlt));have hav:q.items[i].e.av=.agg q.items[i].e.cells 8:=Eq.trans rfl rfl;rw[hav]at hm;refine aB.pure hm ?_
   have hg:∀h:8<(q.items[i].e.cells++[AV.str q.items[i].name]).length,(q.items[i].e.cells++[AV.str q.items[i].name])[8]'h=.str q.items[i].name:=λ h=>by
    rw[getElem_append_right ai];simp
   cases hme:q.items[i].e.may with
   |false =>
    simp[zP,f58,aE i ah,q0'];refine⟨_,ah,i+1,rfl,ah,?_,f56,f57,ai,g1',kk⟩;rw[ht];simp[nD.ok,hme]
   |true =>
    by_cases hn:q.items[i].name=[]
    ·simp[zP,f58,aE i ah,q0',hn];refine⟨_,ah,i+1,rfl,ah,?_,f56,f57,ai,g1',kk⟩;rw[ht];simp[nD.ok,hme,hn]
    simp[hg,hn];refine aB.pure (qD q.items[i].name) ?_;simp[zP,f58,aE i ah,q0'];refine⟨_,ah,i+1,rfl,ah,?_,f56,f57,ai,g1',kk⟩;rw[ht];simp[nD.ok,hme,hn]
 have hie:i=q.items.length:=ah;rw[hie,ho,take_length]at f3;simp[zV,f57,f58,hie];exact hQ _ _ _ (by simp[g1']) kk hn' (by simp[f3])
theorem TR {l:List Src}{i:Nat}(h:i<l.length):jP (l.take (i+1))=(jP (l.take i)&&l[i].ok (decide (i=0))):=by
 match l,i,h with
 |x::r,0,_=>simp[jP]
 |x::r,i+1,h =>
  have hr:i<r.length:=by simpa using h
  simp only[take_succ_cons,jP];rw[take_add_one,cY hr,all_append];simp[Bool.and_assoc]
theorem W6 (q : bG) (hl:q.ar.length<=aU) (hz:∀x∈q.ar,x.cond.sz<=aU) (b:Bool) (F:Fr) (K:Hp) (n:Nat) (Q:QA) (h1:F.get 1=some (.ptr 0 0)) (h3:F.get 3=some (.bool b)) (k0:K.get 0=aN 15 q.cells)
  (hn:0<n)(hQ:∀F' K' n',F'.get 1=some (.ptr 0 0)->K'.get 0=aN 15 q.cells->0<n'->F'.get 3=some (.bool (b&&jP q.ar))->Q .normal F' K' n' []):
  VC pG (.seq ui (.block 2 (.loop vo))) F K n [] Q:=by
 have hc2:∀h,q.cells[3]'h=ju.ds q.ar:=λ h=>by simp[bG.cells]
 unfold aU at hl;simp[ui,h1,k0,bG.bm,hc2,ju.aT];obtain⟨Hl,ho⟩:∃f:Nat->Bool,∀i,f i=(b&&jP (q.ar.take i)):=⟨_,λ _=>rfl⟩;have h0:Hl 0=b:=by rw[ho];simp[jP]
 refine aF.of (λ t F' K' n' ms=>∃i,t=q.ar.length - i/\i<=q.ar.length/\F'.get 3=some (.bool (Hl i))/\F'.get 80=some (ju.ds q.ar)/\F'.get 81=some (zI (q.ar.length:Int))/\F'.get 82=some (zI (i:Int))/\F'.get 1=some (.ptr 0 0)/\K'.get 0=aN 15 q.cells/\0<n'/\ms=[]) q.ar.length ⟨0,ai,ai,by simp[h3,h0],ai,ai,ai,by simp[h1],k0,hn,rfl⟩ ?_;rintro t F' K' n' ms ⟨i,rfl,hi,f3,f80,f81,f82,g1',kk,hn',rfl⟩
 by_cases hlt:i<q.ar.length
 ·have q0 : ¬ n'=0:=ah;have q0':¬ 0=n':=ah;have hx:=ju.ix (ik:=.i64) hlt;have hld:=λ H=>ju.pT q.ar[i] (ju.l (q.ar.drop (i+1))) H
  have ht:Hl (i+1)=(Hl i&&q.ar[i].ok (decide (i=0))):=by
   rw[ho,ho,TR hlt,Bool.and_assoc]
  have hcl:ju.cells q.ar[i]=.str q.ar[i].table::.str q.ar[i].name::q.ar[i].cond.cells:=Eq.trans rfl rfl;simp[vo,f80,f81,f82,hlt,hx,hld,bf.av];simp only[hcl];generalize hb:Hl i=b1 at f3 ht
  cases b1 with
  |false =>
   simp[FZ,jC,f3,f82,aE i ah,q0'];refine⟨_,ah,i+1,rfl,ah,?_,f80,f81,ai,g1',kk⟩;rw[ht];rfl
  |true =>
   simp[FZ,f3];have hm:=X5 q.ar[i].cond (hz _ (dy hlt));have hk:=wK q.ar[i].cond;have hav:q.ar[i].cond.av=.agg q.ar[i].cond.cells 8:=Eq.trans rfl rfl;rw[hav]at hm hk;refine aB.pure (qD q.ar[i].table) ?_
   by_cases g1:cO q.ar[i].table
   ·by_cases g2:q.ar[i].name=[]
    ·simp only[g1,decide_true]
     by_cases g3:i=0
     ·have z1:(i:Int)=0:=ah
      by_cases gb:q.ar[i].cond.bare 0
      ·simp only[gb,decide_true]at hk;simp[g2,z1];refine aB.pure hk ?_;simp;simp[jC,f82,aE i ah,q0'];refine⟨_,ah,i+1,rfl,ah,?_,f80,f81,ai,g1',kk⟩;rw[ht];rw[show decide (i=0)=true by simp[g3]];simp[Src.ok,g1,g2,gb]
      simp only[gb,decide_false]at hk;simp[g2,z1];refine aB.pure hk ?_;simp;simp[jC,f82,aE i ah,q0'];refine⟨_,ah,i+1,rfl,ah,?_,f80,f81,ai,g1',kk⟩;rw[ht];rw[show decide (i=0)=true by simp[g3]];simp[Src.ok,g1,g2,gb]
     have z1:¬(i:Int)=0:=ah;have z2:0<i:=ah;simp[g2,g3,z2];refine aB.pure hm ?_;simp;simp[jC,f82,aE i ah,q0'];refine⟨_,ah,i+1,rfl,ah,?_,f80,f81,ai,g1',kk⟩;rw[ht];simp[Src.ok,g1,g2,g3]
    simp[g1,g2];refine aB.pure (qD q.ar[i].name) ?_
    by_cases g4:cO q.ar[i].name
    ·simp only[g4,decide_true]
     by_cases g3:i=0
     ·have z1:(i:Int)=0:=ah
      by_cases gb:q.ar[i].cond.bare 0
      ·simp only[gb,decide_true]at hk;simp[z1];refine aB.pure hk ?_;simp;simp[jC,f82,aE i ah,q0'];refine⟨_,ah,i+1,rfl,ah,?_,f80,f81,ai,g1',kk⟩;rw[ht];rw[show decide (i=0)=true by simp[g3]];simp[Src.ok,g1,g2,g4,gb]
      simp only[gb,decide_false]at hk;simp[z1];refine aB.pure hk ?_;simp;simp[jC,f82,aE i ah,q0'];refine⟨_,ah,i+1,rfl,ah,?_,f80,f81,ai,g1',kk⟩;rw[ht];rw[show decide (i=0)=true by simp[g3]];simp[Src.ok,g1,g2,g4,gb]
     have z1:¬(i:Int)=0:=ah;have z2:0<i:=ah;simp[g3,z2];refine aB.pure hm ?_;simp;simp[jC,f82,aE i ah,q0'];refine⟨_,ah,i+1,rfl,ah,?_,f80,f81,ai,g1',kk⟩;rw[ht];simp[Src.ok,g1,g2,g4,g3]
    simp[g4,jC,f82,aE i ah,q0'];refine⟨_,ah,i+1,rfl,ah,?_,f80,f81,ai,g1',kk⟩;rw[ht];simp[Src.ok,g1,g2,g4]
   simp[g1,jC,f82,aE i ah,q0'];refine⟨_,ah,i+1,rfl,ah,?_,f80,f81,ai,g1',kk⟩;rw[ht];simp[Src.ok,g1]
 have hie:i=q.ar.length:=ah;rw[hie,ho,take_length]at f3;simp[vo,f81,f82,hie];exact hQ _ _ _ (by simp[g1']) kk hn' (by simp[f3])
theorem W4 (q:bG)(ho:q.order.length<=aU)(hs:q.ar.length<=aU)(hi:q.items.length<=aU)(hz1:∀x∈q.items,x.e.sz<=aU)(hz2:∀x∈q.ar,x.cond.sz<=aU)(b:Bool)(F:Fr)(K:Hp)(n:Nat)(h1:F.get 1=some (.ptr 0 0))(h3:F.get 3=some (.bool b))(k0:K.get 0=aN 15 q.cells)(hn:0<n):
  VC pG (.seq FU (.block 0 (.loop zV))) F K n [] (nj pG (.seq (.seq ui (.block 2 (.loop vo))) (.seq (.seq qZ (.block 4 (.loop sX))) (.seq qY .ret))) (kH [aH 2] λ v1 H' _=>fj H'.get v1 (.bool (((b&&q.items.all nD.ok)&&jP q.ar)&&q.order.all Ord.ok)))):=by
 refine W7 q hi hz1 b F K n _ h1 h3 k0 hn λ F1 K1 n1 g1 gk gn g3=>?_;show VC pG (.seq (.seq ui (.block 2 (.loop vo))) (.seq (.seq qZ (.block 4 (.loop sX))) (.seq qY .ret))) F1 K1 n1 [] _;rw[ux];refine W6 q hs hz2 _ F1 K1 n1 _ g1 g3 gk gn λ F2 K2 n2 e1 ek en e3=>?_;show VC pG (.seq (.seq qZ (.block 4 (.loop sX))) (.seq qY .ret)) F2 K2 n2 [] _;rw[ux];refine W5 q ho _ F2 K2 n2 _ e1 e3 ek en λ F3 K3 n3 d1 dk dn d3=>?_;show VC pG (.seq qY .ret) F3 K3 n3 [] _;simp[qY,d3];exact .bool (by simp[Bool.and_assoc])
theorem aB.ok {P:Program}{F:Fr}{H H':Hp}{n n':Nat}{m:List Dm}{Q:QA}{f:FuncId}{vs:List AV}{pd:Pd}{r:List (Option GO)}{v:AV}(h:bC P f vs H n v H' n')(k:fE P r (pd.f v F) H' n' m Q):aB f vs pd r P F H n m Q:=
 aB.of h.lz λ u K j ⟨a,b,c⟩=>by subst a b c;exact k
def zq (v1 v2:AV)(err:Int):bJ:=.cells 3 [] [v1,v2,zI err] .nil
theorem HC (ns:List (List Nat))(ts:List bR)(hl:(aI ts).length<=aU)(ht:ts.length<=aU)(hc:∀t∈ts,t.cols.length<=aU):aj pG 196 [.agg (oN ns ts) 2] (.ds (cU (aI ts)) (aI ts).length 1):=
 aj.ofR (by simp[oN]) ai ((afB ns ts hl ht hc).mono λ v H' n' h=>h.nz (bp.pure ai) ah)
theorem afL {α:Type}(p:α->Bool)(l:List α):lJ p l<(l.length:Int):=by
 unfold lJ
 split
 ·rename_i q hq;have:=(findIdx?_eq_some_iff_findIdx_eq.1 hq).1;omega
 omega
theorem Hz (t:bR)(r:List bR):(aI (t::r)).length=t.cols.length+(aI r).length:=by
 simp[aI,bR.kinds]
theorem uF (table name:List Nat):∀(l:List (List Nat×bR)) (at0:Nat) (found:Int) (src:Bool),found<at0->(gX table name l at0 found src).2=0->0<=(gX table name l at0 found src).1/\(gX table name l at0 found src).1<(at0:Int)+((aI (l.map (·.2))).length:Int)
 |[],at0,found,src,hf,h=>by
  unfold gX at h ⊢
  split
  ·rename_i h0;simp[aI];omega
  rename_i h0;rw[ak h0]at h
  split at h<;>simp at h
 |(n, t)::r,at0,found,src,hf,h=>by
  have hk:=afL (λ c:q7=>decide (c.name=name)) t.cols;unfold gX at h ⊢;simp only[map_cons,Hz]
  split
  ·rename_i h0;rw[ay h0]at h
   split
   ·rename_i h1;rw[ay h1]at h;simp at h
   rename_i h1;rw[ak h1]at h;have:=uF table name r (at0+t.cols.length) _ true ah h;omega
  rename_i h0;rw[ak h0]at h;have:=uF table name r (at0+t.cols.length) found _ ah h;omega
def mf (ns:List (List Nat))(ts:List bR)(table name:List Nat):Int×Int:=gX table name (ns.zip ts) 0 (-1) false
theorem Ur {ns:List (List Nat)}{ts:List bR}(hn:ns.length=ts.length){table name:List Nat}(h:(mf ns ts table name).2=0):0<=(mf ns ts table name).1/\(mf ns ts table name).1<((aI ts).length:Int):=by
 have:=uF table name (ns.zip ts) 0 (-1) false ah h;rw[map_snd_zip ah]at this;unfold mf;omega
mutual
def Ex.bd (ns:List (List Nat)) (ts:List bR):Ex->Int->Ex×Int×Int
 |.mk op v t m cD args,err =>
  if op=2 then (if (mf ns ts t m).2=0 then (.mk 3 ⟨0,0,[]⟩ [] [] (mf ns ts t m).1 [],(aI ts).getD (mf ns ts t m).1.toNat 0,err)else (.mk op v t m cD args,0,keep err (mf ns ts t m).2 true))
  else if op=1 then (.mk op v t m cD args,v.kind,err)
  else (.mk op ⟨0,0,[]⟩ [] [] 0 (Ex.m6 ns ts args err).1,(mH op).1.kind,keep (Ex.m6 ns ts args err).2.2 203 (!(mH op).1.fits (Ex.m6 ns ts args err).2.1))
def Ex.m6 (ns:List (List Nat))(ts:List bR):List Ex->Int->List Ex×List Int×Int
 |[],err=>([],[],err)
 |e::r,err=>((e.bd ns ts err).1::(Ex.m6 ns ts r (e.bd ns ts err).2.2).1,(e.bd ns ts err).2.1::(Ex.m6 ns ts r (e.bd ns ts err).2.2).2.1,(Ex.m6 ns ts r (e.bd ns ts err).2.2).2.2)
end
theorem Ex.IC (ns:List (List Nat))(ts:List bR)(a:Ex):∀(l:List Ex)(err:Int),Ex.m6 ns ts (l++[a]) err=((Ex.m6 ns ts l err).1++[(a.bd ns ts (Ex.m6 ns ts l err).2.2).1],(Ex.m6 ns ts l err).2.1++[(a.bd ns ts (Ex.m6 ns ts l err).2.2).2.1],(a.bd ns ts (Ex.m6 ns ts l err).2.2).2.2)
 |[],err=>by simp[Ex.m6]
 |e::r,err=>by simp[Ex.m6,Ex.IC ns ts a r]
theorem Ex.En (ns:List (List Nat))(ts:List bR):∀(l:List Ex)(err:Int),(Ex.m6 ns ts l err).1.length=l.length/\(Ex.m6 ns ts l err).2.1.length=l.length
 |[],err=>by simp[Ex.m6]
 |e::r,err=>by simp[Ex.m6,Ex.En ns ts r]
theorem Ex.Zu (ns:List (List Nat))(ts:List bR){l:List Ex}{i:Nat}(h:i<l.length)(err:Int):Ex.m6 ns ts (l.take (i+1)) err=((Ex.m6 ns ts (l.take i) err).1++[(l[i].bd ns ts (Ex.m6 ns ts (l.take i) err).2.2).1],(Ex.m6 ns ts (l.take i) err).2.1++[(l[i].bd ns ts (Ex.m6 ns ts (l.take i) err).2.2).2.1],(l[i].bd ns ts (Ex.m6 ns ts (l.take i) err).2.2).2.2):=by
 rw[take_add_one,cY h];exact Ex.IC ns ts l[i] (l.take i) err
structure WkS (H:Hp)(n:Nat)(ns:List (List Nat))(ts:List bR)(s b k w p:Nat)(v1 v2:AV)(err:Int):Prop where
 hs:H.get s=aN 2 (oN ns ts)
 hb:H.get b=aN 1 [.ptr p 0]
 hk:H.get k=aN 1 [.ds (cU (aI ts)) (aI ts).length 1]
 hw:H.get w=aN 1 [.fn (.func 197) [] [.ptr s 0,.ptr b 0,.ptr k 0,.ptr w 0]]
 hp:H.get p=some (zq v1 v2 err)
 ls:s<n
 lb:b<n
 lk:k<n
 lw:w<n
 lp:p<n
theorem WkS.ne {H:Hp}{n:Nat}{ns:List (List Nat)}{ts:List bR}{s b k w p:Nat}{v1 v2:AV}{err:Int}(h:WkS H n ns ts s b k w p v1 v2 err):s≠p/\b≠p/\k≠p/\w≠p:=by
 refine⟨?_,?_,?_,?_⟩<;>rintro rfl
 ·have:=h.hs.symm.trans h.hp;injection this with this;injection this with this;omega
 ·have:=h.hb.symm.trans h.hp;injection this with this;injection this with this;omega
 ·have:=h.hk.symm.trans h.hp;injection this with this;injection this with this;omega
 have:=h.hw.symm.trans h.hp;injection this with this;injection this with this;omega
theorem WkS.next {H K:Hp}{n n':Nat}{ns:List (List Nat)}{ts:List bR}{s b k w p:Nat}{v1 v2:AV}{err err':Int}(h:WkS H n ns ts s b k w p v1 v2 err)(hn:n<=n')(hk:∀c,c<n->c≠p->K.get c=H.get c)(hp:K.get p=some (zq v1 v2 err')):WkS K n' ns ts s b k w p v1 v2 err':=by
 obtain⟨n1,n2,n3,n4⟩:=h.ne;have l1:=h.ls;have l2:=h.lb;have l3:=h.lk;have l4:=h.lw;have l5:=h.lp;exact⟨(hk s h.ls n1).trans h.hs,(hk b h.lb n2).trans h.hb,(hk k h.lk n3).trans h.hk,(hk w h.lw n4).trans h.hw,hp,ah,ah,ah,ah,ah⟩
theorem Ex.nz {h:Hf}{op:Int}{v:Val}{t m:List Nat}{cD:Int}{args:List Ex}{x:AV}(hx:fj h x (.ds (Ex.aK args) args.length 8)):bp h [zI op,zI v.kind,zI v.num,.str v.s,.str t,.str m,zI cD,x] (Ex.mk op v t m cD args).cells:=by
 rw[Ex.cells];exact .cons _ _ _ _ fp (.cons _ _ _ _ fp (.cons _ _ _ _ fp (.cons _ _ _ _ fp (.cons _ _ _ _ fp (.cons _ _ _ _ fp (.cons _ _ _ _ fp (.cons _ _ _ _ hx .nil)))))))
theorem Ex.aqU {h:Hf}{cs:List AV}{e:Ex}{kd:Int}(hx:bp h cs e.cells):fj h (.br [.agg cs 8,zI kd]) (.br [e.av,zI kd]):=
 .br _ _ (.cons _ _ _ _ (.agg _ _ _ hx) (.cons _ _ _ _ fp .nil))
theorem aD.Vf {P:Program}{H:Hp}{n:Nat}{F:Fr}{m:List Dm}{Q:QA}{v x:AV}{l new:List AV}{len sz gp k:Nat}{pd:Pd}{r:List (Option GO)}(h:aD H n v l len sz)(hx:aX H sz x=some new)(hk:sliceLen x=some k)(hn:new.length=k*sz)
  (hs:0<sz)(hk0:0<k)(hbig:len+k<=big)(hby:gp<=4096)(h1:bo new=true)
  (hgo:∀H',aD H' (n+1) (.sl n 0 (len+k) sz) (l++new) (len+k) sz->(∀c,c≠n->blk v≠some c->H'.get c=H.get c)->fE P r (pd.f (.sl n 0 (len+k) sz) F) H' (n+1) m Q):Gf (Go.Abs.gZ sz gp n v x H) pd r P F H n m Q:=by
 obtain⟨H',e,h1,h2⟩:=h.gZ hx hk hn hs hk0 hbig hby h1;unfold Gf;rw[e];exact hgo H' h1 λ c hc hb=>h2 c hc λ e=>hb (by rw[e];rfl)
theorem aD.UT {H:Hp}{n n0:Nat}{v:AV}{l l':List AV}{len sz:Nat}(h:aD H n v l len sz)(hn:∀c,blk v=some c->n0<=c)(hl:bp (above n0 H) l l')(hz:0<sz):fj (above n0 H) v (.ds l' len sz):=by
 obtain⟨s',rfl⟩:∃k,sz=k+1:=⟨sz - 1,ah⟩;obtain⟨h0,⟨rfl,rfl⟩|⟨b,k,rfl,hb,hk,ho⟩⟩:=h
 ·have:l=[]:=by simpa using h0
  subst this;cases hl;exact .nil _
 obtain⟨u,z,bs,t,rfl,hg⟩:=ho.jT (o:=0) (c:=len*(s'+1)) ah;refine .sl _ _ _ _ _ _ _ _ _ _ ?_ hg ?_
 ·unfold above;rw[ay (hn b rfl)];exact hk
 rw[drop_zero,fZ ah];exact hl
structure WkI (H0:Hp)(n b w p:Nat)(v1 v2:AV)(op:Int)(ec:List AV)(args:List Ex)(A:List Ex×List Int×Int)(i:Nat)(va vk:AV)(F:Fr)(K:Hp)(mm:Nat):Prop where
 hi:i<=args.length
 f2:F.get 2=some (.ptr b 0)
 f4:F.get 4=some (.ptr w 0)
 f5:F.get 5=some (.ptr n 0)
 f6:F.get 6=some (.ptr (n+1) 0)
 f10:F.get 10=some (.ptr (n+2) 0)
 f11:F.get 11=some vk
 f55:F.get 55=some (.ds (Ex.aK args) args.length 8)
 f56:F.get 56=some (zI (args.length:Int))
 f57:F.get 57=some (zI (i:Int))
 hmm:n+3<=mm
 tp:dm K mm
 kf:∀c,c<n->c≠p->K.get c=H0.get c
 kp:K.get p=some (zq v1 v2 A.2.2)
 kn:K.get n=aN 8 ec
 kr:K.get (n+1)=aN 8 [zI 0,zI 0,zI 0,.str [],.str [],.str [],zI 0,.aV (.slice none 0 0)]
 ko:K.get (n+2)=aN 8 [zI op,zI 0,zI 0,.str [],.str [],.str [],zI 0,va]
 oa:aD K mm va (Ex.aK A.1) i 8
 ok:aD K mm vk (cU A.2.1) i 1
 da:∀c,blk va=some c->n+3<=c/\blk vk≠some c
 dk:∀c,blk vk=some c->n+3<=c
theorem VE (ns:List (List Nat)) (ts:List bR) (v1 v2:AV) (hv1:Pure v1) (hv2:Pure v2) (hn:ns.length=ts.length) (hl:(aI ts).length<=aU) (ht:ts.length<=aU) (hc:∀t∈ts,t.cols.length<=aU):
  ∀(N:Nat) (e:Ex) (err:Int) (H:Hp) (n s b k w p:Nat),e.sz<=N->N<=aU->e.may=true->WkS H n ns ts s b k w p v1 v2 err ->
   bC pG 197 [e.av,.ptr s 0,.ptr b 0,.ptr k 0,.ptr w 0] H n (.br [(e.bd ns ts err).1.av,zI (e.bd ns ts err).2.1]) (H.put p (some (zq v1 v2 (e.bd ns ts err).2.2))) n
 |0,e,_,_,_,_,_,_,_,_,h,_,_,_=>by have:=Ex.kQ e;omega
 |N + 1,.mk op v t m cD args,err,H,n,s,b,k,w,p,hsz,hN,hmay,hs=>by
  obtain⟨ns1,ns2,ns3,ns4⟩:=hs.ne;have hlt:=hs.ls;have hlb:=hs.lb;have hlk:=hs.lk;have hlw:=hs.lw;have hlp:=hs.lp;have hpu:=Ex.rC (.mk op v t m cD args);refine ao.okB (p:=p) [s,b,k,w,p] ai (by simp[Ex.av,hpu.jQ,hlt,hlb,hlk,hlw]) (by simp[hlt,hlb,hlk,hlw,hlp]) ?_ (bV (by simp[hv1.jQ,hv2.jQ])) ?_
  ·intro c hm y hy;simp only[mem_cons,not_mem_nil,or_false]at hm
   rcases hm with rfl|rfl|rfl|rfl|rfl
   ·rw[hs.hs]at hy;injection hy with hy;subst hy;exact bV (aS.jQ (by simp[oN]))
   ·rw[hs.hb]at hy;injection hy with hy;subst hy;exact bV (by simp[hlp])
   ·rw[hs.hk]at hy;injection hy with hy;subst hy;exact bV (aS.jQ ai)
   ·rw[hs.hw]at hy;injection hy with hy;subst hy;exact bV (by simp[iF,hlt,hlb,hlk,hlw])
   rw[hs.hp]at hy;injection hy with hy;subst hy;exact bV (by simp[hv1.jQ,hv2.jQ])
  intro H0 htop jf;have hs0:WkS H0 n ns ts s b k w p v1 v2 err:=⟨(jf _ ai).trans hs.hs,(jf _ ai).trans hs.hb,(jf _ ai).trans hs.hk,(jf _ ai).trans hs.hw,(jf _ ai).trans hs.hp,hlt,hlb,hlk,hlw,hlp⟩;clear jf hs;have ps:=jz hlt;have pb:=jz hlb;have pk:=jz hlk;have pp:=jz hlp;have pp':=XU hlp
  by_cases h2:op=2
  ·have hpl:=aeZ ns ts t m hn hl ht hc;refine ao.of c197 (by simp[A197]) λ F hF=>?_;simp[A197,hF,Ex.av,Ex.cells,h2,hs0.hs,ps];refine aB.pure hpl ?_;have hpS:gX t m (ns.zip ts) 0 (-1) false=mf ns ts t m:=rfl;rw[hpS];generalize hq:mf ns ts t m=q;obtain⟨q1,q2⟩:=q;simp[acW,hF,hs0.hb,pb];generalize hH1:Tr.put _ (n+1) _=H1;have k1:∀c,c<n->H1.get c=H0.get c:=λ c hc=>by rw[<-hH1];simp[jz hc]
   have k2:H1.get n=some (.cells 8 [] (Ex.mk 2 v t m cD args).cells .nil):=by rw[<-hH1];simp[Ex.cells]
   have k3:H1.get (n+1)=aN 8 [zI 0,zI 0,zI 0,.str [],.str [],.str [],zI 0,.aV (.slice none 0 0)]:=by rw[<-hH1];simp
   clear hH1;refine aB.ok (Kr p v1 v2 err q2 (!decide (q2=0)) H1 (n+1+1) hv1 hv2 ah ((k1 p hlp).trans hs0.hp)) ?_
   by_cases hf:q2=0
   ·subst hf;have hlt2:=Ur hn (table:=t) (name:=m) (by rw[hq]);rw[hq]at hlt2;obtain⟨hq1,hq3⟩:=hlt2;obtain⟨i,hi⟩:∃i:Nat,q1=(i:Int):=⟨q1.toNat,ah⟩;subst hi;have hil:i<(aI ts).length:=by simp at hq3;omega
    have kb1:=(k1 k hlk).trans hs0.hk;simp[NJ];refine bF.of (bq (P:=pG)) ?_;simp[ae,hF,pp,pp',pk,ns3,k3,kb1,wO hil];have hb:(Ex.mk 2 v t m cD args).bd ns ts err=(.mk 3 ⟨0,0,[]⟩ [] [] (i:Int) [],(aI ts)[i],err):=by simp[Ex.bd,hq,getD,hil]
    rw[hb];refine⟨Ex.aqU (Ex.nz (v:=⟨0,0,[]⟩) (.nil 7)),λ c h1 h3=>?_,.inl (by simp[zq,keep])⟩;simp[jz h1,h3,k1 c h1]
   simp[NJ,acV,hf,k2,k3,pp',Ex.cells];have hb:(Ex.mk 2 v t m cD args).bd ns ts err=(.mk 2 v t m cD args,0,keep err q2 true):=by simp[Ex.bd,hq,hf]
   rw[hb];refine⟨.pure _ ai,λ c h1 h3=>?_,zq v1 v2 (keep err q2 true),by simp[pp,zq],.inl rfl⟩;simp[jz h1,h3,k1 c h1]
  by_cases h1:op=1
  ·have hb:(Ex.mk op v t m cD args).bd ns ts err=(.mk op v t m cD args,v.kind,err):=by simp[Ex.bd,h1]
   rw[hb];refine ao.of c197 (by simp[A197]) λ F hF=>?_;simp[A197,hF,Ex.av,Ex.cells,h1];refine bF.of (bq (P:=pG)) ?_;simp[ae];subst h1;refine⟨.pure _ ai,λ c h1 h3=>?_,zq v1 v2 err,by simp[pp,hs0.hp],.inl rfl⟩;simp[jz h1]
  have hb:(Ex.mk op v t m cD args).bd ns ts err=(.mk op ⟨0,0,[]⟩ [] [] 0 (Ex.m6 ns ts args err).1,(mH op).1.kind,keep (Ex.m6 ns ts args err).2.2 203 (!(mH op).1.fits (Ex.m6 ns ts args err).2.1)):=by rw[Ex.bd,ak h2,ak h1]
  rw[hb];have hla:=Ex.rJ args
  have hml:Ex.wc args=true/\(args.length:Int)=(if op<=7 then 1 else 2)/\4<=op/\op<=21:=by
   rw[Ex.may,ak h1,ak h2]at hmay;simp only[dU,decide_eq_true_eq]at hmay;exact⟨hmay.2.2.2,hmay.2.1,hmay.1⟩
  obtain⟨hma,hln,ho1,ho2⟩:=hml;simp only[Ex.sz]at hsz;unfold aU at hN;refine ao.of c197 (by simp[A197]) λ F hF=>?_;simp[A197,hF,Ex.av,Ex.cells,h1,h2];generalize hH1:Tr.put _ (n+1+1) _=H1;have k0:∀c,c<n->H1.get c=H0.get c:=λ c hc=>by rw[<-hH1];simp[jz hc]
  have k1:H1.get n=some (.cells 8 [] (Ex.mk op v t m cD args).cells .nil):=by rw[<-hH1];simp[Ex.cells]
  have k2:H1.get (n+1)=aN 8 [zI 0,zI 0,zI 0,.str [],.str [],.str [],zI 0,.aV (.slice none 0 0)]:=by rw[<-hH1];simp
  have k3:H1.get (n+2)=aN 8 [zI op,zI 0,zI 0,.str [],.str [],.str [],zI 0,.aV (.slice none 0 0)]:=by rw[<-hH1];simp
  have k4:dm H1 (n+3):=λ c hc=>by
   have q1:¬c=n:=ah;have q2:¬c=n+1:=ah;have q3:¬c=n+2:=ah;rw[<-hH1];simp[q1,q2,q3,htop c ah]
  clear hH1
  refine aF.of (λ q F K mm ms=>∃(i:Nat) (va vk:AV),q=args.length - i/\WkI H0 n b w p v1 v2 op ((Ex.mk op v t m cD args).cells) args (Ex.m6 ns ts (args.take i) err) i va vk F K mm/\ms=[]) args.length
   ⟨0,.aV (.slice none 0 0),.aV (.slice none 0 0),ai,⟨ai,by simp[hF],by simp[hF],ai,ai,ai,ai,ai,ai,ai,ah,k4,λ c hc _=>k0 c hc,by simpa[Ex.m6]using(k0 p hlp).trans hs0.hp,k1,k2,k3,by simpa[Ex.m6,Ex.aK]using aD.nil _ _ 8,by simpa[Ex.m6,cU]using aD.nil _ _ 1,ai,ai⟩,rfl⟩ ?_
  clear hF F k0 k1 k2 k3 k4 H1;rintro q F K mm ms ⟨i,va,vk,rfl,I,rfl⟩;have f2:=I.f2;have f4:=I.f4;have f5:=I.f5;have f6:=I.f6;have f10:=I.f10;have f11:=I.f11;have f55:=I.f55;have f56:=I.f56;have f57:=I.f57;have hmm:=I.hmm
  by_cases hlt2:i<args.length
  ·have hx:=nV (k:=.i64) hlt2;have hsm:=Ex.rI (dy hlt2);have hwk:=(I.kf w hlw ns4).trans hs0.hw;have mw:=jz (show w<mm by omega);simp[Ot,f4,f55,f56,f57,hlt2,hx,hwk,mw];generalize hK1:Tr.put _ mm (some (bJ.cells 8 [] args[i].cells Ov.nil))=K1;have g1:∀c,c<mm->K1.get c=K.get c:=λ c hc=>by rw[<-hK1];simp[jz hc]
   have t1:dm K1 (mm+1):=λ c hc=>by
    have q1:¬c=mm:=ah;rw[<-hK1];simp[q1,I.tp c ah]
   clear hK1;have hs1:WkS K1 (mm+1) ns ts s b k w p v1 v2 (Ex.m6 ns ts (args.take i) err).2.2:=hs0.next ah (λ c h3 h4=>(g1 c ah).trans (I.kf c h3 h4)) ((g1 p ah).trans I.kp);refine aB.ok (VE ns ts v1 v2 hv1 hv2 hn hl ht hc N args[i] _ K1 (mm+1) s b k w p ah (by unfold aU;omega) (Ex.Hu hma i hlt2) hs1) ?_;have htk:=Ex.Zu ns ts hlt2 err;have hlen:=Ex.En ns ts (args.take i) err;generalize hA:Ex.m6 ns ts (args.take i) err=A at I hs1 htk hlen ⊢;generalize hX:args[i].bd ns ts A.2.2=X at htk ⊢;obtain⟨x1,kd,er⟩:=X;obtain⟨xs,ks,er0⟩:=A;simp only at htk hlen;have oa:=I.oa;have ok:=I.ok;have ko1:=(g1 (n+2) ah).trans I.ko;have q1:(n+2=p)=False:=by simp only[eq_iff_iff,iff_false];omega
   have q2:(n+1=mm)=False:=by simp only[eq_iff_iff,iff_false];omega
   simp[SG,f10,ko1,q1,q2];generalize hK3:Tr.put _ (mm+1+1) _=K3;have e3:∀c,c<mm->c≠p->K3.get c=K.get c:=λ c h3 h4=>by rw[<-hK3];simp[jz h3,h4,g1 c h3]
   have p3:K3.get p=some (zq v1 v2 er):=by rw[<-hK3];simp[jz (show p<mm by omega)]
   have x3:K3.get (mm+1+1)=aN 8 x1.cells:=by rw[<-hK3];simp
   have t3:dm K3 (mm+1+1+1):=λ c hc=>by
    have r1:¬c=mm+1+1:=ah;have r2:¬c=mm+1:=ah;have r3:¬c=p:=ah;rw[<-hK3];simp[r1,r2,r3,t1 c ah]
   clear hK3;have oa3:aD K3 (mm+1+1+1) va (Ex.aK xs) i 8:=oa.frame ah λ c hc=>e3 c (oa.db hc) (by have:=(I.da c hc).1;omega);have ok3:aD K3 (mm+1+1+1) vk (cU ks) i 1:=ok.frame ah λ c hc=>e3 c (ok.db hc) (by have:=I.dk c hc;omega);refine aD.Vf (k:=1) (new:=x1.cells) oa3 (bu x3) ai ai ah ah (by unfold big;omega) ah ai λ K4 o4 g4=>?_;have ok4:aD K4 (mm+1+1+1) vk (cU ks) i 1:=ok3.frame ah λ c hc=>g4 c (by have:=ok.db hc;omega) λ h=>(I.da c h).2 hc;have e4:∀c,c<mm->c≠p->blk va≠some c->K4.get c=K.get c:=λ c h3 h4 h5=>(g4 c ah h5).trans (e3 c h3 h4);have p4:K4.get p=some (zq v1 v2 er):=(g4 p ah λ h=>by have:=(I.da p h).1;omega).trans p3;have t4:dm K4 (mm+1+1+1+1):=λ c hc=>(g4 c ah λ h=>by have:=oa.db h;omega).trans (t3 c ah);clear g4 e3 p3 x3 t3 oa3 ok3;simp[f11];generalize hK5:Tr.put K4 (mm+1+1+1+1) _=K5;have g5:∀c,c<mm+1+1+1+1->K5.get c=K4.get c:=λ c h3=>by rw[<-hK5];simp[jz h3]
   have x5:K5.get (mm+1+1+1+1)=aN 1 (cU [kd]):=by rw[<-hK5];simp[cU]
   have t5:dm K5 (mm+1+1+1+1+1):=λ c hc=>by
    have r1:¬c=mm+1+1+1+1:=ah;rw[<-hK5];simp[r1,t4 c ah]
   clear hK5;have oa5:aD K5 (mm+1+1+1+1+1) (.sl (mm+1+1+1) 0 (i+1) 8) (Ex.aK xs++x1.cells) (i+1) 8:=o4.frame ah λ c hc=>g5 c (by simp at hc;omega);have ok5:aD K5 (mm+1+1+1+1+1) vk (cU ks) i 1:=ok4.frame ah λ c hc=>g5 c (by have:=ok.db hc;omega);refine aD.Vf (k:=1) (new:=cU [kd]) ok5 (by rw[bU x5 (OwnB.list ai) ai];simp[cU]) ai ai ah ah (by unfold big;omega) ah ai λ K6 o6 g6=>?_;have oa6:aD K6 (mm+1+1+1+1+1+1) (.sl (mm+1+1+1) 0 (i+1) 8) (Ex.aK xs++x1.cells) (i+1) 8:=oa5.frame ah λ c hc=>g6 c (by simp at hc;omega) λ h=>by have:=ok.db h;simp at hc;omega
   have e6:∀c,c<mm->c≠p->blk va≠some c->blk vk≠some c->K6.get c=K.get c:=λ c h3 h4 h5 h6=>(g6 c ah h6).trans ((g5 c ah).trans (e4 c h3 h4 h5));have p6:K6.get p=some (zq v1 v2 er):=(g6 p ah λ h=>by have:=I.dk p h;omega).trans ((g5 p ah).trans p4);have t6:dm K6 (mm+1+1+1+1+1+1):=λ c hc=>(g6 c ah λ h=>by have:=ok.db h;omega).trans (t5 c ah);have na:∀c,c<n+3->blk va≠some c:=λ c h3 h=>by have:=(I.da c h).1;omega
   have nk:∀c,c<n+3->blk vk≠some c:=λ c h3 h=>by have:=I.dk c h;omega
   have ko6:=(e6 (n+2) ah ah (na _ ah) (nk _ ah)).trans I.ko;clear g6 g5 oa5 ok5 t5 t4 p4 e4 ok4 o4;simp[ko6,f10,SE,f57,aE i ah];have qq:∀c,c≠n+2->(K6.put (n+2) (some (bJ.cells 8 [] [zI op,zI 0,zI 0,.str [],.str [],.str [],zI 0,.sl (mm+1+1+1) 0 (i+1) 8] .nil))).get c=K6.get c:=λ c h3=>by simp[h3]
   refine⟨args.length - (i+1),ah,i+1,rfl,.sl (mm+1+1+1) 0 (i+1) 8,.sl (mm+1+1+1+1+1) 0 (i+1) 1,?_⟩;rw[htk];refine⟨hlt2,by simp[f2],by simp[f4],by simp[f5],by simp[f6],by simp[f10],ai,by simp[f55],by simp[f56],ai,ah,λ c h3=>(qq c ah).trans (t6 c h3),λ c h3 h4=>(qq c ah).trans ((e6 c ah h4 (na c ah) (nk c ah)).trans (I.kf c h3 h4)),(qq p ah).trans p6,(qq n ah).trans ((e6 n ah ah (na n ah) (nk n ah)).trans I.kn),(qq (n+1) ah).trans ((e6 (n+1) ah ah (na (n+1) ah) (nk (n+1) ah)).trans I.kr),ai,?_,?_,by simp;omega,by simp;omega⟩
   ·have:=oa6.frame (H':=(K6.put (n+2) (some (bJ.cells 8 [] [zI op,zI 0,zI 0,.str [],.str [],.str [],zI 0,.sl (mm+1+1+1) 0 (i+1) 8] .nil)))) (aL _) λ c hc=>qq c (by simp at hc;omega);simpa[Ex.mz,Ex.aK]using this
   have:=o6.frame (H':=(K6.put (n+2) (some (bJ.cells 8 [] [zI op,zI 0,zI 0,.str [],.str [],.str [],zI 0,.sl (mm+1+1+1) 0 (i+1) 8] .nil)))) (aL _) λ c hc=>qq c (by simp at hc;omega);simpa[tO]using this
  have hie:i=args.length:=by have:=I.hi;omega
  subst hie;rw[take_length]at I;have hlen:=Ex.En ns ts args err
  have hfit:(mH op).1.any=true->(mH op).1.alike=true->2<=(Ex.m6 ns ts args err).2.1.length:=by
   intro ha hk;rw[hlen.2]
   by_cases h7:op<=7
   ·have:op=4∨op=5∨op=6∨op=7:=ah
    rcases this with h|h|h|h<;>subst h<;>simp[mH]at ha hk
   rw[ak h7]at hln;omega
  generalize hA:Ex.m6 ns ts args err=A at I hlen hfit ⊢;obtain⟨xs,ks,er⟩:=A;have ft:=alD (mH op).1 ks (by simp at hlen;rw[hlen.2];unfold aU;omega) hfit;have hwp:=GL op;simp[Ot,SD,f56,f57,f5,I.kn,Ex.cells];refine aB.pure hwp ?_;generalize hw:mH op=W at ft ⊢;obtain⟨⟨w1,w2,w3,w4,w5⟩,wb⟩:=W;simp[Want.av];generalize hK7:Tr.put _ mm (some (bJ.cells 5 [] [zI w1,zI w2,zI w3,.bool w4,.bool w5] .nil))=K7;have g7:∀c,c<mm->K7.get c=K.get c:=λ c hc=>by rw[<-hK7];simp[jz hc]
  have x7:K7.get mm=aN 5 [zI w1,zI w2,zI w3,.bool w4,.bool w5]:=by rw[<-hK7];simp
  have t7:dm K7 (mm+1):=λ c hc=>by
   have q1:¬c=mm:=ah;rw[<-hK7];simp[q1,I.tp c ah]
  clear hK7;have oa7:aD K7 (mm+1) va (Ex.aK xs) args.length 8:=I.oa.frame ah λ c hc=>g7 c (I.oa.db hc);have ok7:aD K7 (mm+1) vk (cU ks) args.length 1:=I.ok.frame ah λ c hc=>g7 c (I.ok.db hc);have hb7:=(g7 b ah).trans ((I.kf b hlb ns2).trans hs0.hb);have p7:=(g7 p ah).trans I.kp;have o7:=(g7 (n+2) ah).trans I.ko;have r7:=(g7 (n+1) ah).trans I.kr;have pp7:(p=mm)=False:=by simp only[eq_iff_iff,iff_false];omega
  have pp8:(mm=p)=False:=by simp only[eq_iff_iff,iff_false];omega
  have bp8:(b=p)=False:=by simp[ns2]
  simp only at hlen;rw[hlen.2]at ft;have hfl:=Kr p v1 v2 er 203 (!(Want.mk w1 w2 w3 w4 w5).fits ks) K7 (mm+1) hv1 hv2 ah p7;simp only[SC,nG];refine bF.of (KT (l:=[⟨200,[Want.av ⟨w1,w2,w3,w4,w5⟩,vk],K7,mm+1,.bool ((Want.mk w1 w2 w3 w4 w5).fits ks),K7,mm+1⟩,⟨50,[.ptr p 0,zI 203,.bool (!(Want.mk w1 w2 w3 w4 w5).fits ks)],K7,mm+1,.br [],K7.put p (some (zq v1 v2 (keep er 203 (!(Want.mk w1 w2 w3 w4 w5).fits ks)))),mm+1⟩]) ?_) ?_
  ·simp only[mem_cons,not_mem_nil,or_false];rintro c (rfl|rfl)
   ·exact ft.Qu ai _ (.cons _ _ _ _ fp (.cons _ _ _ _ (ok7.nz (bp.pure ai) ah) .nil))
   exact hfl
  have e2:∀l c1 c2,(ceL [⟨200,l,K7,mm+1,.bool ((Want.mk w1 w2 w3 w4 w5).fits ks),K7,mm+1⟩,⟨50,[.ptr p 0,zI 203,.bool (!(Want.mk w1 w2 w3 w4 w5).fits ks)],K7,mm+1,.br [],K7.put p (some (zq v1 v2 (keep er 203 (!(Want.mk w1 w2 w3 w4 w5).fits ks)))),mm+1⟩]).call 50 c1 K7 c2=(ceL [⟨50,[.ptr p 0,zI 203,.bool (!(Want.mk w1 w2 w3 w4 w5).fits ks)],K7,mm+1,.br [],K7.put p (some (zq v1 v2 (keep er 203 (!(Want.mk w1 w2 w3 w4 w5).fits ks)))),mm+1⟩]).call 50 c1 K7 c2:=λ l c1 c2=>amf (by decide);simp[ae,f2,f11,x7,hb7,Want.av,zj,e2];generalize (keep er 203 (!(Want.mk w1 w2 w3 w4 w5).fits ks))=er';have k8:∀c,c≠p->(K7.put p (some (zq v1 v2 er'))).get c=K7.get c:=λ c hc=>by simp[hc]
  have p8:(K7.put p (some (zq v1 v2 er'))).get p=some (zq v1 v2 er'):=ai;generalize K7.put p (some (zq v1 v2 er'))=K8 at k8 p8 ⊢;have o8:=(k8 (n+2) ah).trans o7;have r8:=(k8 (n+1) ah).trans r7;have x8:=(k8 mm ah).trans x7;have q1:(mm=n+1)=False:=by simp only[eq_iff_iff,iff_false];omega
  have q2:(p=n+1)=False:=by simp only[eq_iff_iff,iff_false];omega
  simp only[SB,nG];refine bF.of (bq (P:=pG)) ?_;simp[ae,f6,f10,o8,r8,x8,q1,q2,p8,I.oa.fS];refine⟨Ex.aqU (Ex.nz (v:=⟨0,0,[]⟩) ?_),λ c h3 h4=>?_,.inl rfl⟩
  ·have oa8:aD (K8.put (n+1) (some (bJ.cells 8 [] [zI op,zI 0,zI 0,.str [],.str [],.str [],zI 0,va] .nil))) (mm+1) va (Ex.aK xs) args.length 8:=oa7.frame (aL _) λ c hc=>by
    have:=(I.da c hc).1;have r1:¬c=n+1:=ah;simp[r1,k8 c ah]
   rw[hlen.1];exact oa8.UT (λ c hc=>by have:=(I.da c hc).1;omega) (bp.pure (Ex.yh xs)) ah
  have r1:¬c=n+1:=ah;simp[r1,k8 c h4,g7 c ah,I.kf c h3 h4]
def clC (z:List AV)(sz gp:Nat):CF:={res:=[aH 2],code:=.seq (.nw [oP (bc 2) (eJ (aO (.aV (.slice none 0 0))))]) (.seq (.seq (.nw [oP (bc 3) (eJ (aA 0)),oP (bc 4) (e2 (kG false .slice) (aA 3) (aO (.aV (.slice none 0 0))))]) (.cond (aA 4) (.seq (.nw [oP (bc 2) (eJ (aO (.aV (.slice none 0 0))))]) .ret) .skip)) (.seq (.nw [oP (bc 5) (aJ z 0 sz []),oP (bc 6) (eJ (aA 0)),oP (bc 7) (dL sz gp (aA 5) (aA 6)),oP (bc 2) (eJ (aA 7))]) .ret)),nt:=8}
theorem tX {g:FuncId}{z:List AV}{sz gp:Nat}(hc:KE pG g=some (clC z sz gp))(hs:0<sz)(hz:sz<=64)(hby:gp<=4096)(cs:List AV)(len:Nat)(hl:len<=aU)(hcs:cs.length=len*sz)(hp:aS cs)(h1:bo cs=true):aj pG g [.ds cs len sz] (.ds cs len sz):=by
 refine aj.ofR (by simp[hp]) (by simp[hp]) ?_
 have A:len=0->ao pG g [.aV (.slice none 0 0)] .nil 0 (λ v1 H' _=>fj H'.get v1 (.ds cs len sz)):=λ h0=>by
  subst h0;have:cs=[]:=by simpa using hcs
  subst this;obtain⟨k,rfl⟩:∃k,sz=k+1:=⟨sz - 1,ah⟩;refine ao.of hc (by simp[clC]) λ F hF=>?_;simp[clC,hF,kG,ji];exact .nil _
 have B:len=0->ao pG g [.ds [] 0 0] .nil 0 (λ v1 H' _=>fj H'.get v1 (.ds cs len sz)):=λ h0=>by
  subst h0;have:cs=[]:=by simpa using hcs
  subst this;refine ao.of hc (by simp[clC]) λ F hF=>?_;simp[clC,hF,kG,ji,gZ,aX,sliceLen,oS];exact .sl 0 0 0 sz 0 [] [] .nil [] [] ai ai .nil
 have C:0<len->ao pG g [.ds cs len sz] .nil 0 (λ v1 H' _=>fj H'.get v1 (.ds cs len sz)):=λ h0=>by
  refine ao.of hc (by simp[clC]) λ F hF=>?_;obtain⟨len,rfl⟩:∃k,len=k+1:=⟨len - 1,ah⟩;unfold aU at hl;simp[clC,hF,kG,ji];have ow:aD (Tr.put Tr.nil 0 (some (bJ.cells 0 [] [] .nil))) 1 (.sl 0 0 0 sz) [] 0 sz:=⟨ai,.inr ⟨0,.cells 0 [] [] .nil,rfl,ah,ai,.list rfl⟩⟩;refine aD.app (x:=.ds cs (len+1) sz) (new:=cs) (k:=len+1) ow (by simp[aX]) (by simp[sliceLen]) hcs hs h0 (by unfold big;omega) hby h1 λ H' ho hk=>?_;simp;simp only[nil_append,tA]at ho;exact ho.nz (bp.pure hp) hs
 by_cases h0:len=0
 ·have A:=A h0;have B:=B h0;refine⟨A.1,λ φ D w xs hrel hv hf RR hR=>?_⟩
  cases hv with
  |cons _ y _ ys h1 h2 =>
  cases h2
  have h0:(∃ad cap,y=.slice (some ad) 0 cap)∨y=.slice none 0 0:=by
   subst h0
   cases h1 with
   |ds=>exact .inl ⟨_,_,rfl⟩
   |pY=>exact .inl ⟨_,_,rfl⟩
   |tQ=>exact .inr rfl
  rcases h0 with⟨ad,cap,rfl⟩|rfl
  ·exact B.2 φ D w _ hrel (.cons _ _ _ _ (.pY _ _ _) .nil) hf RR hR
  exact A.2 φ D w _ hrel (.cons _ _ _ _ (.aV _ rfl) .nil) hf RR hR
 exact C ah
theorem P' (l:List q7)(hl:l.length<=aU):aj pG 57 [dV.ds l] (dV.ds l):=tX (z:=[.str [],zI 0,.bool false]) (sz:=3) (gp:=32) c57 ah ah ah _ _ hl ai ai ai
theorem P9 (l:List Int)(hl:l.length<=aU):aj pG 59 [dA.ds l] (dA.ds l):=tX (z:=[zI 0]) (sz:=1) (gp:=8) c59 ah ah ah _ _ hl ai ai ai
def af2 (z:List AV)(sz:Nat):CF:={res:=[cj 4 sz,aH 5],code:=(.seq (.nw [oP (bc 4) (au z sz),oP (bc 5) (eJ (aO (.bool false)))]) (.seq (.seq (.nw [oP (bc 9) (eJ (aA 0)),oP (bc 10) (e1 bg (aA 9)),oP (bc 11) (eJ (aO (zI 0)))]) (.block 0 (.loop (.seq (.nw [oP (bc 12) (e2 (bQ .lss) (aA 11) (aA 10))]) (.seq (.cond (aA 12) .skip (.exit 0)) (.seq (.block 1 (.seq (.nw [oP (bc 13) (e2 (bW sz) (aA 9) (aA 11)),oP (bc 14) (iP sz (aA 13)),oP (bc 7) (au z sz),oP rj (dD sz (aA 7) (aA 14))]) (.seq (.nw [oP (bc 15) (eJ (aA 1)),oP (bc 16) (iP sz (aA 7)),vP (bc 17) (aA 15) [(aA 16)]]) (.cond (aA 17) (.seq (.nw [oP (bc 18) (iP sz (aA 7)),oP rj (dD sz (aA 4) (aA 18)),oP (bc 5) (eJ (aO (.bool true)))]) .ret) .skip)))) (.nw [oP (bc 19) (e2 (bQ .add) (aA 11) (aO (zI 1))),oP (bc 11) (eJ (aA 19))]))))))) (.seq (.nw [oP (bc 8) (au z sz)]) (.seq (.nw [oP (bc 20) (iP sz (aA 8)),oP rj (dD sz (aA 4) (aA 20)),oP (bc 5) (eJ (aO (.bool false)))]) .ret)))),nt:=21}
theorem a68:A125=af2 [(.int .u32 0),(.str []),(.aV (.slice none 0 0)),(.int .u32 0)] 4:=rfl
def jt {α:Type}(zero:α)(p:α->Bool)(l:List α):α×Bool:=match l.find? p with
 |some x=>(x,true)
 |none=>(zero,false)
theorem H9 {α:Type}{sz:Nat}(E:bf α sz){g:FuncId}{z:List AV}(hc:KE pG g=some (af2 z sz)) (_hs:1<sz) (hs2:sz<=64) (hz:z.length=sz) (h1:bo z=true){zero:α}(hzz:∀h,bp h z (E.cells zero)){f:FuncId}{b:Nat}{y:bJ}{p:α->Bool}(xs:List α) (hl:xs.length<=aU) (H:Hp) (n:Nat) (hb:b<n) (hy:H.get b=some y) (hr:wv n y)
  (hp:∀x∈xs,∀(K:Hp)(k:Nat),K.get b=some y->dm K k->ao pG f [E.av x,.ptr b 0] K k (λ u K' k'=>u=.bool (p x)/\K'=K/\k'=k)):
  bC pG g [E.ds xs,.fn (.func f) [] [.ptr b 0]] H n (.br [E.av (jt zero p xs).1,.bool (jt zero p xs).2]) H n:=by
 refine ao.Aj [b] (by simp[iF,hb,Pure.jQ]) (by simpa using hb) (λ c hm k hk=>?_) λ H0 ht jf=>?_
 ·simp at hm;subst hm;rw[hy]at hk;injection hk with hk;subst hk;exact hr
 have hb0:=(jf b ai).trans hy;refine ao.of hc (by simp[af2]) λ F hF=>?_;simp[af2,hF,bf.aT];unfold aU at hl;refine aF.of (λ q F K m ms=>∃i,q=xs.length - i/\i<=xs.length/\F.get 1=some (.fn (.func f) [] [.ptr b 0])/\F.get 4=some (.ptr n 0)/\F.get 9=some (E.ds xs)/\F.get 10=some (zI (xs.length:Int))/\F.get 11=some (zI (i:Int))/\n<m/\dm K m/\(∀c,c<n->K.get c=H0.get c)/\K.get n=aN sz z/\(∀j (h:j<xs.length),j<i->p xs[j]=false)/\ms=[]) xs.length ⟨0,ai,ai,by simp[hF],ai,ai,ai,ai,ah,λ c h3=>?_,λ c h3=>?_,ai,ai,rfl⟩ ?_
 ·have q1:¬c=n:=ah;simp[q1,ht c ah]
 ·have q1:¬c=n:=ah;simp[q1]
 clear hF F;rintro q F K m ms ⟨i,rfl,hi,f1,f4,f9,f10,f11,hm,tp,kf,kn,hj,rfl⟩;have hEl:(E.av zero).len=sz:=Eq.trans rfl rfl
 by_cases hlt:i<xs.length
 ·have hx:=E.ix (ik:=.i64) hlt;have hld:=λ H=>E.pT xs[i] (E.l (xs.drop (i+1))) H;have hav:∀a,(E.av a).len=sz:=λ a=>Eq.trans rfl rfl;have hac:∀a,(E.av a).cells=E.cells a:=λ a=>Eq.trans rfl rfl;simp[f1,f9,f10,f11,hlt,hx,hld,hz,hs2,hav,hac];generalize hK1:Tr.put _ m (some (bJ.cells sz [] (E.cells xs[i]) .nil))=K1;have g1:∀c,c<m->K1.get c=K.get c:=λ c hc=>by rw[<-hK1];simp[jz hc]
  have x1:K1.get m=aN sz (E.cells xs[i]):=by rw[<-hK1];simp
  have t1:dm K1 (m+1):=λ c hc=>by
   have q1:¬c=m:=ah;rw[<-hK1];simp[q1,tp c ah]
  clear hK1;have b1:=(g1 b ah).trans ((kf b hb).trans hb0);refine aB.same (hp xs[i] (dy hlt) K1 (m+1) b1 t1) ?_;have q1:(n=m)=False:=by simp only[eq_iff_iff,iff_false];omega
  have q2:(m=n)=False:=by simp only[eq_iff_iff,iff_false];omega
  cases hpx:p xs[i]with
  |true =>
   have hf:jt zero p xs=(xs[i],true):=by
    unfold jt;rw[find?_eq_some_iff_getElem.2 ⟨hpx,i,hlt,rfl,λ j h2=>by simp[hj j ah h2]⟩]
   rw[hf];have wN:=(g1 n hm).trans kn;simp[f4,x1,wN,hz,hs2];refine⟨.pure _ ai,λ c h3=>?_⟩;have q3:¬c=n:=ah;simp[q3,g1 c ah,kf c h3]
  |false =>
   simp[f1,f4,f9,f10,f11,aE i ah];refine⟨_,ah,i+1,rfl,hlt,rfl,ah,t1,λ c h3=>(g1 c ah).trans (kf c h3),(g1 n hm).trans kn,λ j h h2=>?_⟩
   by_cases e:j=i
   ·subst e;exact hpx
   exact hj j h ah
 have hie:i=xs.length:=ah;subst hie
 have hf:jt zero p xs=(zero,false):=by
  unfold jt;rw[find?_eq_none.2 λ x hx=>?_];obtain⟨j,h2,rfl⟩:=getElem_of_mem hx;simp[hj j h2 h2]
 rw[hf];have q1:(n=m)=False:=by simp only[eq_iff_iff,iff_false];omega
 simp[f4,f10,f11,hz,h1,kn,q1,hs2];refine⟨.br _ _ (.cons _ _ _ _ (.agg _ _ _ (hzz _)) (.cons _ _ _ _ fp .nil)),λ c h3=>?_⟩;have q3:¬c=n:=ah;have q4:¬c=m:=ah;simp[q3,q4,kf c h3]
def bR.zero:bR:=⟨0,[],[],0⟩
def pz.zero:pz:=⟨0,0,[],[],false,0⟩
theorem ag3 (t:bR)(b:Bool)(h:t.cols.length<=aU):aj pG 124 [aM.av t,.bool b] (.br [aM.av t,.bool b]):=by
 refine pv c124 λ F hF=>?_;simp[A124,hF,bf.av,fc];refine aB.pure (P' t.cols h) ?_;simp[hF,bf.ds];exact fp
theorem afq (t:bR)(s:List Nat)(b:Nat)(H:Hp)(n:Nat)(hb:H.get b=aN 1 [.str s])(ht:dm H n):ao pG 195 [aM.av t,.ptr b 0] H n (λ u K k=>u=.bool (decide (t.name=s))/\K=H/\k=n):=by
 refine ao.forget ai (ao.of c195 (by simp[A195]) λ F hF=>?_);have q:¬b=n:=by have:=ht.lt hb;omega
 simp[A195,hF,bf.av,fc,q,hb];rintro c hc rfl;exact aw (ht _ (aL _)) hc
theorem aoL (t:bR)(i:Int)(b:Nat)(H:Hp)(n:Nat)(hb:H.get b=aN 1 [.int .u32 i])(ht:dm H n):ao pG 126 [aM.av t,.ptr b 0] H n (λ u K k=>u=.bool (decide (t.id=i))/\K=H/\k=n):=by
 refine ao.forget ai (ao.of c126 (by simp[A126]) λ F hF=>?_);have q:¬b=n:=by have:=ht.lt hb;omega
 simp[A126,hF,bf.av,fc,q,hb];rintro c hc rfl;exact aw (ht _ (aL _)) hc
def cG.named (s:cG)(name:List Nat):bR×Bool:=jt bR.zero (λ t:bR=>decide (t.name=name)) s.tables
def cG.table (s:cG)(i:Int):bR×Bool:=jt bR.zero (λ t:bR=>decide (t.id=i)) s.tables
def cG.index (s:cG)(name:List Nat):pz×Bool:=jt pz.zero (λ x:pz=>decide (x.name=name)) s.indexes
theorem lg {α:Type}{zero:α}{p:α->Bool}{l:List α}{Q:α->Prop}(h0:Q zero)(hl:∀x∈l,Q x):Q (jt zero p l).1:=by
 unfold jt
 split
 ·rename_i x hx;exact hl x (mem_of_find?_eq_some hx)
 exact h0
structure cG.gA (s:cG):Prop where
 t:s.tables.length<=aU
 i:s.indexes.length<=aU
 tc:∀t∈s.tables,t.cols.length<=aU
 ic:∀x∈s.indexes,x.cols.length<=aU
theorem aoB (h:Hf):bp h [(.int .u32 0),(.str []),(.aV (.slice none 0 0)),(.int .u32 0)] (aM.cells bR.zero):=
 .cons _ _ _ _ fp (.cons _ _ _ _ fp (.cons _ _ _ _ (.nil 2) (.cons _ _ _ _ fp .nil)))
theorem afr (s:cG)(hs:s.gA)(name:List Nat):aj pG 115 [lj.av s,.str name] (.br [aM.av (s.named name).1,.bool (s.named name).2]):=by
 refine pv c115 λ F hF=>?_;simp[A115,hF,bf.av,fe];refine aB.ok (H9 aM (a68▸c125) ah ah rfl rfl aoB (p:=λ t:bR=>decide (t.name=name)) (y:=.cells 1 [] [.str name] .nil) s.tables hs.t _ _ ah ai (bV ai) λ x _ K k hb ht=>afq x name _ K k hb ht) ?_;simp;refine aB.pure (ag3 _ _ (lg (Q:=λ t:bR=>t.cols.length<=aU) (by simp[bR.zero]) hs.tc)) ?_;simp[bf.av];exact fp
theorem aet (s:cG)(hs:s.gA)(i:Int):aj pG 51 [lj.av s,.int .u32 i] (.br [aM.av (s.table i).1,.bool (s.table i).2]):=by
 refine pv c51 λ F hF=>?_;simp[A51,hF,bf.av,fe];refine aB.ok (H9 aM (a68▸c125) ah ah rfl rfl aoB (p:=λ t:bR=>decide (t.id=i)) (y:=.cells 1 [] [.int .u32 i] .nil) s.tables hs.t _ _ ah ai (bV ai) λ x _ K k hb ht=>aoL x i _ K k hb ht) ?_;simp;refine aB.pure (ag3 _ _ (lg (Q:=λ t:bR=>t.cols.length<=aU) (by simp[bR.zero]) hs.tc)) ?_;simp[bf.av];exact fp
def fP (s:cG)(err:Int):bJ:=zq (aM.ds s.tables) (bw.ds s.indexes) err
theorem wS (s:cG)(err:Int)(n:Nat):wv n (fP s err):=bV (aS.jQ ai)
theorem amt {g:FuncId}{c:CF}{args:List AV}{H:Hp}{n p:Nat}{v0:AV}{s:cG}{err err':Int}(hc:KE pG g=some c)(hl:(AV.ptr p 0::args).length<=c.nt)(hp:aS args)(hpn:p<n)(hb:H.get p=some (fP s err))
  (h:∀(F:Fr)(H0:Hp),(∀i,F.get i=(AV.ptr p 0::args)[i]?)->dm H0 n->H0.get p=some (fP s err)->VC pG c.code F H0 n [] (kH c.res λ v K _=>fj (above n K) v v0/\(∀c,c<n->c≠p->K.get c=H0.get c)/\K.get p=some (fP s err'))):
  bC pG g (.ptr p 0::args) H n v0 (H.put p (some (fP s err'))) n:=by
 refine ao.okB (p:=p) [p] ai (by simp[hpn,hp.jQ]) (by simpa using hpn) (λ b hm k hk=>?_) (wS _ _ _) λ H0 ht jf=>?_
 ·simp at hm;subst hm;rw[hb]at hk;injection hk with hk;subst hk;exact wS _ _ _
 refine(ao.of hc hl λ F hF=>h F H0 hF ht ((jf p ai).trans hb)).mono λ v K k ⟨h1,h2,h3⟩=>⟨h1,h2,_,h3,.inl rfl⟩
theorem yT (p:Nat)(s:cG)(err e:Int)(is:Bool)(H:Hp)(n:Nat)(hpn:p<n)(hp:H.get p=some (fP s err)):
  bC pG 50 [.ptr p 0,zI e,.bool is] H n (.br []) (H.put p (some (fP s (keep err e is)))) n:=Kr p _ _ err e is H n ai ai hpn hp
theorem aeu (s:cG)(hs:s.gA)(name:List Nat)(p:Nat)(err:Int)(H:Hp)(n:Nat)(hpn:p<n)(hp:H.get p=some (fP s err)):
  bC pG 47 [.ptr p 0,.str name] H n (aM.av (s.named name).1) (H.put p (some (fP s (keep err 200 (!(s.named name).2))))) n:=by
 refine amt c47 (by simp[A47]) ai hpn hp λ F H0 hF ht hp0=>?_;have q:=jz hpn;have q':=XU hpn;simp only[fP,zq]at hp0;simp[A47,hF,hp0,q];refine aB.pure (afr s hs name) ?_;generalize s.named name=t;simp[ais,hF,bf.av];refine aB.ok (yT p s err 200 (!t.2) _ _ ah (by simp[q,hp0,fP,zq])) ?_;simp[air,q,q'];refine⟨.pure _ ai,λ c h1 h2=>?_⟩;simp[h2,jz h1]
theorem YU (ns:List (List Nat))(ts:List bR)(hn:ns.length=ts.length)(hl:(aI ts).length<=aU)(ht:ts.length<=aU)(hc:∀t∈ts,t.cols.length<=aU)(s:cG)(e:Ex)(he:e.sz<=aU)(hm:e.may=true)(p:Nat)(err:Int)(H:Hp)(n:Nat)(hpn:p<n)(hp:H.get p=some (fP s err)):
  bC pG 128 [.ptr p 0,.agg (oN ns ts) 2,e.av] H n (.br [(e.bd ns ts err).1.av,zI (e.bd ns ts err).2.1]) (H.put p (some (fP s (e.bd ns ts err).2.2))) n:=by
 refine amt c128 (by simp[A128]) (by simp[oN,Ex.av]) hpn hp λ F H0 hF htop hp0=>?_;have q:=jz hpn;have q':=XU hpn;simp[A128,hF,oN];refine aB.pure (HC ns ts hl ht hc) ?_;simp[adz,ady,adx];refine aB.ok (VE ns ts (aM.ds s.tables) (bw.ds s.indexes) ai ai hn hl ht hc aU e err _ _ (n+1) n (n+1+1+1+1) (n+1+1+1+1+1) p he (aL _) hm ⟨by simp[oN],ai,ai,ai,by simp[q,hp0];rfl,ah,ah,ah,ah,ah⟩) ?_;generalize e.bd ns ts err=X;obtain⟨x1,kd,er⟩:=X;have q3:(n+1+1+1=p)=False:=by simp only[eq_iff_iff,iff_false];omega
 simp[q3,q];refine⟨.pure _ ai,λ c h1 h2=>?_,rfl⟩;simp[h2,jz h1]
theorem alW (e:Ex)(h:e.sz<=aU):aj pG 129 [e.av] (jc.ds e.split):=by
 refine aj.ofR (by simp[Ex.av]) ai ((alX e h .nil 0).lz.mono λ v H' n' ⟨h1,h2,h3⟩=>?_);subst h1 h2;rw[bf.ds,ahu];exact .sl _ _ _ _ (e.split.length*8) [] (Ex.aK e.split) .nil (Ex.aK e.split) _ ai ai (bp.pure (Ex.yh _))
def ew (ns:List (List Nat))(ts:List bR)(e:Ex)(err:Int):List Ex×Int:=
 if e.bare 0 then ([],err)else ((e.bd ns ts err).1.split,keep (e.bd ns ts err).2.2 203 (decide ((e.bd ns ts err).2.1≠3)&&decide ((e.bd ns ts err).2.1≠0)))
mutual
theorem Ex.IB (ns:List (List Nat)) (ts:List bR):∀(e:Ex) (err:Int),(e.bd ns ts err).1.sz<=e.sz
 |.mk op v t m cD args,err=>by
  unfold Ex.bd
  split
  ·split
   ·simp[Ex.sz,Ex.ri]
   exact aL _
  split
  ·exact aL _
  have:=Ex.Zv ns ts args err;simp only[Ex.sz];omega
theorem Ex.Zv (ns:List (List Nat))(ts:List bR):∀(l:List Ex)(err:Int),Ex.ri (Ex.m6 ns ts l err).1<=Ex.ri l
 |[],err=>by simp[Ex.m6]
 |e::r,err=>by
  have h1:=Ex.IB ns ts e err;have h2:=Ex.Zv ns ts r (e.bd ns ts err).2.2;simp only[Ex.m6,Ex.ri];omega
end
def C25 (e:Ex):Prop:=∀(ns:List (List Nat))(ts:List bR)(_hn:ns.length=ts.length)(_hl:(aI ts).length<=aU)(_ht:ts.length<=aU)(_hc:∀t∈ts,t.cols.length<=aU)(s:cG)(p:Nat)(err:Int)(H:Hp)(n:Nat)(_hpn:p<n)(_hp:H.get p=some (fP s err)),bC pG 53 [.ptr p 0,.agg (oN ns ts) 2,e.av] H n (jc.ds (ew ns ts e err).1) (H.put p (some (fP s (ew ns ts e err).2))) n
theorem al1 (ns:List (List Nat)) (ts:List bR) (hn:ns.length=ts.length) (hl:(aI ts).length<=aU) (ht:ts.length<=aU) (hc:∀t∈ts,t.cols.length<=aU) (s:cG) (e:Ex) (he:e.sz<=aU) (hm:e.maybe=true) (p:Nat) (err:Int) (H:Hp) (n:Nat) (hpn:p<n) (hp:H.get p=some (fP s err)):
  bC pG 53 [.ptr p 0,.agg (oN ns ts) 2,e.av] H n (jc.ds (ew ns ts e err).1) (H.put p (some (fP s (ew ns ts e err).2))) n:=by
 refine amt c53 (by simp[A53]) (by simp[oN,Ex.av]) hpn hp λ F H0 hF htop hp0=>?_;have q:=jz hpn;have q':=XU hpn
 by_cases h0:e.bare 0
 ·have hb:ew ns ts e err=([],err):=by simp[ew,h0]
  rw[hb];obtain⟨op,v,t,m,cD,args⟩:=e;have hop:op=0:=h0.1;simp[A53,hF,oN,Ex.av,Ex.cells,hop,q,hp0];refine⟨.nil 7,λ c h1 h2=>?_⟩;simp[jz h1]
 have hmay:e.may=true:=by simpa[Ex.maybe,h0]using hm
 have hop:∀op v t m cD args,e=.mk op v t m cD args->¬op=0:=by
  rintro op v t m cD args rfl rfl;simp[Ex.may]at hmay
 have hsz:=Ex.IB ns ts e err;have hx:=YU ns ts hn hl ht hc s e he hmay p err;have hb:ew ns ts e err=((e.bd ns ts err).1.split,keep (e.bd ns ts err).2.2 203 (decide ((e.bd ns ts err).2.1≠3)&&decide ((e.bd ns ts err).2.1≠0))):=by simp[ew,h0]
 rw[hb];generalize e.bd ns ts err=X at hx hsz ⊢;obtain⟨x1,kd,er⟩:=X;have hcj:=alW x1 (by simp at hsz;omega);obtain⟨op,v,t,m,cD,args⟩:=e;have hop:=hop op v t m cD args rfl;have hx:=λ H n=>hx H n;simp only[Ex.av,Ex.cells]at hx;simp[A53,hF,oN,Ex.av,Ex.cells,hop];refine aB.ok (hx _ _ ah (by simpa[q]using hp0)) ?_
 by_cases h3:kd=3
 ·simp[QR,hF,h3];refine aB.ok (yT p s er 203 false _ _ ah (by simp[q])) ?_;simp[QP,q'];refine aB.pure hcj ?_;simp;refine⟨.pure _ ai,λ c h1 h2=>?_⟩;simp[h2,jz h1]
 by_cases h4:kd=0
 ·simp[QR,hF,h4];refine aB.ok (yT p s er 203 false _ _ ah (by simp[q])) ?_;simp[QP,q'];refine aB.pure hcj ?_;simp;refine⟨.pure _ ai,λ c h1 h2=>?_⟩;simp[h2,jz h1]
 simp[QR,hF,h3,h4];refine aB.ok (yT p s er 203 true _ _ ah (by simp[q])) ?_;simp[QP,q'];refine aB.pure hcj ?_;simp;refine⟨.pure _ ai,λ c h1 h2=>?_⟩;simp[h2,jz h1]
theorem P6 {e:Ex}(he:e.sz<=aU)(hm:e.maybe=true):C25 e:=λ ns ts hn hl ht hc s p err H n hpn hp=>al1 ns ts hn hl ht hc s e he hm p err H n hpn hp
def pe:bf (List Ex) 1:=⟨λ l=>[jc.ds l],λ _=>rfl,λ _=>ai,λ _=>by simp[bf.ds]⟩
def KB:bf (Int×Bool) 2:=⟨λ k=>[zI k.1,.bool k.2],λ _=>rfl,λ _=>ai,λ _=>ai⟩
theorem alQ (l:List Ex):pe.cells l=[jc.ds l]:=rfl
theorem Y4 (x:nD):my.cells x=x.e.cells++[.str x.name]:=rfl
theorem KA (x:Src):ju.cells x=.str x.table::.str x.name::x.cond.cells:=rfl
theorem ahv (e:Ex):jc.cells e=e.cells:=rfl
@[simp] theorem bf.auS {α:Type}{k:Nat}(E:bf α k)(l:List α):(E.ds l).len=1:=Eq.trans rfl rfl
@[simp] theorem bf.anY {α:Type}{k:Nat}(E:bf α k)(l:List α):(E.ds l).cells=[E.ds l]:=Eq.trans rfl rfl
@[simp] theorem bf.axU {α:Type}{k:Nat}(E:bf α k)(l:List α):(E.ds l).one=true:=Eq.trans rfl rfl
structure dE where
 kind:Int
 table:List Nat
 name:List Nat
 cols:List q7
 on:List (List Nat)
 uniq:Bool
 rows:List (List Ex)
 sets:List St1
 cond:Ex
 q:bG
def dE.cells (x:dE):List AV:=zI x.kind::.str x.table::.str x.name::dV.ds x.cols::dz.ds x.on::.bool x.uniq::pe.ds x.rows::arl.ds x.sets::(x.cond.cells++x.q.cells)
@[simp] theorem bG.amd (q:bG):q.cells.length=15:=q.bm
@[simp] theorem dE.bm (x:dE):x.cells.length=31:=by simp[dE.cells]
@[simp] theorem dE.pure (x:dE):aS x.cells:=by simp[dE.cells,bG.pure]
def dE.av (x:dE):AV:=.agg x.cells 31
@[simp] theorem dE.ayQ (x:dE):Pure x.av:=by simp[dE.av]
theorem dE.cc (x:dE):(x.cells.drop 8).take 8=x.cond.cells:=by
 simp only[dE.cells,drop_succ_cons,drop_zero];rw[take_append_of_le_length ai,fZ ai]
theorem dE.cq (x:dE):x.cells.drop 16=x.q.cells:=by
 simp only[dE.cells,drop_succ_cons];rw[drop_append_of_le_length ai,drop_eq_nil_of_le ai,nil_append]
structure oU where
 kind:Int
 name:List Nat:=[]
 table:bR:=bR.zero
 index:pz:=pz.zero
 cols:List q7:=[]
 rows:List (List Ex):=[]
 new:List Ex:=[]
 iM:List bR:=[]
 on:List (List Ex):=[]
 cond:List Ex:=[]
 items:List Ex:=[]
 names:List (List Nat):=[]
 kinds:List Int:=[]
 order:List (Int×Bool):=[]
 kE:Bool:=false
 limited:Bool:=false
 limit:Int:=0
def oU.cells (b:oU):List AV:=[zI b.kind,.str b.name,.int .u32 b.table.id,.str b.table.name,dV.ds b.table.cols,.int .u32 b.table.head,.int .u32 b.index.id,.int .u32 b.index.table,.str b.index.name,dA.ds b.index.cols,.bool b.index.uniq,.int .u32 b.index.root,
 dV.ds b.cols,pe.ds b.rows,jc.ds b.new,aM.ds b.iM,pe.ds b.on,jc.ds b.cond,jc.ds b.items,dz.ds b.names,dA.ds b.kinds,KB.ds b.order,.bool b.kE,.bool b.limited,zI b.limit]
@[simp] theorem oU.pure (b:oU):aS b.cells:=by simp[oU.cells]
def oY (kind:Int):List AV:=[zI kind,.str [],.int .u32 0,.str [],.aV (.slice none 0 0),.int .u32 0,.int .u32 0,.int .u32 0,.str [],.aV (.slice none 0 0),.bool false,.int .u32 0,
 .aV (.slice none 0 0),.aV (.slice none 0 0),.aV (.slice none 0 0),.aV (.slice none 0 0),.aV (.slice none 0 0),.aV (.slice none 0 0),.aV (.slice none 0 0),.aV (.slice none 0 0),.aV (.slice none 0 0),.aV (.slice none 0 0),.bool false,.bool false,zI 0]
def uk (h:Hf):List AV->List AV->Prop
 |[],[]=>True
 |v::l,v'::l'=>FI h v v'/\uk h l l'
 |_,_=>False
@[simp] theorem axr (h:Hf):uk h [] []=True:=by simp[uk]
@[simp] theorem P1 (h:Hf)(v v':AV)(l l':List AV):uk h (v::l) (v'::l')=(FI h v v'/\uk h l l'):=by simp[uk]
@[simp] theorem azK (h:Hf)(v:AV):FI h v v=True:=by simp[FI]
@[simp] theorem azL {α:Type}{k:Nat}(h:Hf)(E:bf α (k+1)):FI h (.aV (.slice none 0 0)) (E.ds [])=True:=by
 simp only[eq_iff_iff,iff_true];exact .inr (.nil k)
theorem uk.at {h:Hf}:∀ {l l':List AV},uk h l l'->l'.length=l.length/\∀(i:Nat) v',l'[i]?=some v'->∃v,l[i]?=some v/\FI h v v'
 |[],[],_=>⟨rfl,λ i v' hv=>by simp at hv⟩
 |[],_::_,k=>by simp[uk]at k
 |_::_,[],k=>by simp[uk]at k
 |v::l,v'::l',k=>by
  simp only[P1]at k;obtain⟨h1,h2⟩:=uk.at k.2;refine⟨by simp[h1],λ i w hw=>?_⟩
  cases i with
  |zero=>simp at hw;subst hw;exact⟨v,rfl,k.1⟩
  |succ i=>simpa using h2 i w (by simpa using hw)
theorem uk.bz {h:Hf}{l l':List AV}{u:Nat}(k:uk h l l')(hu:l.length=u):BZ h (.cells u [] l .nil) (.cells u [] l' .nil):=by
 obtain⟨h1,h2⟩:=k.at;refine .inr ⟨u,[],l,.nil,l',rfl,rfl,ah,λ i v' hv=>?_⟩;obtain⟨v,h3,h4⟩:=h2 i v' hv;refine⟨v,?_,h4⟩;rw[jr,ay (by have:=(nL.1 h3).1;omega)];exact h3
theorem uk.refl (h:Hf):∀l:List AV,uk h l l
 |[]=>ai
 |v::l=>by simp[uk.refl h l]
theorem asg {g:FuncId}{c:CF}{args:List AV}{H:Hp}{n p o:Nat}{v0:AV}{s:cG}{err err':Int}{l0 l1:List AV}(hc:KE pG g=some c)(hl:(AV.ptr p 0::(args++[.ptr o 0])).length<=c.nt)(hp:aS args)(hpn:p<n)(hon:o<n)(hpo:p≠o)(hb:H.get p=some (fP s err))(ho:H.get o=aN 25 l0)(hr0:dO n l0)(hr1:dO n l1)
  (h:∀(F:Fr)(H0:Hp),(∀i,F.get i=(AV.ptr p 0::(args++[.ptr o 0]))[i]?)->dm H0 n->H0.get p=some (fP s err)->H0.get o=aN 25 l0 ->
   VC pG c.code F H0 n [] (kH c.res λ v K _=>fj (above n K) v v0/\(∀c,c<n->c≠p->c≠o->K.get c=H0.get c)/\K.get p=some (fP s err')/\∃l,K.get o=aN 25 l/\l.length=25/\uk (above n K) l l1)):
  bC pG g (.ptr p 0::(args++[.ptr o 0])) H n v0 ((H.put p (some (fP s err'))).put o (aN 25 l1)) n:=by
 refine ao.okZ [p,o] ?_ (by simp[hpn,hon]) (λ b hm k hk=>?_) (λ b hm k hk=>?_) (λ b hm=>?_) ?_
 ·simp only[iw,OZ];refine⟨hpn,dO.of λ v hv=>?_⟩
  rcases mem_append.1 hv with h1|h1
  ·exact(hp.jQ (n:=n)).mem v h1
  simp at h1;subst h1;simpa using hon
 ·simp only[mem_cons,not_mem_nil,or_false]at hm
  rcases hm with rfl|rfl
  ·rw[hb]at hk;injection hk with hk;subst hk;exact wS _ _ _
  rw[ho]at hk;injection hk with hk;subst hk;exact bV hr0
 ·simp only[mem_cons,not_mem_nil,or_false]at hm
  rcases hm with rfl|rfl
  ·simp[hpo]at hk;subst hk;exact wS _ _ _
  simp at hk;subst hk;exact bV hr1
 ·simp at hm;simp[hm.1,hm.2]
 refine(ao.of hc hl λ F hF=>h F _ hF (kW (by simp[hpn,hon])) ((fK ai).trans hb) ((fK ai).trans ho)).mono λ v K k ⟨h1,h2,h3,l,h4,h5,h6⟩=>⟨h1,λ b hm y hy=>?_⟩;simp only[mem_cons,not_mem_nil,or_false]at hm
 rcases hm with rfl|rfl
 ·simp[hpo]at hy;subst hy;exact⟨_,h3,.inl rfl⟩
 simp at hy;subst hy;exact⟨_,h4,h6.bz h5⟩
def keeps (e:Int)(p:Nat->Bool):Nat->Int->Int
 |0,err=>err
 |n+1,err=>keep (keeps e p n err) e (p n)
def Im (l:List q7)(i:Nat):q7:=l.getD i ⟨[],0,false⟩
def al7 (l:List q7)(i:Nat):Bool:=(l.take i).any λ d=>decide (d.name=(Im l i).name)
def agb (s:cG)(x:dE)(err:Int):oU×Int:=({kind:=x.kind,name:=x.table,cols:=x.cols},keeps 205 (al7 x.cols) x.cols.length (keep err 200 (s.named x.table).2))
def tW (t:bR)(name:List Nat):Int:=lJ (λ c:q7=>decide (c.name=name)) t.cols
def onE (t:bR)(on:List (List Nat)):Nat->Int->Int
 |0,err=>err
 |i+1,err=>keep (keep (onE t on i err) 201 (decide (tW t (on.getD i [])<0))) 205 (decide (on.getD i []∈on.take i))
def indexB (s:cG)(x:dE)(err:Int):oU×Int:=
 ({kind:=x.kind,table:=(s.named x.table).1,index:={id:=0,table:=(s.named x.table).1.id,name:=x.name,cols:=x.on.map (tW (s.named x.table).1),uniq:=x.uniq,root:=0}},onE (s.named x.table).1 x.on x.on.length (keep (keep err 200 (!(s.named x.table).2)) 202 (s.index x.name).2))
def ym (F:Fr):List Nat->Fr
 |[]=>.nil
 |b::r=>(ym F r).put b (F.get b)
theorem Bh (F:Fr)(L:List Nat)(c:Nat):(ym F L).get c=if c∈L then F.get c else none:=by
 induction L with
 |nil=>simp[ym]
 |cons b r ih =>
  simp only[ym,Tr.get_put,ih,mem_cons]
  by_cases h:c=b
  ·subst h;simp
  simp[h]
theorem kX {F:Fr}{L:List Nat}{c:Nat}(h:c∈L):(ym F L).get c=F.get c:=by rw[Bh,ay h]
theorem Us {F:Fr}{L:List Nat}{c:Nat}{v:AV}(h:(ym F L).get c=some v):F.get c=some v:=by
 rw[Bh]at h
 split at h
 ·exact h
 cases h
theorem aD.awc {H:Hp}{n:Nat}{v:AV}{l:List AV}{len sz:Nat}(h:aD H n v l len sz):v.len=1/\v.cells=[v]:=by
 obtain⟨_,⟨rfl,_⟩|⟨b,k,rfl,_⟩⟩:=h<;>exact⟨rfl,rfl⟩
def af1 (ns:List (List Nat))(ts:List bR)(e:Ex)(kind err:Int):Ex×Int:=((e.bd ns ts err).1,keep (e.bd ns ts err).2.2 203 (decide ((e.bd ns ts err).2.1≠0)&&decide ((e.bd ns ts err).2.1≠kind)))
def aq4 (l:List Ex)(i:Nat):Ex:=l.getD i (.mk 0 ⟨0,0,[]⟩ [] [] 0 [])
def T8 (cols:List q7)(r:List Ex):Nat->Int->List Ex×Int
 |0,err=>([],err)
 |i+1,err=>((T8 cols r i err).1++[(af1 [] [] (aq4 r i) (Im cols i).kind (T8 cols r i err).2).1],(af1 [] [] (aq4 r i) (Im cols i).kind (T8 cols r i err).2).2)
def afI (t:bR):List (List Ex)->Int->List (List Ex)×Int
 |[],err=>([],err)
 |r::rs,err=>if keep err 204 (!decide (r.length=t.cols.length))≠0 then ([],keep err 204 (!decide (r.length=t.cols.length)))
  else ((T8 t.cols r r.length (keep err 204 (!decide (r.length=t.cols.length)))).1::(afI t rs (T8 t.cols r r.length (keep err 204 (!decide (r.length=t.cols.length)))).2).1,(afI t rs (T8 t.cols r r.length (keep err 204 (!decide (r.length=t.cols.length)))).2).2)
def afH (s:cG)(x:dE)(err:Int):oU×Int:=
 ({kind:=x.kind,table:=(s.named x.table).1,rows:=(afI (s.named x.table).1 x.rows (keep err 200 (!(s.named x.table).2))).1},(afI (s.named x.table).1 x.rows (keep err 200 (!(s.named x.table).2))).2)
end Go.Abs
