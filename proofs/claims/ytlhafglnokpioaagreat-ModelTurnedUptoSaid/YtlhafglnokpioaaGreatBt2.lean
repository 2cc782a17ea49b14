/- A part. -/
import Derived.Test.YtlhafglnokpioaaGreatBt1
noncomputable section
namespace Go.Abs
open List
open Go.Proofs
open Classical
set_option maxRecDepth 100000
def zR.ok (x:zR):Bool:=x.e.may&&decide (x.name=[]∨bQ x.name)
def Src.ok (first:Bool)(x:Src):Bool:=decide (bQ x.table)&&(decide (x.name=[]∨bQ x.name)&&(if first then decide (x.cond.bare 0)else x.cond.may))
def Ord.ok (x:Ord):Bool:=decide (bQ x.name)
def ju:List Src->Bool
 |[]=>true
 |x::r=>x.ok true&&r.all (Src.ok false)
def bI.may (q:bI):Bool:=(((q.cond.maybe&&decide (q.ao.length<=4)&&decide (q.order.length<=16)&&decide (0<=q.limit)&&(q.limited||decide (q.limit=0))&&(if q.star then decide (q.items.length=0)else decide (1<=q.items.length/\q.items.length<=16)))&&q.items.all zR.ok)&&ju q.ao)&&q.order.all Ord.ok
theorem WR (q:bI)(hl:q.order.length<=aU)(b:Bool)(F:Fr)(K:Hp)(n:Nat)(Q:QA)(h1:F.get 1=some (.ptr 0 0))(h3:F.get 3=some (.bool b))(k0:K.get 0=aR 15 q.cells)
  (hn:0<n)(hQ:∀F' K' n',F'.get 1=some (.ptr 0 0)->K'.get 0=aR 15 q.cells->0<n'->F'.get 3=some (.bool (b&&q.order.all Ord.ok))->Q .normal F' K' n' []):
  VC pG (.seq qZ (.block 4 (.loop s6))) F K n [] Q:=by
 have hc:(q.cells)[12]?=some (tU.ds q.order):=by
  simp only[bI.cells];rw[getElem?_append_right ah];simp
 have hc2:∀h,q.cells[12]'h=tU.ds q.order:=λ h=>by
  have:=cX h;rw[hc]at this;injection this with this;exact this.symm
 unfold aU at hl;simp[qZ,h1,k0,bI.bq,hc2,tU.aM];obtain⟨G9,ho⟩:∃f:Nat->Bool,∀i,f i=(b&&(q.order.take i).all Ord.ok):=⟨_,λ _=>rfl⟩;have h0:G9 0=b:=by rw[ho];simp
 refine aE.of (λ t F' K' n' ms=>∃i,t=q.order.length - i/\i<=q.order.length/\F'.get 3=some (.bool (G9 i))/\F'.get 123=some (tU.ds q.order)/\F'.get 124=some (zI (q.order.length:Int))/\F'.get 125=some (zI (i:Int))/\F'.get 1=some (.ptr 0 0)/\K'.get 0=aR 15 q.cells/\0<n'/\ms=[]) q.order.length ⟨0,ah,ah,by simp[h3,h0],ah,ah,ah,by simp[h1],k0,hn,rfl⟩ ?_;rintro t F' K' n' ms ⟨i,rfl,hi,f3,f123,f124,f125,g1',kk,hn',rfl⟩
 by_cases hlt:i<q.order.length
 ·have q0:¬n'=0:=ae;have q0':¬ 0=n':=ae;have hx:=tU.ix (ik:=.i64) hlt;have hld:=λ H=>tU.pQ q.order[i] (tU.l (q.order.drop (i+1))) H
  have ht:G9 (i+1)=(G9 i&&q.order[i].ok):=by
   rw[ho,ho,take_add_one,cX hlt,all_append];simp only[Option.toList,all_cons,all_nil,Bool.and_true,Bool.and_assoc]
  have hcl:tU.cells q.order[i]=[.str q.order[i].name,.bool q.order[i].desc]:=Eq.trans rfl rfl;simp[s6,f123,f124,f125,hlt,hx,hld,aZ.av];simp only[hcl];generalize hb:G9 i=b1 at f3 ht
  cases b1 with
  |false =>
   simp[FD,FC,f3,f125,aD i ae,q0'];refine⟨_,ae,i+1,rfl,ae,?_,f123,f124,ah,g1',kk⟩;rw[ht];rfl
  |true =>
   simp[FD,f3];refine aB.pure (qE q.order[i].name) ?_;simp[FC,f125,aD i ae,q0'];refine⟨_,ae,i+1,rfl,ae,?_,f123,f124,ah,g1',kk⟩;rw[ht];simp[Ord.ok]
 have hie:i=q.order.length:=ae;rw[hie,ho,take_length]at f3;simp[s6,f124,f125,hie];exact hQ _ _ _ (by simp[g1']) kk hn' (by simp[f3])
theorem WU (q:bI) (hl:q.items.length<=aU) (hz:∀x∈q.items,x.e.sz<=aU) (b:Bool) (F:Fr) (K:Hp) (n:Nat) (Q:QA) (h1:F.get 1=some (.ptr 0 0)) (h3:F.get 3=some (.bool b)) (k0:K.get 0=aR 15 q.cells)
  (hn:0<n)(hQ:∀F' K' n',F'.get 1=some (.ptr 0 0)->K'.get 0=aR 15 q.cells->0<n'->F'.get 3=some (.bool (b&&q.items.all zR.ok))->Q .normal F' K' n' []):
  VC pG (.seq FA (.block 0 (.loop zP))) F K n [] Q:=by
 have hc:(q.cells)[2]?=some (tV.ds q.items):=by
  simp[bI.cells]
 have hc2:∀h,q.cells[2]'h=tV.ds q.items:=λ h=>by simp[bI.cells]
 unfold aU at hl;simp[FA,h1,k0,bI.bq,hc2,tV.aM];obtain⟨G9,ho⟩:∃f:Nat->Bool,∀i,f i=(b&&(q.items.take i).all zR.ok):=⟨_,λ _=>rfl⟩;have h0:G9 0=b:=by rw[ho];simp
 refine aE.of (λ t F' K' n' ms=>∃i,t=q.items.length - i/\i<=q.items.length/\F'.get 3=some (.bool (G9 i))/\F'.get 56=some (tV.ds q.items)/\F'.get 57=some (zI (q.items.length:Int))/\F'.get 58=some (zI (i:Int))/\F'.get 1=some (.ptr 0 0)/\K'.get 0=aR 15 q.cells/\0<n'/\ms=[]) q.items.length ⟨0,ah,ah,by simp[h3,h0],ah,ah,ah,by simp[h1],k0,hn,rfl⟩ ?_;rintro t F' K' n' ms ⟨i,rfl,hi,f3,f56,f57,f58,g1',kk,hn',rfl⟩
 by_cases hlt:i<q.items.length
 ·have q0:¬n'=0:=ae;have q0':¬ 0=n':=ae;have hx:=tV.ix (ik:=.i64) hlt;have hld:=λ H=>tV.pQ q.items[i] (tV.l (q.items.drop (i+1))) H
  have ht:G9 (i+1)=(G9 i&&q.items[i].ok):=by
   rw[ho,ho,take_add_one,cX hlt,all_append];simp only[Option.toList,all_cons,all_nil,Bool.and_true,Bool.and_assoc]
  have hcl:tV.cells q.items[i]=q.items[i].e.cells++[.str q.items[i].name]:=Eq.trans rfl rfl;simp[zP,f56,f57,f58,hlt,hx,hld,aZ.av];simp only[hcl];generalize hb:G9 i=b1 at f3 ht
  cases b1 with
  |false =>
   simp[MW,zJ,f3,f58,aD i ae,q0'];refine⟨_,ae,i+1,rfl,ae,?_,f56,f57,ah,g1',kk⟩;rw[ht];rfl
  |true =>
   simp[MW,f3];have hm:=XP q.items[i].e (hz _ (dw hlt));have hav:q.items[i].e.av=.agg q.items[i].e.cells 8:=Eq.trans rfl rfl;rw[hav]at hm;refine aB.pure hm ?_
   have hg:∀h:8<(q.items[i].e.cells++[AV.str q.items[i].name]).length,(q.items[i].e.cells++[AV.str q.items[i].name])[8]'h=.str q.items[i].name:=λ h=>by
    rw[getElem_append_right ah];simp
   cases hme:q.items[i].e.may with
   |false =>
    simp[zJ,f58,aD i ae,q0'];refine⟨_,ae,i+1,rfl,ae,?_,f56,f57,ah,g1',kk⟩;rw[ht];simp[zR.ok,hme]
   |true =>
    by_cases hn:q.items[i].name=[]
    ·simp[zJ,f58,aD i ae,q0',hn];refine⟨_,ae,i+1,rfl,ae,?_,f56,f57,ah,g1',kk⟩;rw[ht];simp[zR.ok,hme,hn]
    simp[hg,hn];refine aB.pure (qE q.items[i].name) ?_;simp[zJ,f58,aD i ae,q0'];refine⟨_,ae,i+1,rfl,ae,?_,f56,f57,ah,g1',kk⟩;rw[ht];simp[zR.ok,hme,hn]
 have hie:i=q.items.length:=ae;rw[hie,ho,take_length]at f3;simp[zP,f57,f58,hie];exact hQ _ _ _ (by simp[g1']) kk hn' (by simp[f3])
theorem TE {l:List Src}{i:Nat}(h:i<l.length):ju (l.take (i+1))=(ju (l.take i)&&l[i].ok (decide (i=0))):=by
 match l,i,h with
 |x::r,0,_=>simp[ju]
 |x::r,i+1,h =>
  have hr:i<r.length:=by simpa using h
  simp only[take_succ_cons,ju];rw[take_add_one,cX hr,all_append];simp[Bool.and_assoc]
theorem WT (q : bI) (hl:q.ao.length<=aU) (hz:∀x∈q.ao,x.cond.sz<=aU) (b:Bool) (F:Fr) (K:Hp) (n:Nat) (Q:QA) (h1:F.get 1=some (.ptr 0 0)) (h3:F.get 3=some (.bool b)) (k0:K.get 0=aR 15 q.cells)
  (hn:0<n)(hQ:∀F' K' n',F'.get 1=some (.ptr 0 0)->K'.get 0=aR 15 q.cells->0<n'->F'.get 3=some (.bool (b&&ju q.ao))->Q .normal F' K' n' []):
  VC pG (.seq um (.block 2 (.loop vA))) F K n [] Q:=by
 have hc2:∀h,q.cells[3]'h=gf.ds q.ao:=λ h=>by simp[bI.cells]
 unfold aU at hl;simp[um,h1,k0,bI.bq,hc2,gf.aM];obtain⟨G9,ho⟩:∃f:Nat->Bool,∀i,f i=(b&&ju (q.ao.take i)):=⟨_,λ _=>rfl⟩;have h0:G9 0=b:=by rw[ho];simp[ju]
 refine aE.of (λ t F' K' n' ms=>∃i,t=q.ao.length - i/\i<=q.ao.length/\F'.get 3=some (.bool (G9 i))/\F'.get 80=some (gf.ds q.ao)/\F'.get 81=some (zI (q.ao.length:Int))/\F'.get 82=some (zI (i:Int))/\F'.get 1=some (.ptr 0 0)/\K'.get 0=aR 15 q.cells/\0<n'/\ms=[]) q.ao.length ⟨0,ah,ah,by simp[h3,h0],ah,ah,ah,by simp[h1],k0,hn,rfl⟩ ?_;rintro t F' K' n' ms ⟨i,rfl,hi,f3,f80,f81,f82,g1',kk,hn',rfl⟩
 by_cases hlt:i<q.ao.length
 ·have q0 : ¬ n'=0:=ae;have q0':¬ 0=n':=ae;have hx:=gf.ix (ik:=.i64) hlt;have hld:=λ H=>gf.pQ q.ao[i] (gf.l (q.ao.drop (i+1))) H
  have ht:G9 (i+1)=(G9 i&&q.ao[i].ok (decide (i=0))):=by
   rw[ho,ho,TE hlt,Bool.and_assoc]
  have hcl:gf.cells q.ao[i]=.str q.ao[i].table::.str q.ao[i].name::q.ao[i].cond.cells:=Eq.trans rfl rfl;simp[vA,f80,f81,f82,hlt,hx,hld,aZ.av];simp only[hcl];generalize hb:G9 i=b1 at f3 ht
  cases b1 with
  |false =>
   simp[FG,jH,f3,f82,aD i ae,q0'];refine⟨_,ae,i+1,rfl,ae,?_,f80,f81,ah,g1',kk⟩;rw[ht];rfl
  |true =>
   simp[FG,f3];have hm:=XP q.ao[i].cond (hz _ (dw hlt));have hk:=wU q.ao[i].cond;have hav:q.ao[i].cond.av=.agg q.ao[i].cond.cells 8:=Eq.trans rfl rfl;rw[hav]at hm hk;refine aB.pure (qE q.ao[i].table) ?_
   by_cases g1:bQ q.ao[i].table
   ·by_cases g2:q.ao[i].name=[]
    ·simp only[g1,decide_true]
     by_cases g3:i=0
     ·have z1:(i:Int)=0:=ae
      by_cases gb:q.ao[i].cond.bare 0
      ·simp only[gb,decide_true]at hk;simp[g2,z1];refine aB.pure hk ?_;simp;simp[jH,f82,aD i ae,q0'];refine⟨_,ae,i+1,rfl,ae,?_,f80,f81,ah,g1',kk⟩;rw[ht];rw[show decide (i=0)=true by simp[g3]];simp[Src.ok,g1,g2,gb]
      simp only[gb,decide_false]at hk;simp[g2,z1];refine aB.pure hk ?_;simp;simp[jH,f82,aD i ae,q0'];refine⟨_,ae,i+1,rfl,ae,?_,f80,f81,ah,g1',kk⟩;rw[ht];rw[show decide (i=0)=true by simp[g3]];simp[Src.ok,g1,g2,gb]
     have z1:¬(i:Int)=0:=ae;have z2:0<i:=ae;simp[g2,g3,z2];refine aB.pure hm ?_;simp;simp[jH,f82,aD i ae,q0'];refine⟨_,ae,i+1,rfl,ae,?_,f80,f81,ah,g1',kk⟩;rw[ht];simp[Src.ok,g1,g2,g3]
    simp[g1,g2];refine aB.pure (qE q.ao[i].name) ?_
    by_cases g4:bQ q.ao[i].name
    ·simp only[g4,decide_true]
     by_cases g3:i=0
     ·have z1:(i:Int)=0:=ae
      by_cases gb:q.ao[i].cond.bare 0
      ·simp only[gb,decide_true]at hk;simp[z1];refine aB.pure hk ?_;simp;simp[jH,f82,aD i ae,q0'];refine⟨_,ae,i+1,rfl,ae,?_,f80,f81,ah,g1',kk⟩;rw[ht];rw[show decide (i=0)=true by simp[g3]];simp[Src.ok,g1,g2,g4,gb]
      simp only[gb,decide_false]at hk;simp[z1];refine aB.pure hk ?_;simp;simp[jH,f82,aD i ae,q0'];refine⟨_,ae,i+1,rfl,ae,?_,f80,f81,ah,g1',kk⟩;rw[ht];rw[show decide (i=0)=true by simp[g3]];simp[Src.ok,g1,g2,g4,gb]
     have z1:¬(i:Int)=0:=ae;have z2:0<i:=ae;simp[g3,z2];refine aB.pure hm ?_;simp;simp[jH,f82,aD i ae,q0'];refine⟨_,ae,i+1,rfl,ae,?_,f80,f81,ah,g1',kk⟩;rw[ht];simp[Src.ok,g1,g2,g4,g3]
    simp[g4,jH,f82,aD i ae,q0'];refine⟨_,ae,i+1,rfl,ae,?_,f80,f81,ah,g1',kk⟩;rw[ht];simp[Src.ok,g1,g2,g4]
   simp[g1,jH,f82,aD i ae,q0'];refine⟨_,ae,i+1,rfl,ae,?_,f80,f81,ah,g1',kk⟩;rw[ht];simp[Src.ok,g1]
 have hie:i=q.ao.length:=ae;rw[hie,ho,take_length]at f3;simp[vA,f81,f82,hie];exact hQ _ _ _ (by simp[g1']) kk hn' (by simp[f3])
theorem WQ (q:bI)(ho:q.order.length<=aU)(hs:q.ao.length<=aU)(hi:q.items.length<=aU)(hz1:∀x∈q.items,x.e.sz<=aU)(hz2:∀x∈q.ao,x.cond.sz<=aU)(b:Bool)(F:Fr)(K:Hp)(n:Nat)(h1:F.get 1=some (.ptr 0 0))(h3:F.get 3=some (.bool b))(k0:K.get 0=aR 15 q.cells)(hn:0<n):
  VC pG (.seq FA (.block 0 (.loop zP))) F K n [] (qf pG (.seq (.seq um (.block 2 (.loop vA))) (.seq (.seq qZ (.block 4 (.loop s6))) (.seq qY .ret))) (kU [aG 2] λ v1 H' _=>e_ H'.get v1 (.bool (((b&&q.items.all zR.ok)&&ju q.ao)&&q.order.all Ord.ok)))):=by
 refine WU q hi hz1 b F K n _ h1 h3 k0 hn λ F1 K1 n1 g1 gk gn g3=>?_;show VC pG (.seq (.seq um (.block 2 (.loop vA))) (.seq (.seq qZ (.block 4 (.loop s6))) (.seq qY .ret))) F1 K1 n1 [] _;rw[uD];refine WT q hs hz2 _ F1 K1 n1 _ g1 g3 gk gn λ F2 K2 n2 e1 ek en e3=>?_;show VC pG (.seq (.seq qZ (.block 4 (.loop s6))) (.seq qY .ret)) F2 K2 n2 [] _;rw[uD];refine WR q ho _ F2 K2 n2 _ e1 e3 ek en λ F3 K3 n3 d1 dk dn d3=>?_;show VC pG (.seq qY .ret) F3 K3 n3 [] _;simp[qY,d3];exact .bool (by simp[Bool.and_assoc])
theorem aB.ok {P:Program}{F:Fr}{H H':Hp}{n n':Nat}{m:List Dm}{Q:QA}{f:FuncId}{vs:List AV}{pd:Pd}{r:List (Option GO)}{v:AV}(h:bu P f vs H n v H' n')(k:fE P r (pd.f v F) H' n' m Q):aB f vs pd r P F H n m Q:=
 aB.of h.lK λ u K j ⟨a,b,c⟩=>by subst a b c;exact k
def zk (v1 v2:AV)(err:Int):bG:=.cells 3 [] [v1,v2,zI err] .nil
theorem Hn (ns:List (List Nat))(ts:List bK)(hl:(aF ts).length<=aU)(ht:ts.length<=aU)(hc:∀t∈ts,t.cols.length<=aU):aj pG 196 [.agg (oN ns ts) 2] (.ds (cQ (aF ts)) (aF ts).length 1):=
 aj.ofR (by simp[oN]) ah ((afs ns ts hl ht hc).mono λ v H' n' h=>h.nV (bc.pure ah) ae)
theorem Dz {α:Type}(p:α->Bool)(l:List α):kN p l<(l.length:Int):=by
 unfold kN
 split
 ·rename_i q hq;have:=(findIdx?_eq_some_iff_findIdx_eq.1 hq).1;omega
 omega
theorem Hm (t:bK)(r:List bK):(aF (t::r)).length=t.cols.length+(aF r).length:=by
 simp[aF,bK.kinds]
theorem uL (table name:List Nat):∀(l:List (List Nat×bK)) (at0:Nat) (found:Int) (src:Bool),found<at0->(gw table name l at0 found src).2=0->0<=(gw table name l at0 found src).1/\(gw table name l at0 found src).1<(at0:Int)+((aF (l.map (·.2))).length:Int)
 |[],at0,found,src,hf,h=>by
  unfold gw at h ⊢
  split
  ·rename_i h0;simp[aF];omega
  rename_i h0;rw[ai h0]at h
  split at h<;>simp at h
 |(n, t)::r,at0,found,src,hf,h=>by
  have hk:=Dz (λ c:oS=>decide (c.name=name)) t.cols;unfold gw at h ⊢;simp only[map_cons,Hm]
  split
  ·rename_i h0;rw[aw h0]at h
   split
   ·rename_i h1;rw[aw h1]at h;simp at h
   rename_i h1;rw[ai h1]at h;have:=uL table name r (at0+t.cols.length) _ true ae h;omega
  rename_i h0;rw[ai h0]at h;have:=uL table name r (at0+t.cols.length) found _ ae h;omega
def fR (ns:List (List Nat))(ts:List bK)(table name:List Nat):Int×Int:=gw table name (ns.zip ts) 0 (-1) false
theorem AY {ns:List (List Nat)}{ts:List bK}(hn:ns.length=ts.length){table name:List Nat}(h:(fR ns ts table name).2=0):0<=(fR ns ts table name).1/\(fR ns ts table name).1<((aF ts).length:Int):=by
 have:=uL table name (ns.zip ts) 0 (-1) false ae h;rw[map_snd_zip ae]at this;unfold fR;omega
mutual
def Ex.bd (ns:List (List Nat)) (ts:List bK):Ex->Int->Ex×Int×Int
 |.mk op v t m cG args,err =>
  if op=2 then (if (fR ns ts t m).2=0 then (.mk 3 ⟨0,0,[]⟩ [] [] (fR ns ts t m).1 [],(aF ts).getD (fR ns ts t m).1.toNat 0,err)else (.mk op v t m cG args,0,keep err (fR ns ts t m).2 true))
  else if op=1 then (.mk op v t m cG args,v.kind,err)
  else (.mk op ⟨0,0,[]⟩ [] [] 0 (Ex.lS ns ts args err).1,(mK op).1.kind,keep (Ex.lS ns ts args err).2.2 203 (!(mK op).1.fits (Ex.lS ns ts args err).2.1))
def Ex.lS (ns:List (List Nat))(ts:List bK):List Ex->Int->List Ex×List Int×Int
 |[],err=>([],[],err)
 |e::r,err=>((e.bd ns ts err).1::(Ex.lS ns ts r (e.bd ns ts err).2.2).1,(e.bd ns ts err).2.1::(Ex.lS ns ts r (e.bd ns ts err).2.2).2.1,(Ex.lS ns ts r (e.bd ns ts err).2.2).2.2)
end
theorem Ex.Il (ns:List (List Nat))(ts:List bK)(a:Ex):∀(l:List Ex)(err:Int),Ex.lS ns ts (l++[a]) err=((Ex.lS ns ts l err).1++[(a.bd ns ts (Ex.lS ns ts l err).2.2).1],(Ex.lS ns ts l err).2.1++[(a.bd ns ts (Ex.lS ns ts l err).2.2).2.1],(a.bd ns ts (Ex.lS ns ts l err).2.2).2.2)
 |[],err=>by simp[Ex.lS]
 |e::r,err=>by simp[Ex.lS,Ex.Il ns ts a r]
theorem Ex.D8 (ns:List (List Nat))(ts:List bK):∀(l:List Ex)(err:Int),(Ex.lS ns ts l err).1.length=l.length/\(Ex.lS ns ts l err).2.1.length=l.length
 |[],err=>by simp[Ex.lS]
 |e::r,err=>by simp[Ex.lS,Ex.D8 ns ts r]
theorem Ex.Zc (ns:List (List Nat))(ts:List bK){l:List Ex}{i:Nat}(h:i<l.length)(err:Int):Ex.lS ns ts (l.take (i+1)) err=((Ex.lS ns ts (l.take i) err).1++[(l[i].bd ns ts (Ex.lS ns ts (l.take i) err).2.2).1],(Ex.lS ns ts (l.take i) err).2.1++[(l[i].bd ns ts (Ex.lS ns ts (l.take i) err).2.2).2.1],(l[i].bd ns ts (Ex.lS ns ts (l.take i) err).2.2).2.2):=by
 rw[take_add_one,cX h];exact Ex.Il ns ts l[i] (l.take i) err
structure WkS (H:Hp)(n:Nat)(ns:List (List Nat))(ts:List bK)(s b k w p:Nat)(v1 v2:AV)(err:Int):Prop where
 hs:H.get s=aR 2 (oN ns ts)
 hb:H.get b=aR 1 [.ptr p 0]
 hk:H.get k=aR 1 [.ds (cQ (aF ts)) (aF ts).length 1]
 hw:H.get w=aR 1 [.fn (.func 197) [] [.ptr s 0,.ptr b 0,.ptr k 0,.ptr w 0]]
 hp:H.get p=some (zk v1 v2 err)
 ls:s<n
 lb:b<n
 lk:k<n
 lw:w<n
 lp:p<n
theorem WkS.ne {H:Hp}{n:Nat}{ns:List (List Nat)}{ts:List bK}{s b k w p:Nat}{v1 v2:AV}{err:Int}(h:WkS H n ns ts s b k w p v1 v2 err):s≠p/\b≠p/\k≠p/\w≠p:=by
 refine⟨?_,?_,?_,?_⟩<;>rintro rfl
 ·have:=h.hs.symm.trans h.hp;injection this with this;injection this with this;omega
 ·have:=h.hb.symm.trans h.hp;injection this with this;injection this with this;omega
 ·have:=h.hk.symm.trans h.hp;injection this with this;injection this with this;omega
 have:=h.hw.symm.trans h.hp;injection this with this;injection this with this;omega
theorem WkS.next {H K:Hp}{n n':Nat}{ns:List (List Nat)}{ts:List bK}{s b k w p:Nat}{v1 v2:AV}{err err':Int}(h:WkS H n ns ts s b k w p v1 v2 err)(hn:n<=n')(hk:∀c,c<n->c≠p->K.get c=H.get c)(hp:K.get p=some (zk v1 v2 err')):WkS K n' ns ts s b k w p v1 v2 err':=by
 obtain⟨n1,n2,n3,n4⟩:=h.ne;have l1:=h.ls;have l2:=h.lb;have l3:=h.lk;have l4:=h.lw;have l5:=h.lp;exact⟨(hk s h.ls n1).trans h.hs,(hk b h.lb n2).trans h.hb,(hk k h.lk n3).trans h.hk,(hk w h.lw n4).trans h.hw,hp,ae,ae,ae,ae,ae⟩
theorem Ex.nV {h:Hf}{op:Int}{v:Val}{t m:List Nat}{cG:Int}{args:List Ex}{x:AV}(hx:e_ h x (.ds (Ex.aT args) args.length 8)):bc h [zI op,zI v.kind,zI v.num,.str v.s,.str t,.str m,zI cG,x] (Ex.mk op v t m cG args).cells:=by
 rw[Ex.cells];exact .cons _ _ _ _ fp (.cons _ _ _ _ fp (.cons _ _ _ _ fp (.cons _ _ _ _ fp (.cons _ _ _ _ fp (.cons _ _ _ _ fp (.cons _ _ _ _ fp (.cons _ _ _ _ hx .nil)))))))
theorem Ex.aqM {h:Hf}{cs:List AV}{e:Ex}{kd:Int}(hx:bc h cs e.cells):e_ h (.bo [.agg cs 8,zI kd]) (.bo [e.av,zI kd]):=
 .bo _ _ (.cons _ _ _ _ (.agg _ _ _ hx) (.cons _ _ _ _ fp .nil))
theorem aC.U2 {P:Program}{H:Hp}{n:Nat}{F:Fr}{m:List Dm}{Q:QA}{v x:AV}{l new:List AV}{len sz gq k:Nat}{pd:Pd}{r:List (Option GO)}(h:aC H n v l len sz)(hx:aX H sz x=some new)(hk:sliceLen x=some k)(hn:new.length=k*sz)
  (hs:0<sz)(hk0:0<k)(hbig:len+k<=big)(hby:gq<=4096)(h1:br new=true)
  (hgo:∀H',aC H' (n+1) (.sl n 0 (len+k) sz) (l++new) (len+k) sz->(∀c,c≠n->blk v≠some c->H'.get c=H.get c)->fE P r (pd.f (.sl n 0 (len+k) sz) F) H' (n+1) m Q):IK (Go.Abs.jh sz gq n v x H) pd r P F H n m Q:=by
 obtain⟨H',e,h1,h2⟩:=h.jh hx hk hn hs hk0 hbig hby h1;unfold IK;rw[e];exact hgo H' h1 λ c hc hb=>h2 c hc λ e=>hb (by rw[e];rfl)
theorem aC.UC {H:Hp}{n n0:Nat}{v:AV}{l l':List AV}{len sz:Nat}(h:aC H n v l len sz)(hn:∀c,blk v=some c->n0<=c)(hl:bc (above n0 H) l l')(hz:0<sz):e_ (above n0 H) v (.ds l' len sz):=by
 obtain⟨s',rfl⟩:∃k,sz=k+1:=⟨sz - 1,ae⟩;obtain⟨h0,⟨rfl,rfl⟩|⟨b,k,rfl,hb,hk,ho⟩⟩:=h
 ·have:l=[]:=by simpa using h0
  subst this;cases hl;exact .nil _
 obtain⟨u,z,bs,t,rfl,hg⟩:=ho.jN (o:=0) (c:=len*(s'+1)) ae;refine .sl _ _ _ _ _ _ _ _ _ _ ?_ hg ?_
 ·unfold above;rw[aw (hn b rfl)];exact hk
 rw[drop_zero,fN ae];exact hl
structure WkI (H0:Hp)(n b w p:Nat)(v1 v2:AV)(op:Int)(ec:List AV)(args:List Ex)(A:List Ex×List Int×Int)(i:Nat)(va vk:AV)(F:Fr)(K:Hp)(mm:Nat):Prop where
 hi:i<=args.length
 f2:F.get 2=some (.ptr b 0)
 f4:F.get 4=some (.ptr w 0)
 f5:F.get 5=some (.ptr n 0)
 f6:F.get 6=some (.ptr (n+1) 0)
 f10:F.get 10=some (.ptr (n+2) 0)
 f11:F.get 11=some vk
 f55:F.get 55=some (.ds (Ex.aT args) args.length 8)
 f56:F.get 56=some (zI (args.length:Int))
 f57:F.get 57=some (zI (i:Int))
 hmm:n+3<=mm
 tp:dh K mm
 kf:∀c,c<n->c≠p->K.get c=H0.get c
 kp:K.get p=some (zk v1 v2 A.2.2)
 kn:K.get n=aR 8 ec
 kr:K.get (n+1)=aR 8 [zI 0,zI 0,zI 0,.str [],.str [],.str [],zI 0,.aV (.slice none 0 0)]
 ko:K.get (n+2)=aR 8 [zI op,zI 0,zI 0,.str [],.str [],.str [],zI 0,va]
 oa:aC K mm va (Ex.aT A.1) i 8
 ok:aC K mm vk (cQ A.2.1) i 1
 da:∀c,blk va=some c->n+3<=c/\blk vk≠some c
 dk:∀c,blk vk=some c->n+3<=c
theorem Vr (ns:List (List Nat)) (ts:List bK) (v1 v2:AV) (hv1:Pure v1) (hv2:Pure v2) (hn:ns.length=ts.length) (hl:(aF ts).length<=aU) (ht:ts.length<=aU) (hc:∀t∈ts,t.cols.length<=aU):
  ∀(N:Nat) (e:Ex) (err:Int) (H:Hp) (n s b k w p:Nat),e.sz<=N->N<=aU->e.may=true->WkS H n ns ts s b k w p v1 v2 err ->
   bu pG 197 [e.av,.ptr s 0,.ptr b 0,.ptr k 0,.ptr w 0] H n (.bo [(e.bd ns ts err).1.av,zI (e.bd ns ts err).2.1]) (H.put p (some (zk v1 v2 (e.bd ns ts err).2.2))) n
 |0,e,_,_,_,_,_,_,_,_,h,_,_,_=>by have:=Ex.ny e;omega
 |N + 1,.mk op v t m cG args,err,H,n,s,b,k,w,p,hsz,hN,hmay,hs=>by
  obtain⟨ns1,ns2,ns3,ns4⟩:=hs.ne;have hlt:=hs.ls;have hlb:=hs.lb;have hlk:=hs.lk;have hlw:=hs.lw;have hlp:=hs.lp;have hpu:=Ex.vH (.mk op v t m cG args);refine ak.okB (p:=p) [s,b,k,w,p] ah (by simp[Ex.av,hpu.jU,hlt,hlb,hlk,hlw]) (by simp[hlt,hlb,hlk,hlw,hlp]) ?_ (bU (by simp[hv1.jU,hv2.jU])) ?_
  ·intro c hm y hy;simp only[mem_cons,not_mem_nil,or_false]at hm
   rcases hm with rfl|rfl|rfl|rfl|rfl
   ·rw[hs.hs]at hy;injection hy with hy;subst hy;exact bU (aP.jU (by simp[oN]))
   ·rw[hs.hb]at hy;injection hy with hy;subst hy;exact bU (by simp[hlp])
   ·rw[hs.hk]at hy;injection hy with hy;subst hy;exact bU (aP.jU ah)
   ·rw[hs.hw]at hy;injection hy with hy;subst hy;exact bU (by simp[iK,hlt,hlb,hlk,hlw])
   rw[hs.hp]at hy;injection hy with hy;subst hy;exact bU (by simp[hv1.jU,hv2.jU])
  intro H0 htop jm;have hs0:WkS H0 n ns ts s b k w p v1 v2 err:=⟨(jm _ ah).trans hs.hs,(jm _ ah).trans hs.hb,(jm _ ah).trans hs.hk,(jm _ ah).trans hs.hw,(jm _ ah).trans hs.hp,hlt,hlb,hlk,hlw,hlp⟩;clear jm hs;have ps:=ky hlt;have pb:=ky hlb;have pk:=ky hlk;have pp:=ky hlp;have pp':=Vj hlp
  by_cases h2:op=2
  ·have hpl:=aeM ns ts t m hn hl ht hc;refine ak.of c197 (by simp[A197]) λ F hF=>?_;simp[A197,hF,Ex.av,Ex.cells,h2,hs0.hs,ps];refine aB.pure hpl ?_;have hpS:gw t m (ns.zip ts) 0 (-1) false=fR ns ts t m:=rfl;rw[hpS];generalize hq:fR ns ts t m=q;obtain⟨q1,q2⟩:=q;simp[acF,hF,hs0.hb,pb];generalize hH1:Tr.put _ (n+1) _=H1;have k1:∀c,c<n->H1.get c=H0.get c:=λ c hc=>by rw[<-hH1];simp[ky hc]
   have k2:H1.get n=some (.cells 8 [] (Ex.mk 2 v t m cG args).cells .nil):=by rw[<-hH1];simp[Ex.cells]
   have k3:H1.get (n+1)=aR 8 [zI 0,zI 0,zI 0,.str [],.str [],.str [],zI 0,.aV (.slice none 0 0)]:=by rw[<-hH1];simp
   clear hH1;refine aB.ok (JP p v1 v2 err q2 (!decide (q2=0)) H1 (n+1+1) hv1 hv2 ae ((k1 p hlp).trans hs0.hp)) ?_
   by_cases hf:q2=0
   ·subst hf;have hlt2:=AY hn (table:=t) (name:=m) (by rw[hq]);rw[hq]at hlt2;obtain⟨hq1,hq3⟩:=hlt2;obtain⟨i,hi⟩:∃i:Nat,q1=(i:Int):=⟨q1.toNat,ae⟩;subst hi;have hil:i<(aF ts).length:=by simp at hq3;omega
    have kb1:=(k1 k hlk).trans hs0.hk;simp[MQ];refine bC.of (bh (P:=pG)) ?_;simp[ab,hF,pp,pp',pk,ns3,k3,kb1,wW hil];have hb:(Ex.mk 2 v t m cG args).bd ns ts err=(.mk 3 ⟨0,0,[]⟩ [] [] (i:Int) [],(aF ts)[i],err):=by simp[Ex.bd,hq,getD,hil]
    rw[hb];refine⟨Ex.aqM (Ex.nV (v:=⟨0,0,[]⟩) (.nil 7)),λ c h1 h3=>?_,.inl (by simp[zk,keep])⟩;simp[ky h1,h3,k1 c h1]
   simp[MQ,acE,hf,k2,k3,pp',Ex.cells];have hb:(Ex.mk 2 v t m cG args).bd ns ts err=(.mk 2 v t m cG args,0,keep err q2 true):=by simp[Ex.bd,hq,hf]
   rw[hb];refine⟨.pure _ ah,λ c h1 h3=>?_,zk v1 v2 (keep err q2 true),by simp[pp,zk],.inl rfl⟩;simp[ky h1,h3,k1 c h1]
  by_cases h1:op=1
  ·have hb:(Ex.mk op v t m cG args).bd ns ts err=(.mk op v t m cG args,v.kind,err):=by simp[Ex.bd,h1]
   rw[hb];refine ak.of c197 (by simp[A197]) λ F hF=>?_;simp[A197,hF,Ex.av,Ex.cells,h1];refine bC.of (bh (P:=pG)) ?_;simp[ab];subst h1;refine⟨.pure _ ah,λ c h1 h3=>?_,zk v1 v2 err,by simp[pp,hs0.hp],.inl rfl⟩;simp[ky h1]
  have hb:(Ex.mk op v t m cG args).bd ns ts err=(.mk op ⟨0,0,[]⟩ [] [] 0 (Ex.lS ns ts args err).1,(mK op).1.kind,keep (Ex.lS ns ts args err).2.2 203 (!(mK op).1.fits (Ex.lS ns ts args err).2.1)):=by rw[Ex.bd,ai h2,ai h1]
  rw[hb];have hla:=Ex.rK args
  have hml:Ex.uN args=true/\(args.length:Int)=(if op<=7 then 1 else 2)/\4<=op/\op<=21:=by
   rw[Ex.may,ai h1,ai h2]at hmay;simp only[dS,decide_eq_true_eq]at hmay;exact⟨hmay.2.2.2,hmay.2.1,hmay.1⟩
  obtain⟨hma,hln,ho1,ho2⟩:=hml;simp only[Ex.sz]at hsz;unfold aU at hN;refine ak.of c197 (by simp[A197]) λ F hF=>?_;simp[A197,hF,Ex.av,Ex.cells,h1,h2];generalize hH1:Tr.put _ (n+1+1) _=H1;have k0:∀c,c<n->H1.get c=H0.get c:=λ c hc=>by rw[<-hH1];simp[ky hc]
  have k1:H1.get n=some (.cells 8 [] (Ex.mk op v t m cG args).cells .nil):=by rw[<-hH1];simp[Ex.cells]
  have k2:H1.get (n+1)=aR 8 [zI 0,zI 0,zI 0,.str [],.str [],.str [],zI 0,.aV (.slice none 0 0)]:=by rw[<-hH1];simp
  have k3:H1.get (n+2)=aR 8 [zI op,zI 0,zI 0,.str [],.str [],.str [],zI 0,.aV (.slice none 0 0)]:=by rw[<-hH1];simp
  have k4:dh H1 (n+3):=λ c hc=>by
   have q1:¬c=n:=ae;have q2:¬c=n+1:=ae;have q3:¬c=n+2:=ae;rw[<-hH1];simp[q1,q2,q3,htop c ae]
  clear hH1
  refine aE.of (λ q F K mm ms=>∃(i:Nat) (va vk:AV),q=args.length - i/\WkI H0 n b w p v1 v2 op ((Ex.mk op v t m cG args).cells) args (Ex.lS ns ts (args.take i) err) i va vk F K mm/\ms=[]) args.length
   ⟨0,.aV (.slice none 0 0),.aV (.slice none 0 0),ah,⟨ah,by simp[hF],by simp[hF],ah,ah,ah,ah,ah,ah,ah,ae,k4,λ c hc _=>k0 c hc,by simpa[Ex.lS]using(k0 p hlp).trans hs0.hp,k1,k2,k3,by simpa[Ex.lS,Ex.aT]using aC.nil _ _ 8,by simpa[Ex.lS,cQ]using aC.nil _ _ 1,ah,ah⟩,rfl⟩ ?_
  clear hF F k0 k1 k2 k3 k4 H1;rintro q F K mm ms ⟨i,va,vk,rfl,I,rfl⟩;have f2:=I.f2;have f4:=I.f4;have f5:=I.f5;have f6:=I.f6;have f10:=I.f10;have f11:=I.f11;have f55:=I.f55;have f56:=I.f56;have f57:=I.f57;have hmm:=I.hmm
  by_cases hlt2:i<args.length
  ·have hx:=nP (k:=.i64) hlt2;have hsm:=Ex.rJ (dw hlt2);have hwk:=(I.kf w hlw ns4).trans hs0.hw;have mw:=ky (show w<mm by omega);simp[NM,f4,f55,f56,f57,hlt2,hx,hwk,mw];generalize hK1:Tr.put _ mm (some (bG.cells 8 [] args[i].cells Ov.nil))=K1;have g1:∀c,c<mm->K1.get c=K.get c:=λ c hc=>by rw[<-hK1];simp[ky hc]
   have t1:dh K1 (mm+1):=λ c hc=>by
    have q1:¬c=mm:=ae;rw[<-hK1];simp[q1,I.tp c ae]
   clear hK1;have hs1:WkS K1 (mm+1) ns ts s b k w p v1 v2 (Ex.lS ns ts (args.take i) err).2.2:=hs0.next ae (λ c h3 h4=>(g1 c ae).trans (I.kf c h3 h4)) ((g1 p ae).trans I.kp);refine aB.ok (Vr ns ts v1 v2 hv1 hv2 hn hl ht hc N args[i] _ K1 (mm+1) s b k w p ae (by unfold aU;omega) (Ex.Hi hma i hlt2) hs1) ?_;have htk:=Ex.Zc ns ts hlt2 err;have hlen:=Ex.D8 ns ts (args.take i) err;generalize hA:Ex.lS ns ts (args.take i) err=A at I hs1 htk hlen ⊢;generalize hX:args[i].bd ns ts A.2.2=X at htk ⊢;obtain⟨x1,kd,er⟩:=X;obtain⟨xs,ks,er0⟩:=A;simp only at htk hlen;have oa:=I.oa;have ok:=I.ok;have ko1:=(g1 (n+2) ae).trans I.ko;have q1:(n+2=p)=False:=by simp only[eq_iff_iff,iff_false];omega
   have q2:(n+1=mm)=False:=by simp only[eq_iff_iff,iff_false];omega
   simp[RV,f10,ko1,q1,q2];generalize hK3:Tr.put _ (mm+1+1) _=K3;have e3:∀c,c<mm->c≠p->K3.get c=K.get c:=λ c h3 h4=>by rw[<-hK3];simp[ky h3,h4,g1 c h3]
   have p3:K3.get p=some (zk v1 v2 er):=by rw[<-hK3];simp[ky (show p<mm by omega)]
   have x3:K3.get (mm+1+1)=aR 8 x1.cells:=by rw[<-hK3];simp
   have t3:dh K3 (mm+1+1+1):=λ c hc=>by
    have r1:¬c=mm+1+1:=ae;have r2:¬c=mm+1:=ae;have r3:¬c=p:=ae;rw[<-hK3];simp[r1,r2,r3,t1 c ae]
   clear hK3;have oa3:aC K3 (mm+1+1+1) va (Ex.aT xs) i 8:=oa.frame ae λ c hc=>e3 c (oa.df hc) (by have:=(I.da c hc).1;omega);have ok3:aC K3 (mm+1+1+1) vk (cQ ks) i 1:=ok.frame ae λ c hc=>e3 c (ok.df hc) (by have:=I.dk c hc;omega);refine aC.U2 (k:=1) (new:=x1.cells) oa3 (bD x3) ah ah ae ae (by unfold big;omega) ae ah λ K4 o4 g4=>?_;have ok4:aC K4 (mm+1+1+1) vk (cQ ks) i 1:=ok3.frame ae λ c hc=>g4 c (by have:=ok.df hc;omega) λ h=>(I.da c h).2 hc;have e4:∀c,c<mm->c≠p->blk va≠some c->K4.get c=K.get c:=λ c h3 h4 h5=>(g4 c ae h5).trans (e3 c h3 h4);have p4:K4.get p=some (zk v1 v2 er):=(g4 p ae λ h=>by have:=(I.da p h).1;omega).trans p3;have t4:dh K4 (mm+1+1+1+1):=λ c hc=>(g4 c ae λ h=>by have:=oa.df h;omega).trans (t3 c ae);clear g4 e3 p3 x3 t3 oa3 ok3;simp[f11];generalize hK5:Tr.put K4 (mm+1+1+1+1) _=K5;have g5:∀c,c<mm+1+1+1+1->K5.get c=K4.get c:=λ c h3=>by rw[<-hK5];simp[ky h3]
   have x5:K5.get (mm+1+1+1+1)=aR 1 (cQ [kd]):=by rw[<-hK5];simp[cQ]
   have t5:dh K5 (mm+1+1+1+1+1):=λ c hc=>by
    have r1:¬c=mm+1+1+1+1:=ae;rw[<-hK5];simp[r1,t4 c ae]
   clear hK5;have oa5:aC K5 (mm+1+1+1+1+1) (.sl (mm+1+1+1) 0 (i+1) 8) (Ex.aT xs++x1.cells) (i+1) 8:=o4.frame ae λ c hc=>g5 c (by simp at hc;omega);have ok5:aC K5 (mm+1+1+1+1+1) vk (cQ ks) i 1:=ok4.frame ae λ c hc=>g5 c (by have:=ok.df hc;omega);refine aC.U2 (k:=1) (new:=cQ [kd]) ok5 (by rw[bT x5 (OwnB.list ah) ah];simp[cQ]) ah ah ae ae (by unfold big;omega) ae ah λ K6 o6 g6=>?_;have oa6:aC K6 (mm+1+1+1+1+1+1) (.sl (mm+1+1+1) 0 (i+1) 8) (Ex.aT xs++x1.cells) (i+1) 8:=oa5.frame ae λ c hc=>g6 c (by simp at hc;omega) λ h=>by have:=ok.df h;simp at hc;omega
   have e6:∀c,c<mm->c≠p->blk va≠some c->blk vk≠some c->K6.get c=K.get c:=λ c h3 h4 h5 h6=>(g6 c ae h6).trans ((g5 c ae).trans (e4 c h3 h4 h5));have p6:K6.get p=some (zk v1 v2 er):=(g6 p ae λ h=>by have:=I.dk p h;omega).trans ((g5 p ae).trans p4);have t6:dh K6 (mm+1+1+1+1+1+1):=λ c hc=>(g6 c ae λ h=>by have:=ok.df h;omega).trans (t5 c ae);have na:∀c,c<n+3->blk va≠some c:=λ c h3 h=>by have:=(I.da c h).1;omega
   have nk:∀c,c<n+3->blk vk≠some c:=λ c h3 h=>by have:=I.dk c h;omega
   have ko6:=(e6 (n+2) ae ae (na _ ae) (nk _ ae)).trans I.ko;clear g6 g5 oa5 ok5 t5 t4 p4 e4 ok4 o4;simp[ko6,f10,RQ,f57,aD i ae];have qq:∀c,c≠n+2->(K6.put (n+2) (some (bG.cells 8 [] [zI op,zI 0,zI 0,.str [],.str [],.str [],zI 0,.sl (mm+1+1+1) 0 (i+1) 8] .nil))).get c=K6.get c:=λ c h3=>by simp[h3]
   refine⟨args.length - (i+1),ae,i+1,rfl,.sl (mm+1+1+1) 0 (i+1) 8,.sl (mm+1+1+1+1+1) 0 (i+1) 1,?_⟩;rw[htk];refine⟨hlt2,by simp[f2],by simp[f4],by simp[f5],by simp[f6],by simp[f10],ah,by simp[f55],by simp[f56],ah,ae,λ c h3=>(qq c ae).trans (t6 c h3),λ c h3 h4=>(qq c ae).trans ((e6 c ae h4 (na c ae) (nk c ae)).trans (I.kf c h3 h4)),(qq p ae).trans p6,(qq n ae).trans ((e6 n ae ae (na n ae) (nk n ae)).trans I.kn),(qq (n+1) ae).trans ((e6 (n+1) ae ae (na (n+1) ae) (nk (n+1) ae)).trans I.kr),ah,?_,?_,by simp;omega,by simp;omega⟩
   ·have:=oa6.frame (H':=(K6.put (n+2) (some (bG.cells 8 [] [zI op,zI 0,zI 0,.str [],.str [],.str [],zI 0,.sl (mm+1+1+1) 0 (i+1) 8] .nil)))) (aK _) λ c hc=>qq c (by simp at hc;omega);simpa[Ex.mE,Ex.aT]using this
   have:=o6.frame (H':=(K6.put (n+2) (some (bG.cells 8 [] [zI op,zI 0,zI 0,.str [],.str [],.str [],zI 0,.sl (mm+1+1+1) 0 (i+1) 8] .nil)))) (aK _) λ c hc=>qq c (by simp at hc;omega);simpa[tR]using this
  have hie:i=args.length:=by have:=I.hi;omega
  subst hie;rw[take_length]at I;have hlen:=Ex.D8 ns ts args err
  have hfit:(mK op).1.any=true->(mK op).1.alike=true->2<=(Ex.lS ns ts args err).2.1.length:=by
   intro ha hk;rw[hlen.2]
   by_cases h7:op<=7
   ·have:op=4∨op=5∨op=6∨op=7:=ae
    rcases this with h|h|h|h<;>subst h<;>simp[mK]at ha hk
   rw[ai h7]at hln;omega
  generalize hA:Ex.lS ns ts args err=A at I hlen hfit ⊢;obtain⟨xs,ks,er⟩:=A;have ft:=alp (mK op).1 ks (by simp at hlen;rw[hlen.2];unfold aU;omega) hfit;have hwp:=Gs op;simp[NM,RP,f56,f57,f5,I.kn,Ex.cells];refine aB.pure hwp ?_;generalize hw:mK op=W at ft ⊢;obtain⟨⟨w1,w2,w3,w4,w5⟩,wb⟩:=W;simp[Want.av];generalize hK7:Tr.put _ mm (some (bG.cells 5 [] [zI w1,zI w2,zI w3,.bool w4,.bool w5] .nil))=K7;have g7:∀c,c<mm->K7.get c=K.get c:=λ c hc=>by rw[<-hK7];simp[ky hc]
  have x7:K7.get mm=aR 5 [zI w1,zI w2,zI w3,.bool w4,.bool w5]:=by rw[<-hK7];simp
  have t7:dh K7 (mm+1):=λ c hc=>by
   have q1:¬c=mm:=ae;rw[<-hK7];simp[q1,I.tp c ae]
  clear hK7;have oa7:aC K7 (mm+1) va (Ex.aT xs) args.length 8:=I.oa.frame ae λ c hc=>g7 c (I.oa.df hc);have ok7:aC K7 (mm+1) vk (cQ ks) args.length 1:=I.ok.frame ae λ c hc=>g7 c (I.ok.df hc);have hb7:=(g7 b ae).trans ((I.kf b hlb ns2).trans hs0.hb);have p7:=(g7 p ae).trans I.kp;have o7:=(g7 (n+2) ae).trans I.ko;have r7:=(g7 (n+1) ae).trans I.kr;have pp7:(p=mm)=False:=by simp only[eq_iff_iff,iff_false];omega
  have pp8:(mm=p)=False:=by simp only[eq_iff_iff,iff_false];omega
  have bp8:(b=p)=False:=by simp[ns2]
  simp only at hlen;rw[hlen.2]at ft;have hfl:=JP p v1 v2 er 203 (!(Want.mk w1 w2 w3 w4 w5).fits ks) K7 (mm+1) hv1 hv2 ae p7;simp only[RN,pz];refine bC.of (Kw (l:=[⟨200,[Want.av ⟨w1,w2,w3,w4,w5⟩,vk],K7,mm+1,.bool ((Want.mk w1 w2 w3 w4 w5).fits ks),K7,mm+1⟩,⟨50,[.ptr p 0,zI 203,.bool (!(Want.mk w1 w2 w3 w4 w5).fits ks)],K7,mm+1,.bo [],K7.put p (some (zk v1 v2 (keep er 203 (!(Want.mk w1 w2 w3 w4 w5).fits ks)))),mm+1⟩]) ?_) ?_
  ·simp only[mem_cons,not_mem_nil,or_false];rintro c (rfl|rfl)
   ·exact ft.PT ah _ (.cons _ _ _ _ fp (.cons _ _ _ _ (ok7.nV (bc.pure ah) ae) .nil))
   exact hfl
  have e2:∀l c1 c2,(ceL [⟨200,l,K7,mm+1,.bool ((Want.mk w1 w2 w3 w4 w5).fits ks),K7,mm+1⟩,⟨50,[.ptr p 0,zI 203,.bool (!(Want.mk w1 w2 w3 w4 w5).fits ks)],K7,mm+1,.bo [],K7.put p (some (zk v1 v2 (keep er 203 (!(Want.mk w1 w2 w3 w4 w5).fits ks)))),mm+1⟩]).call 50 c1 K7 c2=(ceL [⟨50,[.ptr p 0,zI 203,.bool (!(Want.mk w1 w2 w3 w4 w5).fits ks)],K7,mm+1,.bo [],K7.put p (some (zk v1 v2 (keep er 203 (!(Want.mk w1 w2 w3 w4 w5).fits ks)))),mm+1⟩]).call 50 c1 K7 c2:=λ l c1 c2=>al4 (by decide);simp[ab,f2,f11,x7,hb7,Want.av,zi,e2];generalize (keep er 203 (!(Want.mk w1 w2 w3 w4 w5).fits ks))=er';have k8:∀c,c≠p->(K7.put p (some (zk v1 v2 er'))).get c=K7.get c:=λ c hc=>by simp[hc]
  have p8:(K7.put p (some (zk v1 v2 er'))).get p=some (zk v1 v2 er'):=ah;generalize K7.put p (some (zk v1 v2 er'))=K8 at k8 p8 ⊢;have o8:=(k8 (n+2) ae).trans o7;have r8:=(k8 (n+1) ae).trans r7;have x8:=(k8 mm ae).trans x7;have q1:(mm=n+1)=False:=by simp only[eq_iff_iff,iff_false];omega
  have q2:(p=n+1)=False:=by simp only[eq_iff_iff,iff_false];omega
  simp only[RL,pz];refine bC.of (bh (P:=pG)) ?_;simp[ab,f6,f10,o8,r8,x8,q1,q2,p8,I.oa.fS];refine⟨Ex.aqM (Ex.nV (v:=⟨0,0,[]⟩) ?_),λ c h3 h4=>?_,.inl rfl⟩
  ·have oa8:aC (K8.put (n+1) (some (bG.cells 8 [] [zI op,zI 0,zI 0,.str [],.str [],.str [],zI 0,va] .nil))) (mm+1) va (Ex.aT xs) args.length 8:=oa7.frame (aK _) λ c hc=>by
    have:=(I.da c hc).1;have r1:¬c=n+1:=ae;simp[r1,k8 c ae]
   rw[hlen.1];exact oa8.UC (λ c hc=>by have:=(I.da c hc).1;omega) (bc.pure (Ex.yp xs)) ae
  have r1:¬c=n+1:=ae;simp[r1,k8 c h4,g7 c ae,I.kf c h3 h4]
def clC (z:List AV)(sz gq:Nat):CF:={res:=[aG 2],code:=.seq (.ng [oP (bg 2) (eL (aQ (.aV (.slice none 0 0))))]) (.seq (.seq (.ng [oP (bg 3) (eL (aA 0)),oP (bg 4) (e2 (kT false .slice) (aA 3) (aQ (.aV (.slice none 0 0))))]) (.cond (aA 4) (.seq (.ng [oP (bg 2) (eL (aQ (.aV (.slice none 0 0))))]) .ret) .skip)) (.seq (.ng [oP (bg 5) (aO z 0 sz []),oP (bg 6) (eL (aA 0)),oP (bg 7) (dG sz gq (aA 5) (aA 6)),oP (bg 2) (eL (aA 7))]) .ret)),nt:=8}
theorem t_ {g:FuncId}{z:List AV}{sz gq:Nat}(hc:J5 pG g=some (clC z sz gq))(hs:0<sz)(hz:sz<=64)(hby:gq<=4096)(cs:List AV)(len:Nat)(hl:len<=aU)(hcs:cs.length=len*sz)(hp:aP cs)(h1:br cs=true):aj pG g [.ds cs len sz] (.ds cs len sz):=by
 refine aj.ofR (by simp[hp]) (by simp[hp]) ?_
 have A:len=0->ak pG g [.aV (.slice none 0 0)] .nil 0 (λ v1 H' _=>e_ H'.get v1 (.ds cs len sz)):=λ h0=>by
  subst h0;have:cs=[]:=by simpa using hcs
  subst this;obtain⟨k,rfl⟩:∃k,sz=k+1:=⟨sz - 1,ae⟩;refine ak.of hc (by simp[clC]) λ F hF=>?_;simp[clC,hF,kT,jq];exact .nil _
 have B:len=0->ak pG g [.ds [] 0 0] .nil 0 (λ v1 H' _=>e_ H'.get v1 (.ds cs len sz)):=λ h0=>by
  subst h0;have:cs=[]:=by simpa using hcs
  subst this;refine ak.of hc (by simp[clC]) λ F hF=>?_;simp[clC,hF,kT,jq,jh,aX,sliceLen,oR];exact .sl 0 0 0 sz 0 [] [] .nil [] [] ah ah .nil
 have C:0<len->ak pG g [.ds cs len sz] .nil 0 (λ v1 H' _=>e_ H'.get v1 (.ds cs len sz)):=λ h0=>by
  refine ak.of hc (by simp[clC]) λ F hF=>?_;obtain⟨len,rfl⟩:∃k,len=k+1:=⟨len - 1,ae⟩;unfold aU at hl;simp[clC,hF,kT,jq];have ow:aC (Tr.put Tr.nil 0 (some (bG.cells 0 [] [] .nil))) 1 (.sl 0 0 0 sz) [] 0 sz:=⟨ah,.inr ⟨0,.cells 0 [] [] .nil,rfl,ae,ah,.list rfl⟩⟩;refine aC.app (x:=.ds cs (len+1) sz) (new:=cs) (k:=len+1) ow (by simp[aX]) (by simp[sliceLen]) hcs hs h0 (by unfold big;omega) hby h1 λ H' ho hk=>?_;simp;simp only[nil_append,q7]at ho;exact ho.nV (bc.pure hp) hs
 by_cases h0:len=0
 ·have A:=A h0;have B:=B h0;refine⟨A.1,λ φ D w xs hrel hv hf RR hR=>?_⟩
  cases hv with
  |cons _ y _ ys h1 h2 =>
  cases h2
  have h0:(∃ad cap,y=.slice (some ad) 0 cap)∨y=.slice none 0 0:=by
   subst h0
   cases h1 with
   |ds=>exact .inl ⟨_,_,rfl⟩
   |pW=>exact .inl ⟨_,_,rfl⟩
   |tW=>exact .inr rfl
  rcases h0 with⟨ad,cap,rfl⟩|rfl
  ·exact B.2 φ D w _ hrel (.cons _ _ _ _ (.pW _ _ _) .nil) hf RR hR
  exact A.2 φ D w _ hrel (.cons _ _ _ _ (.aV _ rfl) .nil) hf RR hR
 exact C ae
theorem PO (l:List oS)(hl:l.length<=aU):aj pG 57 [dL.ds l] (dL.ds l):=t_ (z:=[.str [],zI 0,.bool false]) (sz:=3) (gq:=32) c57 ae ae ae _ _ hl ah ah ah
theorem PN (l:List Int)(hl:l.length<=aU):aj pG 59 [dA.ds l] (dA.ds l):=t_ (z:=[zI 0]) (sz:=1) (gq:=8) c59 ae ae ae _ _ hl ah ah ah
def afT (z:List AV)(sz:Nat):CF:={res:=[b6 4 sz,aG 5],code:=(.seq (.ng [oP (bg 4) (au z sz),oP (bg 5) (eL (aQ (.bool false)))]) (.seq (.seq (.ng [oP (bg 9) (eL (aA 0)),oP (bg 10) (e1 bm (aA 9)),oP (bg 11) (eL (aQ (zI 0)))]) (.block 0 (.loop (.seq (.ng [oP (bg 12) (e2 (bR .lss) (aA 11) (aA 10))]) (.seq (.cond (aA 12) .skip (.exit 0)) (.seq (.block 1 (.seq (.ng [oP (bg 13) (e2 (cK sz) (aA 9) (aA 11)),oP (bg 14) (iS sz (aA 13)),oP (bg 7) (au z sz),oP ri (dz sz (aA 7) (aA 14))]) (.seq (.ng [oP (bg 15) (eL (aA 1)),oP (bg 16) (iS sz (aA 7)),vP (bg 17) (aA 15) [(aA 16)]]) (.cond (aA 17) (.seq (.ng [oP (bg 18) (iS sz (aA 7)),oP ri (dz sz (aA 4) (aA 18)),oP (bg 5) (eL (aQ (.bool true)))]) .ret) .skip)))) (.ng [oP (bg 19) (e2 (bR .add) (aA 11) (aQ (zI 1))),oP (bg 11) (eL (aA 19))]))))))) (.seq (.ng [oP (bg 8) (au z sz)]) (.seq (.ng [oP (bg 20) (iS sz (aA 8)),oP ri (dz sz (aA 4) (aA 20)),oP (bg 5) (eL (aQ (.bool false)))]) .ret)))),nt:=21}
theorem a68:A125=afT [(.int .u32 0),(.str []),(.aV (.slice none 0 0)),(.int .u32 0)] 4:=rfl
def fU {α:Type}(zero:α)(p:α->Bool)(l:List α):α×Bool:=match l.find? p with
 |some x=>(x,true)
 |none=>(zero,false)
theorem HN {α:Type}{sz:Nat}(E:aZ α sz){g:FuncId}{z:List AV}(hc:J5 pG g=some (afT z sz)) (_hs:1<sz) (hs2:sz<=64) (hz:z.length=sz) (h1:br z=true){zero:α}(hzz:∀h,bc h z (E.cells zero)){f:FuncId}{b:Nat}{y:bG}{p:α->Bool}(xs:List α) (hl:xs.length<=aU) (H:Hp) (n:Nat) (hb:b<n) (hy:H.get b=some y) (hr:wN n y)
  (hp:∀x∈xs,∀(K:Hp)(k:Nat),K.get b=some y->dh K k->ak pG f [E.av x,.ptr b 0] K k (λ u K' k'=>u=.bool (p x)/\K'=K/\k'=k)):
  bu pG g [E.ds xs,.fn (.func f) [] [.ptr b 0]] H n (.bo [E.av (fU zero p xs).1,.bool (fU zero p xs).2]) H n:=by
 refine ak.vL [b] (by simp[iK,hb,Pure.jU]) (by simpa using hb) (λ c hm k hk=>?_) λ H0 ht jm=>?_
 ·simp at hm;subst hm;rw[hy]at hk;injection hk with hk;subst hk;exact hr
 have hb0:=(jm b ah).trans hy;refine ak.of hc (by simp[afT]) λ F hF=>?_;simp[afT,hF,aZ.aM];unfold aU at hl;refine aE.of (λ q F K m ms=>∃i,q=xs.length - i/\i<=xs.length/\F.get 1=some (.fn (.func f) [] [.ptr b 0])/\F.get 4=some (.ptr n 0)/\F.get 9=some (E.ds xs)/\F.get 10=some (zI (xs.length:Int))/\F.get 11=some (zI (i:Int))/\n<m/\dh K m/\(∀c,c<n->K.get c=H0.get c)/\K.get n=aR sz z/\(∀j (h:j<xs.length),j<i->p xs[j]=false)/\ms=[]) xs.length ⟨0,ah,ah,by simp[hF],ah,ah,ah,ah,ae,λ c h3=>?_,λ c h3=>?_,ah,ah,rfl⟩ ?_
 ·have q1:¬c=n:=ae;simp[q1,ht c ae]
 ·have q1:¬c=n:=ae;simp[q1]
 clear hF F;rintro q F K m ms ⟨i,rfl,hi,f1,f4,f9,f10,f11,hm,tp,kf,kn,hj,rfl⟩;have hEl:(E.av zero).len=sz:=Eq.trans rfl rfl
 by_cases hlt:i<xs.length
 ·have hx:=E.ix (ik:=.i64) hlt;have hld:=λ H=>E.pQ xs[i] (E.l (xs.drop (i+1))) H;have hav:∀a,(E.av a).len=sz:=λ a=>Eq.trans rfl rfl;have hac:∀a,(E.av a).cells=E.cells a:=λ a=>Eq.trans rfl rfl;simp[f1,f9,f10,f11,hlt,hx,hld,hz,hs2,hav,hac];generalize hK1:Tr.put _ m (some (bG.cells sz [] (E.cells xs[i]) .nil))=K1;have g1:∀c,c<m->K1.get c=K.get c:=λ c hc=>by rw[<-hK1];simp[ky hc]
  have x1:K1.get m=aR sz (E.cells xs[i]):=by rw[<-hK1];simp
  have t1:dh K1 (m+1):=λ c hc=>by
   have q1:¬c=m:=ae;rw[<-hK1];simp[q1,tp c ae]
  clear hK1;have b1:=(g1 b ae).trans ((kf b hb).trans hb0);refine aB.same (hp xs[i] (dw hlt) K1 (m+1) b1 t1) ?_;have q1:(n=m)=False:=by simp only[eq_iff_iff,iff_false];omega
  have q2:(m=n)=False:=by simp only[eq_iff_iff,iff_false];omega
  cases hpx:p xs[i]with
  |true =>
   have hf:fU zero p xs=(xs[i],true):=by
    unfold fU;rw[find?_eq_some_iff_getElem.2 ⟨hpx,i,hlt,rfl,λ j h2=>by simp[hj j ae h2]⟩]
   rw[hf];have wV:=(g1 n hm).trans kn;simp[f4,x1,wV,hz,hs2];refine⟨.pure _ ah,λ c h3=>?_⟩;have q3:¬c=n:=ae;simp[q3,g1 c ae,kf c h3]
  |false =>
   simp[f1,f4,f9,f10,f11,aD i ae];refine⟨_,ae,i+1,rfl,hlt,rfl,ae,t1,λ c h3=>(g1 c ae).trans (kf c h3),(g1 n hm).trans kn,λ j h h2=>?_⟩
   by_cases e:j=i
   ·subst e;exact hpx
   exact hj j h ae
 have hie:i=xs.length:=ae;subst hie
 have hf:fU zero p xs=(zero,false):=by
  unfold fU;rw[find?_eq_none.2 λ x hx=>?_];obtain⟨j,h2,rfl⟩:=getElem_of_mem hx;simp[hj j h2 h2]
 rw[hf];have q1:(n=m)=False:=by simp only[eq_iff_iff,iff_false];omega
 simp[f4,f10,f11,hz,h1,kn,q1,hs2];refine⟨.bo _ _ (.cons _ _ _ _ (.agg _ _ _ (hzz _)) (.cons _ _ _ _ fp .nil)),λ c h3=>?_⟩;have q3:¬c=n:=ae;have q4:¬c=m:=ae;simp[q3,q4,kf c h3]
def bK.zero:bK:=⟨0,[],[],0⟩
def pf.zero:pf:=⟨0,0,[],[],false,0⟩
theorem agY (t:bK)(b:Bool)(h:t.cols.length<=aU):aj pG 124 [aH.av t,.bool b] (.bo [aH.av t,.bool b]):=by
 refine pv c124 λ F hF=>?_;simp[A124,hF,aZ.av,eK];refine aB.pure (PO t.cols h) ?_;simp[hF,aZ.ds];exact fp
theorem aff (t:bK)(s:List Nat)(b:Nat)(H:Hp)(n:Nat)(hb:H.get b=aR 1 [.str s])(ht:dh H n):ak pG 195 [aH.av t,.ptr b 0] H n (λ u K k=>u=.bool (decide (t.name=s))/\K=H/\k=n):=by
 refine ak.forget ah (ak.of c195 (by simp[A195]) λ F hF=>?_);have q:¬b=n:=by have:=ht.lt hb;omega
 simp[A195,hF,aZ.av,eK,q,hb];rintro c hc rfl;exact ar (ht _ (aK _)) hc
theorem aou (t:bK)(i:Int)(b:Nat)(H:Hp)(n:Nat)(hb:H.get b=aR 1 [.int .u32 i])(ht:dh H n):ak pG 126 [aH.av t,.ptr b 0] H n (λ u K k=>u=.bool (decide (t.id=i))/\K=H/\k=n):=by
 refine ak.forget ah (ak.of c126 (by simp[A126]) λ F hF=>?_);have q:¬b=n:=by have:=ht.lt hb;omega
 simp[A126,hF,aZ.av,eK,q,hb];rintro c hc rfl;exact ar (ht _ (aK _)) hc
def cn.named (s:cn)(name:List Nat):bK×Bool:=fU bK.zero (λ t:bK=>decide (t.name=name)) s.tables
def cn.table (s:cn)(i:Int):bK×Bool:=fU bK.zero (λ t:bK=>decide (t.id=i)) s.tables
def cn.index (s:cn)(name:List Nat):pf×Bool:=fU pf.zero (λ x:pf=>decide (x.name=name)) s.indexes
theorem lG {α:Type}{zero:α}{p:α->Bool}{l:List α}{Q:α->Prop}(h0:Q zero)(hl:∀x∈l,Q x):Q (fU zero p l).1:=by
 unfold fU
 split
 ·rename_i x hx;exact hl x (mem_of_find?_eq_some hx)
 exact h0
structure cn.gG (s:cn):Prop where
 t:s.tables.length<=aU
 i:s.indexes.length<=aU
 tc:∀t∈s.tables,t.cols.length<=aU
 ic:∀x∈s.indexes,x.cols.length<=aU
theorem ajj (h:Hf):bc h [(.int .u32 0),(.str []),(.aV (.slice none 0 0)),(.int .u32 0)] (aH.cells bK.zero):=
 .cons _ _ _ _ fp (.cons _ _ _ _ fp (.cons _ _ _ _ (.nil 2) (.cons _ _ _ _ fp .nil)))
theorem afg (s:cn)(hs:s.gG)(name:List Nat):aj pG 115 [kQ.av s,.str name] (.bo [aH.av (s.named name).1,.bool (s.named name).2]):=by
 refine pv c115 λ F hF=>?_;simp[A115,hF,aZ.av,fm];refine aB.ok (HN aH (a68▸c125) ae ae rfl rfl ajj (p:=λ t:bK=>decide (t.name=name)) (y:=.cells 1 [] [.str name] .nil) s.tables hs.t _ _ ae ah (bU ah) λ x _ K k hb ht=>aff x name _ K k hb ht) ?_;simp;refine aB.pure (agY _ _ (lG (Q:=λ t:bK=>t.cols.length<=aU) (by simp[bK.zero]) hs.tc)) ?_;simp[aZ.av];exact fp
theorem aed (s:cn)(hs:s.gG)(i:Int):aj pG 51 [kQ.av s,.int .u32 i] (.bo [aH.av (s.table i).1,.bool (s.table i).2]):=by
 refine pv c51 λ F hF=>?_;simp[A51,hF,aZ.av,fm];refine aB.ok (HN aH (a68▸c125) ae ae rfl rfl ajj (p:=λ t:bK=>decide (t.id=i)) (y:=.cells 1 [] [.int .u32 i] .nil) s.tables hs.t _ _ ae ah (bU ah) λ x _ K k hb ht=>aou x i _ K k hb ht) ?_;simp;refine aB.pure (agY _ _ (lG (Q:=λ t:bK=>t.cols.length<=aU) (by simp[bK.zero]) hs.tc)) ?_;simp[aZ.av];exact fp
def gu (s:cn)(err:Int):bG:=zk (aH.ds s.tables) (bp.ds s.indexes) err
theorem xe (s:cn)(err:Int)(n:Nat):wN n (gu s err):=bU (aP.jU ah)
theorem agh {g:FuncId}{c:CF}{args:List AV}{H:Hp}{n p:Nat}{v0:AV}{s:cn}{err err':Int}(hc:J5 pG g=some c)(hl:(AV.ptr p 0::args).length<=c.nt)(hp:aP args)(hpn:p<n)(hb:H.get p=some (gu s err))
  (h:∀(F:Fr)(H0:Hp),(∀i,F.get i=(AV.ptr p 0::args)[i]?)->dh H0 n->H0.get p=some (gu s err)->VC pG c.code F H0 n [] (kU c.res λ v K _=>e_ (above n K) v v0/\(∀c,c<n->c≠p->K.get c=H0.get c)/\K.get p=some (gu s err'))):
  bu pG g (.ptr p 0::args) H n v0 (H.put p (some (gu s err'))) n:=by
 refine ak.okB (p:=p) [p] ah (by simp[hpn,hp.jU]) (by simpa using hpn) (λ b hm k hk=>?_) (xe _ _ _) λ H0 ht jm=>?_
 ·simp at hm;subst hm;rw[hb]at hk;injection hk with hk;subst hk;exact xe _ _ _
 refine(ak.of hc hl λ F hF=>h F H0 hF ht ((jm p ah).trans hb)).mono λ v K k ⟨h1,h2,h3⟩=>⟨h1,h2,_,h3,.inl rfl⟩
theorem yV (p:Nat)(s:cn)(err e:Int)(is:Bool)(H:Hp)(n:Nat)(hpn:p<n)(hp:H.get p=some (gu s err)):
  bu pG 50 [.ptr p 0,zI e,.bool is] H n (.bo []) (H.put p (some (gu s (keep err e is)))) n:=JP p _ _ err e is H n ah ah hpn hp
theorem aee (s:cn)(hs:s.gG)(name:List Nat)(p:Nat)(err:Int)(H:Hp)(n:Nat)(hpn:p<n)(hp:H.get p=some (gu s err)):
  bu pG 47 [.ptr p 0,.str name] H n (aH.av (s.named name).1) (H.put p (some (gu s (keep err 200 (!(s.named name).2))))) n:=by
 refine agh c47 (by simp[A47]) ah hpn hp λ F H0 hF ht hp0=>?_;have q:=ky hpn;have q':=Vj hpn;simp only[gu,zk]at hp0;simp[A47,hF,hp0,q];refine aB.pure (afg s hs name) ?_;generalize s.named name=t;simp[aii,hF,aZ.av];refine aB.ok (yV p s err 200 (!t.2) _ _ ae (by simp[q,hp0,gu,zk])) ?_;simp[aih,q,q'];refine⟨.pure _ ah,λ c h1 h2=>?_⟩;simp[h2,ky h1]
theorem alr (ns:List (List Nat))(ts:List bK)(hn:ns.length=ts.length)(hl:(aF ts).length<=aU)(ht:ts.length<=aU)(hc:∀t∈ts,t.cols.length<=aU)(s:cn)(e:Ex)(he:e.sz<=aU)(hm:e.may=true)(p:Nat)(err:Int)(H:Hp)(n:Nat)(hpn:p<n)(hp:H.get p=some (gu s err)):
  bu pG 128 [.ptr p 0,.agg (oN ns ts) 2,e.av] H n (.bo [(e.bd ns ts err).1.av,zI (e.bd ns ts err).2.1]) (H.put p (some (gu s (e.bd ns ts err).2.2))) n:=by
 refine agh c128 (by simp[A128]) (by simp[oN,Ex.av]) hpn hp λ F H0 hF htop hp0=>?_;have q:=ky hpn;have q':=Vj hpn;simp[A128,hF,oN];refine aB.pure (Hn ns ts hl ht hc) ?_;simp[adh,adg,adf];refine aB.ok (Vr ns ts (aH.ds s.tables) (bp.ds s.indexes) ah ah hn hl ht hc aU e err _ _ (n+1) n (n+1+1+1+1) (n+1+1+1+1+1) p he (aK _) hm ⟨by simp[oN],ah,ah,ah,by simp[q,hp0];rfl,ae,ae,ae,ae,ae⟩) ?_;generalize e.bd ns ts err=X;obtain⟨x1,kd,er⟩:=X;have q3:(n+1+1+1=p)=False:=by simp only[eq_iff_iff,iff_false];omega
 simp[q3,q];refine⟨.pure _ ah,λ c h1 h2=>?_,rfl⟩;simp[h2,ky h1]
theorem alK (e:Ex)(h:e.sz<=aU):aj pG 129 [e.av] (jg.ds e.split):=by
 refine aj.ofR (by simp[Ex.av]) ah ((alL e h .nil 0).lK.mono λ v H' n' ⟨h1,h2,h3⟩=>?_);subst h1 h2;rw[aZ.ds,ahl];exact .sl _ _ _ _ (e.split.length*8) [] (Ex.aT e.split) .nil (Ex.aT e.split) _ ah ah (bc.pure (Ex.yp _))
def dU (ns:List (List Nat))(ts:List bK)(e:Ex)(err:Int):List Ex×Int:=
 if e.bare 0 then ([],err)else ((e.bd ns ts err).1.split,keep (e.bd ns ts err).2.2 203 (decide ((e.bd ns ts err).2.1≠3)&&decide ((e.bd ns ts err).2.1≠0)))
mutual
theorem Ex.P0 (ns:List (List Nat)) (ts:List bK):∀(e:Ex) (err:Int),(e.bd ns ts err).1.sz<=e.sz
 |.mk op v t m cG args,err=>by
  unfold Ex.bd
  split
  ·split
   ·simp[Ex.sz,Ex.rL]
   exact aK _
  split
  ·exact aK _
  have:=Ex.Zd ns ts args err;simp only[Ex.sz];omega
theorem Ex.Zd (ns:List (List Nat))(ts:List bK):∀(l:List Ex)(err:Int),Ex.rL (Ex.lS ns ts l err).1<=Ex.rL l
 |[],err=>by simp[Ex.lS]
 |e::r,err=>by
  have h1:=Ex.P0 ns ts e err;have h2:=Ex.Zd ns ts r (e.bd ns ts err).2.2;simp only[Ex.lS,Ex.rL];omega
end
def C25 (e:Ex):Prop:=∀(ns:List (List Nat))(ts:List bK)(_hn:ns.length=ts.length)(_hl:(aF ts).length<=aU)(_ht:ts.length<=aU)(_hc:∀t∈ts,t.cols.length<=aU)(s:cn)(p:Nat)(err:Int)(H:Hp)(n:Nat)(_hpn:p<n)(_hp:H.get p=some (gu s err)),bu pG 53 [.ptr p 0,.agg (oN ns ts) 2,e.av] H n (jg.ds (dU ns ts e err).1) (H.put p (some (gu s (dU ns ts e err).2))) n
theorem aro {e:Ex}(h0:e.bare 0):C25 e:=by
 intro ns ts hn hl ht hc s p err H n hpn hp;refine agh c53 (by simp[A53]) (by simp[oN,Ex.av]) hpn hp λ F H0 hF htop hp0=>?_;have q:=ky hpn;have q':=Vj hpn;have hb:dU ns ts e err=([],err):=by simp[dU,h0]
 rw[hb];obtain⟨op,v,t,m,cG,args⟩:=e;have hop:op=0:=h0.1;simp[A53,hF,oN,Ex.av,Ex.cells,hop,q,hp0];refine⟨.nil 7,λ c h1 h2=>?_⟩;simp[ky h1]
theorem alP (ns:List (List Nat)) (ts:List bK) (hn:ns.length=ts.length) (hl:(aF ts).length<=aU) (ht:ts.length<=aU) (hc:∀t∈ts,t.cols.length<=aU) (s:cn) (e:Ex) (he:e.sz<=aU) (hm:e.maybe=true) (p:Nat) (err:Int) (H:Hp) (n:Nat) (hpn:p<n) (hp:H.get p=some (gu s err)):
  bu pG 53 [.ptr p 0,.agg (oN ns ts) 2,e.av] H n (jg.ds (dU ns ts e err).1) (H.put p (some (gu s (dU ns ts e err).2))) n:=by
 refine agh c53 (by simp[A53]) (by simp[oN,Ex.av]) hpn hp λ F H0 hF htop hp0=>?_;have q:=ky hpn;have q':=Vj hpn
 by_cases h0:e.bare 0
 ·have hb:dU ns ts e err=([],err):=by simp[dU,h0]
  rw[hb];obtain⟨op,v,t,m,cG,args⟩:=e;have hop:op=0:=h0.1;simp[A53,hF,oN,Ex.av,Ex.cells,hop,q,hp0];refine⟨.nil 7,λ c h1 h2=>?_⟩;simp[ky h1]
 have hmay:e.may=true:=by simpa[Ex.maybe,h0]using hm
 have hop:∀op v t m cG args,e=.mk op v t m cG args->¬op=0:=by
  rintro op v t m cG args rfl rfl;simp[Ex.may]at hmay
 have hsz:=Ex.P0 ns ts e err;have hx:=alr ns ts hn hl ht hc s e he hmay p err;have hb:dU ns ts e err=((e.bd ns ts err).1.split,keep (e.bd ns ts err).2.2 203 (decide ((e.bd ns ts err).2.1≠3)&&decide ((e.bd ns ts err).2.1≠0))):=by simp[dU,h0]
 rw[hb];generalize e.bd ns ts err=X at hx hsz ⊢;obtain⟨x1,kd,er⟩:=X;have hcj:=alK x1 (by simp at hsz;omega);obtain⟨op,v,t,m,cG,args⟩:=e;have hop:=hop op v t m cG args rfl;have hx:=λ H n=>hx H n;simp only[Ex.av,Ex.cells]at hx;simp[A53,hF,oN,Ex.av,Ex.cells,hop];refine aB.ok (hx _ _ ae (by simpa[q]using hp0)) ?_
 by_cases h3:kd=3
 ·simp[Qw,hF,h3];refine aB.ok (yV p s er 203 false _ _ ae (by simp[q])) ?_;simp[Qv,q'];refine aB.pure hcj ?_;simp;refine⟨.pure _ ah,λ c h1 h2=>?_⟩;simp[h2,ky h1]
 by_cases h4:kd=0
 ·simp[Qw,hF,h4];refine aB.ok (yV p s er 203 false _ _ ae (by simp[q])) ?_;simp[Qv,q'];refine aB.pure hcj ?_;simp;refine⟨.pure _ ah,λ c h1 h2=>?_⟩;simp[h2,ky h1]
 simp[Qw,hF,h3,h4];refine aB.ok (yV p s er 203 true _ _ ae (by simp[q])) ?_;simp[Qv,q'];refine aB.pure hcj ?_;simp;refine⟨.pure _ ah,λ c h1 h2=>?_⟩;simp[h2,ky h1]
theorem af4 {e:Ex}(he:e.sz<=aU)(hm:e.maybe=true):C25 e:=λ ns ts hn hl ht hc s p err H n hpn hp=>alP ns ts hn hl ht hc s e he hm p err H n hpn hp
def oY:aZ (List Ex) 1:=⟨λ l=>[jg.ds l],λ _=>rfl,λ _=>ah,λ _=>by simp[aZ.ds]⟩
def JZ:aZ (Int×Bool) 2:=⟨λ k=>[zI k.1,.bool k.2],λ _=>rfl,λ _=>ah,λ _=>ah⟩
theorem alE (l:List Ex):oY.cells l=[jg.ds l]:=rfl
theorem JY (x:Src):gf.cells x=.str x.table::.str x.name::x.cond.cells:=rfl
theorem ari (e:Ex):jg.cells e=e.cells:=rfl
@[simp] theorem aZ.auC {α:Type}{k:Nat}(E:aZ α k)(l:List α):(E.ds l).len=1:=Eq.trans rfl rfl
@[simp] theorem aZ.anH {α:Type}{k:Nat}(E:aZ α k)(l:List α):(E.ds l).cells=[E.ds l]:=Eq.trans rfl rfl
@[simp] theorem aZ.axn {α:Type}{k:Nat}(E:aZ α k)(l:List α):(E.ds l).one=true:=Eq.trans rfl rfl
structure dE where
 kind:Int
 table:List Nat
 name:List Nat
 cols:List oS
 on:List (List Nat)
 uniq:Bool
 rows:List (List Ex)
 sets:List St1
 cond:Ex
 q:bI
def dE.cells (x:dE):List AV:=zI x.kind::.str x.table::.str x.name::dL.ds x.cols::dy.ds x.on::.bool x.uniq::oY.ds x.rows::arb.ds x.sets::(x.cond.cells++x.q.cells)
@[simp] theorem bI.al2 (q:bI):q.cells.length=15:=q.bq
@[simp] theorem dE.bq (x:dE):x.cells.length=31:=by simp[dE.cells]
@[simp] theorem dE.pure (x:dE):aP x.cells:=by simp[dE.cells,bI.pure]
def dE.av (x:dE):AV:=.agg x.cells 31
@[simp] theorem dE.ayj (x:dE):Pure x.av:=by simp[dE.av]
theorem dE.cc (x:dE):(x.cells.drop 8).take 8=x.cond.cells:=by
 simp only[dE.cells,drop_succ_cons,drop_zero];rw[take_append_of_le_length ah,fN ah]
theorem dE.cq (x:dE):x.cells.drop 16=x.q.cells:=by
 simp only[dE.cells,drop_succ_cons];rw[drop_append_of_le_length ah,drop_eq_nil_of_le ah,nil_append]
structure oH where
 kind:Int
 name:List Nat:=[]
 table:bK:=bK.zero
 index:pf:=pf.zero
 cols:List oS:=[]
 rows:List (List Ex):=[]
 new:List Ex:=[]
 iR:List bK:=[]
 on:List (List Ex):=[]
 cond:List Ex:=[]
 items:List Ex:=[]
 names:List (List Nat):=[]
 kinds:List Int:=[]
 order:List (Int×Bool):=[]
 mD:Bool:=false
 limited:Bool:=false
 limit:Int:=0
def oH.cells (b:oH):List AV:=[zI b.kind,.str b.name,.int .u32 b.table.id,.str b.table.name,dL.ds b.table.cols,.int .u32 b.table.head,.int .u32 b.index.id,.int .u32 b.index.table,.str b.index.name,dA.ds b.index.cols,.bool b.index.uniq,.int .u32 b.index.root,
 dL.ds b.cols,oY.ds b.rows,jg.ds b.new,aH.ds b.iR,oY.ds b.on,jg.ds b.cond,jg.ds b.items,dy.ds b.names,dA.ds b.kinds,JZ.ds b.order,.bool b.mD,.bool b.limited,zI b.limit]
@[simp] theorem oH.pure (b:oH):aP b.cells:=by simp[oH.cells]
def oU (kind:Int):List AV:=[zI kind,.str [],.int .u32 0,.str [],.aV (.slice none 0 0),.int .u32 0,.int .u32 0,.int .u32 0,.str [],.aV (.slice none 0 0),.bool false,.int .u32 0,
 .aV (.slice none 0 0),.aV (.slice none 0 0),.aV (.slice none 0 0),.aV (.slice none 0 0),.aV (.slice none 0 0),.aV (.slice none 0 0),.aV (.slice none 0 0),.aV (.slice none 0 0),.aV (.slice none 0 0),.aV (.slice none 0 0),.bool false,.bool false,zI 0]
def oG (h:Hf):List AV->List AV->Prop
 |[],[]=>True
 |v::l,v'::l'=>FI h v v'/\oG h l l'
 |_,_=>False
@[simp] theorem aw0 (h:Hf):oG h [] []=True:=by simp[oG]
@[simp] theorem wY (h:Hf)(v v':AV)(l l':List AV):oG h (v::l) (v'::l')=(FI h v v'/\oG h l l'):=by simp[oG]
@[simp] theorem azg (h:Hf)(v:AV):FI h v v=True:=by simp[FI]
@[simp] theorem azh {α:Type}{k:Nat}(h:Hf)(E:aZ α (k+1)):FI h (.aV (.slice none 0 0)) (E.ds [])=True:=by
 simp only[eq_iff_iff,iff_true];exact .inr (.nil k)
theorem oG.at {h:Hf}:∀ {l l':List AV},oG h l l'->l'.length=l.length/\∀(i:Nat) v',l'[i]?=some v'->∃v,l[i]?=some v/\FI h v v'
 |[],[],_=>⟨rfl,λ i v' hv=>by simp at hv⟩
 |[],_::_,k=>by simp[oG]at k
 |_::_,[],k=>by simp[oG]at k
 |v::l,v'::l',k=>by
  simp only[wY]at k;obtain⟨h1,h2⟩:=oG.at k.2;refine⟨by simp[h1],λ i w hw=>?_⟩
  cases i with
  |zero=>simp at hw;subst hw;exact⟨v,rfl,k.1⟩
  |succ i=>simpa using h2 i w (by simpa using hw)
theorem oG.bz {h:Hf}{l l':List AV}{u:Nat}(k:oG h l l')(hu:l.length=u):BZ h (.cells u [] l .nil) (.cells u [] l' .nil):=by
 obtain⟨h1,h2⟩:=k.at;refine .inr ⟨u,[],l,.nil,l',rfl,rfl,ae,λ i v' hv=>?_⟩;obtain⟨v,h3,h4⟩:=h2 i v' hv;refine⟨v,?_,h4⟩;rw[jz,aw (by have:=(nH.1 h3).1;omega)];exact h3
theorem oG.refl (h:Hf):∀l:List AV,oG h l l
 |[]=>ah
 |v::l=>by simp[oG.refl h l]
theorem ar6 {g:FuncId}{c:CF}{args:List AV}{H:Hp}{n p o:Nat}{v0:AV}{s:cn}{err err':Int}{l0 l1:List AV}(hc:J5 pG g=some c)(hl:(AV.ptr p 0::(args++[.ptr o 0])).length<=c.nt)(hp:aP args)(hpn:p<n)(hon:o<n)(hpo:p≠o)(hb:H.get p=some (gu s err))(ho:H.get o=aR 25 l0)(hr0:dJ n l0)(hr1:dJ n l1)
  (h:∀(F:Fr)(H0:Hp),(∀i,F.get i=(AV.ptr p 0::(args++[.ptr o 0]))[i]?)->dh H0 n->H0.get p=some (gu s err)->H0.get o=aR 25 l0 ->
   VC pG c.code F H0 n [] (kU c.res λ v K _=>e_ (above n K) v v0/\(∀c,c<n->c≠p->c≠o->K.get c=H0.get c)/\K.get p=some (gu s err')/\∃l,K.get o=aR 25 l/\l.length=25/\oG (above n K) l l1)):
  bu pG g (.ptr p 0::(args++[.ptr o 0])) H n v0 ((H.put p (some (gu s err'))).put o (aR 25 l1)) n:=by
 refine ak.okZ [p,o] ?_ (by simp[hpn,hon]) (λ b hm k hk=>?_) (λ b hm k hk=>?_) (λ b hm=>?_) ?_
 ·simp only[iE,OA];refine⟨hpn,dJ.of λ v hv=>?_⟩
  rcases mem_append.1 hv with h1|h1
  ·exact(hp.jU (n:=n)).mem v h1
  simp at h1;subst h1;simpa using hon
 ·simp only[mem_cons,not_mem_nil,or_false]at hm
  rcases hm with rfl|rfl
  ·rw[hb]at hk;injection hk with hk;subst hk;exact xe _ _ _
  rw[ho]at hk;injection hk with hk;subst hk;exact bU hr0
 ·simp only[mem_cons,not_mem_nil,or_false]at hm
  rcases hm with rfl|rfl
  ·simp[hpo]at hk;subst hk;exact xe _ _ _
  simp at hk;subst hk;exact bU hr1
 ·simp at hm;simp[hm.1,hm.2]
 refine(ak.of hc hl λ F hF=>h F _ hF (lx (by simp[hpn,hon])) ((fH ah).trans hb) ((fH ah).trans ho)).mono λ v K k ⟨h1,h2,h3,l,h4,h5,h6⟩=>⟨h1,λ b hm y hy=>?_⟩;simp only[mem_cons,not_mem_nil,or_false]at hm
 rcases hm with rfl|rfl
 ·simp[hpo]at hy;subst hy;exact⟨_,h3,.inl rfl⟩
 simp at hy;subst hy;exact⟨_,h4,h6.bz h5⟩
def keeps (e:Int)(p:Nat->Bool):Nat->Int->Int
 |0,err=>err
 |n+1,err=>keep (keeps e p n err) e (p n)
def H9 (l:List oS)(i:Nat):oS:=l.getD i ⟨[],0,false⟩
def alV (l:List oS)(i:Nat):Bool:=(l.take i).any λ d=>decide (d.name=(H9 l i).name)
def af2 (s:cn)(x:dE)(err:Int):oH×Int:=({kind:=x.kind,name:=x.table,cols:=x.cols},keeps 205 (alV x.cols) x.cols.length (keep err 200 (s.named x.table).2))
def tZ (t:bK)(name:List Nat):Int:=kN (λ c:oS=>decide (c.name=name)) t.cols
def onE (t:bK)(on:List (List Nat)):Nat->Int->Int
 |0,err=>err
 |i+1,err=>keep (keep (onE t on i err) 201 (decide (tZ t (on.getD i [])<0))) 205 (decide (on.getD i []∈on.take i))
def indexB (s:cn)(x:dE)(err:Int):oH×Int:=
 ({kind:=x.kind,table:=(s.named x.table).1,index:={id:=0,table:=(s.named x.table).1.id,name:=x.name,cols:=x.on.map (tZ (s.named x.table).1),uniq:=x.uniq,root:=0}},onE (s.named x.table).1 x.on x.on.length (keep (keep err 200 (!(s.named x.table).2)) 202 (s.index x.name).2))
def yt (F:Fr):List Nat->Fr
 |[]=>.nil
 |b::r=>(yt F r).put b (F.get b)
theorem AZ (F:Fr)(L:List Nat)(c:Nat):(yt F L).get c=if c∈L then F.get c else none:=by
 induction L with
 |nil=>simp[yt]
 |cons b r ih =>
  simp only[yt,Tr.get_put,ih,mem_cons]
  by_cases h:c=b
  ·subst h;simp
  simp[h]
theorem ly {F:Fr}{L:List Nat}{c:Nat}(h:c∈L):(yt F L).get c=F.get c:=by rw[AZ,aw h]
theorem Ua {F:Fr}{L:List Nat}{c:Nat}{v:AV}(h:(yt F L).get c=some v):F.get c=some v:=by
 rw[AZ]at h
 split at h
 ·exact h
 cases h
theorem aC.avN {H:Hp}{n:Nat}{v:AV}{l:List AV}{len sz:Nat}(h:aC H n v l len sz):v.len=1/\v.cells=[v]:=by
 obtain⟨_,⟨rfl,_⟩|⟨b,k,rfl,_⟩⟩:=h<;>exact⟨rfl,rfl⟩
def afS (ns:List (List Nat))(ts:List bK)(e:Ex)(kind err:Int):Ex×Int:=((e.bd ns ts err).1,keep (e.bd ns ts err).2.2 203 (decide ((e.bd ns ts err).2.1≠0)&&decide ((e.bd ns ts err).2.1≠kind)))
def aqV (l:List Ex)(i:Nat):Ex:=l.getD i (.mk 0 ⟨0,0,[]⟩ [] [] 0 [])
def TL (cols:List oS)(r:List Ex):Nat->Int->List Ex×Int
 |0,err=>([],err)
 |i+1,err=>((TL cols r i err).1++[(afS [] [] (aqV r i) (H9 cols i).kind (TL cols r i err).2).1],(afS [] [] (aqV r i) (H9 cols i).kind (TL cols r i err).2).2)
def afA (t:bK):List (List Ex)->Int->List (List Ex)×Int
 |[],err=>([],err)
 |r::rs,err=>if keep err 204 (!decide (r.length=t.cols.length))≠0 then ([],keep err 204 (!decide (r.length=t.cols.length)))
  else ((TL t.cols r r.length (keep err 204 (!decide (r.length=t.cols.length)))).1::(afA t rs (TL t.cols r r.length (keep err 204 (!decide (r.length=t.cols.length)))).2).1,(afA t rs (TL t.cols r r.length (keep err 204 (!decide (r.length=t.cols.length)))).2).2)
def afz (s:cn)(x:dE)(err:Int):oH×Int:=
 ({kind:=x.kind,table:=(s.named x.table).1,rows:=(afA (s.named x.table).1 x.rows (keep err 200 (!(s.named x.table).2))).1},(afA (s.named x.table).1 x.rows (keep err 200 (!(s.named x.table).2))).2)
end Go.Abs
