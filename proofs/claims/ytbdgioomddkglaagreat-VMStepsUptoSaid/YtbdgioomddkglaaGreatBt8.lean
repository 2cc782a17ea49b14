/- A part. -/
import Derived.Test.YtbdgioomddkglaaGreatBt7
noncomputable section
namespace Go.Abs
open List
open Go.Proofs
open Classical
set_option maxRecDepth 100000
def truthS (s:MS)(v:Val)(j:Int):Int×MS:=if v.kind=3/\v.num=1 then (-1,s)else if v.kind=1∨v.kind=2 then (j,{s with least:=keepF s.least 30})else (j,s)
theorem truth54 {S:Hp}{n p rb cb:Nat}{rv tv:AV}{s:MS}(x:Ins) (i:Nat) (ha:x.a=(i:Int)) (hi:i<s.regs.length) (ht:Top S n) (M:Mach S n p rb cb rv tv s):
  CallR pG 54 [.ptr p 0,x.av] S n (λ u K k=>u=toT (truthS s s.regs[i] x.j).1/\ToldO K ((truthS s s.regs[i] x.j).2.told p rb cb rv tv)/\k<=n+2):=by
 refine CallR.of c54 (by simp[A54]) λ F hF=>?_;have gp0:=M.gp;have gp:=M.gp;obtain⟨y,gr,ho⟩:=M.gr;obtain⟨l1,l2,l3⟩:=M.lt;obtain⟨d1,d2,d3⟩:=M.ne;have hix:=cIxa_sl (b:=rb) (o:=0) (sz:=3) (k:=.i64) hi;have hld:=ldR (c:=3) ho (λ a=>a.cells_len) hi;rw[Nat.zero_add]at hix;generalize i*3=o at hix hld;generalize s.regs[i]=v at hld ⊢;simp only[MS.mc]at gp;simp only[Val.cells]at hld;have tn:=ht.none;simp[A54,B54,R54_0,R54_1,hF,Ins.av,Ins.cells,ha];refine DrwV.of (ce0_ok (P:=pG)) ?_;simp[clearF_get,hF,gp,neC l1,neC l2,hix,gr,hld,R54_2,R54_3,noneAt_cons,noneAt_nil,tn];unfold truthS
 by_cases h3:v.kind=3
 ·by_cases h1:v.num=1
  ·simp[h3,h1,R54_4,R54_5];refine⟨rfl,M.updR rfl rfl rfl (by simp[neC l1,gp,MS.mc]) ⟨_,by simp[neC l2,gr],ho⟩ λ b h1 h2 h3=>by simp[neC h1]⟩
  simp[h3,h1,R54_4,R54_9,clearF_get];refine⟨rfl,M.updR rfl rfl rfl (by simp[neC l1,gp,MS.mc]) ⟨_,by simp[neC l2,gr],ho⟩ λ b h1 h2 h3=>by simp[neC h1]⟩
 by_cases h12:v.kind=1∨v.kind=2
 ·have hkk:(decide (v.kind=1)=true)∨(v.kind≠1/\v.kind=2):=by
   rcases h12 with h | h
   ·exact .inl (by simp[h])
   exact .inr ⟨by omega,h⟩
  rcases h12 with h | h
  ·simp[h,R54_6,R54_8,clearF_get,hF];refine CalV.of (keep76 (s:=s) (rb:=rb) (cb:=cb) (rv:=rv) (tv:=tv) 30 (by omega) (by simp[neC l1,gp0])) λ u K k ⟨e1,g1,g2,e2⟩=>?_;subst e1 e2;simp[R54_9,clearF_get,g2,neD l1];refine⟨rfl,M.updR rfl rfl rfl g1 ⟨_,by simp[g2,d1.symm,neC l2,gr],ho⟩ λ b h1 h2 h3=>by simp[g2,h2,neC h1]⟩
  simp[h,R54_6,R54_7,R54_8,clearF_get,hF];refine CalV.of (keep76 (s:=s) (rb:=rb) (cb:=cb) (rv:=rv) (tv:=tv) 30 (by omega) (by simp[neC l1,gp0])) λ u K k ⟨e1,g1,g2,e2⟩=>?_;subst e1 e2;simp[R54_9,clearF_get,g2,neD l1];refine⟨rfl,M.updR rfl rfl rfl g1 ⟨_,by simp[g2,d1.symm,neC l2,gr],ho⟩ λ b h1 h2 h3=>by simp[g2,h2,neC h1]⟩
 simp[h3,show ¬v.kind=1 from λ e=>h12 (.inl e),show ¬v.kind=2 from λ e=>h12 (.inr e),R54_6,R54_7,R54_9,clearF_get];refine⟨rfl,M.updR rfl rfl rfl (by simp[neC l1,gp,MS.mc]) ⟨_,by simp[neC l2,gr],ho⟩ λ b h1 h2 h3=>by simp[neC h1]⟩
def colV (r:Option (List Val))(k:Nat):Val:=match r with | none=>valZ | some r=>r.getD k valZ
theorem col51 {S:Hp}{n p rb cb:Nat}{rv tv:AV}{s:MS}(x:Ins)(i q k:Nat)(ha:x.a=(i:Int))(hi:i<s.regs.length)(hb:x.b=(q:Int))(hq:q<s.curs.length)(hc:x.c=(k:Int))(hk:k<1000)(hr:∀r,(s.curs[q]).row=some r->r.length<=lim)(ht:Top S n)(M:Mach S n p rb cb rv tv s):
  CallR pG 51 [.ptr p 0,x.av] S n (λ u K k2=>u=toT (-1)/\ToldO K (({s with regs:=s.regs.set i (colV (s.curs[q]).row k)}:MS).told p rb cb rv tv)/\k2<=n+3):=by
 refine CallR.of c51 (by simp[A51]) λ F hF=>?_;have gp:=M.gp;obtain⟨y,gr,ho⟩:=M.gr;obtain⟨yc,gc,hoc⟩:=M.gc;obtain⟨l1,l2,l3⟩:=M.lt;obtain⟨d1,d2,d3⟩:=M.ne;have hix:=cIxa_sl (b:=rb) (o:=0) (sz:=3) (k:=.i64) hi;have hiq:=cIxa_sl (b:=cb) (o:=0) (sz:=5) (k:=.i64) hq;have hld:=ldR (c:=5) hoc (λ a=>a.cells_len) hq;generalize hcv:colV (s.curs[q]).row k=cv;obtain⟨y',hst,ho'⟩:=stR (b:=rb) (c:=3) ho (λ a=>a.cells_len) valOne (by omega) hi cv;rw[Nat.zero_add]at hix hiq;generalize i*3=o at hix hst;generalize q*5=oq at hiq hld;generalize s.curs[q]=cu at hld hcv hr;simp only[MS.mc]at gp;simp only[Cur.cells]at hld;simp only[Val.cells]at hst;have tn:=ht.none;simp[A51,B51,R51_0,R51_1,R51_2,hF,Ins.av,Ins.cells,ha,hb,hc];refine DrwV.of (ce0_ok (P:=pG)) ?_;have h1if:(ifcA cu.lst cu.b).one=true:=by unfold ifcA;split<;>rfl
 have h1ro:(rowN cu.row).one=true:=by unfold rowN;split<;>rfl
 simp[clearF_get,hF,gp,neC l1,neC l3,hiq,gc,hld,noneAt_cons,noneAt_nil,tn,h1if,h1ro]
 cases hrow:cu.row with
 | none =>
  rw[hrow]at hcv;have:cv=valZ:=hcv.symm;subst this;simp only[valZ]at hst;simp[R51_3,rowN,clearF_get,show ¬(k:Int)<0 by omega,R51_5];refine DrwV.of (ce0_ok (P:=pG)) ?_;simp[clearF_get,hF,gp,neC l1,neC l2,hix,gr,hst,R51_6];refine⟨rfl,M.updR rfl rfl rfl (by simp[d1,neC l1,gp,MS.mc]) ⟨_,by simp,ho'⟩ λ b h1 h2 h3=>by simp[h3,neC h1]⟩
 | some r =>
  rw[hrow]at hcv;have hrl:=hr r hrow;unfold lim at hrl
  by_cases hlt:k<r.length
  ·have hxx:=ixa_val (k:=.i64) hlt;have hcv2:cv=r[k]:=by rw[<-hcv];simp[colV,getD,hlt]
   have hlv:=λ H=>ld_val cv (valsC (r.drop (k+1))) H;rw[<-hcv2]at hxx;simp only[Val.av]at hlv;simp[R51_3,rowN,rowAV,clearF_get,hlt,R51_4,hxx,hlv,R51_5];refine DrwV.of (ce0_ok (P:=pG)) ?_;simp[clearF_get,hF,gp,neC l1,neC l2,hix,gr,hst,R51_6];refine⟨rfl,M.updR rfl rfl rfl (by simp[d1,neC l1,gp,MS.mc]) ⟨_,by simp,ho'⟩ λ b h1 h2 h3=>by simp[h3,neC h1]⟩
  have:cv=valZ:=by rw[<-hcv];simp[colV,getD,hlt]
  subst this;simp only[valZ]at hst;simp[R51_3,rowN,rowAV,clearF_get,hlt,R51_5];refine DrwV.of (ce0_ok (P:=pG)) ?_;simp[clearF_get,hF,gp,neC l1,neC l2,hix,gr,hst,R51_6];refine⟨rfl,M.updR rfl rfl rfl (by simp[d1,neC l1,gp,MS.mc]) ⟨_,by simp,ho'⟩ λ b h1 h2 h3=>by simp[h3,neC h1]⟩
def callS (s:MS)(i:Nat)(j:Int)(r:Val×Int):Int×MS:=if r.2≠0 then (j,{s with least:=keepF s.least r.2})else (-1,{s with regs:=s.regs.set i r.1})
def exV (v:Val):List AV:=[.int .i64 1,.int .i64 v.kind,.int .i64 v.num,.str v.s,.str [],.str [],.int .i64 0,.cst (.slice none 0 0)]
theorem cells1 (v:Val):Ex.cellsL [cE v]=(cE v).cells:=by simp[Ex.cellsL]
theorem cells2 (v w:Val):Ex.cellsL [cE v,cE w]=(cE v).cells++(cE w).cells:=by simp[Ex.cellsL]
theorem frzE (h:Hf)(v:Val):FrzL h (exV v) (cE v).cells:=by
 unfold cE exV;exact Ex.frz (.nil _)
theorem frz1 {H:Hp}{b:Nat}{l l':List AV}(h:H.get b=some (.cells 8 [] l .nil))(hl:l.length=8)(f:FrzL H.get l l'):Frz H.get (.sl b 0 1 8) (.ds l' 1 8):=by
 obtain⟨u,z,bs,t,e,hg⟩:=(OwnB.list (l:=l) hl.symm).grab (o:=0) (c:=1*8) (by omega);refine .sl _ _ _ _ _ _ _ _ _ _ (h.trans (by rw[e])) hg ?_;rw[drop_zero,take_of_length_le (by omega)];exact f
theorem call53a {S:Hp}{n p rb cb:Nat}{rv tv:AV}{s:MS}(x:Ins)(i q:Nat)(ha:x.a=(i:Int))(hi:i<s.regs.length)(hb:x.b=(q:Int))(hq:q<s.regs.length)(hx:4<=x.ex/\x.ex<8)(ht:Top S n)(M:Mach S n p rb cb rv tv s):
  CallR pG 53 [.ptr p 0,x.av] S n (λ u K k2=>u=toT (callS s i x.j (evalS x.ex [s.regs[q]])).1/\ToldO K ((callS s i x.j (evalS x.ex [s.regs[q]])).2.told p rb cb rv tv)/\k2<=n+10):=by
 refine CallR.of c53 (by simp[A53]) λ F hF=>?_;have gp0:=M.gp;have gp:=M.gp;obtain⟨y,gr,ho⟩:=M.gr;obtain⟨l1,l2,l3⟩:=M.lt;obtain⟨d1,d2,d3⟩:=M.ne;have hix:=cIxa_sl (b:=rb) (o:=0) (sz:=3) (k:=.i64) hi;have hiq:=cIxa_sl (b:=rb) (o:=0) (sz:=3) (k:=.i64) hq;have hld:=ldR (c:=3) ho (λ a=>a.cells_len) hq;rw[Nat.zero_add]at hix hiq;generalize q*3=oq at hiq hld;generalize s.regs[q]=v at hld ⊢;have hev:=eval75 (op:=x.ex) (l:=[v]) (.inl ⟨rfl,by omega,by omega⟩);generalize hr:evalS x.ex [v]=r at hev ⊢;have hst:∃y',stE 3 r.1.av (some y) rb (i*3)=.upd (.tup []) rb y'/\OwnB y' (flC Val.cells (s.regs.set i r.1)):=stR (b:=rb) (c:=3) ho (λ a=>a.cells_len) valOne (by omega) hi r.1;obtain⟨y',hst,ho'⟩:=hst;generalize i*3=o at hix hst;simp only[MS.mc]at gp;simp only[Val.cells]at hld;simp only[Val.av]at hst;have tn:=ht.none;simp[A53,B53,R53_0,R53_1,hF,Ins.av,Ins.cells,ha,hb];refine DrwV.of (ce0_ok (P:=pG)) ?_;simp[clearF_get,hF,gp,neC l1,neC l2,hiq,gr,hld,noneAt_cons,noneAt_nil,tn,R53_2,show ¬ 8<=x.ex by omega,R53_4];refine CalV.frz hev (by simp[vRes,Val.av]) ?_ ?_
 ·exact .cons _ _ _ _ (.agg _ _ _ (Ex.frz (op:=x.ex) (v:=valZ) (t:=[]) (m:=[]) (col:=0) (args:=[cE v]) (frz1 (l:=exV v) (by simp[exV]) rfl (by rw[cells1];exact frzE _ v)))) (.cons _ _ _ _ (.pure _ (by simp)) .nil)
 simp[vRes,Val.av,R53_5];unfold callS
 by_cases h0:r.2=0
 ·simp[h0,R53_8];refine DrwV.of (ce0_ok (P:=pG)) ?_;simp[clearF_get,hF,gp,neC l1,neC l2,hix,gr,hst,R53_9];refine⟨rfl,M.updR rfl rfl rfl (by simp[d1,neC l1,gp,MS.mc]) ⟨_,by simp,ho'⟩ (λ b h1 h2 h3=>by simp[h3,neC h1])⟩
 simp[h0,R53_6,clearF_get,hF];refine CalV.of (keep76 (s:=s) (rb:=rb) (cb:=cb) (rv:=rv) (tv:=tv) r.2 (by omega) (by simp[neC l1,gp0])) λ u K k ⟨e1,g1,g2,e2⟩=>?_;subst e1 e2;simp[R53_7,clearF_get,g2,neD l1];refine⟨rfl,M.updR rfl rfl rfl g1 ⟨_,by simp[g2,d1.symm,neC l2,gr],ho⟩ (λ b h1 h2 h3=>by simp[g2,h2,neC h1])⟩
theorem call53b {S:Hp}{n p rb cb:Nat}{rv tv:AV}{s:MS}(x:Ins)(i q:Nat)(ha:x.a=(i:Int))(hi:i<s.regs.length)(hb:x.b=(q:Int))(hq:q<s.regs.length)(k2:Nat)(hc:x.c=(k2:Int))(hk:k2<s.regs.length)(hx:8<=x.ex/\x.ex<=21)(ht:Top S n)(M:Mach S n p rb cb rv tv s):
  CallR pG 53 [.ptr p 0,x.av] S n (λ u K k3=>u=toT (callS s i x.j (evalS x.ex [s.regs[q],s.regs[k2]])).1/\ToldO K ((callS s i x.j (evalS x.ex [s.regs[q],s.regs[k2]])).2.told p rb cb rv tv)/\k3<=n+20):=by
 refine CallR.of c53 (by simp[A53]) λ F hF=>?_;have gp0:=M.gp;have gp:=M.gp;obtain⟨y,gr,ho⟩:=M.gr;obtain⟨l1,l2,l3⟩:=M.lt;obtain⟨d1,d2,d3⟩:=M.ne;have hix:=cIxa_sl (b:=rb) (o:=0) (sz:=3) (k:=.i64) hi;have hiq:=cIxa_sl (b:=rb) (o:=0) (sz:=3) (k:=.i64) hq;have hik:=cIxa_sl (b:=rb) (o:=0) (sz:=3) (k:=.i64) hk;have hld2:=ldR (c:=3) ho (λ a=>a.cells_len) hk;have hld:=ldR (c:=3) ho (λ a=>a.cells_len) hq;rw[Nat.zero_add]at hix hiq hik;generalize q*3=oq at hiq hld;generalize k2*3=ok at hik hld2;generalize s.regs[q]=v at hld ⊢;generalize s.regs[k2]=v2 at hld2 ⊢;have hev:=eval75 (op:=x.ex) (l:=[v,v2]) (.inr ⟨rfl,by omega,by omega⟩);generalize hr:evalS x.ex [v,v2]=r at hev ⊢;have hst:∃y',stE 3 r.1.av (some y) rb (i*3)=.upd (.tup []) rb y'/\OwnB y' (flC Val.cells (s.regs.set i r.1)):=stR (b:=rb) (c:=3) ho (λ a=>a.cells_len) valOne (by omega) hi r.1;obtain⟨y',hst,ho'⟩:=hst;generalize i*3=o at hix hst;simp only[MS.mc]at gp;simp only[Val.cells]at hld hld2;simp only[Val.av]at hst;have tn:=ht.none;simp[A53,B53,R53_0,R53_1,hF,Ins.av,Ins.cells,ha,hb,hc];refine DrwV.of (ce0_ok (P:=pG)) ?_;simp[clearF_get,hF,gp,neC l1,neC l2,hiq,gr,hld,noneAt_cons,noneAt_nil,tn,R53_2,show 8<=x.ex by omega,R53_3];refine DrwV.of (ce0_ok (P:=pG)) ?_;simp[clearF_get,hF,gp,neC l1,neC l2,hik,gr,hld2,noneAt_cons,noneAt_nil,tn];generalize hK:Tr.put _ (n+1+1+1) _=K0;have k0:K0.get n=some (.cells 15 [] [.int .i64 x.op,.int .i64 (i:Int),.int .i64 (q:Int),.int .i64 (k2:Int),.int .i64 x.n,.int .i64 x.j,.int .i64 x.ex,.int .u32 x.id,.int .i64 x.lo,.int .i64 x.hi,.bool x.loIn,.bool x.hiIn,.int .i64 x.v.kind,.int .i64 x.v.num,.str x.v.s] .nil):=by rw[<-hK];simp
 have k1:K0.get (n+1)=some (.cells 8 [] (exV v) .nil):=by rw[<-hK];simp[exV]
 have k2':K0.get (n+1+1)=some (.cells 8 [] [.int .i64 x.ex,.int .i64 0,.int .i64 0,.str [],.str [],.str [],.int .i64 0,.sl (n+1) 0 1 8] .nil):=by rw[<-hK];simp
 have k3:K0.get (n+1+1+1)=some (.cells 8 [] (exV v2) .nil):=by rw[<-hK];simp[exV]
 have kb:∀b,b<n->K0.get b=S.get b:=λ b hb=>by rw[<-hK];simp[neC hb]
 clear hK;have os:OwnS K0 (n+1+1+1+1) (.sl (n+1) 0 1 8) (exV v) 1 8:=⟨rfl,.inr ⟨n+1,_,rfl,by omega,k1,OwnB.list rfl⟩⟩;refine OwnS.appI (k:=1) (new:=exV v2) os (sliceCells_one k3) (by simp) rfl (by omega) (by omega) (by unfold big;omega) (by omega) rfl λ K1 o1 g1=>?_;have q0:=(g1 n (by omega) (by simp)).trans k0;have q2:=(g1 (n+1+1) (by omega) (by simp)).trans k2';have qb:∀b,b<n->K1.get b=S.get b:=λ b hb=>(g1 b (by omega) (by simp;omega)).trans (kb b hb);clear k0 k1 k2' k3 kb os g1;simp[q2,R53_4,clearF_get];refine CalV.frz hev (by simp[vRes,Val.av]) ?_ ?_
 ·have o2:=o1.frame (H':=K1.put (n+1+1) (some (.cells 8 [] [.int .i64 x.ex,.int .i64 0,.int .i64 0,.str [],.str [],.str [],.int .i64 0,.sl (n+1+1+1+1) 0 2 8] .nil))) (Nat.le_refl _) λ c hc=>by
   simp at hc;simp[show ¬c=n+1+1 by omega]
  exact .cons _ _ _ _ (.agg _ _ _ (Ex.frz (op:=x.ex) (v:=valZ) (t:=[]) (m:=[]) (col:=0) (args:=[cE v,cE v2]) (o2.frz (by rw[cells2];exact(frzE _ v).append (frzE _ v2)) (by omega)))) (.cons _ _ _ _ (.pure _ (by simp)) .nil)
 have qp:=(qb p l1).trans gp;have qr:=(qb rb l2).trans gr;simp[vRes,Val.av,R53_5];unfold callS
 by_cases h0:r.2=0
 ·simp[h0,R53_8];refine DrwV.of (ce0_ok (P:=pG)) ?_;simp[clearF_get,hF,qp,q0,neC l1,neC l2,hix,qr,hst,R53_9];refine⟨rfl,M.updR rfl rfl rfl (by simp[d1,neC l1,qp,MS.mc]) ⟨_,by simp,ho'⟩ (λ b h1 h2 h3=>by simp[h3,neC h1,qb b h1])⟩
 simp[h0,R53_6,clearF_get,hF];refine CalV.of (keep76 (s:=s) (rb:=rb) (cb:=cb) (rv:=rv) (tv:=tv) r.2 (by omega) (by simp[neC l1,(qb p l1).trans gp0])) λ u K k ⟨e1,g1,g2,e2⟩=>?_;subst e1 e2;simp[R53_7,clearF_get,g2,neD l1,q0];refine⟨rfl,M.updR rfl rfl rfl g1 ⟨_,by simp[g2,d1.symm,neC l2,qr],ho⟩ (λ b h1 h2 h3=>by simp[g2,h2,neC h1,qb b h1])⟩
theorem flC_dropN {α:Type}{f:α->List AV}{k:Nat}(hk:∀a,(f a).length=k)(l:List α)(i:Nat):(flC f l).drop (i*k)=flC f (l.drop i):=by
 by_cases h:i<l.length
 ·rw[flC_drop hk h,drop_eq_getElem_cons h,flC]
 rw[drop_eq_nil_of_le (by rw[flC_len hk];exact Nat.mul_le_mul_right k (by omega)),drop_eq_nil_of_le (by omega)];rfl
theorem valsC_fl (l:List Val):valsC l=flC Val.cells l:=by
 induction l with
 | nil=>rfl
 | cons a r ih=>rw[valsC,ih];rfl
theorem cSlc_sl {b len sz i j:Nat}{k:IntKind}(h:i<=j)(h2:j<=len):cSlc sz (some (.int k (i:Int))) (some (.int k (j:Int))) none (.sl b 0 len sz)=.val (.sl b (i*sz) (j - i) sz):=by
 unfold cSlc
 have:bnds len (some (.int k (i:Int))) (some (.int k (j:Int))) none=some (i,j):=by
  simp[bnds,show bnd len (some (.int k (j:Int)))=some j from rfl,show bnd 0 (some (.int k (i:Int)))=some i from rfl,show bnd len none=some len from rfl,h,h2]
 simp only[this];simp[forceN_eq]
theorem cloneP (r:List Val)(hr:r.length<=lim):FnPure pG 28 [rowAV r] (rowAV r):=by
 have:=clone_ok (z:=[.int .i64 0,.int .i64 0,.str []]) (sz:=3) (by_:=32) c28 (by omega) (by omega) (by omega) (valsC r) r.length hr (by simp) (by simp) (by rw[valsC_fl];exact flC_one valOne r);exact this
theorem rlt_own {n:Nat}{y:ABlk}{l:List AV}(ho:OwnB y l)(h:RLtL n l):RLtB n y:=by
 obtain⟨u,z,bs,t,rfl,hu,hg,hi⟩:=ho;intro i v hv;rw[hg]at hv;exact h.mem v (mem_of_getElem? hv)
theorem cloneR {H:Hp}{n rb i N:Nat}{y:ABlk}{l:List Val}(hb:rb<n) (hy:H.get rb=some y) (ho:OwnB y (flC Val.cells l)) (h:i+N<=l.length) (hN:N<=lim):CallOk pG 28 [.sl rb (i*3) N 3] H n (rowAV ((l.drop i).take N)) H n:=by
 refine CallR.okN [rb] (by simpa using hb) (by simpa using hb) (λ c hm k hk=>?_) λ H0 ht hin=>?_
 ·simp at hm;subst hm;rw[hy]at hk;injection hk with hk;subst hk;exact rlt_own ho (rlt_flC λ a _=>by simp[Val.cells])
 have hy0:=(hin rb (by simp)).trans hy;have hlen:((l.drop i).take N).length=N:=by simp;omega
 have hsc:∀K:Hp,K.get rb=some y->sliceCells K 3 (.sl rb (i*3) N 3)=some (valsC ((l.drop i).take N)):=by
  intro K hK;obtain⟨u,z,bs,t,rfl,hg⟩:=ho.grab (o:=i*3) (c:=N*3) (by rw[flC_len (λ a=>a.cells_len)];omega);simp only[sliceCells,hK];rw[hg,flC_dropN (λ a=>a.cells_len),flC_take (λ a=>a.cells_len),valsC_fl];rfl
 refine CallR.of c28 (by simp[A28]) λ F hF=>?_;simp[A28,B28,R28_0,R28_1,hF,cEq,eqVal,R28_3];have ow:OwnS (H0.put n (some (.cells 0 [] [] .nil))) (n+1) (.sl n 0 0 3) [] 0 3:=⟨by simp,.inr ⟨n,_,rfl,by omega,(Tr.get_put _ _ _ _).trans (if_pos rfl),OwnB.list rfl⟩⟩;have hs1:=hsc (H0.put n (some (.cells 0 [] [] .nil))) (by simp[show ¬rb=n by omega,hy0]);have hpu:FrzL (above n H0) (valsC ((l.drop i).take N)) (valsC ((l.drop i).take N)):=FrzL.pure (by simp);unfold lim at hN
 rcases Nat.eq_zero_or_pos N with h0 | h0
 ·subst h0
  have e2:cApp 3 32 (n+1) (.sl n 0 0 3) (.sl rb (i*3) 0 3) (H0.put n (some (.cells 0 [] [] .nil)))=.val (.sl n 0 0 3):=by
   unfold Go.Abs.cApp;rw[hs1];simp[cApp1]
  rw[e2];simp[rowAV,valsC];refine⟨?_,λ c hc=>by simp[show ¬c=n by omega]⟩;refine .sl _ _ _ _ 0 [] [] .nil [] _ (by simp[above]) rfl .nil
 refine OwnS.app (k:=N) (new:=valsC ((l.drop i).take N)) ow hs1 (by simp) (by simp[hlen]) (by omega) h0 (by unfold big;omega) (by omega) (by rw[valsC_fl];exact flC_one valOne _) λ K1 o1 g1=>?_;rw[Nat.zero_add]at o1 ⊢;simp;refine⟨?_,λ c hc=>(g1 c (by omega) (by simp;omega)).trans (by simp[show ¬c=n by omega])⟩;unfold rowAV;rw[hlen];obtain⟨h3,⟨h4,_⟩ | ⟨b,k,h4,h5,h6,h7⟩⟩:=o1
 ·cases h4
 injection h4 with h4;subst h4;obtain⟨u,z,bs,t,rfl,hg⟩:=h7.grab (o:=0) (c:=N*3) (by simp at h3 ⊢;omega);refine .sl _ _ _ _ _ _ _ _ _ _ ?_ hg ?_
 ·unfold above;rw[if_pos (by omega)];exact h6
 rw[drop_zero,take_of_length_le (by simp at h3 ⊢;omega)];exact FrzL.pure (by simp)
def MS.roomy (s:MS):Prop:=s.rows.length+s.takes.length<4096
def MS.fulled (s:MS):MS:={s with full:=true,ended:=true}
theorem room77 {S:Hp}{n p rb cb:Nat}{rv tv:AV}{s:MS}(h1:slOk rv s.rows.length 1)(h2:slOk tv s.takes.length 3)(hl:s.rows.length+s.takes.length<=4096)(gp:S.get p=some (.cells 13 [] (s.mc rb cb rv tv) .nil)):
  CallR pG 77 [.ptr p 0] S n (λ u K k=>u=.bool (decide s.roomy)/\K.get p=some (.cells 13 [] ((if s.roomy then s else s.fulled).mc rb cb rv tv) .nil)/\(∀b,b≠p->K.get b=S.get b)/\k=n):=by
 refine CallR.of c77 (by simp[A77]) λ F hF=>?_;have gp':=gp;simp only[MS.mc]at gp';have e1:=h1.len;have e2:=h2.len;simp[A77,B77,R77_0,R77_1];refine DrwV.of (ce0_ok (P:=pG)) ?_;have w1:IntKind.i64.wrap ((s.rows.length:Int)+(s.takes.length:Int))=((s.rows.length+s.takes.length:Nat):Int):=by rw[wrap_sm _ (by omega) (by omega)];omega
 have ad:cAdd (.int .i64 (s.rows.length:Int)) (.int .i64 (s.takes.length:Int))=.val (.int .i64 ((s.rows.length+s.takes.length:Nat):Int)):=by
  simp[cAdd,w1]
 generalize hn:s.rows.length+s.takes.length=N at *;have hr:s.roomy↔N<4096:=by unfold MS.roomy;rw[hn]
 simp[clearF_get,hF,gp',e1,e2,ad]
 by_cases h:N<4096
 ·simp[h,show (N:Int)<4096 by omega,R77_2,hr,gp]
 have hb:¬((N:Int)<4096):=by omega
 simp[hb,h,R77_3,R77_4,hr,clearF_get,hF,gp',MS.fulled];refine⟨by simp[MS.mc],λ b h=>by simp[h]⟩
def emitS (s:MS)(i N:Nat):MS:=if s.roomy then {s with rows:=s.rows++[(s.regs.drop i).take N]} else s.fulled
theorem Mach.notP {H:Hp}{n p rb cb:Nat}{rv tv:AV}{s:MS}(M:Mach H n p rb cb rv tv s):∀c,blk rv=some c->c≠p:=by
 intro c hc e;subst e;have:=M.lay.nd;simp only[MS.told,map_cons,nodup_cons,mem_cons,not_or]at this;exact this.1.2.2 (mem_map_of_mem (mem_append_left _ (slT_mem hc _)))
theorem Mach.updE {S K:Hp}{n p rb cb b:Nat}{rv tv:AV}{s s':MS}{len sz:Nat}(M:Mach S n p rb cb rv tv s)(e1:s'.regs=s.regs)(e2:s'.takes=s.takes)(e3:s'.curs=s.curs)(hp:K.get p=some (.cells 13 [] (s'.mc rb cb (.sl b 0 len sz) tv) .nil))(hr:∃y,K.get b=some y/\OwnB y (rowsC s'.rows))
  (hk:∀c,c<n->c≠p->blk rv≠some c->K.get c=S.get c):ToldO K (s'.told p rb cb (.sl b 0 len sz) tv):=by
 have hnd:=M.lay.nd;have hlt:=M.lay.lt;have htl:=M.told;simp only[MS.told,map_cons,nodup_cons,mem_cons,not_or]at hnd hlt htl;have hnp:∀c,blk rv=some c->c≠rb/\c≠cb:=λ c hc=>⟨λ e=>hnd.2.1.2 (by rw[<-e];exact mem_map_of_mem (mem_append_left _ (slT_mem hc _))),λ e=>hnd.2.2.1 (by rw[<-e];exact mem_map_of_mem (mem_append_left _ (slT_mem hc _)))⟩;intro e he;simp only[MS.told,e1,e2,e3,mem_cons]at he
 rcases he with rfl | rfl | rfl | he
 ·exact⟨_,hp,OwnB.list rfl⟩
 ·exact⟨_,(hk _ (hlt _ (.inr (.inl rfl))) (Ne.symm hnd.1.1) λ h=>(hnp _ h).1 rfl).trans (htl _ (.inr (.inl rfl))),OwnB.list rfl⟩
 ·exact⟨_,(hk _ (hlt _ (.inr (.inr (.inl rfl)))) (Ne.symm hnd.1.2.1) λ h=>(hnp _ h).2 rfl).trans (htl _ (.inr (.inr (.inl rfl)))),OwnB.list rfl⟩
 rw[mem_append]at he
 rcases he with he | he
 ·simp[slT]at he;subst he;exact hr
 have hm:=hlt e (.inr (.inr (.inr (List.mem_append_right _ he))));have ht:=htl e (.inr (.inr (.inr (List.mem_append_right _ he))));refine⟨_,(hk e.1 hm (λ h=>hnd.1.2.2 (by rw[<-h];exact mem_map_of_mem (List.mem_append_right _ he))) λ h=>?_).trans ht,OwnB.list rfl⟩;have hd:=hnd.2.2.2;rw[map_append,nodup_append]at hd;exact hd.2.2 e.1 (mem_map_of_mem (f:=(·.1)) (slT_mem h (rowsC s.rows))) e.1 (mem_map_of_mem he) rfl
theorem emit55 {S:Hp}{n p rb cb:Nat}{rv tv:AV}{s:MS}(x:Ins)(i N:Nat)(ha:x.a=(i:Int))(hn:x.n=(N:Int))(hi:i+N<=s.regs.length)(hN:N<=16)(hR:s.regs.length<=256)(hr:s.roomy)(ht:Top S n)(M:Mach S n p rb cb rv tv s):
  CallR pG 55 [.ptr p 0,x.av] S n (λ u K k=>u=toT (-1)/\ToldO K ((emitS s i N).told p rb cb (.sl (n+2) 0 (s.rows.length+1) 1) tv)/\k<=n+10):=by
 refine CallR.of c55 (by simp[A55]) λ F hF=>?_;have gp0:=M.gp;have gp:=M.gp;obtain⟨y,gr,ho⟩:=M.gr;obtain⟨l1,l2,l3⟩:=M.lt;obtain⟨d1,d2,d3⟩:=M.ne;have tn:=ht.none;simp[A55,B55,R55_0,R55_1,hF,Ins.av,Ins.cells,ha,hn];refine CalV.of (room77 (s:=s) (rb:=rb) (cb:=cb) M.lay.rv M.lay.tv M.fine.rows (by simp[neC l1,gp0])) λ u K k ⟨e1,g1,g2,e2⟩=>?_;subst e1 e2;rw[if_pos hr]at g1;simp only[hr,decide_true];have kr:=(g2 rb (Ne.symm d1)).trans ((show _=S.get rb by simp[neC l2]).trans gr);have k0:=(g2 n (by omega)).trans (show _=some (ABlk.cells 15 [] _ .nil) by simp;rfl)
 have kb:∀b,b<n->K.get b=S.get b:=λ b hb=>by
  by_cases e:b=p
  ·subst e;rw[g1,gp0]
  rw[g2 b e];simp[neC hb]
 have kt:Top K (n+1):=λ b hb=>by rw[g2 b (by omega)];simp[show ¬b=n by omega,ht b (by omega)]
 clear g2;have gp':=g1;simp only[MS.mc]at gp';have hcl:CallOk pG 28 [.sl rb (i*3) N 3] K (n+1) (rowAV ((s.regs.drop i).take N)) K (n+1):=cloneR (by omega) kr ho hi (by unfold lim;omega);have hsl:=cSlc_sl (b:=rb) (len:=s.regs.length) (sz:=3) (k:=.i64) (i:=i) (j:=i+N) (by omega) hi;rw[show i+N - i=N by omega]at hsl
 have ad:cAdd (.int .i64 (i:Int)) (.int .i64 (N:Int))=.val (.int .i64 ((i+N:Nat):Int)):=by
  simp[cAdd];rw[wrap_sm _ (by omega) (by omega)]
 generalize hrow:(s.regs.drop i).take N=row at hcl;generalize ((i+N:Nat):Int)=iN at hsl ad;generalize i*3=o at hcl hsl;simp[R55_2];refine DrwV.of (ceL_ok (l:=[⟨28,[.sl rb o N 3],K,n+1,rowAV row,K,n+1⟩]) ?_) ?_
 ·simp only[mem_singleton];rintro _ rfl;exact hcl
 have tk:=kt.none;have h1:(rowAV row).one=true:=rfl
 have ow:OwnS K (n+1) rv (rowsC s.rows) s.rows.length 1:=by
  refine⟨by simp[rowsC],?_⟩
  rcases M.lay.rv with⟨e1,e2⟩ | ⟨b,e⟩
  ·exact .inl ⟨e1,e2⟩
  subst e;have hm:(b,rowsC s.rows)∈s.told p rb cb (.sl b 0 s.rows.length 1) tv:=by simp[MS.told,slT]
  have hb:=M.lay.lt _ hm;exact .inr ⟨b,_,rfl,by simp at hb;omega,(kb b hb).trans (M.told _ hm),OwnB.list rfl⟩
 have nrv:∀c,blk rv=some c->c<n:=λ c hc=>M.lay.lt (c,rowsC s.rows) (by simp[MS.told,slT_mem hc]);have h2:(rowAV row).len=1:=rfl;have h3:(rowAV row).cells=[rowAV row]:=rfl;simp[clearF_get,gp',k0,hsl,ad,ceL_hd,noneAt_cons,noneAt_nil,tk,h1,h2,h3,hF,neC l1,neC l2];generalize hK1:K.put (n+1) _=K1;have g1n:K1.get (n+1)=some (.cells 1 [] [rowAV row] .nil):=by rw[<-hK1];simp
 have g1b:∀c,c≠n+1->K1.get c=K.get c:=λ c hc=>by rw[<-hK1];simp[hc]
 clear hK1;refine OwnS.appK (k:=1) (new:=[rowAV row]) (ow.frame (n':=n+1+1) (by omega) λ c hc=>g1b c (by have:=nrv c hc;omega)) (sliceCells_one g1n) (by simp) (by simp) (by omega) (by omega) (by have:=M.fine.rows;unfold big;omega) (by omega) (by simp[h1]) λ K2 o2 g2=>?_;have hnp:rv≠.sl p 0 s.rows.length 1:=λ e=>M.notP p (by rw[e];rfl) rfl;have q1:=(g2 p (by omega) hnp).trans (g1b p (by omega));have hone:=o2.isOne;simp[clearF_get,hF,q1,gp',noneAt_cons,noneAt_nil,tk,R55_3];generalize hK3:K2.put p _=K3;have q3:K3.get p=some (.cells 13 [] ((emitS s i N).mc rb cb (.sl (n+1+1) 0 (s.rows.length+1) 1) tv) .nil):=by rw[<-hK3];simp[emitS,hr,MS.mc]
 have q4:∀c,c≠p->K3.get c=K2.get c:=λ c hc=>by rw[<-hK3];simp[hc]
 clear hK3;obtain⟨h5,⟨h6,_⟩ | ⟨b,k,h6,h7,h8,h9⟩⟩:=o2
 ·cases h6
 injection h6 with h6;subst h6;refine⟨rfl,M.updE (s':=emitS s i N) (by simp[emitS,hr]) (by simp[emitS,hr]) (by simp[emitS,hr]) q3 ⟨k,(q4 _ (by omega)).trans h8,by simpa[emitS,hr,rowsC,hrow]using h9⟩ λ c h1 h2 h3=>?_⟩;rw[q4 c h2,g2 c (by omega) (λ e=>h3 (by rw[e];rfl)),g1b c (by omega),kb c h1]
theorem emit55f {S:Hp}{n p rb cb:Nat}{rv tv:AV}{s:MS}(x:Ins)(i N:Nat)(hr:¬s.roomy)(ht:Top S n)(M:Mach S n p rb cb rv tv s):
  CallR pG 55 [.ptr p 0,x.av] S n (λ u K k=>u=toT (-1)/\ToldO K ((emitS s i N).told p rb cb rv tv)/\k<=n+1):=by
 refine CallR.of c55 (by simp[A55]) λ F hF=>?_;have gp0:=M.gp;obtain⟨y,gr,ho⟩:=M.gr;obtain⟨l1,l2,l3⟩:=M.lt;obtain⟨d1,d2,d3⟩:=M.ne;simp[A55,B55,R55_0,R55_1,hF,Ins.av,Ins.cells];refine CalV.of (room77 (s:=s) (rb:=rb) (cb:=cb) M.lay.rv M.lay.tv M.fine.rows (by simp[neC l1,gp0])) λ u K k ⟨e1,g1,g2,e2⟩=>?_;subst e1 e2;rw[if_neg hr]at g1;simp[hr,R55_3];refine⟨rfl,M.updR (s':=emitS s i N) (by simp[emitS,hr,MS.fulled]) (by simp[emitS,hr,MS.fulled]) (by simp[emitS,hr,MS.fulled]) (by simpa[emitS,hr]using g1) ⟨y,by rw[g2 rb (Ne.symm d1)];simp[neC l2,gr],by simpa[emitS,hr,MS.fulled]using ho⟩ (λ b h1 h2 h3=>by rw[g2 b h2];simp[neC h1])⟩
def takeS (s:MS)(c:Cur)(i N:Nat):MS:={s with takes:=s.takes++[⟨c.page,c.slot,(s.regs.drop i).take N⟩]}
theorem take56a {S:Hp}{n p rb cb:Nat}{rv tv:AV}{s:MS}(x:Ins)(q:Nat)(ha:x.a=(q:Int))(hq:q<s.curs.length)(ht:Top S n)(M:Mach S n p rb cb rv tv s)(h:(s.curs[q]).there=false∨¬s.roomy):
  CallR pG 56 [.ptr p 0,x.av] S n (λ u K k=>u=toT (-1)/\ToldO K ((if (s.curs[q]).there=true then s.fulled else s).told p rb cb rv tv)/\k<=n+2):=by
 refine CallR.of c56 (by simp[A56]) λ F hF=>?_;have gp0:=M.gp;have gp:=M.gp;obtain⟨y,gr,ho⟩:=M.gr;obtain⟨yc,gc,hoc⟩:=M.gc;obtain⟨l1,l2,l3⟩:=M.lt;obtain⟨d1,d2,d3⟩:=M.ne;have hiq:=cIxa_sl (b:=cb) (o:=0) (sz:=5) (k:=.i64) hq;have hld:=ldR (c:=5) hoc (λ a=>a.cells_len) hq;rw[Nat.zero_add]at hiq;generalize q*5=oq at hiq hld;generalize s.curs[q]=cu at hld h ⊢;simp only[MS.mc]at gp;simp only[Cur.cells]at hld;have tn:=ht.none;have h1if:(ifcA cu.lst cu.b).one=true:=by unfold ifcA;split<;>rfl
 have h1ro:(rowN cu.row).one=true:=by unfold rowN;split<;>rfl
 simp[A56,B56,R56_0,R56_1,hF,Ins.av,Ins.cells,ha];refine DrwV.of (ce0_ok (P:=pG)) ?_;simp[clearF_get,hF,gp,neC l1,neC l3,neD l1,neD l3,hiq,gc,hld,noneAt_cons,noneAt_nil,tn,h1if,h1ro,R56_2]
 cases hth:cu.there with
 | false =>
  simp[R56_4,clearF_get];refine⟨rfl,M.updR rfl rfl rfl (by simp[neC l1,gp,MS.mc]) ⟨_,by simp[neC l2,gr],ho⟩ (λ b h1 h2 h3=>by simp[neC h1])⟩
 | true =>
  have hr:¬s.roomy:=by
   rcases h with h | h
   ·rw[hth]at h;cases h
   exact h
  simp[clearF_get,hF];refine CalV.of (room77 (s:=s) (rb:=rb) (cb:=cb) M.lay.rv M.lay.tv M.fine.rows (by simp[neC l1,gp0])) λ u K k ⟨e1,g1,g2,e2⟩=>?_;subst e1 e2;rw[if_neg hr]at g1;simp[hr,R56_4,clearF_get];refine⟨rfl,M.updR (s':=s.fulled) rfl rfl rfl g1 ⟨y,by rw[g2 rb (Ne.symm d1)];simp[neC l2,gr],ho⟩ (λ b h1 h2 h3=>by rw[g2 b h2];simp[neC h1])⟩
theorem Mach.notT {H:Hp}{n p rb cb:Nat}{rv tv:AV}{s:MS}(M:Mach H n p rb cb rv tv s):∀c,blk tv=some c->c≠p:=by
 intro c hc e;subst e;have:=M.lay.nd;simp only[MS.told,map_cons,nodup_cons,mem_cons,not_or]at this;exact this.1.2.2 (mem_map_of_mem (List.mem_append_right _ (mem_append_left _ (slT_mem hc _))))
theorem Mach.updT {S K:Hp}{n p rb cb b:Nat}{rv tv:AV}{s s':MS}{len sz:Nat}(M:Mach S n p rb cb rv tv s)(e1:s'.regs=s.regs)(e2:s'.rows=s.rows)(e3:s'.curs=s.curs)(hp:K.get p=some (.cells 13 [] (s'.mc rb cb rv (.sl b 0 len sz)) .nil))(hr:∃y,K.get b=some y/\OwnB y (flC Tk.cells s'.takes))
  (hk:∀c,c<n->c≠p->blk tv≠some c->K.get c=S.get c):ToldO K (s'.told p rb cb rv (.sl b 0 len sz)):=by
 have hnd:=M.lay.nd;have hlt:=M.lay.lt;have htl:=M.told;simp only[MS.told,map_cons,nodup_cons,mem_cons,not_or]at hnd hlt htl;have hnp:∀c,blk tv=some c->c≠rb/\c≠cb:=λ c hc=>⟨λ e=>hnd.2.1.2 (by rw[<-e];exact mem_map_of_mem (List.mem_append_right _ (mem_append_left _ (slT_mem hc _)))),λ e=>hnd.2.2.1 (by rw[<-e];exact mem_map_of_mem (List.mem_append_right _ (mem_append_left _ (slT_mem hc _))))⟩;have hd:=hnd.2.2.2;rw[map_append,nodup_append,map_append,nodup_append]at hd;intro e he;simp only[MS.told,e1,e2,e3,mem_cons]at he
 rcases he with rfl | rfl | rfl | he
 ·exact⟨_,hp,OwnB.list rfl⟩
 ·exact⟨_,(hk _ (hlt _ (.inr (.inl rfl))) (Ne.symm hnd.1.1) λ h=>(hnp _ h).1 rfl).trans (htl _ (.inr (.inl rfl))),OwnB.list rfl⟩
 ·exact⟨_,(hk _ (hlt _ (.inr (.inr (.inl rfl)))) (Ne.symm hnd.1.2.1) λ h=>(hnp _ h).2 rfl).trans (htl _ (.inr (.inr (.inl rfl)))),OwnB.list rfl⟩
 rw[mem_append,mem_append]at he
 rcases he with he | he | he
 ·have hm:=hlt e (.inr (.inr (.inr (mem_append_left _ he))));have ht:=htl e (.inr (.inr (.inr (mem_append_left _ he))));refine⟨_,(hk e.1 hm (λ h=>hnd.1.2.2 (by rw[<-h];exact mem_map_of_mem (mem_append_left _ he))) λ h=>?_).trans ht,OwnB.list rfl⟩;exact hd.2.2 e.1 (mem_map_of_mem he) e.1 (mem_append_left _ (mem_map_of_mem (f:=(·.1)) (slT_mem h (flC Tk.cells s.takes)))) rfl
 ·simp[slT]at he;subst he;exact hr
 have hm:=hlt e (.inr (.inr (.inr (List.mem_append_right _ (List.mem_append_right _ he)))));have ht:=htl e (.inr (.inr (.inr (List.mem_append_right _ (List.mem_append_right _ he)))));refine⟨_,(hk e.1 hm (λ h=>hnd.1.2.2 (by rw[<-h];exact mem_map_of_mem (List.mem_append_right _ (List.mem_append_right _ he)))) λ h=>?_).trans ht,OwnB.list rfl⟩;exact hd.2.1.2.2 e.1 (mem_map_of_mem (f:=(·.1)) (slT_mem h (flC Tk.cells s.takes))) e.1 (mem_map_of_mem he) rfl
theorem take56 {S:Hp}{n p rb cb:Nat}{rv tv:AV}{s:MS}(x:Ins)(q i N:Nat)(hq0:x.a=(q:Int))(hq:q<s.curs.length)(ha:x.b=(i:Int))(hn:x.n=(N:Int))(hi:i+N<=s.regs.length)(hN:N<=16)(hR:s.regs.length<=256)(hr:s.roomy)(hth:(s.curs[q]).there=true)(ht:Top S n)(M:Mach S n p rb cb rv tv s):
  CallR pG 56 [.ptr p 0,x.av] S n (λ u K k=>u=toT (-1)/\ToldO K ((takeS s s.curs[q] i N).told p rb cb rv (.sl (n+3) 0 (s.takes.length+1) 3))/\k<=n+10):=by
 refine CallR.of c56 (by simp[A56]) λ F hF=>?_;have gp0:=M.gp;have gp:=M.gp;obtain⟨y,gr,ho⟩:=M.gr;obtain⟨yc,gc,hoc⟩:=M.gc;obtain⟨l1,l2,l3⟩:=M.lt;obtain⟨d1,d2,d3⟩:=M.ne;have hiq:=cIxa_sl (b:=cb) (o:=0) (sz:=5) (k:=.i64) hq;have hld:=ldR (c:=5) hoc (λ a=>a.cells_len) hq;rw[Nat.zero_add]at hiq;generalize q*5=oq at hiq hld;generalize s.curs[q]=cu at hld hth ⊢;have tn:=ht.none;have h1if:(ifcA cu.lst cu.b).one=true:=by unfold ifcA;split<;>rfl
 have h1ro:(rowN cu.row).one=true:=by unfold rowN;split<;>rfl
 simp only[MS.mc]at gp;simp only[Cur.cells]at hld;simp[A56,B56,R56_0,R56_1,hF,Ins.av,Ins.cells,hq0,ha,hn];refine DrwV.of (ce0_ok (P:=pG)) ?_;simp[clearF_get,hF,gp,neC l1,neC l3,neD l1,neD l3,hiq,gc,hld,noneAt_cons,noneAt_nil,tn,h1if,h1ro,R56_2,hth];refine CalV.of (room77 (s:=s) (rb:=rb) (cb:=cb) M.lay.rv M.lay.tv M.fine.rows (by simp[neC l1,gp0])) λ u K k ⟨e1,g1,g2,e2⟩=>?_;subst e1 e2;rw[if_pos hr]at g1;simp only[hr,decide_true];have kr:=(g2 rb (Ne.symm d1)).trans ((show _=S.get rb by simp[neC l2]).trans gr);have k0:=(g2 n (by omega)).trans (show _=some (ABlk.cells 15 [] _ .nil) by simp;rfl);have k1:=(g2 (n+1) (by omega)).trans (show _=some (ABlk.cells 5 [] _ .nil) by simp;rfl)
 have kb:∀b,b<n->K.get b=S.get b:=λ b hb=>by
  by_cases e:b=p
  ·subst e;rw[g1,gp0]
  rw[g2 b e];simp[neC hb]
 have kt:Top K (n+1+1):=λ b hb=>by rw[g2 b (by omega)];simp[show ¬b=n by omega,show ¬b=n+1 by omega,ht b (by omega)]
 clear g2;have gp':=g1;simp only[MS.mc]at gp';have hcl:CallOk pG 28 [.sl rb (i*3) N 3] K (n+1+1) (rowAV ((s.regs.drop i).take N)) K (n+1+1):=cloneR (by omega) kr ho hi (by unfold lim;omega);have hsl:=cSlc_sl (b:=rb) (len:=s.regs.length) (sz:=3) (k:=.i64) (i:=i) (j:=i+N) (by omega) hi;rw[show i+N - i=N by omega]at hsl
 have ad:cAdd (.int .i64 (i:Int)) (.int .i64 (N:Int))=.val (.int .i64 ((i+N:Nat):Int)):=by
  simp[cAdd];rw[wrap_sm _ (by omega) (by omega)]
 generalize hrow:(s.regs.drop i).take N=row at hcl;generalize ((i+N:Nat):Int)=iN at hsl ad;generalize i*3=o at hcl hsl;simp[R56_3];refine DrwV.of (ceL_ok (l:=[⟨28,[.sl rb o N 3],K,n+1+1,rowAV row,K,n+1+1⟩]) ?_) ?_
 ·simp only[mem_singleton];rintro _ rfl;exact hcl
 have tk:=kt.none;have h1:(rowAV row).one=true:=rfl;have h2:(rowAV row).len=1:=rfl;have h3:(rowAV row).cells=[rowAV row]:=rfl
 have ow:OwnS K (n+1+1) tv (flC Tk.cells s.takes) s.takes.length 3:=by
  refine⟨by rw[flC_len (λ a=>a.cells_len)],?_⟩
  rcases M.lay.tv with⟨e1,e2⟩ | ⟨b,e⟩
  ·exact .inl ⟨e1,e2⟩
  subst e;have hm:(b,flC Tk.cells s.takes)∈s.told p rb cb rv (.sl b 0 s.takes.length 3):=by simp[MS.told,slT]
  have hb:=M.lay.lt _ hm;exact .inr ⟨b,_,rfl,by simp at hb;omega,(kb b hb).trans (M.told _ hm),OwnB.list rfl⟩
 have nrv:∀c,blk tv=some c->c<n:=λ c hc=>M.lay.lt (c,flC Tk.cells s.takes) (by simp[MS.told,slT_mem hc]);simp[clearF_get,gp',k0,k1,hsl,ad,ceL_hd,noneAt_cons,noneAt_nil,tk,h1,h2,h3,hF,neC l1,neC l2];generalize hK1:K.put (n+1+1) _=K1;have g1n:K1.get (n+1+1)=some (.cells 3 [] [.int .u32 cu.page,.int .i64 cu.slot,rowAV row] .nil):=by rw[<-hK1];simp
 have g1b:∀c,c≠n+1+1->K1.get c=K.get c:=λ c hc=>by rw[<-hK1];simp[hc]
 clear hK1;refine OwnS.appK (k:=1) (new:=[.int .u32 cu.page,.int .i64 cu.slot,rowAV row]) (ow.frame (n':=n+1+1+1) (by omega) λ c hc=>g1b c (by have:=nrv c hc;omega)) (sliceCells_one g1n) (by simp) (by simp) (by omega) (by omega) (by have:=M.fine.rows;unfold big;omega) (by omega) (by simp[h1]) λ K2 o2 g2=>?_;have hnp:tv≠.sl p 0 s.takes.length 3:=λ e=>M.notT p (by rw[e];rfl) rfl;have q1:=(g2 p (by omega) hnp).trans (g1b p (by omega));have hone:=o2.isOne;simp[clearF_get,hF,q1,gp',noneAt_cons,noneAt_nil,tk,R56_4];generalize hK3:K2.put p _=K3;have q3:K3.get p=some (.cells 13 [] ((takeS s cu i N).mc rb cb rv (.sl (n+1+1+1) 0 (s.takes.length+1) 3)) .nil):=by rw[<-hK3];simp[takeS,MS.mc]
 have q4:∀c,c≠p->K3.get c=K2.get c:=λ c hc=>by rw[<-hK3];simp[hc]
 clear hK3;obtain⟨h5,⟨h6,_⟩ | ⟨b,k,h6,h7,h8,h9⟩⟩:=o2
 ·cases h6
 injection h6 with h6;subst h6;refine⟨rfl,M.updT (s':=takeS s cu i N) rfl rfl rfl q3 ⟨k,(q4 _ (by omega)).trans h8,by simpa[takeS,flC_append,flC,Tk.cells,hrow]using h9⟩ λ c h1 h2 h3=>?_⟩;rw[q4 c h2,g2 c (by omega) (λ e=>h3 (by rw[e];rfl)),g1b c (by omega),kb c h1]
def noLis:Lis:=⟨0,[],true,0,.cst .nilFunc,λ _=>true⟩
def ofL (w:Wld)(t:Int)(fv:AV)(p:List Val->Bool):Lis:=match w.sch.tables.findIdx? (λ x=>decide (x.id=t))with
 | none=>noLis
 | some k=>if h:k<w.rows.length then ⟨k+1,w.rows[k],false,0,fv,p⟩else noLis
theorem is233 (t:Tbl)(i:Int)(H:Hp)(n b:Nat)(ht:Top H n)(hb:H.get b=some (.cells 1 [] [.int .u32 i] .nil)):CallR pG 233 [eTbl.av t,.ptr b 0] H n (λ u K k=>u=.bool (decide (t.id=i))/\K=H/\k=n):=by
 refine CallR.forget (by simp) (CallR.of c233 (by simp[A233]) λ F hF=>?_);have q:¬b=n:=by have:=ht.lt hb;omega
 simp[A233,B233,R233_0,R233_1,hF,Enc.av,eTbl_c,q,hb];intro c hc h2;subst h2;exact absurd (ht _ (Nat.le_refl _)) hc
theorem is230 (t:Ixd)(i:Int)(H:Hp)(n b:Nat)(ht:Top H n)(hb:H.get b=some (.cells 1 [] [.int .u32 i] .nil)):CallR pG 230 [eIxd.av t,.ptr b 0] H n (λ u K k=>u=.bool (decide (t.id=i))/\K=H/\k=n):=by
 refine CallR.forget (by simp) (CallR.of c230 (by simp[A230]) λ F hF=>?_);have q:¬b=n:=by have:=ht.lt hb;omega
 simp[A230,B230,R230_0,R230_1,hF,Enc.av,eIxd_c,q,hb];intro c hc h2;subst h2;exact absurd (ht _ (Nat.le_refl _)) hc
theorem find110 (l:List Tbl)(i:Int)(hl:l.length<=lim)(H:Hp)(n b:Nat)(ht:Top H n)(hb:H.get b=some (.cells 1 [] [.int .u32 i] .nil)):CallR pG 110 [eTbl.ds l,.fn (.func 233) [] [.ptr b 0]] H n (λ u K k=>u=.int .i64 (idxI (λ x:Tbl=>decide (x.id=i)) l)/\K=H/\k=n):=
 idx_ok (el:=eTbl.av) c110 hl (eTbl.len_ds _) (λ i h=>⟨_,eTbl.ix h,λ F H n h14=>by simp[h14,eTbl.ldN]⟩) λ x _=>is233 x i H n b ht hb
theorem find115 (l:List Ixd)(i:Int)(hl:l.length<=lim)(H:Hp)(n b:Nat)(ht:Top H n)(hb:H.get b=some (.cells 1 [] [.int .u32 i] .nil)):CallR pG 115 [eIxd.ds l,.fn (.func 230) [] [.ptr b 0]] H n (λ u K k=>u=.int .i64 (idxI (λ x:Ixd=>decide (x.id=i)) l)/\K=H/\k=n):=
 idx_ok (el:=eIxd.av) c115 hl (eIxd.len_ds _) (λ i h=>⟨_,eIxd.ix h,λ F H n h14=>by simp[h14,eIxd.ldN]⟩) λ x _=>is230 x i H n b ht hb
theorem of228 (w:Wld) (hw:w.fine) (t:Int) (g:Fn) (ca cb:List AV) (p:List Val->Bool) (H:Hp) (n:Nat) (ht:Top H n):
  CallR pG 228 [eWld.av w,.int .u32 t,(.fn g ca cb)] H n (λ u K k=>u=.tup [.ifc 260 (.ptr (n+1+1) 0),.int .i64 0]/\K.get (n+1+1)=some (.cells 4 [] (ofL w t (.fn g ca cb) p).cells .nil)/\(∀c,c<n->K.get c=H.get c)/\k=n+1+1+1):=by
 refine CallR.of c228 (by simp[A228]) λ F hF=>?_;have h2:=hw.l;have h3:=hw.s.t;unfold lim at h2 h3;simp[A228,B228,R228_0,R228_1,hF,Enc.av,eWld_c];refine CalV.same (find110 _ t hw.s.t _ _ (n+1) (λ b hb=>by simp[show ¬b=n by omega,show ¬b=n+1 by omega,ht b (by omega)]) (by simp)) ?_;unfold ofL idxI
 cases hk:w.sch.tables.findIdx? (λ x=>decide (x.id=t))with
 | none =>
  simp[R228_2,R228_3,noLis,Lis.cells,Lis.rv,cMkif];exact λ c hc=>by simp[neC hc]
 | some k =>
  have hkl:k<w.sch.tables.length:=by
   rw[findIdx?_eq_some_iff_getElem]at hk;exact hk.1
  have k0:¬(k:Int)<0:=by omega
  by_cases h:k<w.rows.length
  ·have hx:=eTab.ix (ik:=.i64) h;rw[eTab_c]at hx
   have e1:cToInt .u32 (.int .i64 (k:Int))=.val (.int .u32 (k:Int)):=by
    rw[cToInt_int]
    congr 2
    simp[IntKind.wrap,IntKind.signed,IntKind.bits];omega
   have e2:cAdd (.int .u32 (k:Int)) (.int .u32 1)=.val (.int .u32 ((k:Int)+1)):=by
    simp[cAdd,IntKind.wrap,IntKind.signed,IntKind.bits];omega
   have e3:(tabAV w.rows[k]).one=true:=rfl;have e4:(tabAV w.rows[k]).len=1:=rfl;have e5:(tabAV w.rows[k]).cells=[tabAV w.rows[k]]:=rfl;simp[R228_2,R228_4,show ¬w.rows.length<=k by omega,h,Enc.len_ds,k0,hx,e1,e2,e3,e4,e5,hF,cMkif,Lis.cells,Lis.rv];exact λ c hc=>by simp[neC hc]
  simp[R228_2,R228_3,h,show w.rows.length<=k by omega,noLis,Lis.cells,Lis.rv,k0,cMkif,Enc.len_ds];exact λ c hc=>by simp[neC hc]
theorem all229 (r:List Val):FnPure pG 229 [rowAV r] (.bool true):=by
 refine pureV c229 (by simp) (by simp) (by simp[A229]) λ F hF=>?_;simp[A229,B229,R229_0,R229_1];exact .pure _ (by simp)
def Ixd.idx (x:Ixd):Idx:=⟨x.id,x.table,x.name,x.cols,x.uniq,x.root⟩
theorem Ixd.idxC (x:Ixd):x.idx.cells=eIxd.cells x:=by
 rw[eIxd_c];simp[Ixd.idx,Idx.cells,Enc.ds]
 induction x.cols with
 | nil=>rfl
 | cons a r ih=>rw[Enc.l_cons,<-ih];rfl
theorem in231 (x:Ixd)(s:Spn)(row:List Val)(h1:x.cols.length<=lim)(h2:s.eq.length<=lim)(h3:row.length<=lim):FnPure pG 231 [rowAV row,.dp (eIxd.cells x),.dp s.cells] (.bool (inB x.idx s row)):=by
 refine pureV c231 (by simp[Spn.cells]) (by simp) (by simp[A231]) λ F hF=>?_;have e1:=λ H=>eIxd.ldN x [] H;have e2:∀H,cLoadN 11 (.dp s.cells) H=.val (.agg s.cells 11):=λ H=>by have:=cLoadN_dp (H:=H) (k:=11) (l:=s.cells) [] rfl;rwa [append_nil]at this
 have h:=in5 x.idx s row h1 h2 h3;have e3:x.idx.av=eIxd.av x:=by simp[Idx.av,Enc.av,x.idxC]
 rw[e3]at h;simp only[append_nil]at e1;simp[A231,B231,R231_0,R231_1,hF,e1,e2];refine CalV.pure h ?_;simp;exact .pure _ (by simp)
def fv229:AV:=.fn (.func 229) [] []
def fv231 (x:Ixd)(s:Spn):AV:=.fn (.func 231) [] [.dp (eIxd.cells x),.dp s.cells]
def scanL (w:Wld)(t:Int):Lis:=ofL w t fv229 λ _=>true
def seekL (w:Wld)(id:Int)(s:Spn):Lis:=match w.sch.indexes.findIdx? (λ x=>decide (x.id=id))with
 | none=>noLis
 | some k=>if h:k<w.sch.indexes.length then ofL w (w.sch.indexes[k]).table (fv231 w.sch.indexes[k] s) (inB (w.sch.indexes[k]).idx s)else noLis
theorem ld6 (a b c d e f:AV)(r:List AV)(H:Hp):cLoadN 6 (.dp (a::b::c::d::e::f::r)) H=.val (.agg [a,b,c,d,e,f] 6):=cLoadN_dp (l:=[a,b,c,d,e,f]) r rfl
theorem scan226 (w:Wld)(hw:w.fine)(t:Int)(H:Hp)(n:Nat)(ht:Top H n):
  CallR pG 226 [eWld.av w,.int .u32 t] H n (λ u K k=>u=.tup [.ifc 260 (.ptr (n+1+1+1) 0),.int .i64 0]/\K.get (n+1+1+1)=some (.cells 4 [] (scanL w t).cells .nil)/\k=n+1+1+1+1):=by
 refine CallR.of c226 (by simp[A226]) λ F hF=>?_;have ho:=eWld.one w;simp[A226,B226,R226_0,R226_1,hF,Enc.av];refine CalV.of (of228 w hw t (.func 229) [] [] (λ _=>true) _ (n+1) (λ b hb=>by simp[show ¬b=n by omega,ht b (by omega)])) λ u K k ⟨e1,g1,g2,e2⟩=>?_;subst e1 e2;simp;exact g1
theorem seekN (w:Wld)(hw:w.fine)(id:Int)(s:Spn)(H:Hp)(n:Nat)(ht:Top H n)(hk:w.sch.indexes.findIdx? (λ x=>decide (x.id=id))=none):
  CallR pG 227 [eWld.av w,.int .u32 id,s.av] H n (λ u K k=>u=.tup [.ifc 260 (.ptr (n+1+1+1) 0),.int .i64 0]/\K.get (n+1+1+1)=some (.cells 4 [] noLis.cells .nil)/\k=n+1+1+1+1):=by
 refine CallR.of c227 (by simp[A227]) λ F hF=>?_;have hc:=find115 w.sch.indexes id hw.s.i;unfold idxI at hc;simp only[hk]at hc;simp[A227,B227,R227_0,R227_1,hF,Enc.av,eWld_c,Spn.av,Spn.cells];refine CalV.same (hc _ _ (n+1) (λ b hb=>by simp[show ¬b=n by omega,show ¬b=n+1 by omega,show ¬b=n+1+1 by omega,ht b (by omega)]) (by simp)) ?_;simp[R227_2,R227_3,noLis,Lis.cells,Lis.rv,cMkif]
theorem seekK (w:Wld)(hw:w.fine)(id:Int)(s:Spn)(H:Hp)(n:Nat)(ht:Top H n)(k:Nat)(hk:w.sch.indexes.findIdx? (λ x=>decide (x.id=id))=some k)(h:k<w.sch.indexes.length):
  CallR pG 227 [eWld.av w,.int .u32 id,s.av] H n (λ u K k2=>u=.tup [.ifc 260 (.ptr (n+1+1+1+1+1+1) 0),.int .i64 0]/\K.get (n+1+1)=some (.cells 11 [] s.cells .nil)/\K.get (n+1+1+1)=some (.cells 6 [] (eIxd.cells w.sch.indexes[k]) .nil) /\
   K.get (n+1+1+1+1+1+1)=some (.cells 4 [] (ofL w (w.sch.indexes[k]).table (.fn (.func 231) [] [.ptr (n+1+1+1) 0,.ptr (n+1+1) 0]) (inB (w.sch.indexes[k]).idx s)).cells .nil)/\k2=n+1+1+1+1+1+1+1):=by
 refine CallR.of c227 (by simp[A227]) λ F hF=>?_;have h3:=hw.s.i;unfold lim at h3;have hc:=find115 w.sch.indexes id hw.s.i;unfold idxI at hc;simp only[hk]at hc;have hx:=eIxd.ix (ik:=.i64) h;simp only[eIxd_c]at hx;generalize hxk:w.sch.indexes[k]=x at hx ⊢;simp only[cons_append,nil_append]at hx;simp[A227,B227,R227_0,R227_1,hF,Enc.av,eWld_c,Spn.av,Spn.cells];refine CalV.same (hc _ _ (n+1) (λ b hb=>by simp[show ¬b=n by omega,show ¬b=n+1 by omega,show ¬b=n+1+1 by omega,ht b (by omega)]) (by simp)) ?_;have h1:(eInt.ds x.cols).one=true:=by simp
 simp[R227_2,R227_4,show ¬(k:Int)<0 by omega,hx,ld6,R227_5];refine CalV.of (of228 w hw x.table (.func 231) [] [.ptr (n+1+1+1) 0,.ptr (n+1+1) 0] (inB x.idx s) _ (n+1+1+1+1) (λ b hb=>by simp[show ¬b=n by omega,show ¬b=n+1 by omega,show ¬b=n+1+1 by omega,show ¬b=n+1+1+1 by omega,ht b (by omega)])) λ u K k ⟨e1,g1,g2,e2⟩=>?_;subst e1 e2;simp;refine⟨?_,?_,g1⟩
 ·rw[g2 _ (by omega)];simp[Spn.cells]
 rw[g2 _ (by omega)];simp[eIxd_c]
def lisT (b:Nat):AV:=.tup [.ifc 260 (.ptr b 0),.int .i64 0]
theorem lisOk {f:FuncId}{args:List AV}{l:Lis}{b n':Nat}{H:Hp}{n:Nat}(hp:PureL args)(hb:n<=b)(hb2:b<n')(h:∀S,Top S n->CallR pG f args S n (λ u K k=>u=lisT b/\K.get b=some (.cells 4 [] l.cells .nil)/\k=n')):
  ∃H1,CallOk pG f args H n (lisT b) H1 n'/\H1.get b=some (.cells 4 [] l.cells .nil)/\∀c,c<n->H1.get c=H.get c:=by
 obtain⟨H1,h1,h2,h3⟩:=CallR.okL (H:=H) (n:=n) (n':=n') (v0:=lisT b) [] [(b,l.cells)] (PureL.rlt hp) (by simp) (by simp) (by simp) (by omega) (by simp) (by simpa using⟨hb,hb2⟩) ((h _ (pick_top (by simp))).mono λ u K k ⟨e1,g1,e2⟩=>⟨e1,by simpa using⟨_,g1,OwnB.list rfl⟩,by omega⟩);exact⟨H1,h1,h2 (b,l.cells) (by simp),λ c hc=>h3 c (by simp) (.inl hc)⟩
theorem scanOk (w:Wld)(hw:w.fine)(t:Int)(H:Hp)(n:Nat):∃H1,CallOk pG 226 [eWld.av w,.int .u32 t] H n (lisT (n+1+1+1)) H1 (n+1+1+1+1)/\H1.get (n+1+1+1)=some (.cells 4 [] (scanL w t).cells .nil)/\∀c,c<n->H1.get c=H.get c:=by
 obtain⟨H1,h⟩:=lisOk (H:=H) (n:=n) (b:=n+1+1+1) (n':=n+1+1+1+1) (l:=scanL w t) (args:=[eWld.av w,.int .u32 t]) (by simp) (by omega) (by omega) λ S hS=>scan226 w hw t S n hS;exact⟨H1,h⟩
def seekB (w:Wld)(id:Int)(n:Nat):Nat:=match w.sch.indexes.findIdx? (λ x=>decide (x.id=id))with
 | none=>n+1+1+1
 | some _=>n+1+1+1+1+1+1
theorem seekB_le (w:Wld)(id:Int)(n:Nat):n<=seekB w id n:=by
 unfold seekB
 split<;>omega
theorem ofL_fj {w:Wld}{t:Int}{fv fv':AV}{p:List Val->Bool}{h:Hf}(f:FJ h fv fv'):FJL h (ofL w t fv p).cells (ofL w t fv' p).cells:=by
 unfold ofL
 split
 ·exact FJL.refl _ _
 split
 ·exact .cons _ _ _ _ (FJ.refl _ _) (.cons _ _ _ _ (FJ.refl _ _) (.cons _ _ _ _ (FJ.refl _ _) (.cons _ _ _ _ f .nil)))
 exact FJL.refl _ _
theorem seekOk (w:Wld) (hw:w.fine) (id:Int) (s:Spn) (H:Hp) (n:Nat):∃H1,CallOk pG 227 [eWld.av w,.int .u32 id,s.av] H n (lisT (seekB w id n)) H1 (seekB w id n+1)/\H1.get (seekB w id n)=some (.cells 4 [] (seekL w id s).cells .nil)/\∀c,c<n->H1.get c=H.get c:=by
 cases hk:w.sch.indexes.findIdx? (λ x=>decide (x.id=id))with
 | none =>
  obtain⟨H1,h⟩:=lisOk (H:=H) (n:=n) (b:=n+1+1+1) (n':=n+1+1+1+1) (l:=seekL w id s) (args:=[eWld.av w,.int .u32 id,s.av]) (by simp) (by omega) (by omega) λ S hS=>by
   have:=seekN w hw id s S n hS hk;rw[show seekL w id s=noLis by unfold seekL;rw[hk]];exact this
  have e:seekB w id n=n+1+1+1:=by unfold seekB;rw[hk]
  rw[e];exact⟨H1,h⟩
 | some k =>
  have h:k<w.sch.indexes.length:=by
   rw[findIdx?_eq_some_iff_getElem]at hk;exact hk.1
  obtain⟨H1,h⟩:=lisOk (H:=H) (n:=n) (b:=n+1+1+1+1+1+1) (n':=n+1+1+1+1+1+1+1) (l:=seekL w id s) (args:=[eWld.av w,.int .u32 id,s.av]) (by simp) (by omega) (by omega) λ S hS=>by
   refine(seekK w hw id s S n hS k hk h).zs λ u K k2 ⟨e1,g1,g2,g3,e2⟩=>?_;generalize hb:n+1+1+1+1+1+1=b at *
   have hsl:seekL w id s=ofL w (w.sch.indexes[k]).table (fv231 w.sch.indexes[k] s) (inB (w.sch.indexes[k]).idx s):=by
    unfold seekL;rw[hk];simp[h]
   generalize w.sch.indexes[k]=x at *
   have hfr:FrzL (λ c=>if c=n+1+1∨c=n+1+1+1 then K.get c else none) [.ptr (n+1+1+1) 0,.ptr (n+1+1) 0] [.dp (eIxd.cells x),.dp s.cells]:=by
    refine .cons _ _ _ _ (.ptr _ _ 6 6 [] (eIxd.cells x) .nil (eIxd.cells x) _ (by simp[g2]) ?_ (FrzL.pure (by simp))) (.cons _ _ _ _ (.ptr _ _ 11 11 [] s.cells .nil s.cells _ (by simp[g1]) ?_ (FrzL.pure (by simp[Spn.cells]))) .nil)
    ·exact grab_all 6 _
    exact grab_all 11 _
   refine⟨λ c=>if c=n+1+1∨c=n+1+1+1 then K.get c else none,Tr.nil.put b (some (.cells 4 [] (seekL w id s).cells .nil)),u,⟨λ c y hy=>?_,λ c hc=>?_,λ c y hy=>?_⟩,FJ.refl _ _,e1,by simp,by omega⟩
   ·split at hy
    ·exact hy
    cases hy
   ·have:c=n+1+1∨c=n+1+1+1:=by
     by_cases e:c=n+1+1∨c=n+1+1+1
     ·exact e
     simp[e]at hc
    simp[show ¬c=b by omega]
   rw[Tr.get_put]at hy
   split at hy
   ·rename_i e;subst e;injection hy with hy;subst hy;refine⟨_,g3,.inr ⟨_,_,_,_,_,rfl,rfl,rfl,λ i v' hv=>?_⟩⟩;rw[hsl]at hv;obtain⟨v,h4,h5⟩:=(ofL_fj (FJ.fn hfr)).at i v' hv;refine⟨v,?_,h5⟩;rw[getc_list',if_pos]
    ·exact h4
    have:=(List.getElem?_eq_some_iff.1 h4).1;simpa[Lis.cells]using this
   simp at hy
  have e:seekB w id n=n+1+1+1+1+1+1:=by unfold seekB;rw[hk]
  rw[e];exact⟨H1,h⟩
end Go.Abs
