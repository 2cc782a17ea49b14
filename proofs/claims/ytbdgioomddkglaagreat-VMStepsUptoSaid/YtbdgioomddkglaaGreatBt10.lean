/- A part. -/
import Derived.Test.YtbdgioomddkglaaGreatBt9
noncomputable section
namespace Go.Abs
open List
open Go.Proofs
open Classical
set_option maxRecDepth 100000
def zer15:List AV:=[.int .i64 0,.int .i64 0,.int .i64 0,.int .i64 0,.int .i64 0,.int .i64 0,.int .i64 0,.int .u32 0,.int .i64 0,.int .i64 0,.bool false,.bool false,.int .i64 0,.int .i64 0,.str []]
theorem okM0 {f:FuncId}{args:List AV}{n n' p rb cb:Nat}{rv tv rv' tv':AV}{s s':MS}{v0:AV}{H:Hp}(M:Mach H n p rb cb rv tv s)(hn:n<=n')(ha:RLtL n args)(L':Lay n' p rb cb rv' tv' s')(hf':s'.fine)
  (hin:∀b∈s'.fp p rb cb rv' tv',b∈s.fp p rb cb rv tv∨n<=b)
  (h:CallR pG f args (pick H (s.fp p rb cb rv tv)) n (λ u K k=>u=v0/\ToldO K (s'.told p rb cb rv' tv')/\k<=n')):StepR H n p rb cb rv tv s f args v0 s':=by
 have hfp:∀b∈s.fp p rb cb rv tv,∃e∈s.told p rb cb rv tv,e.1=b:=λ b hb=>by
  obtain⟨e,h1,h2⟩:=mem_map.1 hb;exact⟨e,h1,h2⟩
 have hlt:∀b∈s.fp p rb cb rv tv,b<n:=λ b hb=>by
  obtain⟨e,h1,rfl⟩:=hfp b hb;exact M.lay.lt e h1
 obtain⟨H',h1,h2,h3⟩:=CallR.okL (H:=H) (n:=n) (n':=n') (v0:=v0) (s.fp p rb cb rv tv) (s'.told p rb cb rv' tv') ha hlt (λ b hb=>by
   obtain⟨e,h1,rfl⟩:=hfp b hb;rw[M.told e h1];simp) (λ b hb k hk=>by
   obtain⟨e,h1,rfl⟩:=hfp b hb;rw[M.told e h1]at hk;injection hk with hk;subst hk;exact rLtB_list (M.lay.rlt M.fine e h1)) hn L'.nd (λ e he=>by
   rcases hin e.1 (mem_map_of_mem he)with h1 | h1
   ·exact .inl h1
   exact .inr ⟨h1,L'.lt e he⟩) h
 exact⟨H',n',rv',tv',h1,hn,⟨L',h2,hf'⟩,λ b hb hb2=>h3 b hb2 (.inl hb),hin,λ ht b hb=>(h3 b (λ hm=>by have:=hlt b hm;omega) (.inr hb)).trans (ht b (by omega))⟩
theorem Mach.done {H:Hp}{n p rb cb:Nat}{rv tv:AV}{s:MS}{K:Hp}(M:Mach H n p rb cb rv tv s){at':Int}{st:Nat}{en:Bool}(hp:K.get p=some (.cells 13 [] (({s with steps:=st,at_:=at',ended:=en}:MS).mc rb cb rv tv) .nil))(hk:∀b,b<n->b≠p->K.get b=H.get b):ToldO K (({s with steps:=st,at_:=at',ended:=en}:MS).told p rb cb rv tv):=by
 obtain⟨y,gr,ho⟩:=M.gr;obtain⟨l1,l2,l3⟩:=M.lt;obtain⟨d1,d2,d3⟩:=M.ne;exact M.updR rfl rfl rfl hp ⟨y,(hk rb l2 (Ne.symm d1)).trans gr,ho⟩ λ b h1 h2 _=>hk b h1 h2
theorem step12 {H:Hp}{n p rb cb:Nat}{rv tv:AV}{s:MS}(hst:s.steps+1<1000000000)(he:s.ended=false)(M:Mach H n p rb cb rv tv s):
  StepR H n p rb cb rv tv s 12 [.ptr p 0] (.tup [.bool (stepS s (n+1)).ended,.int .i64 0]) (stepS s (n+1)):=by
 have hf:=M.fine;have hat:=hf.at_;have hend:=hf.end_ he;obtain⟨c1,c2,c3,c4,c5,c6⟩:=chkOk hf.ok;have hlt:∀b∈s.fp p rb cb rv tv,b<n:=λ b hb=>by rw[fp_keys]at hb;exact M.lay.kl b hb
 have ht:=pick_top (H:=H) hlt;have M0:Mach (pick H (s.fp p rb cb rv tv)) n p rb cb rv tv s:=M.frame (Nat.le_refl _) λ b hb=>pick_in hb;have hii:s.at_.toNat<s.c.l.length:=by omega
 have hai:s.at_=(s.at_.toNat:Int):=by omega
 have hxe:s.c.l.getD s.at_.toNat insZ=s.c.l[s.at_.toNat]:=by simp[getD,hii]
 have hss:stepS s (n+1)=doneS s (doS s s.c.l[s.at_.toNat] (n+1)):=by unfold stepS;rw[he,hxe];rfl
 have hox:=c6 _ (getElem_mem hii);have hix:=ixa_ins (k:=.i64) hii;have hld:=λ H=>ld_ins s.c.l[s.at_.toNat] (insC (s.c.l.drop (s.at_.toNat+1))) H;rw[hss];generalize s.c.l[s.at_.toNat]=x at *;rw[<-hai]at hix;have M1:Mach (((pick H (s.fp p rb cb rv tv)).put n (some (.cells 15 [] zer15 .nil))).put n (some (.cells 15 [] x.cells .nil))) (n+1) p rb cb rv tv s:=M0.frame (by omega) λ b hb=>by have:=hlt b hb;simp[show ¬b=n by omega]
 obtain⟨f,hop,hf1,hf2,H',n',rv',tv',hcl,hle,M2,hfr,hin,_⟩:=opOk x hox M1;have hto:=to_ok x hox (n+1);obtain⟨s1,s2,s3,s4⟩:=do_same s x (n+1);have hf2':=M2.fine;generalize hr:doS s x (n+1)=r at *
 have hat':0<=(if r.1<0 then s.at_+1 else r.1)/\(if r.1<0 then s.at_+1 else r.1)<=(s.c.l.length:Int):=by
  split<;>omega
 have hfin:(doneS s r).fine:=⟨by show r.2.c.chk=0;exact hf2'.ok,hf2'.reg,hf2'.cur,hf2'.w,hst,hf2'.cs,by rw[show (doneS s r).c=s.c from s1];exact hat',λ e=>by
  simp only[doneS,Bool.or_eq_false_iff,decide_eq_false_iff_not]at e;rw[show (doneS s r).c=s.c from s1];have:=hat'.2;show (if r.1<0 then s.at_+1 else r.1)<_;omega,hf2'.rows,hf2'.rl,hf2'.tl⟩
 refine okM0 (n':=n') M (by omega) (by simpa using M.lt.1) (rv':=rv') (tv':=tv') (.of (s:=doneS s r) M2.lay.kn M2.lay.kl M2.lay.rv M2.lay.tv) hfin (λ b hb=>by
  rw[fp_keys]at hb
  rcases hin b (by rw[fp_keys];exact hb)with h | h
  ·exact .inl h
  exact .inr (by omega)) (CallR.of c12 (by simp[A12]) λ F hF=>?_)
 have gp:=M0.gp;have gq:=M2.gp;simp only[MS.mc]at gp gq;obtain⟨l1,l2,l3⟩:=M.lt;have q1:=M2.lt.1;have tn:=ht.none;have hxi:=fns_at f hf1 hf2;rw[<-hop]at hxi;generalize pick H (s.fp p rb cb rv tv)=S at *;simp only[Ins.av,Ins.cells,cons_append,nil_append]at hld hcl hix hfr;simp only[zer15]at hcl hfr;simp[A12,B12,R12_0,R12_1,R12_3,R12_5,hF,gp,he];refine DrwV.of (ce0_ok (P:=pG)) ?_;simp[clearF_get,hF,gp,hix,hld,noneAt_cons,noneAt_nil,tn,R12_6];generalize hK:(Tr.put _ n _:Hp)=K0 at hcl hfr ⊢;have k0:K0.get n=some (.cells 15 [] x.cells .nil):=by rw[<-hK];simp[Ins.cells]
 simp only[Ins.cells]at k0;refine DrwV.of (ceL_ok (l:=[⟨27,[],K0,n+1,.agg fns12 12,K0,n+1⟩,⟨f,[.ptr p 0,.agg [.int .i64 x.op,.int .i64 x.a,.int .i64 x.b,.int .i64 x.c,.int .i64 x.n,.int .i64 x.j,.int .i64 x.ex,.int .u32 x.id,.int .i64 x.lo,.int .i64 x.hi,.bool x.loIn,.bool x.hiIn,.int .i64 x.v.kind,.int .i64 x.v.num,.str x.v.s] 15],K0,n+1,toT r.1,H',n'⟩]) ?_) ?_
 ·intro y hy;simp only[mem_cons,not_mem_nil,or_false]at hy
  rcases hy with rfl | rfl
  ·exact ops27.callOk _ _
  exact hcl
 have toe:toT r.1=.tup [.int .i64 r.1,.int .i64 0]:=Eq.trans rfl rfl;have h27:(27:Nat)≠f:=by omega
 have hw1:IntKind.i64.wrap ((s.steps:Int)+1)=((s.steps+1:Nat):Int):=by rw[wrap_sm _ (by omega) (by omega)];omega
 have hw2:IntKind.i64.wrap (s.at_+1)=s.at_+1:=wrap_sm _ (by omega) (by omega);rw[s1,s2,s3,s4]at gq;simp[clearF_get,hF,k0,ceL_hd,ceL_tl h27,hxi,R12_7,R12_9,toe,gq,R12_10,cAdd,hw1]
 have tail:∀(F2:Fr) (K2:Hp) (j:Int),j=(if r.1<0 then s.at_+1 else r.1)->F2.get 0=some (.ptr p 0)->F2.get 5=some (.int .i64 j)->K2.get p=some (.cells 13 [] (({r.2 with steps:=s.steps+1}:MS).mc rb cb rv' tv') .nil)->(∀b,b≠p->K2.get b=H'.get b) ->
   VC pG (.seq R12_12 (.seq R12_13 (.seq R12_14 .ret))) F2 K2 n' [] (RetQ [rTmp 2,rTmp 3] λ u K k=>u=.tup [.bool (doneS s r).ended,.int .i64 0]/\ToldO K ((doneS s r).told p rb cb rv' tv')/\k<=n'):=by
  intro F2 K2 j hj f0 f5 kp kb;have kq:=kp;simp only[MS.mc]at kq;simp only[s1,s2,s3]at kq;simp[R12_12,f0,f5,kq,R12_13];refine DrwV.of (ce0_ok (P:=pG)) ?_
  have key:∀K3:Hp,K3.get p=some (.cells 13 [] ((doneS s r).mc rb cb rv' tv') .nil)->(∀b,b≠p->K3.get b=H'.get b)->ToldO K3 ((doneS s r).told p rb cb rv' tv'):=λ K3 g1 g2 =>
   M2.done (at':=(if r.1<0 then s.at_+1 else r.1)) (st:=s.steps+1) (en:=r.2.ended||decide ((if r.1<0 then s.at_+1 else r.1)=(s.c.l.length:Int))) g1 λ b h1 h2=>g2 b h2
  cases hen:r.2.ended with
  | true =>
   simp[clearF_get,f0,hen,R12_14];refine⟨by simp[doneS,hen],key _ (by simp[doneS,MS.mc,hen,s1,s2,s3,<-hj]) λ b hb=>by simp[hb,kb b hb]⟩
  | false =>
   simp[clearF_get,f0,hen,R12_14];refine⟨by simp[doneS,hen,<-hj],key _ (by simp[doneS,MS.mc,hen,s1,s2,s3,<-hj]) λ b hb=>by simp[hb,kb b hb]⟩
 by_cases hneg:r.1<0
 ·simp[hneg,R12_11,clearF_get,hF];rw[hw2];exact tail _ _ (s.at_+1) (by rw[if_pos hneg]) (by simp[clearF_get,hF]) (by simp) (by simp[MS.mc,s1,s2,s3]) λ b hb=>by simp[hb]
 simp[hneg];exact tail _ _ r.1 (by rw[if_neg hneg]) (by simp[clearF_get,hF]) (by simp) (by simp[MS.mc,s1,s2,s3]) λ b hb=>by simp[hb]
theorem step12e {H:Hp}{n p rb cb:Nat}{rv tv:AV}{s:MS}(he:s.ended=true)(M:Mach H n p rb cb rv tv s):StepR H n p rb cb rv tv s 12 [.ptr p 0] (.tup [.bool true,.int .i64 0]) s:=by
 refine okM0 (n':=n) M (Nat.le_refl _) (by simpa using M.lt.1) M.lay M.fine (λ b hb=>.inl hb) (CallR.of c12 (by simp[A12]) λ F hF=>?_);have hlt:∀b∈s.fp p rb cb rv tv,b<n:=λ b hb=>by rw[fp_keys]at hb;exact M.lay.kl b hb
 have M0:Mach (pick H (s.fp p rb cb rv tv)) n p rb cb rv tv s:=M.frame (Nat.le_refl _) λ b hb=>pick_in hb;have gp:=M0.gp;simp only[MS.mc]at gp;simp[A12,B12,R12_0,R12_1,R12_3,hF,gp,he,R12_4];exact λ e he'=>⟨_,M0.told e he',OwnB.list rfl⟩
theorem stepOk {H:Hp}{n p rb cb:Nat}{rv tv:AV}{s:MS}(hst:s.steps+1<1000000000)(M:Mach H n p rb cb rv tv s):StepR H n p rb cb rv tv s 12 [.ptr p 0] (.tup [.bool (stepS s (n+1)).ended,.int .i64 0]) (stepS s (n+1)):=by
 cases he:s.ended with
 | false=>exact step12 hst he M
 | true =>
  have:stepS s (n+1)=s:=by unfold stepS;rw[if_pos he]
  rw[this,he];exact step12e he M
theorem insC_one (l:List Ins):allOne (insC l)=true:=by
 induction l with
 | nil=>rfl
 | cons a r ih=>simp[insC,Ins.cells,ih]
theorem clone25 (l:List Ins)(hl:l.length<=lim):FnPure pG 25 [.ds (insC l) l.length 15] (.ds (insC l) l.length 15):=
 clone_ok (z:=zer15) (sz:=15) (by_:=120) c25 (by omega) (by omega) (by omega) _ _ hl (by simp) (insC_pure _) (insC_one _)
theorem rep_fl {α:Type}{f:α->List AV}(a:α)(c:Nat):rep (f a) c=flC f (replicate c a):=by
 induction c with
 | zero=>rfl
 | succ c ih=>rw[rep,ih,List.replicate_succ];rfl
def newS (c:Cod)(w:Wld):MS:=⟨c,w,0,replicate c.regs.toNat valZ,replicate c.cur.toNat curZ,0,decide (c.l.length=0),false,0,[],[]⟩
theorem newS_fine {c:Cod}{w:Wld}(h:c.chk=0)(hw:w.fine):(newS c w).fine:=by
 obtain⟨c1,c2,c3,c4,c5,c6⟩:=chkOk h;refine⟨h,by simp[newS];omega,by simp[newS];omega,hw,by simp[newS],λ x hx=>?_,by simp[newS],λ e=>?_,by simp[newS],by simp[newS],by simp[newS]⟩
 ·have:=List.eq_of_mem_replicate hx;subst this;exact⟨(λ l e=>by cases e),(λ r e=>by cases e)⟩
 simp[newS]at e;simp[newS];exact length_pos_iff.2 e
theorem lsK_rep (c:Nat):lsK (replicate c curZ)=[]:=by
 induction c with
 | zero=>rfl
 | succ c ih=>rw[List.replicate_succ];simp[lsK,curZ]at ih ⊢
theorem lsT_rep (c:Nat):lsT (replicate c curZ)=[]:=by
 induction c with
 | zero=>rfl
 | succ c ih=>rw[List.replicate_succ];simp[lsT,curZ]at ih ⊢
theorem new10 (c:Cod)(w:Wld)(h:c.chk=0)(n:Nat)(S:Hp)(ht:Top S n):
  CallR pG 10 [c.av,.ifc 71 (eWld.av w)] S n (λ u K k=>u=.tup [.ptr (n+1+1+1) 0,.int .i64 0]/\ToldO K ((newS c w).told (n+1+1+1) (n+1) (n+1+1) nilR nilR)/\k<=n+4):=by
 obtain⟨c1,c2,c3,c4,c5,c6⟩:=chkOk h;refine CallR.of c10 (by simp[A10]) λ F hF=>?_;have hchk:=chk4 c;rw[h]at hchk;have hcl:=clone25 c.l (by unfold lim;omega);simp only[Cod.av,Cod.cells]at hchk;have m1:=cMksl_ok (z:=[.int .i64 0,.int .i64 0,.str []]) (sz:=3) (by_:=32) (n:=n+1) (k:=.i64) (j:=.i64) c.regs.toNat (by unfold big;omega) (by omega);have m2:=cMksl_ok (z:=[.cst .nilIface,.cst (.slice none 0 0),.int .u32 0,.int .i64 0,.bool false]) (sz:=5) (by_:=64) (n:=n+1+1) (k:=.i64) (j:=.i64) c.cur.toNat (by unfold big;omega) (by omega);rw[show ((c.regs.toNat:Nat):Int)=c.regs by omega]at m1;rw[show ((c.cur.toNat:Nat):Int)=c.cur by omega]at m2;have tn:=ht.none;simp[A10,B10,R10_0,R10_1,hF,Cod.av,Cod.cells];refine CalV.pure hchk ?_;simp[hF,eqN1,R10_3];refine CalV.pure hcl ?_;simp[R10_4];refine DrwV.of (ce0_ok (P:=pG)) ?_;simp[clearF_get,hF,m1,m2,noneAt_cons,noneAt_nil,tn];simp[R10_5,R10_6,clearF_get];refine λ e he=>?_;have hls:lsT (newS c w).curs=[]:=lsT_rep _;simp only[MS.told,hls,slT,nil_append,mem_cons,not_mem_nil,or_false]at he
 rcases he with rfl | rfl | rfl
 ·exact⟨.cells 13 [] ((newS c w).mc (n+1) (n+1+1) nilR nilR) .nil,by simp[MS.mc,newS],OwnB.list rfl⟩
 ·refine⟨_,by simp;rfl,?_⟩;have:=OwnB.zero (z:=Val.cells valZ) (by simp[Val.cells]) c.regs.toNat;rw[rep_fl]at this;exact this
 refine⟨_,by simp;rfl,?_⟩;have:=OwnB.zero (z:=Cur.cells curZ) (by simp[Cur.cells]) c.cur.toNat;rw[rep_fl]at this;exact this
theorem newOk (c:Cod)(w:Wld)(h:c.chk=0)(hw:w.fine)(H:Hp)(n:Nat):∃H',CallOk pG 10 [c.av,.ifc 71 (eWld.av w)] H n (.tup [.ptr (n+1+1+1) 0,.int .i64 0]) H' (n+4)/\Mach H' (n+4) (n+1+1+1) (n+1) (n+1+1) nilR nilR (newS c w)/\(∀b,b<n->H'.get b=H.get b)/\(∀b∈(newS c w).fp (n+1+1+1) (n+1) (n+1+1) nilR nilR,n<=b)/\(Top H n->Top H' (n+4)):=by
 have hls:lsK (newS c w).curs=[]:=lsK_rep _;have hk:keysL (n+1+1+1) (n+1) (n+1+1) nilR nilR (newS c w).curs=[n+1+1+1,n+1,n+1+1]:=by simp[keysL,hls]
 have L':Lay (n+4) (n+1+1+1) (n+1) (n+1+1) nilR nilR (newS c w):=.of (by rw[hk];simp) (λ b hb=>by rw[hk]at hb;simp at hb;omega) (.inl ⟨rfl,rfl⟩) (.inl ⟨rfl,rfl⟩)
 have hge:∀b∈(newS c w).fp (n+1+1+1) (n+1) (n+1+1) nilR nilR,n<=b:=λ b hb=>by
  rw[fp_keys,hk]at hb;simp at hb;omega
 have hp:PureL [c.av,.ifc 71 (eWld.av w)]:=by
  have h1:Pure (.ifc 71 (eWld.av w)):=by simp[Pure]
  simp[h1]
 obtain⟨H',h1,h2,h3⟩:=CallR.okL (H:=H) (n:=n) (n':=n+4) (v0:=.tup [.ptr (n+1+1+1) 0,.int .i64 0]) [] ((newS c w).told (n+1+1+1) (n+1) (n+1+1) nilR nilR) (PureL.rlt hp) (by simp) (by simp) (by simp) (by omega) L'.nd (λ e he=>.inr ⟨hge _ (mem_map_of_mem he),L'.lt e he⟩) (new10 c w h n _ (pick_top (by simp)));exact⟨H',h1,⟨L',h2,newS_fine h hw⟩,λ b hb=>h3 b (by simp) (.inl hb),hge,λ ht b hb=>(h3 b (by simp) (.inr hb)).trans (ht b (by omega))⟩
theorem newBad (c:Cod)(w:Wld)(h:c.chk≠0):FnPure pG 10 [c.av,.ifc 71 (eWld.av w)] (.tup [.cst (.pointer none),.int .i64 1]):=by
 have hp:PureL [c.av,.ifc 71 (eWld.av w)]:=by
  have h1:Pure (.ifc 71 (eWld.av w)):=by simp[Pure]
  simp[h1]
 refine pureV c10 hp (by simp) (by simp[A10]) λ F hF=>?_;have hchk:=chk4 c;simp only[Cod.av,Cod.cells]at hchk;simp[A10,B10,R10_0,R10_1,hF,Cod.av,Cod.cells];refine CalV.pure hchk ?_;simp[h,R10_2];exact .pure _ (by simp)
theorem newNil (c:Cod):FnPure pG 10 [c.av,.cst .nilIface] (.tup [.cst (.pointer none),.int .i64 1]):=by
 refine pureV c10 (by simp) (by simp) (by simp[A10]) λ F hF=>?_;have hchk:=chk4 c;simp only[Cod.av,Cod.cells]at hchk;simp[A10,B10,R10_0,R10_1,hF,Cod.av,Cod.cells];refine CalV.pure hchk ?_
 by_cases h:c.chk=0
 ·simp[h,hF,eqN0,R10_2];exact .pure _ (by simp)
 simp[h,R10_2];exact .pure _ (by simp)
theorem memory8 (w:Wld):FnPure pG 8 [eWld.av w] (.ifc 71 (eWld.av w)):=by
 refine pureV c8 (by simp) (by simp[Pure]) (by simp[A8]) λ F hF=>?_;have ho:=eWld.one w;simp[A8,B8,R8_0,R8_1,hF,Enc.av,cMkif,eWld_c];exact .pure _ (by simp[Pure])
theorem ld1_own {k:ABlk}{L:List AV}{i:Nat}{v:AV}(ho:OwnB k L)(hv:L[i]?=some v):ld1 (some k) i=.val v:=by
 have:=own_ldq (H:=Tr.nil.put 0 (some k)) (b:=0) (i:=i) (by simp) ho hv;simpa using this
structure OutM (S:Hp)(n:Nat)(en:Bool)(st:Int)(va vt:AV)(K:Hp)(m:Nat):Prop where
 hm:n+2<=m
 k0:K.get n=some (.cells 5 [] [.bool false,.int .i64 0,.int .i64 0,nilR,nilR] .nil)
 k1:K.get (n+1)=some (.cells 5 [] [.bool en,.int .i64 st,.int .i64 0,va,vt] .nil)
 kb:∀b,b<n->K.get b=S.get b
 top:Top K m
 da:∀c,blk va=some c->n+2<=c
 dt:∀c,blk vt=some c->n+2<=c/\blk va≠some c
structure OutF (F:Fr)(p n:Nat):Prop where
 f0:F.get 0=some (.ptr p 0)
 f2:F.get 2=some (.ptr n 0)
 f3:F.get 3=some (.ptr (n+1) 0)
theorem out13a {S:Hp}{p n:Nat}{en:Bool}{st:Int}(rows:List (List Val))(hl:rows.length<=4096)(hr:∀r∈rows,r.length<=lim)(rv:AV)(hs:slOk rv rows.length 1)(hv:∀b,blk rv=some b->b<n/\S.get b=some (.cells rows.length [] (rowsC rows) .nil))(F:Fr)(K:Hp)(m:Nat)(Q:QA)(hF:OutF F p n)(f23:F.get 23=some rv)(f24:F.get 24=some (.int .i64 (rows.length:Int)))(f25:F.get 25=some (.int .i64 0))(M:OutM S n en st nilR nilR K m)
  (hQ:∀va F K m,OutF F p n->OutM S n en st va nilR K m->OwnS K m va (rowsC rows) rows.length 1->Q .normal F K m []):LoopV L13_0 pG F K m [] (BlkQ 1 Q):=by
 refine LoopV.of (λ q F K m ms=>∃(i:Nat) (va:AV),q=rows.length - i/\i<=rows.length/\OutF F p n/\F.get 23=some rv/\F.get 24=some (.int .i64 (rows.length:Int))/\F.get 25=some (.int .i64 (i:Int))/\OutM S n en st va nilR K m/\OwnS K m va (rowsC (rows.take i)) i 1/\ms=[]) rows.length ⟨0,nilR,by simp,by omega,hF,f23,f24,f25,M,by simpa[rowsC]using OwnS.nil K m 1,rfl⟩ ?_;clear hF f23 f24 f25 M F K m;rintro q F K m ms ⟨i,va,rfl,hi,⟨f0,f2,f3⟩,f23,f24,f25,M,O,rfl⟩
 by_cases h:i<rows.length
 ·have hrr:=hr _ (getElem_mem h)
  obtain⟨b,rfl⟩:∃b,rv=.sl b 0 rows.length 1:=by
   rcases hs with⟨_,e⟩ | e
   ·omega
   exact e
  obtain⟨hb,hS⟩:=hv b rfl;have kb:=(M.kb b hb).trans hS;have hix:=cIxa_sl (b:=b) (o:=0) (sz:=1) (k:=.i64) h;rw[Nat.zero_add,Nat.mul_one]at hix;have hld:ld1 (some (.cells rows.length [] (rowsC rows) .nil)) i=.val (rowAV rows[i]):=ld1_own (OwnB.list (by simp[rowsC])) (by simp[rowsC,h])
  have htk:rowsC (rows.take (i+1))=rowsC (rows.take i)++[rowAV rows[i]]:=by
   rw[take_add_one,getElem?_eq_getElem h];unfold rowsC;rw[map_append];rfl
  generalize hbk:ABlk.cells rows.length [] (rowsC rows) .nil=yb at kb hld;generalize rows[i]=r at hrr hld htk;have hcp:=cloneP r hrr;have hm:=M.hm;have tn:=M.top.none;have h1:(rowAV r).one=true:=rfl;have h2:(rowAV r).len=1:=rfl;have h3:(rowAV r).cells=[rowAV r]:=rfl;have k1:=M.k1;have hone:=O.isOne;simp[L13_0,R13_10,R13_11,f23,f24,f25,h,hix,kb,hld,R13_12];refine DrwV.of (ceT_ok (l:=[(28,[rowAV r],λ H n=>.mk (rowAV r) H n)]) ?_) ?_
  ·simp only[mem_singleton];rintro _ rfl;exact ceT_pure hcp
  simp[clearF_get,f3,ceT_hd,k1,noneAt_cons,noneAt_nil,tn,h1,h2,h3,show ¬n+1=m by omega];generalize hK1:K.put m _=K1;have g1n:K1.get m=some (.cells 1 [] [rowAV r] .nil):=by rw[<-hK1];simp
  have g1b:∀c,c≠m->K1.get c=K.get c:=λ c hc=>by rw[<-hK1];simp[hc]
  clear hK1;have nva:∀c,blk va=some c->c<m:=λ c hc=>O.blkLt hc;refine OwnS.appK (k:=1) (new:=[rowAV r]) (O.frame (n':=m+1) (by omega) λ c hc=>g1b c (by have:=nva c hc;omega)) (sliceCells_one g1n) (by simp) (by simp) (by omega) (by omega) (by unfold big;omega) (by omega) (by simp[h1]) λ K2 o2 g2=>?_;have q1:=(g2 (n+1) (by omega) (λ e=>by have:=M.da (n+1) (by rw[e];rfl);omega)).trans ((g1b (n+1) (by omega)).trans k1);have tk:K2.get (m+1+1)=none:=by rw[g2 _ (by omega) (λ e=>by have:=nva (m+1+1) (by rw[e];rfl);omega),g1b _ (by omega)];exact M.top _ (by omega)
  simp[clearF_get,f3,q1,R13_13,f25,wrap_nat i (by omega)];refine⟨_,by omega,i+1,rfl,by omega,⟨by simp[clearF_get,f0],by simp[clearF_get,f2],by simp[clearF_get,f3]⟩,by simp[clearF_get,f23],by simp[clearF_get,f24],by omega,.sl (m+1) 0 (i+1) 1,⟨by omega,?_,by simp,λ c hc=>?_,λ c hc=>?_,λ c hc=>by simp at hc;omega,λ c hc=>by simp at hc⟩,?_⟩
  ·have:va≠.sl n 0 i 1:=λ e=>by have:=M.da n (by rw[e];rfl);omega
   simp[g2 n (by omega) this,g1b n (by omega),M.k0]
  ·have:va≠.sl c 0 i 1:=λ e=>by have:=M.da c (by rw[e];rfl);omega
   simp[show ¬c=n+1 by omega,g2 c (by omega) this,g1b c (by omega),M.kb c hc]
  ·have:va≠.sl c 0 i 1:=λ e=>by have:=nva c (by rw[e];rfl);omega
   simp[show ¬c=n+1 by omega,g2 c (by omega) this,g1b c (by omega),M.top c (by omega)]
  rw[htk];exact o2.frame (Nat.le_refl _) λ c hc=>by simp at hc;simp[show ¬c=n+1 by omega]
 obtain rfl:i=rows.length:=by omega
 simp[L13_0,R13_10,f24,f25];rw[take_length]at O;exact hQ va _ K m ⟨by simp[f0],by simp[f2],by simp[f3]⟩ M O
theorem out13b {S:Hp}{p n:Nat}{en:Bool}{st:Int}(takes:List Tk)(hl:takes.length<=4096)(hr:∀t∈takes,t.new.length<=lim)(tv:AV)(hs:slOk tv takes.length 3)(hv:∀b,blk tv=some b->b<n/\S.get b=some (.cells (takes.length*3) [] (flC Tk.cells takes) .nil))(va:AV)(cs:List AV)(len:Nat)(F:Fr)(K:Hp)(m:Nat)(Q:QA)(hF:OutF F p n)(f40:F.get 40=some tv)(f41:F.get 41=some (.int .i64 (takes.length:Int)))(f42:F.get 42=some (.int .i64 0))(M:OutM S n en st va nilR K m)(Oa:OwnS K m va cs len 1)
  (hQ:∀vt F K m,OutF F p n->OutM S n en st va vt K m->OwnS K m va cs len 1->OwnS K m vt (flC Tk.cells takes) takes.length 3->Q .normal F K m []):LoopV L13_1 pG F K m [] (BlkQ 3 Q):=by
 refine LoopV.of (λ q F K m ms=>∃(i:Nat) (vt:AV),q=takes.length - i/\i<=takes.length/\OutF F p n/\F.get 40=some tv/\F.get 41=some (.int .i64 (takes.length:Int))/\F.get 42=some (.int .i64 (i:Int))/\OutM S n en st va vt K m/\OwnS K m va cs len 1/\OwnS K m vt (flC Tk.cells (takes.take i)) i 3/\ms=[]) takes.length ⟨0,nilR,by simp,by omega,hF,f40,f41,f42,M,Oa,by simpa[flC]using OwnS.nil K m 3,rfl⟩ ?_;clear hF f40 f41 f42 M F K m Oa;rintro q F K m ms ⟨i,vt,rfl,hi,⟨f0,f2,f3⟩,f23,f24,f25,M,Oa,O,rfl⟩
 by_cases h:i<takes.length
 ·have hrr:=hr _ (getElem_mem h)
  obtain⟨b,rfl⟩:∃b,tv=.sl b 0 takes.length 3:=by
   rcases hs with⟨_,e⟩ | e
   ·omega
   exact e
  obtain⟨hb,hS⟩:=hv b rfl;have kb:=(M.kb b hb).trans hS;have hix:=cIxa_sl (b:=b) (o:=0) (sz:=3) (k:=.i64) h;rw[Nat.zero_add]at hix;have hld:=ldR (c:=3) (OwnB.list (u:=takes.length*3) (l:=flC Tk.cells takes) (by rw[flC_len (λ a=>a.cells_len)])) (λ a=>a.cells_len) h
  have htk:flC Tk.cells (takes.take (i+1))=flC Tk.cells (takes.take i)++(takes[i]).cells:=by
   rw[take_add_one,getElem?_eq_getElem h];rw[flC_append];simp[flC]
  generalize hbk:ABlk.cells (takes.length*3) [] (flC Tk.cells takes) .nil=yb at kb hld;generalize takes[i]=t at hrr hld htk;generalize i*3=o at hix hld;have hcp:=cloneP t.new hrr;have hm:=M.hm;have tn:=M.top.none;have h1:(rowAV t.new).one=true:=rfl;have h2:(rowAV t.new).len=1:=rfl;have h3:(rowAV t.new).cells=[rowAV t.new]:=rfl;have k1:=M.k1;have hone:=O.isOne;simp only[Tk.cells]at hld htk;simp[L13_1,R13_15,R13_16,f23,f24,f25,h,hix,kb,hld,R13_17,h1];refine DrwV.of (ceT_ok (l:=[(28,[rowAV t.new],λ H n=>.mk (rowAV t.new) H n)]) ?_) ?_
  ·simp only[mem_singleton];rintro _ rfl;exact ceT_pure hcp
  have e1:¬n+1=m:=by omega
  have hone2:=Oa.isOne;simp[clearF_get,f3,ceT_hd,k1,noneAt_cons,noneAt_nil,tn,h1,h2,h3,e1];generalize hK1:Tr.put _ (m+1) _=K1;have g1n:K1.get (m+1)=some (.cells 3 [] [.int .u32 t.page,.int .i64 t.slot,rowAV t.new] .nil):=by rw[<-hK1];simp
  have g1b:∀c,c≠m->c≠m+1->K1.get c=K.get c:=λ c hc hc2=>by rw[<-hK1];simp[hc,hc2]
  clear hK1;have nvt:∀c,blk vt=some c->c<m:=λ c hc=>O.blkLt hc;have nva:∀c,blk va=some c->c<m:=λ c hc=>Oa.blkLt hc;refine OwnS.appK (k:=1) (new:=[.int .u32 t.page,.int .i64 t.slot,rowAV t.new]) (O.frame (n':=m+1+1) (by omega) λ c hc=>g1b c (by have:=nvt c hc;omega) (by have:=nvt c hc;omega)) (sliceCells_one g1n) (by simp) (by simp) (by omega) (by omega) (by unfold big;omega) (by omega) (by simp[h1]) λ K2 o2 g2=>?_;have q1:=(g2 (n+1) (by omega) (λ e=>by have:=M.dt (n+1) (by rw[e];rfl);omega)).trans ((g1b (n+1) (by omega) (by omega)).trans k1);simp[clearF_get,f3,q1,R13_18,f25,wrap_nat i (by omega),hone2];refine⟨_,by omega,i+1,rfl,by omega,⟨by simp[clearF_get,f0],by simp[clearF_get,f2],by simp[clearF_get,f3]⟩,by simp[clearF_get,f23],by simp[clearF_get,f24],by omega,.sl (m+1+1) 0 (i+1) 3,⟨by omega,?_,by simp,λ c hc=>?_,λ c hc=>?_,M.da,λ c hc=>⟨by simp at hc;omega,λ h'=>by have:=nva c h';simp at hc;omega⟩⟩,?_,?_⟩
  ·have:vt≠.sl n 0 i 3:=λ e=>by have:=M.dt n (by rw[e];rfl);omega
   simp[g2 n (by omega) this,g1b n (by omega) (by omega),M.k0]
  ·have:vt≠.sl c 0 i 3:=λ e=>by have:=M.dt c (by rw[e];rfl);omega
   simp[show ¬c=n+1 by omega,g2 c (by omega) this,g1b c (by omega) (by omega),M.kb c hc]
  ·have:vt≠.sl c 0 i 3:=λ e=>by have:=nvt c (by rw[e];rfl);omega
   simp[show ¬c=n+1 by omega,g2 c (by omega) this,g1b c (by omega) (by omega),M.top c (by omega)]
  ·refine Oa.frame (by omega) λ c hc=>?_;have h4:=nva c hc;have h5:=M.da c hc;have:vt≠.sl c 0 i 3:=λ e=>(M.dt c (by rw[e];rfl)).2 hc;simp[show ¬c=n+1 by omega,g2 c (by omega) this,g1b c (by omega) (by omega)]
  rw[htk];exact o2.frame (Nat.le_refl _) λ c hc=>by simp at hc;simp[show ¬c=n+1 by omega]
 obtain rfl:i=takes.length:=by omega
 simp[L13_1,R13_15,f24,f25];rw[take_length]at O;exact hQ vt _ K m ⟨by simp[f0],by simp[f2],by simp[f3]⟩ M Oa O
structure Out where
 ended:Bool
 steps:Int
 err:Int
 rows:List (List Val)
 takes:List Tk
def Out.cells (o:Out):List AV:=[.bool o.ended,.int .i64 o.steps,.int .i64 o.err,tabAV o.rows,.ds (flC Tk.cells o.takes) o.takes.length 3]
def Out.av (o:Out):AV:=.agg o.cells 5
theorem tk_pure (l:List Tk):PureL (flC Tk.cells l):=by
 induction l with
 | nil=>simp[flC]
 | cons a r ih=>simp[flC,Tk.cells,ih]
@[simp] theorem tab_pure (l:List (List Val)):Pure (tabAV l):=by rw[<-eRw_ds];simp
theorem Out.pure (o:Out):Pure o.av:=by simp[Out.av,Out.cells,tk_pure]
def MS.out (s:MS):Out:=
 if s.ended=false then ⟨false,s.steps,0,[],[]⟩else
 if s.full=true then ⟨true,s.steps,4,[],[]⟩else
 if s.least≠0 then ⟨true,s.steps,s.least,[],[]⟩else ⟨true,s.steps,0,s.rows,s.takes⟩
theorem OwnS.frzA {K:Hp}{m n:Nat}{v:AV}{l:List AV}{len sz:Nat}(h:OwnS K m v l len sz)(hb:∀c,blk v=some c->n<=c)(hp:PureL l)(hz:0<sz):Frz (above n K) v (.ds l len sz):=by
 obtain⟨s',rfl⟩:∃k,sz=k+1:=⟨sz - 1,by omega⟩;obtain⟨h0,⟨rfl,rfl⟩ | ⟨b,k,rfl,hb2,hk,ho⟩⟩:=h
 ·have:l=[]:=by simpa using h0
  subst this;exact .nil _
 obtain⟨u,z,bs,t,rfl,hg⟩:=ho.grab (o:=0) (c:=len*(s'+1)) (by omega);refine .sl _ _ _ _ _ _ _ _ _ _ (by unfold above;rw[if_pos (hb b rfl)];exact hk) hg ?_;rw[drop_zero,take_of_length_le (by omega)];exact FrzL.pure hp
theorem out13 {H:Hp}{n p rb cb:Nat}{rv tv:AV}{s:MS}(M:Mach H n p rb cb rv tv s):CallOk pG 13 [.ptr p 0] H n s.out.av H n:=by
 have hfp:∀b∈s.fp p rb cb rv tv,∃e∈s.told p rb cb rv tv,e.1=b:=λ b hb=>by
  obtain⟨e,h1,h2⟩:=mem_map.1 hb;exact⟨e,h1,h2⟩
 have hlt:∀b∈s.fp p rb cb rv tv,b<n:=λ b hb=>by
  obtain⟨e,h1,rfl⟩:=hfp b hb;exact M.lay.lt e h1
 refine CallR.okN (s.fp p rb cb rv tv) (by simpa using M.lt.1) hlt (λ b hb k hk=>by
   obtain⟨e,h1,rfl⟩:=hfp b hb;rw[M.told e h1]at hk;injection hk with hk;subst hk;exact rLtB_list (M.lay.rlt M.fine e h1)) λ S ht hin=>?_
 have M0:Mach S n p rb cb rv tv s:=M.frame (Nat.le_refl _) hin;clear hin hfp hlt M;refine CallR.of c13 (by simp[A13]) λ F hF=>?_;have gp:=M0.gp;simp only[MS.mc]at gp;have tn:=ht.none;obtain⟨l1,l2,l3⟩:=M0.lt;simp[A13,B13,R13_0,R13_1,R13_3,hF];refine DrwV.of (ce0_ok (P:=pG)) ?_;simp[clearF_get,hF,gp,neC l1,neD l1,noneAt_cons,noneAt_nil,tn,R13_4];unfold MS.out
 cases he:s.ended with
 | false =>
  simp[R13_19,clearF_get];refine⟨?_,λ c hc=>by simp[neC hc]⟩;exact .agg _ _ _ (.cons _ _ _ _ (.pure _ (by simp)) (.cons _ _ _ _ (.pure _ (by simp)) (.cons _ _ _ _ (.pure _ (by simp)) (.cons _ _ _ _ (.nil _) (.cons _ _ _ _ (.nil _) .nil)))))
 | true =>
  cases hfu:s.full with
  | true =>
   simp[R13_5,clearF_get,hF,gp,neC l1,neD l1,hfu,R13_6,R13_19];refine⟨?_,λ c hc=>by simp[neC hc]⟩;exact .agg _ _ _ (.cons _ _ _ _ (.pure _ (by simp)) (.cons _ _ _ _ (.pure _ (by simp)) (.cons _ _ _ _ (.pure _ (by simp)) (.cons _ _ _ _ (.nil _) (.cons _ _ _ _ (.nil _) .nil)))))
  | false =>
   by_cases hle:s.least=0
   ·have e1:=M0.lay.rv.len;have e2:=M0.lay.tv.len;have hrows:=M0.fine.rows;simp[R13_5,clearF_get,hF,gp,neC l1,neD l1,hfu,R13_7,hle,R13_9,e1];refine out13a (S:=S) (p:=p) (n:=n) (en:=true) (st:=s.steps) s.rows (by omega) M0.fine.rl rv M0.lay.rv (λ b hb=>?_) _ _ _ _ ⟨by simp[clearF_get,hF],by simp[clearF_get],by simp⟩ (by simp) (by simp) (by simp) ⟨by omega,by simp,by simp,λ b hb=>by simp[neC hb],λ b hb=>by simp[show ¬b=n by omega,show ¬b=n+1 by omega,ht b (by omega)],by simp,by simp⟩ λ va F K m FF MM OO=>?_
    ·have hm:(b,rowsC s.rows)∈s.told p rb cb rv tv:=by simp[MS.told,slT_mem hb]
     have h1:=M0.told _ hm;exact⟨M0.lay.lt _ hm,by simpa[rowsC]using h1⟩
    have q0:=FF.f0;have kp:=(MM.kb p l1).trans gp;simp[R13_14,q0,kp,e2];refine out13b (S:=S) (p:=p) (n:=n) (en:=true) (st:=s.steps) s.takes (by omega) M0.fine.tl tv M0.lay.tv (λ b hb=>?_) va (rowsC s.rows) s.rows.length _ _ _ _ ⟨by simp[FF.f0],by simp[FF.f2],by simp[FF.f3]⟩ (by simp) (by simp) (by simp) MM OO λ vt F K m FF MM OO PP=>?_
    ·have hm:(b,flC Tk.cells s.takes)∈s.told p rb cb rv tv:=by simp[MS.told,slT_mem hb]
     have h1:=M0.told _ hm;rw[flC_len (λ a=>a.cells_len)]at h1;exact⟨M0.lay.lt _ hm,h1⟩
    have k0:=MM.k0;have k1:=MM.k1;have o1:=OO.isOne;have o2:=PP.isOne;have hm:=MM.hm;simp[R13_19,FF.f2,FF.f3,k0,k1,o1,o2];refine⟨?_,λ c hc=>by simp[show ¬c=n by omega,MM.kb c hc]⟩;refine .agg _ _ _ (.cons _ _ _ _ (.pure _ (by simp)) (.cons _ _ _ _ (.pure _ (by simp)) (.cons _ _ _ _ (.pure _ (by simp)) (.cons _ _ _ _ ?_ (.cons _ _ _ _ ?_ .nil)))))
    ·exact(OO.frame (Nat.le_refl _) λ c hc=>by have:=MM.da c hc;simp[show ¬c=n by omega]).frzA (λ c hc=>by have:=MM.da c hc;omega) (by rw[<-eRw_l];simp) (by omega)
    exact(PP.frame (Nat.le_refl _) λ c hc=>by have:=(MM.dt c hc).1;simp[show ¬c=n by omega]).frzA (λ c hc=>by have:=(MM.dt c hc).1;omega) (tk_pure _) (by omega)
   simp[R13_5,clearF_get,hF,gp,neC l1,neD l1,hfu,R13_7,hle,R13_8,R13_19];refine⟨?_,λ c hc=>by simp[neC hc]⟩;exact .agg _ _ _ (.cons _ _ _ _ (.pure _ (by simp)) (.cons _ _ _ _ (.pure _ (by simp)) (.cons _ _ _ _ (.pure _ (by simp)) (.cons _ _ _ _ (.nil _) (.cons _ _ _ _ (.nil _) .nil)))))
def eraseC (c:Cur):Cur:={c with b:=0}
def MS.view (s:MS):MS:={s with curs:=s.curs.map eraseC}
theorem erase2 (c:Cur):eraseC (eraseC c)=eraseC c:=rfl
theorem ee:eraseC ∘ eraseC=eraseC:=rfl
theorem view2 (s:MS):s.view.view=s.view:=by simp[MS.view,ee]
theorem getD_view (s:MS)(i:Nat):s.view.curs.getD i curZ=eraseC (s.curs.getD i curZ):=by
 simp only[MS.view,getD,getElem?_map];cases s.curs[i]?<;>rfl
theorem nxtC_erase (c:Cur)(l:Lis):eraseC (nxtC c l)=nxtC (eraseC c) l:=by
 unfold nxtC;cases l.nxt<;>rfl
theorem do_view (s:MS)(x:Ins)(n:Nat):(doS s x n).1=(doS s.view x 0).1/\(doS s x n).2.view=(doS s.view x 0).2.view:=by
 by_cases h1:x.op=1
 ·unfold doS;rw[if_pos h1,if_pos h1];exact⟨rfl,by simp[MS.view,List.map_set,ee,eraseC,newC]⟩
 by_cases h2:x.op=2
 ·unfold doS;rw[if_neg h1,if_pos h2,if_neg h1,if_pos h2];exact⟨rfl,by simp[MS.view,List.map_set,ee,eraseC,newC];rfl⟩
 by_cases h3:x.op=3
 ·unfold doS;rw[if_neg h1,if_neg h2,if_pos h3,if_neg h1,if_neg h2,if_pos h3];rw[getD_view];have hl:(eraseC (s.curs.getD x.a.toNat curZ)).lst=(s.curs.getD x.a.toNat curZ).lst:=rfl;rw[hl]
  cases h:(s.curs.getD x.a.toNat curZ).lst with
  | none=>exact⟨rfl,by simp[MS.view,ee]⟩
  | some l =>
   refine⟨rfl,?_⟩;simp only[MS.view,List.map_set,nxtC_erase,erase2];simp[ee]
 by_cases h4:x.op=4
 ·unfold doS;rw[if_neg h1,if_neg h2,if_neg h3,if_pos h4,if_neg h1,if_neg h2,if_neg h3,if_pos h4];rw[getD_view];exact⟨rfl,by simp[MS.view,ee];rfl⟩
 by_cases h5:x.op=5
 ·unfold doS;rw[if_neg h1,if_neg h2,if_neg h3,if_neg h4,if_pos h5,if_neg h1,if_neg h2,if_neg h3,if_neg h4,if_pos h5];exact⟨rfl,by simp[MS.view,ee]⟩
 by_cases h6:x.op=6
 ·unfold doS;rw[if_neg h1,if_neg h2,if_neg h3,if_neg h4,if_neg h5,if_pos h6,if_neg h1,if_neg h2,if_neg h3,if_neg h4,if_neg h5,if_pos h6];rw[show s.view.regs=s.regs from rfl];generalize evalS x.ex _=r;unfold callS
  split<;>exact⟨rfl,by simp[MS.view,ee]⟩
 by_cases h7:x.op=7
 ·unfold doS;rw[if_neg h1,if_neg h2,if_neg h3,if_neg h4,if_neg h5,if_neg h6,if_pos h7,if_neg h1,if_neg h2,if_neg h3,if_neg h4,if_neg h5,if_neg h6,if_pos h7];rw[show s.view.regs=s.regs from rfl];unfold truthS
  split
  ·exact⟨rfl,by simp[MS.view,ee]⟩
  split<;>exact⟨rfl,by simp[MS.view,ee]⟩
 by_cases h8:x.op=8
 ·unfold doS;rw[if_neg h1,if_neg h2,if_neg h3,if_neg h4,if_neg h5,if_neg h6,if_neg h7,if_pos h8,if_neg h1,if_neg h2,if_neg h3,if_neg h4,if_neg h5,if_neg h6,if_neg h7,if_pos h8];refine⟨rfl,?_⟩;have hr:s.view.roomy=s.roomy:=rfl;unfold emitS MS.fulled;simp only[hr]
  split<;>simp[MS.view,ee]
 by_cases h9:x.op=9
 ·unfold doS;rw[if_neg h1,if_neg h2,if_neg h3,if_neg h4,if_neg h5,if_neg h6,if_neg h7,if_neg h8,if_pos h9,if_neg h1,if_neg h2,if_neg h3,if_neg h4,if_neg h5,if_neg h6,if_neg h7,if_neg h8,if_pos h9];rw[getD_view];refine⟨rfl,?_⟩;have hr:s.view.roomy=s.roomy:=rfl;have hth:(eraseC (s.curs.getD x.a.toNat curZ)).there=(s.curs.getD x.a.toNat curZ).there:=rfl;simp only[hr,hth];unfold takeS MS.fulled
  split
  ·split<;>simp[MS.view,ee,eraseC]
  simp[MS.view,ee]
 by_cases h10:x.op=10
 ·unfold doS;rw[if_neg h1,if_neg h2,if_neg h3,if_neg h4,if_neg h5,if_neg h6,if_neg h7,if_neg h8,if_neg h9,if_pos h10,if_neg h1,if_neg h2,if_neg h3,if_neg h4,if_neg h5,if_neg h6,if_neg h7,if_neg h8,if_neg h9,if_pos h10];exact⟨rfl,by simp[MS.view,ee]⟩
 unfold doS;rw[if_neg h1,if_neg h2,if_neg h3,if_neg h4,if_neg h5,if_neg h6,if_neg h7,if_neg h8,if_neg h9,if_neg h10,if_neg h1,if_neg h2,if_neg h3,if_neg h4,if_neg h5,if_neg h6,if_neg h7,if_neg h8,if_neg h9,if_neg h10];exact⟨rfl,by simp[MS.view,ee]⟩
def sv (s:MS):MS:=(stepS s 0).view
theorem step_view (s:MS)(n:Nat):(stepS s n).view=sv s.view:=by
 unfold sv stepS;rw[show s.view.ended=s.ended from rfl]
 split
 ·rw[view2]
 obtain⟨h1,h2⟩:=do_view s (s.c.l.getD s.at_.toNat insZ) n;rw[show s.view.c=s.c from rfl,show s.view.at_=s.at_ from rfl];generalize doS s (s.c.l.getD s.at_.toNat insZ) n=r at *;generalize doS s.view (s.c.l.getD s.at_.toNat insZ) 0=r' at *
 have e:∀t t':MS,t.view=t'.view->∀(st:Nat) (a:Int) (L:Int),({t with steps:=st,at_:=a,ended:=t.ended||decide (a=L)}:MS).view=({t' with steps:=st,at_:=a,ended:=t'.ended||decide (a=L)}:MS).view:=λ t t' h st a L=>by
  obtain⟨a1,a2,a3,a4,a5,a6,a7,a8,a9,a10,a11⟩:=t;obtain⟨b1,b2,b3,b4,b5,b6,b7,b8,b9,b10,b11⟩:=t';simp only[MS.view,MS.mk.injEq]at h ⊢;obtain⟨rfl,rfl,rfl,rfl,h5,rfl,rfl,rfl,rfl,rfl,rfl⟩:=h;simp[h5]
 unfold doneS;rw[h1];exact e r.2 r'.2 h2 _ _ _
theorem out_view (s:MS):s.view.out=s.out:=rfl
def goS (s:MS):Nat->MS
 | 0=>s
 | k+1=>sv (goS s k)
theorem sv_end {s:MS}(h:s.ended=true):sv s=s.view:=by
 unfold sv stepS;rw[if_pos h]
theorem goS_view (s:MS)(h:s.view=s):∀k,(goS s k).view=goS s k
 | 0=>h
 | k+1=>by
  show (sv _).view=sv _;unfold sv;rw[view2]
theorem goS_end {s:MS}(h:s.view=s){k:Nat}(he:(goS s k).ended=true):∀j,goS s (k+j)=goS s k
 | 0=>rfl
 | j+1=>by
  show sv (goS s (k+j))=_;rw[goS_end h he j,sv_end he,goS_view s h]
theorem stepS_steps (s:MS)(n:Nat):(stepS s n).steps=if s.ended=true then s.steps else s.steps+1:=by
 unfold stepS
 split<;>rfl
def newV (c:Cod)(w:Wld):MS:=(newS c w).view
def runV (c:Cod)(w:Wld)(k:Nat):Out:=(goS (newV c w) k).out
theorem run14 (c:Cod) (w:Wld) (hw:w.fine) (hc:c.chk=0) (hok:WldOk w) (k:Nat) (hk:k<100000000):FnPure pG 14 [c.av,eWld.av w,.int .i64 (k:Int)] (.tup [(runV c w k).av,.int .i64 0]):=by
 refine pureV c14 (by simp) (by simp[Out.pure]) (by simp[A14]) λ F hF=>?_;have hmay:=may29 w hw;simp only[hok,decide_true]at hmay;have ho:=eWld.one w;simp[A14,B14,R14_0,R14_1,hF,Cod.av,Cod.cells,Enc.av,show ¬(k:Int)<0 by omega];simp only[Enc.av]at hmay;refine CalV.pure hmay ?_;simp[R14_3];generalize hK:(Tr.put _ 2 _:Hp)=K0;have k0:K0.get 0=some (.cells 3 [] c.cells .nil):=by rw[<-hK];simp[Cod.cells]
 have k1:K0.get 1=some (.cells 3 [] (eWld.cells w) .nil):=by rw[<-hK];simp
 have k2:K0.get 2=some (.cells 5 [] [.bool false,.int .i64 0,.int .i64 0,nilR,nilR] .nil):=by rw[<-hK];simp
 clear hK;obtain⟨H',hcl,M,hb,hge,hgx⟩:=newOk c w hc hw K0 3;refine DrwV.of (ceL_ok (l:=[⟨8,[eWld.av w],K0,3,.ifc 71 (eWld.av w),K0,3⟩,⟨10,[c.av,.ifc 71 (eWld.av w)],K0,3,.tup [.ptr (3+1+1+1) 0,.int .i64 0],H',3+4⟩]) ?_) ?_
 ·intro y hy;simp only[mem_cons,not_mem_nil,or_false]at hy
  rcases hy with rfl | rfl
  ·exact(memory8 w).callOk _ _
  exact hcl
 have h8:(8:Nat)≠10:=by omega
 have e1:AV.agg (eWld.cells w) 3=eWld.av w:=rfl;have e2:AV.agg c.cells 3=c.av:=rfl;simp[clearF_get,k0,k1,ceL_hd,ceL_tl h8,e1,e2,R14_4,ho];have kk2:H'.get 2=some (.cells 5 [] [.bool false,.int .i64 0,.int .i64 0,nilR,nilR] .nil):=(hb 2 (by omega)).trans k2;have hv0:(newV c w).view=newV c w:=view2 _
 refine LoopV.of (λ q F K m ms=>∃(s:MS) (rv tv:AV) (i:Nat),q=k - i/\Mach K m 6 4 5 rv tv s/\(∀b∈s.fp 6 4 5 rv tv,3<=b)/\s.view=goS (newV c w) i/\(s.ended=false->s.steps=i)/\s.steps<=i/\i<=k/\F.get 8=some (.ptr 6 0)/\F.get 2=some (.int .i64 (k:Int))/\F.get 6=some (.ptr 2 0)/\K.get 2=some (.cells 5 [] [.bool false,.int .i64 0,.int .i64 0,nilR,nilR] .nil)/\ms=[]) k
  ⟨newS c w,nilR,nilR,0,rfl,M,hge,rfl,λ _=>rfl,Nat.le_refl _,by omega,by simp,by simp[clearF_get,hF],by simp[clearF_get],kk2,rfl⟩ ?_
 clear hF hcl M hb hge hgx k0 k1 k2 kk2 F H' K0;rintro q F K m ms ⟨s,rv,tv,i,rfl,M,hge,hvw,hs1,hs2,hik,f8,f2,f6,kz,rfl⟩;have gp:=M.gp;simp only[MS.mc]at gp;have hm3:2<m:=by have:=M.lt.1;omega
 have fin:goS (newV c w) i=goS (newV c w) k->∀F:Fr,F.get 8=some (.ptr 6 0)->F.get 6=some (.ptr 2 0)->VC pG (.seq R14_8 .ret) F K m [] (RetQ [rCelN 6 5,rTmp 7] λ v1 H' x=>Frz (Tr.get H') v1 (AV.tup [(runV c w k).av,AV.int IntKind.i64 0])):=by
  intro hgo F f8 f6;have hout:=out13 M;have e:s.out=runV c w k:=by rw[<-out_view,hvw,hgo];rfl
  rw[e]at hout;generalize runV c w k=o at *;simp only[Out.av,Out.cells]at hout;have h1:(tabAV o.rows).one=true:=rfl;simp[R14_8,f8];refine CalV.of hout.callR λ u K2 k2 ⟨a1,a2,a3⟩=>?_;subst a1 a2 a3;simp[f6,kz,h1];exact .pure _ (by simp[tk_pure,tab_pure])
 by_cases hsk:s.steps<k
 ·cases hen:s.ended with
  | true =>
   simp[L14_0,R14_6,f8,f2,gp,hsk,hen];refine fin ?_ _ (by simp[f8]) (by simp[f6]);have he:(goS (newV c w) i).ended=true:=by rw[<-hvw];exact hen
   have:=goS_end hv0 he (k - i);rw[show i+(k - i)=k by omega]at this;exact this.symm
  | false =>
   have hsi:=hs1 hen;obtain⟨H2,m2,rv2,tv2,hcl,hle,M2,hfr,hin,_⟩:=stepOk (by omega) M;have hst:=stepS_steps s (m+1);rw[if_neg (by rw[hen];simp)]at hst;have hvw2:(stepS s (m+1)).view=goS (newV c w) (i+1):=by rw[step_view,hvw];rfl
   generalize stepS s (m+1)=s2 at *;simp[L14_0,R14_6,f8,f2,gp,hsk,hen,R14_7];refine CalV.of hcl.callR λ u K2 k2 ⟨a1,a2,a3⟩=>?_;subst a1 a2 a3;simp;refine⟨_,by omega,s2,rv2,tv2,i+1,rfl,M2,λ b hb=>?_,hvw2,λ _=>by omega,by omega,by omega,by simp[f8],by simp[f2],by simp[f6],?_⟩
   ·rcases hin b hb with h | h
    ·exact hge b h
    omega
   rw[hfr 2 hm3 λ hm=>by have:=hge 2 hm;omega];exact kz
 simp[L14_0,R14_6,f8,f2,gp,hsk];refine fin ?_ _ (by simp[f8]) (by simp[f6]);rw[show i=k by omega]
def manyB (w:Wld):Bool:=decide (300<w.rows.foldl (λ a t=>w64 (a+(t.length:Int))) 0)
theorem many5 (w:Wld)(hl:w.rows.length<=lim):FnPure pG 5 [eWld.av w] (.bool (manyB w)):=by
 refine pureV c5 (by simp) (by simp) (by simp[A5]) λ F hF=>?_;have ho:=eWld.one w;unfold lim at hl;simp[A5,B5,R5_0,R5_1,R5_2,hF,Enc.av,eWld_c];refine LoopV.of (λ q F K m ms=>∃i:Nat,q=w.rows.length - i/\i<=w.rows.length/\F.get 1=some (.ptr 0 0)/\F.get 4=some (.int .i64 (i:Int))/\F.get 3=some (.int .i64 ((w.rows.take i).foldl (λ a t=>w64 (a+(t.length:Int))) 0))/\K.get 0=some (.cells 3 [] [eTbl.ds w.sch.tables,eIxd.ds w.sch.indexes,eTab.ds w.rows] .nil)/\ms=[]) w.rows.length ⟨0,by simp,by omega,by simp,by simp,by simp,by simp,rfl⟩ ?_;clear hF F;rintro q F K m ms ⟨i,rfl,hi,f1,f4,f3,k0,rfl⟩
 by_cases h:i<w.rows.length
 ·have hx:=eTab.ix (ik:=.i64) h;rw[eTab_c]at hx;have hlt:cLenL (tabAV w.rows[i])=.val (.int .i64 ((w.rows[i]).length:Int)):=by simp[tabAV]
  have ad:∀a b:Int,cAdd (.int .i64 a) (.int .i64 b)=.val (.int .i64 (w64 (a+b))):=λ a b=>by simp[cAdd,w64]
  have hfold:(w.rows.take (i+1)).foldl (λ a t=>w64 (a+(t.length:Int))) 0=w64 ((w.rows.take i).foldl (λ a t=>w64 (a+(t.length:Int))) 0+((w.rows[i]).length:Int)):=by
   rw[take_add_one,getElem?_eq_getElem h,Option.toList,List.foldl_append];rfl
  generalize w.rows[i]=t at hx hlt hfold;generalize (w.rows.take i).foldl (λ a t=>w64 (a+(t.length:Int))) 0=acc at f3 hfold;have w1:w64 ((i:Int)+1)=((i+1:Nat):Int):=by unfold w64;rw[wrap_sm _ (by omega) (by omega)];omega
  simp[L5_0,R5_3,R5_4,R5_5,f1,f3,f4,k0,Enc.len_ds,h,hx,hlt,ad,w1];exact⟨_,by omega,i+1,rfl,by omega,by omega,by rw[hfold]⟩
 obtain rfl:i=w.rows.length:=by omega
 rw[take_length]at f3;simp[L5_0,R5_3,R5_6,f1,f3,f4,k0,Enc.len_ds];exact .bool (by simp[manyB])
structure Out.fine (o:Out):Prop where
 r:o.rows.length<=lim
 rl:∀r∈o.rows,r.length<=lim
 t:o.takes.length<=lim
 tl:∀t∈o.takes,t.new.length<=lim
theorem eqRid (a b:Int):cEqA true [.i,.i] (.agg [.int .u32 a,.int .i64 b] 2) (.agg [.int .u32 a,.int .i64 b] 2)=.val (.bool false):=by
 have he:eqAtoms [.i,.i] [.int .u32 a,.int .i64 b] [.int .u32 a,.int .i64 b]=some true:=by
  simp[eqAtoms,eqLeaf]
 unfold cEqA;simp only[he];rfl
theorem same15 (o:Out)(ho:o.fine):FnPure pG 15 [o.av,o.av] (.bool true):=by
 refine pureV c15 (by simp[Out.pure]) (by simp) (by simp[A15]) λ F hF=>?_;have hrows:=SameRows7 o.rows o.rows ho.r ho.rl;simp only[decide_true]at hrows;have ht:=ho.t;unfold lim at ht;have h1:(tabAV o.rows).one=true:=rfl;have e0:tabAV o.rows=.ds (rowsC o.rows) o.rows.length 1:=rfl;rw[<-e0]at hrows;simp[A15,B15,R15_0,R15_1,hF,Out.av,Out.cells,h1];refine CalV.pure hrows ?_;simp[R15_3];refine LoopV.of (λ q F K m ms=>∃i:Nat,q=o.takes.length - i/\i<=o.takes.length/\F.get 2=some (.ptr 0 0)/\F.get 3=some (.ptr 1 0)/\F.get 5=some (.int .i64 (i:Int))/\K.get 0=some (.cells 5 [] o.cells .nil)/\K.get 1=some (.cells 5 [] o.cells .nil)/\ms=[]) o.takes.length ⟨0,by simp,by omega,by simp,by simp,by simp,by simp[Out.cells],by simp[Out.cells],rfl⟩ ?_;clear hF F;rintro q F K m ms ⟨i,rfl,hi,f2,f3,f5,k0,k1,rfl⟩;have k0':=k0;have k1':=k1;simp only[Out.cells]at k0 k1
 by_cases h:i<o.takes.length
 ·have hx:=cIxa_ds (cs:=flC Tk.cells o.takes) (len:=o.takes.length) (sz:=3) (i:=i) (k:=.i64) h;rw[flC_drop (λ a=>a.cells_len) h]at hx;have hn:=ho.tl _ (getElem_mem h);generalize o.takes[i]=t at hx hn;generalize flC Tk.cells (o.takes.drop (i+1))=rest at hx;have hs:=Same18 t.new t.new hn;simp only[decide_true]at hs;simp only[Tk.cells,cons_append,nil_append]at hx;have l2:∀(a b c:AV) (r:List AV) H,cLoadN 2 (.dp (a::b::c::r)) H=.val (.agg [a,b] 2):=λ a b c r H=>cLoadN_dp (l:=[a,b]) (c::r) rfl;simp[L15_0,R15_4,R15_5,f2,f3,f5,k0,k1,h];refine DrwV.of (ceT_ok (l:=[(31,[rowAV t.new,rowAV t.new],λ H n=>.mk (.bool true) H n)]) ?_) ?_
  ·simp only[mem_singleton];rintro _ rfl;exact ceT_pure hs
  simp[clearF_get,f2,f3,f5,k0,k1,hx,l2,eqRid,ceT_hd,R15_7,wrap_nat i (by omega)];exact⟨_,by omega,i+1,rfl,by omega,by omega,rfl⟩
 obtain rfl:i=o.takes.length:=by omega
 simp[L15_0,R15_4,f2,f5,k0,R15_8];exact .bool rfl
theorem goS_steps {s:MS}(h:s.view=s) (h0:s.steps=0):∀j,(goS s j).steps<=j/\((goS s j).ended=false->(goS s j).steps=j)/\goS s (goS s j).steps=goS s j
 | 0=>⟨by simp[goS,h0],λ _=>h0,by show goS s s.steps=s;rw[h0];rfl⟩
 | j + 1=>by
  obtain⟨h1,h2,h3⟩:=goS_steps h h0 j
  cases he:(goS s j).ended with
  | true =>
   have:goS s (j+1)=goS s j:=goS_end h he 1;rw[this];exact⟨by omega,λ e=>(by rw[he]at e;cases e),h3⟩
  | false =>
   have e1:(goS s (j+1)).steps=j+1:=by
    show (sv (goS s j)).steps=_;show (stepS (goS s j) 0).steps=_;rw[stepS_steps,he,h2 he];rfl
   exact⟨by omega,λ _=>e1,by rw[e1]⟩
theorem out_fine {s:MS}(h:s.fine):s.out.fine:=by
 have h1:=h.rows;unfold MS.out
 split
 ·exact⟨by simp[lim],by simp,by simp[lim],by simp⟩
 split
 ·exact⟨by simp[lim],by simp,by simp[lim],by simp⟩
 split
 ·exact⟨by simp[lim],by simp,by simp[lim],by simp⟩
 exact⟨by show s.rows.length<=lim;unfold lim;omega,h.rl,by show s.takes.length<=lim;unfold lim;omega,h.tl⟩
theorem out_ended (s:MS):s.out.ended=s.ended/\s.out.steps=s.steps:=by
 unfold MS.out
 cases h:s.ended with
 | false=>simp
 | true=>simp;(repeat' split)<;>exact⟨rfl,rfl⟩
def kFu (f:Int):Nat:=(max (min f 300) 0).toNat
theorem kFu_le (f:Int):kFu f<=300/\max (min f 300) 0=(kFu f:Int):=by unfold kFu;omega
structure Two (c:Cod)(w:Wld)(K:Hp)(m:Nat)(i j:Nat):Prop where
 ex:∃s1 rv1 tv1 s2 rv2 tv2,Mach K m 5 3 4 rv1 tv1 s1/\Mach K m 9 7 8 rv2 tv2 s2/\(∀b∈s1.fp 5 3 4 rv1 tv1,2<=b/\b∉s2.fp 9 7 8 rv2 tv2)/\(∀b∈s2.fp 9 7 8 rv2 tv2,2<=b)/\s1.view=goS (newV c w) i/\s2.view=goS (newV c w) j
 top:Top K m
 k0:K.get 0=some (.cells 3 [] c.cells .nil)
 k1:K.get 1=some (.cells 3 [] (eWld.cells w) .nil)
theorem v0_view (c:Cod)(w:Wld):(newV c w).view=newV c w:=view2 _
theorem Two.step1 {c:Cod}{w:Wld}{K:Hp}{m i j:Nat}(T:Two c w K m i j)(hi:i<1000000):∃H' n',CallOk pG 12 [.ptr 5 0] K m (.tup [.bool (goS (newV c w) (i+1)).ended,.int .i64 0]) H' n'/\Two c w H' n' (i+1) j:=by
 obtain⟨⟨s1,rv1,tv1,s2,rv2,tv2,M1,M2,d1,d2,v1,v2⟩,tp,k0,k1⟩:=T
 have hst:s1.steps<=i:=by
  have:=(goS_steps (v0_view c w) rfl i).1;rw[<-v1]at this;exact this
 obtain⟨H',n',rv',tv',hcl,hle,M',hfr,hin,ht⟩:=stepOk (by omega) M1;have vw:(stepS s1 (m+1)).view=goS (newV c w) (i+1):=by rw[step_view,v1];rfl
 have hen:(stepS s1 (m+1)).ended=(goS (newV c w) (i+1)).ended:=by rw[<-vw];rfl
 rw[hen]at hcl;have hl2:∀b∈s2.fp 9 7 8 rv2 tv2,b<m:=λ b hb=>by rw[fp_keys]at hb;exact M2.lay.kl b hb
 have nd:∀b∈s2.fp 9 7 8 rv2 tv2,b∉s1.fp 5 3 4 rv1 tv1:=λ b hb h=>(d1 b h).2 hb;have hm:2<=m:=by have:=M1.lt.1;omega
 have n0:∀b,b<2->H'.get b=K.get b:=λ b hb=>hfr b (by omega) λ h=>by have:=(d1 b h).1;omega
 refine⟨H',n',hcl,⟨⟨_,rv',tv',s2,rv2,tv2,M',M2.frame hle λ b hb=>hfr b (hl2 b hb) (nd b hb),λ b hb=>?_,d2,vw,v2⟩,ht tp,(n0 0 (by omega)).trans k0,(n0 1 (by omega)).trans k1⟩⟩
 rcases hin b hb with h | h
 ·exact d1 b h
 exact⟨by omega,λ h'=>by have:=hl2 b h';omega⟩
theorem Two.step2 {c:Cod}{w:Wld}{K:Hp}{m i j:Nat}(T:Two c w K m i j)(hi:j<1000000):∃H' n',CallOk pG 12 [.ptr 9 0] K m (.tup [.bool (goS (newV c w) (j+1)).ended,.int .i64 0]) H' n'/\Two c w H' n' i (j+1):=by
 obtain⟨⟨s1,rv1,tv1,s2,rv2,tv2,M1,M2,d1,d2,v1,v2⟩,tp,k0,k1⟩:=T
 have hst:s2.steps<=j:=by
  have:=(goS_steps (v0_view c w) rfl j).1;rw[<-v2]at this;exact this
 obtain⟨H',n',rv',tv',hcl,hle,M',hfr,hin,ht⟩:=stepOk (by omega) M2;have vw:(stepS s2 (m+1)).view=goS (newV c w) (j+1):=by rw[step_view,v2];rfl
 have hen:(stepS s2 (m+1)).ended=(goS (newV c w) (j+1)).ended:=by rw[<-vw];rfl
 rw[hen]at hcl;have hl1:∀b∈s1.fp 5 3 4 rv1 tv1,b<m:=λ b hb=>by rw[fp_keys]at hb;exact M1.lay.kl b hb
 have hm:2<=m:=by have:=M1.lt.1;omega
 have n0:∀b,b<2->H'.get b=K.get b:=λ b hb=>hfr b (by omega) λ h=>by have:=d2 b h;omega
 refine⟨H',n',hcl,⟨⟨s1,rv1,tv1,_,rv',tv',M1.frame hle λ b hb=>hfr b (hl1 b hb) (d1 b hb).2,M',λ b hb=>⟨(d1 b hb).1,λ h=>?_⟩,λ b hb=>?_,v1,vw⟩,ht tp,(n0 0 (by omega)).trans k0,(n0 1 (by omega)).trans k1⟩⟩
 ·rcases hin b h with h' | h'
  ·exact(d1 b hb).2 h'
  have:=hl1 b hb;omega
 rcases hin b hb with h' | h'
 ·exact d2 b h'
 omega
theorem Two.out1 {c:Cod}{w:Wld}{K:Hp}{m i j:Nat}(T:Two c w K m i j):CallOk pG 13 [.ptr 5 0] K m (runV c w i).av K m/\(runV c w i).fine:=by
 obtain⟨⟨s1,rv1,tv1,s2,rv2,tv2,M1,M2,d1,d2,v1,v2⟩,tp,k0,k1⟩:=T;have e:s1.out=runV c w i:=by unfold runV;rw[<-v1];rfl
 rw[<-e];exact⟨out13 M1,out_fine M1.fine⟩
theorem Two.out2 {c:Cod}{w:Wld}{K:Hp}{m i j:Nat}(T:Two c w K m i j):CallOk pG 13 [.ptr 9 0] K m (runV c w j).av K m/\(runV c w j).fine:=by
 obtain⟨⟨s1,rv1,tv1,s2,rv2,tv2,M1,M2,d1,d2,v1,v2⟩,tp,k0,k1⟩:=T;have e:s2.out=runV c w j:=by unfold runV;rw[<-v2];rfl
 rw[<-e];exact⟨out13 M2,out_fine M2.fine⟩
theorem Two.lo {c:Cod}{w:Wld}{K:Hp}{m i j:Nat}(T:Two c w K m i j):9<m:=by
 obtain⟨⟨s1,rv1,tv1,s2,rv2,tv2,M1,M2,d1,d2,v1,v2⟩,tp,k0,k1⟩:=T;exact M2.lt.1
theorem Two.frame {c:Cod}{w:Wld}{K K':Hp}{m m' i j:Nat}(T:Two c w K m i j)(hm:m<=m')(htp:Top K' m')(h:∀b,b<m->K'.get b=K.get b):Two c w K' m' i j:=by
 obtain⟨⟨s1,rv1,tv1,s2,rv2,tv2,M1,M2,d1,d2,v1,v2⟩,tp,k0,k1⟩:=T;have hm:2<=m:=by have:=M1.lt.1;omega
 exact⟨⟨s1,rv1,tv1,s2,rv2,tv2,M1.frame (by omega) λ b hb=>h b (by rw[fp_keys]at hb;exact M1.lay.kl b hb),M2.frame (by omega) λ b hb=>h b (by rw[fp_keys]at hb;exact M2.lay.kl b hb),d1,d2,v1,v2⟩,htp,(h 0 (by omega)).trans k0,(h 1 (by omega)).trans k1⟩
structure LawF (F:Fr)(k:Nat):Prop where
 f3:F.get 3=some (.ptr 0 0)
 f4:F.get 4=some (.ptr 1 0)
 f7:F.get 7=some (.int .i64 (k:Int))
 f9:F.get 9=some (.ptr 5 0)
 f11:F.get 11=some (.ptr 9 0)
theorem steps3a (c:Cod)(w:Wld)(k:Nat)(hk:k<=300)(F:Fr)(K:Hp)(m:Nat)(Q:QA)(hF:LawF F k)(f15:F.get 15=some (.int .i64 0))(T:Two c w K m 0 0)
  (hQ:∀F K m j,j<=k->LawF F k->Two c w K m k j->Q .normal F K m []):LoopV L3_0 pG F K m [] (BlkQ 0 Q):=by
 refine LoopV.of (λ q F K m ms=>∃i j:Nat,q=k - i/\i<=k/\j<=i/\LawF F k/\F.get 15=some (.int .i64 (i:Int))/\Two c w K m i j/\ms=[]) k ⟨0,0,rfl,by omega,by omega,hF,f15,T,rfl⟩ ?_;clear hF f15 T F K m;rintro q F K m ms ⟨i,j,rfl,hi,hj,⟨f3,f4,f7,f9,f11⟩,f15,T,rfl⟩
 by_cases h:i<k
 ·obtain⟨H1,m1,hcl,T1⟩:=T.step1 (by omega);obtain⟨ho,_⟩:=T1.out1;have oe:(runV c w (i+1)).ended=(goS (newV c w) (i+1)).ended:=(out_ended _).1;generalize (goS (newV c w) (i+1)).ended=en at *;simp only[Out.av,Out.cells,oe]at ho;simp[L3_0,R3_13,f7,f15,h,R3_14,f9];refine CalV.of hcl.callR λ u K2 k2 ⟨a1,a2,a3⟩=>?_;subst a1 a2 a3;simp[R3_15,f9];refine CalV.of ho.callR λ u K2 k2 ⟨a1,a2,a3⟩=>?_;subst a1 a2 a3
  have q2:cArith .rem .i64 (i:Int) 3=.val (.int .i64 ((i % 3:Nat):Int)):=by
   simp only[cArith,vint_eq];rw[if_neg (by omega),Int.tmod_eq_emod_of_nonneg (by omega)];rfl
  simp[R3_17,f15,q2]
  by_cases h3:(i:Int) % 3=0
  ·obtain⟨H3,m3,hcl3,T3⟩:=T1.step2 (by omega);simp[h3,R3_18,f11];refine CalV.of hcl3.callR λ u K2 k2 ⟨a1,a2,a3⟩=>?_;subst a1 a2 a3;simp[R3_19,f15,wrap_nat i (by omega)];exact⟨_,by omega,i+1,rfl,by omega,j+1,by omega,⟨by simp[f3],by simp[f4],by simp[f7],by simp[f9],by simp[f11]⟩,by omega,T3⟩
  simp[h3,R3_19,f15,wrap_nat i (by omega)];exact⟨_,by omega,i+1,rfl,by omega,j,by omega,⟨by simp[f3],by simp[f4],by simp[f7],by simp[f9],by simp[f11]⟩,by omega,T1⟩
 obtain rfl:i=k:=by omega
 simp[L3_0,R3_13,f7,f15];exact hQ _ K m j hj ⟨by simp[f3],by simp[f4],by simp[f7],by simp[f9],by simp[f11]⟩ T
theorem eMnx_f (c:List AV->Option AV)(xs:List G)(F:Fr)(H:Hp)(n:Nat):eMnx c xs F H n=(match (evs F xs).bind c with | some v=>.val v | none=>.fail):=by
 unfold eMnx
 cases evs F xs with
 | none=>rfl
 | some l=>show (match c l with | some v=>ERes.val v | none=>.fail)=_;rfl
theorem mnx_min (a b:Int):minI [.int .i64 a,.int .i64 b]=some (.int .i64 (min a b)):=by
 simp[minI,minR];omega
theorem mnx_max (a b:Int):maxI [.int .i64 a,.int .i64 b]=some (.int .i64 (max a b)):=by
 simp[maxI,maxR];omega
theorem steps3b (c:Cod)(w:Wld)(k:Nat)(hk:k<=300)(hw:w.fine)(hc:c.chk=0)(hok:WldOk w)(aw:FnPure pG 7 [] (.bool true))(F:Fr)(K:Hp)(m:Nat)(j:Nat)(hj:j<=k)(FF:LawF F k)(T:Two c w K m k j):
  VC pG (.seq R3_20 (.seq (.seq R3_21 (.cond (slotG 119) (.seq R3_22 .ret) .skip)) (.seq R3_23 (.seq (.seq R3_24 (.cond (slotG 150) (.seq R3_25 .ret) .skip)) (.seq R3_26 (.seq R3_27 .ret)))))) F K m [] (RetQ [rTmp 6] λ v1 H' x=>Frz (Tr.get H') v1 (AV.bool true)):=by
 obtain⟨f3,f4,f7,f9,f11⟩:=FF;have r1:=run14 c w hw hc hok k (by omega);have r2:=run14 c w hw hc hok (k+7) (by omega);have hof:=T.out1.2;have hst:=(goS_steps (v0_view c w) rfl k);have k0:=T.k0;have k1:=T.k1;have e1:AV.agg (eWld.cells w) 3=eWld.av w:=rfl;have e2:AV.agg c.cells 3=c.av:=rfl;have hs1:=same15 _ hof;have hoe:=out_ended (goS (newV c w) k)
 have hmore:(runV c w k).ended=true->runV c w (k+7)=runV c w k:=λ h=>by
  unfold runV at h ⊢;rw[(out_ended _).1]at h;rw[goS_end (v0_view c w) h 7]
 have hless:(runV c w k).ended=false->(runV c w k).steps=(k:Int):=λ h=>by
  unfold runV at h ⊢;rw[(out_ended _).1]at h;rw[(out_ended _).2,hst.2.1 h]
 have t1:∀K' m',m<=m'->Top K' m'->(∀b,b<m->K'.get b=K.get b)->CallOk pG 13 [.ptr 5 0] K' m' (runV c w k).av K' m':=λ K' m' h1 ht h2=>(T.frame h1 ht h2).out1.1;have t2:∀K' m',m<=m'->Top K' m'->(∀b,b<m->K'.get b=K.get b)->CallOk pG 13 [.ptr 9 0] K' m' (runV c w j).av K' m':=λ K' m' h1 ht h2=>(T.frame h1 ht h2).out2.1;have hof2:=T.out2.2;have hjs:=goS_steps (v0_view c w) rfl j
 have r3:FnPure pG 14 [c.av,eWld.av w,.int .i64 (runV c w j).steps] (.tup [(runV c w j).av,.int .i64 0]):=by
  have:=run14 c w hw hc hok (goS (newV c w) j).steps (by omega);have e:runV c w (goS (newV c w) j).steps=runV c w j:=by unfold runV;rw[hjs.2.2]
  rw[e]at this;have e3:(runV c w j).steps=((goS (newV c w) j).steps:Int):=(out_ended _).2;rw[e3];exact this
 have hs2:=same15 _ hof2;have tp:=T.top;generalize runV c w k=o at *;generalize runV c w j=oj at *;generalize runV c w (k+7)=om at *;have ho1:(tabAV o.rows).one=true:=rfl;simp only[Out.av,Out.cells]at r1 r2 t1 hs1;simp[R3_20,f3,f4,f7,k0,k1,e1,e2];refine CalV.pure r1 ?_;simp[ho1,R3_21];generalize hK:(Tr.put _ m _:Hp)=K1;have km:K1.get m=some (.cells 5 [] [.bool o.ended,.int .i64 o.steps,.int .i64 o.err,tabAV o.rows,.ds (flC Tk.cells o.takes) o.takes.length 3] .nil):=by rw[<-hK];simp
 have kb:∀b,b<m->K1.get b=K.get b:=λ b hb=>by rw[<-hK];simp[show ¬b=m by omega]
 have kt:Top K1 (m+1):=λ b hb=>by rw[<-hK];simp[show ¬b=m by omega,tp b (by omega)]
 clear hK;have h13:(13:Nat)≠15:=by omega
 have hlo:=T.lo;have q0:=(kb 0 (by omega)).trans k0;have q1:=(kb 1 (by omega)).trans k1;have w7:IntKind.i64.wrap ((k:Int)+7)=((k+7:Nat):Int):=by rw[wrap_sm _ (by omega) (by omega)];omega
 refine DrwV.of (ceL_ok (l:=[⟨13,[.ptr 5 0],K1,m+1,.agg [.bool o.ended,.int .i64 o.steps,.int .i64 o.err,tabAV o.rows,.ds (flC Tk.cells o.takes) o.takes.length 3] 5,K1,m+1⟩,⟨15,[.agg [.bool o.ended,.int .i64 o.steps,.int .i64 o.err,tabAV o.rows,.ds (flC Tk.cells o.takes) o.takes.length 3] 5,.agg [.bool o.ended,.int .i64 o.steps,.int .i64 o.err,tabAV o.rows,.ds (flC Tk.cells o.takes) o.takes.length 3] 5],K1,m+1,.bool true,K1,m+1⟩]) ?_) ?_
 ·intro y hy;simp only[mem_cons,not_mem_nil,or_false]at hy
  rcases hy with rfl | rfl
  ·exact t1 K1 (m+1) (by omega) kt kb
  exact hs1.callOk _ _
 simp[clearF_get,f9,km,ceL_hd,ceL_tl h13,R3_23,f3,f4,f7,q0,q1,e1,e2,cAdd,w7];rw[show ((k:Int)+7)=((k+7:Nat):Int) by omega];refine CalV.pure r2 ?_;have ho2:(tabAV om.rows).one=true:=rfl
 have tail:∀(F2:Fr) (K2:Hp) (m2:Nat),m<=m2->F2.get 3=some (.ptr 0 0)->F2.get 4=some (.ptr 1 0)->F2.get 11=some (.ptr 9 0)->(∀b,b<m->K2.get b=K.get b)->Top K2 m2->VC pG (.seq R3_26 (.seq R3_27 .ret)) F2 K2 m2 [] (RetQ [rTmp 6] λ v1 H' x=>Frz (Tr.get H') v1 (AV.bool true)):=by
  intro F2 K2 m2 hm2 g3 g4 g11 gb gt;have p0:=(gb 0 (by omega)).trans k0;have p1:=(gb 1 (by omega)).trans k1;have tn:=gt.none;simp only[Out.av,Out.cells]at r3 t2 hs2;have ho3:(tabAV oj.rows).one=true:=rfl;simp[R3_26];have h134:(13:Nat)≠14:=by omega
  refine DrwV.of (ceL_ok (l:=[⟨13,[.ptr 9 0],K2,m2,.agg [.bool oj.ended,.int .i64 oj.steps,.int .i64 oj.err,tabAV oj.rows,.ds (flC Tk.cells oj.takes) oj.takes.length 3] 5,K2,m2⟩,⟨14,[c.av,eWld.av w,.int .i64 oj.steps],K2,m2,.tup [.agg [.bool oj.ended,.int .i64 oj.steps,.int .i64 oj.err,tabAV oj.rows,.ds (flC Tk.cells oj.takes) oj.takes.length 3] 5,.int .i64 0],K2,m2⟩]) ?_) ?_
  ·intro y hy;simp only[mem_cons,not_mem_nil,or_false]at hy
   rcases hy with rfl | rfl
   ·exact t2 K2 m2 hm2 gt gb
   exact r3.callOk _ _
  simp[clearF_get,g3,g4,g11,p0,p1,e1,e2,ceL_hd,ceL_tl h134,noneAt_cons,noneAt_nil,tn,ho3,R3_27];generalize hK3:(Tr.put _ m2 _:Hp)=K3;have s1:K3.get m2=some (.cells 5 [] [.bool oj.ended,.int .i64 oj.steps,.int .i64 oj.err,tabAV oj.rows,.ds (flC Tk.cells oj.takes) oj.takes.length 3] .nil):=by rw[<-hK3];simp
  have s2:∀b,b<m->K3.get b=K.get b:=λ b hb=>by rw[<-hK3];simp[show ¬b=m2 by omega,gb b hb]
  have s3:Top K3 (m2+1):=λ b hb=>by rw[<-hK3];simp[show ¬b=m2 by omega,gt b (by omega)]
  clear hK3;have h157:(15:Nat)≠7:=by omega
  have h137:(13:Nat)≠7:=by omega
  refine DrwV.of (ceL_ok (l:=[⟨13,[.ptr 9 0],K3,m2+1,.agg [.bool oj.ended,.int .i64 oj.steps,.int .i64 oj.err,tabAV oj.rows,.ds (flC Tk.cells oj.takes) oj.takes.length 3] 5,K3,m2+1⟩,⟨15,[.agg [.bool oj.ended,.int .i64 oj.steps,.int .i64 oj.err,tabAV oj.rows,.ds (flC Tk.cells oj.takes) oj.takes.length 3] 5,.agg [.bool oj.ended,.int .i64 oj.steps,.int .i64 oj.err,tabAV oj.rows,.ds (flC Tk.cells oj.takes) oj.takes.length 3] 5],K3,m2+1,.bool true,K3,m2+1⟩,⟨7,[],K3,m2+1,.bool true,K3,m2+1⟩]) ?_) ?_
  ·intro y hy;simp only[mem_cons,not_mem_nil,or_false]at hy
   rcases hy with rfl | rfl | rfl
   ·exact t2 K3 (m2+1) (by omega) s3 s2
   ·exact hs2.callOk _ _
   exact aw.callOk _ _
  simp[clearF_get,g11,s1,ceL_hd,ceL_tl h13,ceL_tl h157,ceL_tl h137];exact .bool rfl
 cases hen:o.ended with
 | true =>
  have hom:=hmore hen;subst hom;simp only[hen]at hs1 km;simp[ho2,R3_24,clearF_get,km,show ¬m=m+1 by omega,hen];refine CalV.pure hs1 ?_;simp[clearF_get,km,show ¬m=m+1 by omega];refine tail _ _ _ (by omega) (by simp[clearF_get,f3]) (by simp[clearF_get,f4]) (by simp[clearF_get,f11]) (λ b hb=>by simp[show ¬b=m+1 by omega,kb b hb]) λ b hb=>by simp[show ¬b=m+1 by omega,kt b (by omega)]
 | false =>
  have hsk:=hless hen;simp only[hen,hsk]at km;simp[ho2,R3_24,clearF_get,km,show ¬m=m+1 by omega,hen,hsk,f7];refine tail _ _ _ (by omega) (by simp[clearF_get,f3]) (by simp[clearF_get,f4]) (by simp[clearF_get,f11]) (λ b hb=>by simp[show ¬b=m+1 by omega,kb b hb]) λ b hb=>by simp[show ¬b=m+1 by omega,kt b (by omega)]
theorem steps3 (c:Cod) (w:Wld) (fuel:Int) (hw:w.fine) (hl:c.l.length<=lim):FnPure pG 3 [c.av,eWld.av w,.int .i64 fuel] (.bool true):=by
 refine pureV c3 (by simp) (by simp) (by simp[A3]) λ F hF=>?_;have ho:=eWld.one w;have hmany:=many5 w hw.l;have hmay:=may6 w hw;simp only[Enc.av]at hmany hmay;unfold lim at hl;have aw:=aw7;simp[A3,B3,R3_0,R3_1,hF,Enc.av,Cod.av,Cod.cells];refine CalV.pure hmany ?_
 cases hm:manyB w with
 | true=>simp[R3_2];refine CalV.pure aw ?_;simp;exact .bool rfl
 | false =>
 simp
 by_cases h2:2000<c.l.length
 ·simp[h2,show (2000:Int)<(c.l.length:Int) by omega,R3_2];refine CalV.pure aw ?_;simp;exact .bool rfl
 simp[h2,show ¬(2000:Int)<(c.l.length:Int) by omega];refine CalV.pure hmay ?_
 by_cases hok:WldOk w
 rotate_left
 ·simp[hok,R3_2];refine CalV.pure aw ?_;simp;exact .bool rfl
 obtain⟨hk1,hk2⟩:=kFu_le fuel;simp[hok,R3_3,hF,eMnx_f,mnx_min,mnx_max,hk2];generalize kFu fuel=k at *;have hcp:=copy9 w hw;have hm8:=memory8 w;simp only[Enc.av]at hcp;simp[R3_4];refine CalV.pure hcp ?_;simp;refine CalV.pure (by simpa only [Enc.av]using hm8) ?_;simp[R3_5];have e2:AV.agg [.int .i64 c.regs,.int .i64 c.cur,.ds (insC c.l) c.l.length 15] 3=c.av:=rfl;have e1:AV.agg (eWld.cells w) 3=eWld.av w:=rfl;have hnil:=newNil c;have hchk:=chk4 c;have hall1:∀x,eWld.av w=x->True:=λ _ _=>trivial;rw[e2,e1]
 by_cases hc:c.chk=0
 ·generalize hK:(Tr.put _ 1 _:Hp)=K0;have k0:K0.get 0=some (.cells 3 [] c.cells .nil):=by rw[<-hK];simp[Cod.cells]
  have k1:K0.get 1=some (.cells 3 [] (eWld.cells w) .nil):=by rw[<-hK];simp
  have kt:Top K0 2:=λ b hb=>by rw[<-hK];simp[show ¬b=0 by omega,show ¬b=1 by omega]
  clear hK;obtain⟨H1,hcl1,M1,hb1,hge1,tp1⟩:∃H',CallOk pG 10 [c.av,.ifc 71 (eWld.av w)] K0 2 (.tup [.ptr 5 0,.int .i64 0]) H' 6/\Mach H' 6 5 3 4 nilR nilR (newS c w)/\(∀b,b<2->H'.get b=K0.get b)/\(∀b∈(newS c w).fp 5 3 4 nilR nilR,2<=b)/\(Top K0 2->Top H' 6):=newOk c w hc hw K0 2;obtain⟨H2,hcl2,M2,hb2,hge2,tp2⟩:∃H',CallOk pG 10 [c.av,.ifc 71 (eWld.av w)] H1 6 (.tup [.ptr 9 0,.int .i64 0]) H' 10/\Mach H' 10 9 7 8 nilR nilR (newS c w)/\(∀b,b<6->H'.get b=H1.get b)/\(∀b∈(newS c w).fp 9 7 8 nilR nilR,6<=b)/\(Top H1 6->Top H' 10):=newOk c w hc hw H1 6;have hlt1:∀b∈(newS c w).fp 5 3 4 nilR nilR,b<6:=λ b hb=>by rw[fp_keys]at hb;exact M1.lay.kl b hb
  have T0:Two c w H2 10 0 0:=⟨⟨newS c w,nilR,nilR,newS c w,nilR,nilR,M1.frame (by omega) λ b hb=>hb2 b (hlt1 b hb),M2,λ b hb=>⟨hge1 b hb,λ h=>by have:=hge2 b h;have:=hlt1 b hb;omega⟩,λ b hb=>by have:=hge2 b hb;omega,rfl,rfl⟩,tp2 (tp1 kt),(hb2 0 (by omega)).trans ((hb1 0 (by omega)).trans k0),(hb2 1 (by omega)).trans ((hb1 1 (by omega)).trans k1)⟩;have k0':=T0.k0;have k0'':=(hb1 0 (by omega)).trans k0;simp only[Cod.cells]at k0' k0'';refine CalV.of hcl1.callR λ u K2 k2 ⟨a1,a2,a3⟩=>?_;subst a1 a2 a3;simp[R3_6,k0''];rw[e2];refine CalV.of hcl2.callR λ u K2 k2 ⟨a1,a2,a3⟩=>?_;subst a1 a2 a3;simp[R3_7,k0'];rw[e2];refine CalV.pure hnil ?_;simp[R3_8,R3_10,R3_12];refine steps3a c w k hk1 _ _ _ _ ⟨by simp,by simp,by simp,by simp,by simp⟩ (by simp) T0 λ F K m j hj FF T=>?_;exact steps3b c w k hk1 hw hc hok aw F K m j hj FF T
 have hbad:=newBad c w hc
 have hc1:c.chk=1:=by
  unfold Cod.chk at hc ⊢
  split at hc
  ·split at hc
   ·exact absurd rfl hc
   rename_i h3 h4;rw[if_pos h3,if_neg h4]
  rename_i h3;rw[if_neg h3]
 rw[hc1]at hchk;refine CalV.pure hbad ?_;simp[R3_6];rw[e2];refine CalV.pure hbad ?_;simp[R3_7];rw[e2];refine CalV.pure hnil ?_;simp[R3_8,R3_10,R3_11];rw[e2];refine CalV.pure hchk ?_;simp;refine CalV.pure aw ?_;simp;exact .bool rfl
end Go.Abs
