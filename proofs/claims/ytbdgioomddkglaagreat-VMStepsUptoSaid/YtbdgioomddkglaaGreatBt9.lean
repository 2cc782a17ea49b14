/- A part. -/
import Derived.Test.YtbdgioomddkglaaGreatBt8
import Derived.Test.YtbdgioomddkglaaGreatVmM
noncomputable section
namespace Go.Abs
open List
open Go.Proofs
open Classical
set_option maxRecDepth 100000
def invE (P:Program) (name:String) (v:Option AV):Option AV:=match v with
 | some (.ifc t v)=>match methT P t name with
  | some f=>some (.fn (.func f) [v] [])
  | none=>none
 | _=>none
theorem invG_f (P:Program)(name:String)(g:G)(F:Fr):(invG P name g).f F=invE P name (g.f F):=Eq.trans rfl rfl
theorem lisT_eq (b:Nat):lisT b=.tup [.ifc 260 (.ptr b 0),.int .i64 0]:=Eq.trans rfl rfl
theorem inv_scan (v : AV) : invE pG "Scan" (some (.ifc 71 v)) = some (.fn (.func 226) [v] []) := by simp [invE, mScan]
theorem inv_seek (v : AV) : invE pG "Seek" (some (.ifc 71 v)) = some (.fn (.func 227) [v] []) := by simp [invE, mSeek]
theorem inv_next (v : AV) : invE pG "Next" (some (.ifc 260 v)) = some (.fn (.func 235) [v] []) := by simp [invE, mNext]
theorem Mach.updC {S K:Hp}{n p rb cb q:Nat}{rv tv:AV}{s:MS}{c':Cur}{l:Lis}(M:Mach S n p rb cb rv tv s) (hc:c'.lst=some l) (hp:K.get p=some (.cells 13 [] (s.mc rb cb rv tv) .nil)) (hcb:∃y,K.get cb=some y/\OwnB y (flC Cur.cells (s.curs.set q c'))) (hb:K.get c'.b=some (.cells 4 [] l.cells .nil))
  (hk:∀b,b<n->b≠p->b≠cb->b≠c'.b->K.get b=S.get b)(hne:c'.b≠rb/\(∀c,blk rv=some c->c≠c'.b)/\(∀c,blk tv=some c->c≠c'.b)/\∀(i:Nat)(h:i<s.curs.length),i≠q->(s.curs[i]).lst≠none->(s.curs[i]).b≠c'.b):ToldO K (({s with curs:=s.curs.set q c' }:MS).told p rb cb rv tv):=by
 have hnd:=M.lay.nd;have hlt:=M.lay.lt;have htl:=M.told;simp only[MS.told,map_cons,nodup_cons,mem_cons,not_or]at hnd hlt htl
 have hold:∀e,e∈slT rv (rowsC s.rows)++(slT tv (flC Tk.cells s.takes)++lsT s.curs)->e.1≠c'.b->∃y,K.get e.1=some y/\OwnB y e.2:=λ e he h=>by
  have h1:=hlt e (.inr (.inr (.inr he)));have h2:=htl e (.inr (.inr (.inr he)));refine⟨_,(hk e.1 h1 (λ h=>hnd.1.2.2 (by rw[<-h];exact mem_map_of_mem he)) (λ h=>hnd.2.2.1 (by rw[<-h];exact mem_map_of_mem he)) h).trans h2,OwnB.list rfl⟩
 intro e he;simp only[MS.told,mem_cons,mem_append]at he
 rcases he with rfl | rfl | rfl | he | he | he
 ·exact⟨_,by simpa[MS.mc]using hp,OwnB.list (by simp[MS.mc])⟩
 ·exact⟨_,(hk _ (hlt _ (.inr (.inl rfl))) (Ne.symm hnd.1.1) hnd.2.1.1 (Ne.symm hne.1)).trans (htl _ (.inr (.inl rfl))),OwnB.list rfl⟩
 ·exact hcb
 ·refine hold e (mem_append_left _ he) ?_
  cases rv<;>simp[slT]at he
  subst he;exact hne.2.1 _ rfl
 ·refine hold e (List.mem_append_right _ (mem_append_left _ he)) ?_
  cases tv<;>simp[slT]at he
  subst he;exact hne.2.2.1 _ rfl
 unfold lsT at he;rw[List.mem_filterMap]at he;obtain⟨c,hc1,hc2⟩:=he;obtain⟨i,hi,rfl⟩:=getElem_of_mem hc1;rw[getElem_set]at hc2
 split at hc2
 ·rw[hc]at hc2;simp at hc2;subst hc2;exact⟨_,hb,OwnB.list rfl⟩
 rename_i hiq;simp at hi
 have hm:e∈lsT s.curs:=by
  unfold lsT;rw[List.mem_filterMap];exact⟨s.curs[i],getElem_mem hi,hc2⟩
 refine hold e (List.mem_append_right _ (List.mem_append_right _ hm)) ?_
 cases hl:(s.curs[i]).lst with
 | none=>rw[hl]at hc2;simp at hc2
 | some l2 =>
  rw[hl]at hc2;simp at hc2;subst hc2;exact hne.2.2.2 i hi (λ e=>hiq e.symm) (by rw[hl];simp)
def newC (b:Nat)(l:Lis):Cur:=⟨b,some l,none,0,0,false⟩
theorem curOne (c:Cur):allOne c.cells=true:=by
 have h1if:(ifcA c.lst c.b).one=true:=by unfold ifcA;split<;>rfl
 have h1ro:(rowN c.row).one=true:=by unfold rowN;split<;>rfl
 simp[Cur.cells,h1if,h1ro]
theorem Mach.neN {H:Hp}{n p rb cb b:Nat}{rv tv:AV}{s:MS}(M:Mach H n p rb cb rv tv s) (h:n<=b) (q:Nat):b≠rb/\(∀c,blk rv=some c->c≠b)/\(∀c,blk tv=some c->c≠b)/\∀(i:Nat) (hi:i<s.curs.length),i≠q->(s.curs[i]).lst≠none->(s.curs[i]).b≠b:=by
 have hlt:=M.lay.lt;refine⟨λ e=>?_,λ c hc e=>?_,λ c hc e=>?_,λ i hi _ hl e=>?_⟩
 ·have:=M.lt;omega
 ·have:=hlt (c,rowsC s.rows) (by simp[MS.told,slT_mem hc]);simp at this;omega
 ·have:=hlt (c,flC Tk.cells s.takes) (by simp[MS.told,slT_mem hc]);simp at this;omega
 cases hx:(s.curs[i]).lst with
 | none=>exact hl hx
 | some l =>
  have:=hlt ((s.curs[i]).b,l.cells) (by
   simp only[MS.told,mem_cons,mem_append];refine .inr (.inr (.inr (.inr (.inr ?_))));unfold lsT;rw[List.mem_filterMap];exact⟨s.curs[i],getElem_mem hi,by simp[hx]⟩)
  simp at this;omega
theorem scan48 {S:Hp}{n p rb cb:Nat}{rv tv:AV}{s:MS}(x:Ins)(q:Nat)(ha:x.a=(q:Int))(hq:q<s.curs.length)(ht:Top S n)(M:Mach S n p rb cb rv tv s):
  CallR pG 48 [.ptr p 0,x.av] S n (λ u K k=>u=toT (-1)/\ToldO K (({s with curs:=s.curs.set q (newC (n+1+1+1+1) (scanL s.w x.id))}:MS).told p rb cb rv tv)/\k<=n+5):=by
 refine CallR.of c48 (by simp[A48]) λ F hF=>?_;have gp0:=M.gp;have gp:=M.gp;obtain⟨y,gr,ho⟩:=M.gr;obtain⟨yc,gc,hoc⟩:=M.gc;obtain⟨l1,l2,l3⟩:=M.lt;obtain⟨d1,d2,d3⟩:=M.ne;have hiq:=cIxa_sl (b:=cb) (o:=0) (sz:=5) (k:=.i64) hq;obtain⟨y',hst,ho'⟩:=stR (b:=cb) (c:=5) hoc (λ a=>a.cells_len) curOne (by omega) hq (newC (n+1+1+1+1) (scanL s.w x.id));rw[Nat.zero_add]at hiq;generalize q*5=oq at hiq hst;simp only[MS.mc]at gp;have tn:=ht.none;simp[A48,B48,R48_0,R48_1,hF,Ins.av,Ins.cells,ha];generalize hK0:Tr.put S n _=K0;have k0:K0.get n=some (.cells 15 [] [.int .i64 x.op,.int .i64 (q:Int),.int .i64 x.b,.int .i64 x.c,.int .i64 x.n,.int .i64 x.j,.int .i64 x.ex,.int .u32 x.id,.int .i64 x.lo,.int .i64 x.hi,.bool x.loIn,.bool x.hiIn,.int .i64 x.v.kind,.int .i64 x.v.num,.str x.v.s] .nil):=by rw[<-hK0];simp
 have kb:∀b,b<n->K0.get b=S.get b:=λ b hb=>by rw[<-hK0];simp[neC hb]
 clear hK0;obtain⟨H1,hcl,hH1,hH2⟩:=scanOk s.w M.fine.w x.id K0 (n+1);refine DrwV.of (ceL_ok (l:=[⟨226,[eWld.av s.w,.int .u32 x.id],K0,n+1,lisT (n+1+1+1+1),H1,n+1+1+1+1+1⟩]) ?_) ?_
 ·simp only[mem_singleton];rintro _ rfl;exact hcl
 have qp:=(kb p l1).trans gp;have h0:=(hH2 n (by omega)).trans k0;have hb:∀b,b<n->H1.get b=S.get b:=λ b hb=>(hH2 b (by omega)).trans (kb b hb);have hp1:=(hb p l1).trans gp;have hc1:=(hb cb l3).trans gc;simp only[Cur.cells,newC,ifcA,rowN]at hst;simp[clearF_get,hF,qp,k0,invG_f,inv_scan,ceL_hd,lisT_eq,R48_2,R48_3];refine DrwV.of (ce0_ok (P:=pG)) ?_;simp[clearF_get,hF,hp1,h0,hiq,hc1,hst,R48_4];refine⟨rfl,M.updC (q:=q) (c':=newC (n+1+1+1+1) (scanL s.w x.id)) rfl (by simp[d2,hp1,MS.mc]) ⟨y',by simp,ho'⟩ (by simp[newC,show ¬n+1+1+1+1=cb by omega,hH1]) (λ b h1 h2 h3 h4=>by simp[h3,hb b h1]) (M.neN (b:=n+1+1+1+1) (by omega) q)⟩
theorem seekB_lt (w:Wld)(id:Int)(n:Nat):seekB w id n<=n+6:=by
 unfold seekB
 split<;>omega
theorem seek49c {S:Hp}{n p rb cb:Nat}{rv tv:AV}{s:MS}(x:Ins)(q:Nat)(ha:x.a=(q:Int))(hq:q<s.curs.length)(sp:Spn)(ht:Top S n)(M:Mach S n p rb cb rv tv s)
  (F:Fr)(K:Hp)(f0:F.get 0=some (.ptr p 0))(f3:F.get 3=some (.ptr n 0))(f6:F.get 6=some (.ptr (n+1) 0))(k0:K.get n=some (.cells 15 [] x.cells .nil))(k1:K.get (n+1)=some (.cells 11 [] sp.cells .nil))(kb:∀b,b<n->K.get b=S.get b):
  VC pG (.seq R49_6 (.seq (.seq R49_7 (.cond (slotG 65) R49_8 .skip)) (.seq R49_9 .ret))) F K (n+1+1) []
   (RetQ [rTmp 4,rTmp 5] λ u K k=>u=toT (-1)/\ToldO K (({s with curs:=s.curs.set q (newC (seekB s.w x.id (n+1+1)) (seekL s.w x.id sp))}:MS).told p rb cb rv tv)/\k<=n+10):=by
 have gp0:=M.gp;have gp:=M.gp;obtain⟨yc,gc,hoc⟩:=M.gc;obtain⟨l1,l2,l3⟩:=M.lt;obtain⟨d1,d2,d3⟩:=M.ne;have hiq:=cIxa_sl (b:=cb) (o:=0) (sz:=5) (k:=.i64) hq;obtain⟨y',hst,ho'⟩:=stR (b:=cb) (c:=5) hoc (λ a=>a.cells_len) curOne (by omega) hq (newC (seekB s.w x.id (n+1+1)) (seekL s.w x.id sp));rw[Nat.zero_add]at hiq;generalize q*5=oq at hiq hst;simp only[MS.mc]at gp;obtain⟨H1,hcl,hH1,hH2⟩:=seekOk s.w M.fine.w x.id sp K (n+1+1);have hB:=seekB_le s.w x.id (n+1+1);have hB2:=seekB_lt s.w x.id (n+1+1);generalize seekB s.w x.id (n+1+1)=bb at *;have qp:=(kb p l1).trans gp;have h0:=(hH2 n (by omega)).trans k0;have hb:∀b,b<n->H1.get b=S.get b:=λ b hb=>(hH2 b (by omega)).trans (kb b hb);have hp1:=(hb p l1).trans gp;have hc1:=(hb cb l3).trans gc;simp only[Cur.cells,newC,ifcA,rowN]at hst;simp only[Ins.cells,ha]at k0 h0;simp[R49_6];refine DrwV.of (ceL_ok (l:=[⟨227,[eWld.av s.w,.int .u32 x.id,sp.av],K,n+1+1,lisT bb,H1,bb+1⟩]) ?_) ?_
 ·simp only[mem_singleton];rintro _ rfl;exact hcl
 have e1:(AV.agg sp.cells 11)=sp.av:=rfl;simp[clearF_get,f0,f3,f6,qp,k0,k1,e1,invG_f,inv_seek,ceL_hd,lisT_eq,R49_7,R49_8];refine DrwV.of (ce0_ok (P:=pG)) ?_;simp[clearF_get,f0,f3,hp1,h0,hiq,hc1,hst,R49_9];refine⟨rfl,M.updC (q:=q) (c':=newC bb (seekL s.w x.id sp)) rfl (by simp[d2,hp1,MS.mc]) ⟨y',by simp,ho'⟩ (by simp[newC,show ¬bb=cb by omega,hH1]) (λ b h1 h2 h3 h4=>by simp[h3,hb b h1]) (M.neN (b:=bb) (by omega) q),by omega⟩
def hiS (s:MS)(x:Ins)(sp:Spn):Spn:=if 0<=x.hi then {sp with hasHi:=true,hi:=s.regs.getD x.hi.toNat valZ} else sp
def loS (s:MS)(x:Ins)(sp:Spn):Spn:=if 0<=x.lo then {sp with hasLo:=true,lo:=s.regs.getD x.lo.toNat valZ} else sp
def seekQ (s:MS)(x:Ins)(n p rb cb q:Nat)(rv tv:AV)(sp:Spn):QA:=RetQ [rTmp 4,rTmp 5] λ u K k=>u=toT (-1)/\ToldO K (({s with curs:=s.curs.set q (newC (seekB s.w x.id (n+1+1)) (seekL s.w x.id sp))}:MS).told p rb cb rv tv)/\k<=n+10
theorem seek49b {S:Hp}{n p rb cb:Nat}{rv tv:AV}{s:MS}(x:Ins)(q:Nat)(ha:x.a=(q:Int))(hq:q<s.curs.length)(hhi:0<=x.hi->x.hi.toNat<s.regs.length)(sp:Spn)(ht:Top S n)(M:Mach S n p rb cb rv tv s)
  (F:Fr)(K:Hp)(f0:F.get 0=some (.ptr p 0))(f3:F.get 3=some (.ptr n 0))(f6:F.get 6=some (.ptr (n+1) 0))(k0:K.get n=some (.cells 15 [] x.cells .nil))(k1:K.get (n+1)=some (.cells 11 [] sp.cells .nil))(kb:∀b,b<n->K.get b=S.get b):
  VC pG (.seq (.seq R49_4 (.cond (slotG 42) R49_5 .skip)) (.seq R49_6 (.seq (.seq R49_7 (.cond (slotG 65) R49_8 .skip)) (.seq R49_9 .ret)))) F K (n+1+1) [] (seekQ s x n p rb cb q rv tv (hiS s x sp)):=by
 have gp:=M.gp;obtain⟨y,gr,ho⟩:=M.gr;obtain⟨l1,l2,l3⟩:=M.lt;simp only[MS.mc]at gp;have qp:=(kb p l1).trans gp;have qr:=(kb rb l2).trans gr;have k0':=k0;have k1':=k1;simp only[Ins.cells]at k0';simp only[Spn.cells]at k1';unfold hiS
 by_cases h:0<=x.hi
 ·have hi:=hhi h;obtain⟨j,hj⟩:∃j:Nat,x.hi=(j:Int):=⟨x.hi.toNat,by omega⟩;rw[hj]at k0' hi;rw[Int.toNat_natCast]at hi;have hix:=cIxa_sl (b:=rb) (o:=0) (sz:=3) (k:=.i64) hi;have hld:=ldR (c:=3) ho (λ a=>a.cells_len) hi;rw[Nat.zero_add]at hix;have hgd:s.regs.getD x.hi.toNat valZ=s.regs[j]:=by rw[hj,Int.toNat_natCast];simp[getD,hi]
  rw[if_pos h,hgd];generalize s.regs[j]=v at hld ⊢;generalize j*3=o at hix hld;simp only[Val.cells]at hld;simp[R49_4,R49_5,f3,k0'];refine DrwV.of (ce0_ok (P:=pG)) ?_;simp[clearF_get,f0,f3,f6,k0',k1',qp,hix,qr,hld,neC l1,neC l2,neD l1,neD l2];refine seek49c x q ha hq _ ht M _ _ (by simp[clearF_get,f0]) (by simp[clearF_get,f3]) (by simp[clearF_get,f6]) (by simp[k0]) (by simp[Spn.cells]) λ b hb=>?_;simp[neC hb,kb b hb]
 rw[if_neg h];simp[R49_4,f3,k0',h];exact seek49c x q ha hq sp ht M _ _ (by simp[f0]) (by simp[f3]) (by simp[f6]) k0 k1 kb
theorem seek49a {S:Hp}{n p rb cb:Nat}{rv tv:AV}{s:MS}(x:Ins)(q:Nat)(ha:x.a=(q:Int))(hq:q<s.curs.length)(hlo:0<=x.lo->x.lo.toNat<s.regs.length)(hhi:0<=x.hi->x.hi.toNat<s.regs.length)(sp:Spn)(ht:Top S n)(M:Mach S n p rb cb rv tv s)
  (F:Fr)(K:Hp)(f0:F.get 0=some (.ptr p 0))(f3:F.get 3=some (.ptr n 0))(f6:F.get 6=some (.ptr (n+1) 0))(k0:K.get n=some (.cells 15 [] x.cells .nil))(k1:K.get (n+1)=some (.cells 11 [] sp.cells .nil))(kb:∀b,b<n->K.get b=S.get b):
  VC pG (.seq (.seq R49_2 (.cond (slotG 29) R49_3 .skip)) (.seq (.seq R49_4 (.cond (slotG 42) R49_5 .skip)) (.seq R49_6 (.seq (.seq R49_7 (.cond (slotG 65) R49_8 .skip)) (.seq R49_9 .ret))))) F K (n+1+1) [] (seekQ s x n p rb cb q rv tv (hiS s x (loS s x sp))):=by
 have gp:=M.gp;obtain⟨y,gr,ho⟩:=M.gr;obtain⟨l1,l2,l3⟩:=M.lt;simp only[MS.mc]at gp;have qp:=(kb p l1).trans gp;have qr:=(kb rb l2).trans gr;have k0':=k0;have k1':=k1;simp only[Ins.cells]at k0';simp only[Spn.cells]at k1';unfold loS
 by_cases h:0<=x.lo
 ·have hi:=hlo h;obtain⟨j,hj⟩:∃j:Nat,x.lo=(j:Int):=⟨x.lo.toNat,by omega⟩;rw[hj]at k0' hi;rw[Int.toNat_natCast]at hi;have hix:=cIxa_sl (b:=rb) (o:=0) (sz:=3) (k:=.i64) hi;have hld:=ldR (c:=3) ho (λ a=>a.cells_len) hi;rw[Nat.zero_add]at hix;have hgd:s.regs.getD x.lo.toNat valZ=s.regs[j]:=by rw[hj,Int.toNat_natCast];simp[getD,hi]
  rw[if_pos h,hgd];generalize s.regs[j]=v at hld ⊢;generalize j*3=o at hix hld;simp only[Val.cells]at hld;simp[R49_2,R49_3,f3,k0'];refine DrwV.of (ce0_ok (P:=pG)) ?_;simp[clearF_get,f0,f3,f6,k0',k1',qp,hix,qr,hld,neC l1,neC l2,neD l1,neD l2];refine seek49b x q ha hq hhi _ ht M _ _ (by simp[clearF_get,f0]) (by simp[clearF_get,f3]) (by simp[clearF_get,f6]) (by simp[k0]) (by simp[Spn.cells]) λ b hb=>?_;simp[neC hb,kb b hb]
 rw[if_neg h];simp[R49_2,f3,k0',h];exact seek49b x q ha hq hhi sp ht M _ _ (by simp[f0]) (by simp[f3]) (by simp[f6]) k0 k1 kb
def spnS (s:MS)(x:Ins)(i N:Nat):Spn:=hiS s x (loS s x ⟨(s.regs.drop i).take N,false,valZ,x.loIn,false,valZ,x.hiIn⟩)
theorem seek49 {S:Hp}{n p rb cb:Nat}{rv tv:AV}{s:MS}(x:Ins)(q i N:Nat)(ha:x.a=(q:Int))(hq:q<s.curs.length)(hb:x.b=(i:Int))(hn:x.n=(N:Int))(hi:i+N<=s.regs.length)(hN:N<=16)(hR:s.regs.length<=256)(hlo:0<=x.lo->x.lo.toNat<s.regs.length)(hhi:0<=x.hi->x.hi.toNat<s.regs.length)(ht:Top S n)(M:Mach S n p rb cb rv tv s):
  CallR pG 49 [.ptr p 0,x.av] S n (λ u K k=>u=toT (-1)/\ToldO K (({s with curs:=s.curs.set q (newC (seekB s.w x.id (n+1+1)) (seekL s.w x.id (spnS s x i N)))}:MS).told p rb cb rv tv)/\k<=n+10):=by
 refine CallR.of c49 (by simp[A49]) λ F hF=>?_;have gp:=M.gp;obtain⟨y,gr,ho⟩:=M.gr;obtain⟨l1,l2,l3⟩:=M.lt;simp only[MS.mc]at gp;have tn:=ht.none;have hsl:=cSlc_sl (b:=rb) (len:=s.regs.length) (sz:=3) (k:=.i64) (i:=i) (j:=i+N) (by omega) hi;rw[show i+N - i=N by omega]at hsl
 have ad:cAdd (.int .i64 (i:Int)) (.int .i64 (N:Int))=.val (.int .i64 ((i+N:Nat):Int)):=by
  simp[cAdd];rw[wrap_sm _ (by omega) (by omega)]
 simp[A49,B49,R49_0,R49_1,hF,Ins.av];generalize hK:Tr.put S n _=K;have k0:K.get n=some (.cells 15 [] x.cells .nil):=by rw[<-hK];simp
 have kb:∀b,b<n->K.get b=S.get b:=λ b hb=>by rw[<-hK];simp[neC hb]
 have kt:Top K (n+1):=λ b hb=>by rw[<-hK];simp[show ¬b=n by omega,ht b (by omega)]
 clear hK;have hcl:CallOk pG 28 [.sl rb (i*3) N 3] K (n+1) (rowAV ((s.regs.drop i).take N)) K (n+1):=cloneR (by omega) ((kb rb l2).trans gr) ho hi (by unfold lim;omega);have k0':=k0;simp only[Ins.cells,ha,hb,hn]at k0';have qp:=(kb p l1).trans gp;refine DrwV.of (ceL_ok (l:=[⟨28,[.sl rb (i*3) N 3],K,n+1,rowAV ((s.regs.drop i).take N),K,n+1⟩]) ?_) ?_
 ·simp only[mem_singleton];rintro _ rfl;exact hcl
 have tk:=kt.none;have h1:∀row,(rowAV row).one=true:=λ _=>rfl;have h2:∀row,(rowAV row).len=1:=λ _=>rfl;have h3:∀row,(rowAV row).cells=[rowAV row]:=λ _=>rfl;unfold spnS;generalize hrow:(s.regs.drop i).take N=row;generalize ((i+N:Nat):Int)=iN at hsl ad;generalize i*3=o at hsl;simp[clearF_get,hF,qp,k0',hsl,ad,ceL_hd,noneAt_cons,noneAt_nil,tk,h1,h2,h3];exact seek49a x q ha hq hlo hhi ⟨row,false,valZ,x.loIn,false,valZ,x.hiIn⟩ ht M _ _ (by simp[clearF_get,hF]) (by simp[clearF_get]) (by simp[clearF_get]) (by simp[k0]) (by simp[Spn.cells,valZ,rowAV]) λ b hb=>by simp[neC hb,kb b hb]
def Lis.fnd (l:Lis) (i:Nat):Nat->Option Nat
 | 0=>none
 | t+1=>match l.rows[i]? with
  | none=>none
  | some r=>if l.p r=true then some i else l.fnd (i+1) t
def Lis.nxt (l:Lis):Option Nat:=l.fnd l.at_ (l.rows.length - l.at_)
def Lis.aft (l:Lis):Lis:=match l.nxt with | some k=>{l with at_:=k+1} | none=>{l with at_:=l.rows.length}
def nxtU (l:Lis)(o:Option Nat):AV:=match o with
 | some k=>.tup [rowAV (l.rows.getD k []),.agg [.int .u32 l.page,.int .i64 (k:Int)] 2,.bool true,.int .i64 0]
 | none=>.tup [nilR,.agg [.int .u32 0,.int .i64 0] 2,.bool false,.int .i64 0]
theorem next235 (l:Lis)(hl:l.fine)(b:Nat)(H:Hp)(n:Nat)(hb:H.get b=some (.cells 4 [] l.cells .nil))(hbn:b<n)(ht:Top H n):
  CallR pG 235 [.ptr b 0] H n (λ u K k=>u=nxtU l l.nxt/\K.get b=some (.cells 4 [] l.aft.cells .nil)/\(∀c,c<n->c≠b->K.get c=H.get c)/\k=n+1):=by
 refine CallR.of c235 (by simp[A235]) λ F hF=>?_;have hlen:=hl.len;unfold lim at hlen;have hat:=hl.at_
 have hcl:cLenL l.rv=.val (.int .i64 (l.rows.length:Int)):=by
  unfold Lis.rv
  split
  ·rename_i h;rw[hl.n h];rfl
  simp[tabAV]
 have tn:=ht.none;simp[A235,B235,R235_0];generalize hK:Tr.put H n _=K;have kb:K.get b=some (.cells 4 [] l.cells .nil):=by rw[<-hK];simp[show ¬b=n by omega,hb]
 have kn:K.get n=some (.cells 2 [] [.int .u32 0,.int .i64 0] .nil):=by rw[<-hK];simp
 have ko:∀c,c<n->c≠b->K.get c=H.get c:=λ c h1 _=>by rw[<-hK];simp[neC h1]
 clear hK
 refine LoopV.of (λ t F K n' ms=>∃i,t=l.rows.length - i/\i<=l.rows.length/\l.at_<=i/\l.nxt=l.fnd i (l.rows.length - i)/\F.get 0=some (.ptr b 0)/\F.get 3=some (.ptr n 0)/\F.get 4=some (.bool false)/\F.get 5=some (.int .i64 0)/\F.get 2=some nilR/\K.get b=some (.cells 4 [] ({l with at_:=i}:Lis).cells .nil)/\K.get n=some (.cells 2 [] [.int .u32 0,.int .i64 0] .nil)/\(∀c,c<n->c≠b->K.get c=H.get c)/\n'=n+1/\ms=[]) (l.rows.length - l.at_)
  ⟨l.at_,rfl,hat,Nat.le_refl _,rfl,by simp[hF],by simp,by simp,by simp,by simp,by simpa[Lis.cells,Lis.rv]using kb,kn,ko,rfl,rfl⟩ ?_
 clear kb kn ko hF F K;rintro q F K n' ms ⟨i,rfl,hi,hai,hnx,f0,f3,f4,f5,f2,kb,kn,ko,rfl,rfl⟩;have kb':=kb;simp only[Lis.cells]at kb';have e0:Lis.rv {l with at_:=i}=l.rv:=rfl;rw[e0]at kb';simp[L235_0,R235_1];refine DrwV.of (ce0_ok (P:=pG)) ?_;simp[clearF_get,f0,kb',hcl]
 by_cases h:i<l.rows.length
 ·have hne:l.rows≠[]:=by intro e;rw[e]at h;simp at h
  have hnil:l.nil=false:=by
   cases hx:l.nil with
   | false=>rfl
   | true=>exact absurd (hl.n hx) hne
  have hrv:l.rv=.ds (rowsC l.rows) l.rows.length 1:=by simp[Lis.rv,hnil,tabAV]
  obtain⟨f,cap,hfv,hfp⟩:=hl.fn hne;have hxx:=ixa_row (k:=.i64) h;have hfp1:=hfp _ (getElem_mem h);have hcp:=cloneP l.rows[i] (hl.row _ (getElem_mem h));rw[hrv,hfv]at kb';simp[h,R235_2,R235_3,R235_4,clearF_get,f0,kb',wrap_nat i (by omega)];refine DrwV.of (ceT_ok (l:=[(f,rowAV l.rows[i]::cap,λ H n=>.mk (.bool (l.p l.rows[i])) H n)]) ?_) ?_
  ·simp only[mem_singleton];rintro _ rfl;exact ceT_pure hfp1
  have hst:l.fnd i (l.rows.length - i)=if l.p l.rows[i]=true then some i else l.fnd (i+1) (l.rows.length - (i+1)):=by
   rw[show l.rows.length - i=(l.rows.length - (i+1))+1 by omega,Lis.fnd,getElem?_eq_getElem h]
  have hgd:l.rows.getD i []=l.rows[i]:=by simp[getD,h]
  generalize l.rows[i]=r at hxx hfp1 hcp hst hgd ⊢;have h1:(rowAV r).one=true:=rfl;simp[clearF_get,f0,hxx,ceT_hd]
  cases hpr:l.p r with
  | true =>
   rw[if_pos hpr]at hst;simp[R235_5];refine DrwV.of (ceT_ok (l:=[(28,[rowAV r],λ H n=>.mk (rowAV r) H n)]) ?_) ?_
   ·simp only[mem_singleton];rintro _ rfl;exact ceT_pure hcp
   have e1:l.nxt=some i:=hnx.trans hst;simp[clearF_get,f0,f3,hxx,ceT_hd,kn,h1,show ¬n=b by omega,show ¬b=n by omega];refine⟨by rw[e1];simp only[nxtU,hgd],?_,λ c h1 h2=>by simp[h2,neC h1,ko c h1 h2]⟩;unfold Lis.aft;rw[e1];simp[Lis.cells,hrv,hfv,Lis.rv,hnil,tabAV]
  | false =>
   rw[hpr,if_neg (by simp)]at hst;simp;refine⟨_,by omega,i+1,rfl,by omega,by omega,hnx.trans hst,by simp[clearF_get,f0],by simp[clearF_get,f3],by simp[clearF_get,f4],by simp[clearF_get,f5],by simp[clearF_get,f2],?_,by simp[show ¬n=b by omega,kn],λ c h1 h2=>by simp[h2,ko c h1 h2]⟩;simp[Lis.cells,hrv,hfv,Lis.rv,hnil,tabAV]
 obtain rfl:i=l.rows.length:=by omega
 have e1:l.nxt=none:=by rw[hnx,Nat.sub_self];rfl
 simp[R235_6,clearF_get,f2,f3,f4,f5,kn];refine⟨by rw[e1];rfl,?_,λ c h1 h2=>by simp[neC h1,ko c h1 h2]⟩;rw[if_neg (by omega),kb];unfold Lis.aft;rw[e1]
theorem stRj {i c j w b:Nat}{k:ABlk}{α:Type}{f:α->List AV}{l:List α}{v:AV}(ho:OwnB k (flC f l))(hk:∀a,(f a).length=c)(h:i<l.length)(hv:v.len=w)(hv2:v.cells.length=w)(hw:0<w)(h1:allOne v.cells=true)(hj:j+w<=c)(a':α)(ha:f a'=(f l[i]).take j++v.cells++(f l[i]).drop (j+w)):
  ∃y,stE w v (some k) b (i*c+j)=.upd (.tup []) b y/\OwnB y (flC f (l.set i a')):=by
 have hlen:=flC_len hk l;have hic:i*c+c<=l.length*c:=by have:=Nat.mul_le_mul_right c h;rw[Nat.succ_mul]at this;omega
 obtain⟨y,h3,h4⟩:=own_stN (H:=Tr.nil.put b (some k)) (b:=b) (o:=i*c+j) (c:=w) (by simp) ho hv hv2 hw h1 (by omega);refine⟨y,by simpa using h3,?_⟩;have hB:(f l[i]).length=c:=hk _
 have hL:flC f l=(flC f l).take (i*c)++f l[i]++(flC f l).drop (i*c+c):=by
  have:=flC_set hk h l[i];rw[List.set_getElem_self]at this;exact this.symm
 have hA:((flC f l).take (i*c)).length=i*c:=by rw[length_take];omega
 rw[<-flC_set hk h,ha];generalize (flC f l).take (i*c)=A at *;generalize (flC f l).drop (i*c+c)=C at *;rw[hL]at h4;rw[append_assoc A,List.take_append,List.drop_append]at h4;rw[take_of_length_le (by omega),drop_eq_nil_of_le (by omega),hA]at h4;rw[show i*c+j - i*c=j by omega,show i*c+j+w - i*c=j+w by omega,take_append_of_le_length (by omega),drop_append_of_le_length (by omega)]at h4;simpa[append_assoc]using h4
theorem fm_ne {α β:Type}{g:α->Option (Nat×β)}:∀ {l:List α},((l.filterMap g).map (·.1)).Nodup->∀ {i j:Nat}(hi:i<l.length) (hj:j<l.length),i<j->∀ {a b},g l[i]=some a->g l[j]=some b->a.1≠b.1
 | [],_,i,j,hi,_,_,_,_,_,_=>by simp at hi
 | x :: r,hn,i,j,hi,hj,hij,a,b,e1,e2=>by
  obtain⟨j',rfl⟩:∃j',j=j'+1:=⟨j - 1,by omega⟩;simp only[getElem_cons_succ]at e2;have hbm:b∈r.filterMap g:=List.mem_filterMap.2 ⟨_,getElem_mem _,e2⟩
  cases i with
  | zero =>
   simp only[List.getElem_cons_zero]at e1;rw[List.filterMap_cons,e1]at hn;simp only[map_cons,nodup_cons]at hn;intro e;exact hn.1 (e▸mem_map_of_mem (f:=(·.1)) hbm)
  | succ i =>
   simp only[getElem_cons_succ]at e1
   have hn':((r.filterMap g).map (·.1)).Nodup:=by
    rw[List.filterMap_cons]at hn
    cases hg:g x with
    | none=>rw[hg]at hn;exact hn
    | some y=>rw[hg]at hn;simp only[map_cons,nodup_cons]at hn;exact hn.2
   exact fm_ne hn' (by simpa using hi) (by simpa using hj) (by omega) e1 e2
theorem Mach.neQ {H:Hp}{n p rb cb q:Nat}{rv tv:AV}{s:MS}{l:Lis}(M:Mach H n p rb cb rv tv s)(hq:q<s.curs.length)(hl:(s.curs[q]).lst=some l):
  (s.curs[q]).b<n/\(s.curs[q]).b≠p/\(s.curs[q]).b≠cb/\H.get (s.curs[q]).b=some (.cells 4 [] l.cells .nil)/\((s.curs[q]).b≠rb/\(∀c,blk rv=some c->c≠(s.curs[q]).b)/\(∀c,blk tv=some c->c≠(s.curs[q]).b)/\∀(i:Nat)(hi:i<s.curs.length),i≠q->(s.curs[i]).lst≠none->(s.curs[i]).b≠(s.curs[q]).b):=by
 have hlt:=M.lay.lt;have hnd:=M.lay.nd;have htl:=M.told;simp only[MS.told,map_cons,nodup_cons,mem_cons,not_or]at hnd hlt htl;have hm:((s.curs[q]).b,l.cells)∈lsT s.curs:=List.mem_filterMap.2 ⟨s.curs[q],getElem_mem hq,by simp[hl]⟩;have hm2:((s.curs[q]).b,l.cells)∈slT rv (rowsC s.rows)++(slT tv (flC Tk.cells s.takes)++lsT s.curs):=List.mem_append_right _ (List.mem_append_right _ hm);have hm3:=mem_map_of_mem (f:=(·.1)) hm2;have hd:=hnd.2.2.2;rw[map_append,nodup_append,map_append,nodup_append]at hd;refine⟨hlt _ (.inr (.inr (.inr hm2))),λ e=>hnd.1.2.2 (e▸hm3),λ e=>hnd.2.2.1 (e▸hm3),htl _ (.inr (.inr (.inr hm2))),λ e=>hnd.2.1.2 (e▸hm3),λ c hc e=>?_,λ c hc e=>?_,λ i hi hiq hli e=>?_⟩
 ·exact hd.2.2 c (mem_map_of_mem (f:=(·.1)) (slT_mem hc (rowsC s.rows))) (s.curs[q]).b (List.mem_append_right _ (mem_map_of_mem (f:=(·.1)) hm)) e
 ·exact hd.2.1.2.2 c (mem_map_of_mem (f:=(·.1)) (slT_mem hc (flC Tk.cells s.takes))) (s.curs[q]).b (mem_map_of_mem (f:=(·.1)) hm) e
 cases hx:(s.curs[i]).lst with
 | none=>exact hli hx
 | some l2 =>
  rcases Nat.lt_or_gt_of_ne hiq with h | h
  ·exact fm_ne hd.2.1.2.1 hi hq h (a:=((s.curs[i]).b,l2.cells)) (b:=((s.curs[q]).b,l.cells)) (by simp[hx]) (by simp[hl]) e
  exact fm_ne hd.2.1.2.1 hq hi h (a:=((s.curs[q]).b,l.cells)) (b:=((s.curs[i]).b,l2.cells)) (by simp[hl]) (by simp[hx]) e.symm
def nxtC (c:Cur)(l:Lis):Cur:=match l.nxt with
 | some k=>{c with lst:=some l.aft,row:=some (l.rows.getD k []),page:=l.page,slot:=k,there:=true}
 | none=>{c with lst:=some l.aft,row:=none,page:=0,slot:=0,there:=false}
def nxtJ (l:Lis)(j:Int):Int:=match l.nxt with | some _ => -1 | none=>j
theorem eqN0:cEq false .ifacen (.cst .nilIface) (.cst .nilIface)=.val (.bool true):=Eq.trans rfl rfl
theorem eqN1 (t:TypeId)(v:AV):cEq false .ifacen (.ifc t v) (.cst .nilIface)=.val (.bool false):=Eq.trans rfl rfl
theorem next50n {S:Hp}{n p rb cb:Nat}{rv tv:AV}{s:MS}(x:Ins)(q:Nat)(ha:x.a=(q:Int))(hq:q<s.curs.length)(hl:(s.curs[q]).lst=none)(ht:Top S n)(M:Mach S n p rb cb rv tv s):
  CallR pG 50 [.ptr p 0,x.av] S n (λ u K k=>u=toT x.j/\ToldO K (s.told p rb cb rv tv)/\k<=n+1):=by
 refine CallR.of c50 (by simp[A50]) λ F hF=>?_;have gp:=M.gp;obtain⟨y,gr,ho⟩:=M.gr;obtain⟨yc,gc,hoc⟩:=M.gc;obtain⟨l1,l2,l3⟩:=M.lt;obtain⟨d1,d2,d3⟩:=M.ne;have hiq:=cIxa_sl (b:=cb) (o:=0) (sz:=5) (k:=.i64) hq;have hld:=ld1R (c:=5) (j:=0) (v:=.cst .nilIface) hoc (λ a=>a.cells_len) hq (by simp[Cur.cells,hl,ifcA]);rw[Nat.zero_add]at hiq;rw[Nat.add_zero]at hld;generalize q*5=oq at hiq hld;simp only[MS.mc]at gp;simp[A50,B50,R50_0,R50_1,hF,Ins.av,Ins.cells,ha];refine DrwV.of (ce0_ok (P:=pG)) ?_;simp[clearF_get,hF,gp,neC l1,neC l3,neD l1,neD l3,hiq,R50_2,gc,hld,R50_3,eqN0];refine⟨rfl,M.updR rfl rfl rfl (by simp[neC l1,gp,MS.mc]) ⟨_,by simp[neC l2,gr],ho⟩ (λ b h1 h2 h3=>by simp[neC h1])⟩
theorem cur3 {q b:Nat}{yc:ABlk}{L:List Cur}(ho:OwnB yc (flC Cur.cells L))(hq:q<L.length)(lst:Option Lis)(he:ifcA lst (L[q]).b=ifcA (L[q]).lst (L[q]).b)(r:Option (List Val))(pg sl:Int)(th:Bool):
  ∃y1 y2 y3,stE 1 (rowN r) (some yc) b (q*5+1)=.upd (.tup []) b y1/\stE 2 (.agg [.int .u32 pg,.int .i64 sl] 2) (some y1) b (q*5+2)=.upd (.tup []) b y2/\stE 1 (.bool th) (some y2) b (q*5+4)=.upd (.tup []) b y3/\OwnB y3 (flC Cur.cells (L.set q ⟨(L[q]).b,lst,r,pg,sl,th⟩)):=by
 have r1:(rowN r).len=1/\(rowN r).cells=[rowN r]/\(rowN r).one=true:=by unfold rowN;split<;>exact⟨rfl,rfl,rfl⟩
 obtain⟨y1,h1,o1⟩:=stRj (b:=b) (j:=1) (w:=1) (v:=rowN r) ho (λ a=>a.cells_len) hq r1.1 (by rw[r1.2.1];rfl) (by omega) (by rw[r1.2.1];simp[r1.2.2]) (by omega) ⟨(L[q]).b,lst,r,(L[q]).page,(L[q]).slot,(L[q]).there⟩ (by rw[r1.2.1];simp[Cur.cells,he]);obtain⟨y2,h2,o2⟩:=stRj (i:=q) (b:=b) (j:=2) (w:=2) (v:=.agg [.int .u32 pg,.int .i64 sl] 2) o1 (λ a=>a.cells_len) (by simpa using hq) rfl rfl (by omega) rfl (by omega) ⟨(L[q]).b,lst,r,pg,sl,(L[q]).there⟩ (by simp[Cur.cells]);rw[List.set_set]at o2;obtain⟨y3,h3,o3⟩:=stRj (i:=q) (b:=b) (j:=4) (w:=1) (v:=.bool th) o2 (λ a=>a.cells_len) (by simpa using hq) rfl rfl (by omega) rfl (by omega) ⟨(L[q]).b,lst,r,pg,sl,th⟩ (by simp[Cur.cells]);rw[List.set_set]at o3;exact⟨y1,y2,y3,h1,h2,h3,o3⟩
theorem next50 {S:Hp}{n p rb cb:Nat}{rv tv:AV}{s:MS}(x:Ins)(q:Nat)(ha:x.a=(q:Int))(hq:q<s.curs.length)(l:Lis)(hl:(s.curs[q]).lst=some l)(hf:l.fine)(ht:Top S n)(M:Mach S n p rb cb rv tv s):
  CallR pG 50 [.ptr p 0,x.av] S n (λ u K k=>u=toT (nxtJ l x.j)/\ToldO K (({s with curs:=s.curs.set q (nxtC s.curs[q] l)}:MS).told p rb cb rv tv)/\k<=n+3):=by
 refine CallR.of c50 (by simp[A50]) λ F hF=>?_;have gp:=M.gp;obtain⟨yc,gc,hoc⟩:=M.gc;obtain⟨l1,l2,l3⟩:=M.lt;obtain⟨d1,d2,d3⟩:=M.ne;obtain⟨m1,m2,m3,m4,m5⟩:=M.neQ hq hl;have hiq:=cIxa_sl (b:=cb) (o:=0) (sz:=5) (k:=.i64) hq;have hld:=ld1R (c:=5) (j:=0) (v:=.ifc 260 (.ptr (s.curs[q]).b 0)) hoc (λ a=>a.cells_len) hq (by simp[Cur.cells,hl,ifcA]);rw[Nat.zero_add]at hiq;rw[Nat.add_zero]at hld;simp only[MS.mc]at gp;simp[A50,B50,R50_0,R50_1,hF,Ins.av,Ins.cells,ha];refine DrwV.of (ce0_ok (P:=pG)) ?_;generalize hoq:q*5=oq at hiq hld;simp[clearF_get,hF,gp,neC l1,neC l3,neD l1,neD l3,hiq,R50_2,gc,hld,eqN1,R50_4,invG_f,inv_next];refine CalV.of (next235 l hf (s.curs[q]).b _ (n+1) (by simp[show ¬(s.curs[q]).b=n by omega,m4]) (by omega) (λ b hb=>by simp[show ¬b=n by omega,ht b (by omega)])) λ u K k ⟨e1,g1,g2,e2⟩=>?_;subst e1 e2;have kn:=(g2 n (by omega) (by omega)).trans (show _=some (ABlk.cells 15 [] _ .nil) by simp;rfl);have kb:∀b,b<n->b≠(s.curs[q]).b->K.get b=S.get b:=λ b hb hb2=>(g2 b (by omega) hb2).trans (by simp[neC hb]);clear g2;have hp1:=(kb p l1 (Ne.symm m2)).trans gp;have hc1:=(kb cb l3 (Ne.symm m3)).trans gc;have hso:ifcA (some l.aft) (s.curs[q]).b=ifcA (s.curs[q]).lst (s.curs[q]).b:=by rw[hl];rfl
 cases hn:l.nxt with
 | some k =>
  obtain⟨y1,y2,y3,t1,t2,t3,o3⟩:=cur3 (b:=cb) hoc hq (some l.aft) hso (some (l.rows.getD k [])) l.page k true;rw[hoq]at t1 t2 t3;have hc':nxtC s.curs[q] l=⟨(s.curs[q]).b,some l.aft,some (l.rows.getD k []),l.page,k,true⟩:=by unfold nxtC;rw[hn]
  have hj:nxtJ l x.j = -1:=by unfold nxtJ;rw[hn]
  rw[hc',hj];generalize hr:l.rows.getD k []=r at *;simp only[rowN]at t1;simp only[nxtU,hr];simp[R50_5,R50_7];refine DrwV.of (ce0_ok (P:=pG)) ?_;have h1:(rowAV r).one=true:=rfl;simp[clearF_get,hc1,t1,t2,t3,h1,show ¬cb=n+1+1 by omega,show ¬n+1+1=cb by omega];simp[R50_8,R50_11,clearF_get];refine⟨rfl,M.updC (q:=q) (l:=l.aft) (c':=⟨(s.curs[q]).b,some l.aft,some r,l.page,k,true⟩) rfl (by simp[d2,neC l1,hp1,MS.mc]) ⟨y3,by simp,o3⟩ (by simp[m3,show ¬(s.curs[q]).b=n+1+1 by omega,g1]) (λ b h1 h2 h3 h4=>by simp[h3,neC h1,kb b h1 h4]) m5⟩
 | none =>
  obtain⟨y1,y2,y3,t1,t2,t3,o3⟩:=cur3 (b:=cb) hoc hq (some l.aft) hso none 0 0 false;obtain⟨y4,t4,o4⟩:=stRj (i:=q) (b:=cb) (j:=1) (w:=1) (v:=nilR) o3 (λ a=>a.cells_len) (by simpa using hq) rfl rfl (by omega) rfl (by omega) ⟨(s.curs[q]).b,some l.aft,none,0,0,false⟩ (by simp[Cur.cells,rowN]);rw[List.set_set]at o4;rw[hoq]at t1 t2 t3 t4;have hc':nxtC s.curs[q] l=⟨(s.curs[q]).b,some l.aft,none,0,0,false⟩:=by unfold nxtC;rw[hn]
  have hj:nxtJ l x.j=x.j:=by unfold nxtJ;rw[hn]
  rw[hc',hj];simp only[rowN]at t1;simp only[nxtU];simp[R50_5,R50_7];refine DrwV.of (ce0_ok (P:=pG)) ?_;simp[clearF_get,hc1,t1,t2,t3,show ¬cb=n+1+1 by omega,show ¬n+1+1=cb by omega,R50_8,R50_9,t4,R50_10,kn,show ¬n=cb by omega];refine⟨rfl,M.updC (q:=q) (l:=l.aft) (c':=⟨(s.curs[q]).b,some l.aft,none,0,0,false⟩) rfl (by simp[d2,neC l1,hp1,MS.mc]) ⟨y4,by simp,o4⟩ (by simp[m3,show ¬(s.curs[q]).b=n+1+1 by omega,g1]) (λ b h1 h2 h3 h4=>by simp[h3,neC h1,kb b h1 h4]) m5⟩
end Go.Abs
namespace Go.Abs
open List
open Go.Proofs
open Classical
set_option maxRecDepth 100000
def lsK (cs:List Cur):List Nat:=cs.filterMap λ c=>c.lst.map λ _=>c.b
def keysL (p rb cb:Nat)(rv tv:AV)(cs:List Cur):List Nat:=p::rb::cb::((blk rv).toList++((blk tv).toList++lsK cs))
theorem slT_keys (v:AV)(l:List AV):(slT v l).map (·.1)=(blk v).toList:=by
 cases v<;>simp[slT,blk]
theorem lsT_keys (cs:List Cur):(lsT cs).map (·.1)=lsK cs:=by
 unfold lsT lsK;rw[List.map_filterMap]
 congr 1
 funext c
 cases c.lst<;>rfl
theorem fp_keys (s:MS)(p rb cb:Nat)(rv tv:AV):s.fp p rb cb rv tv=keysL p rb cb rv tv s.curs:=by
 simp[MS.fp,MS.told,keysL,slT_keys,lsT_keys]
theorem Lay.of {n p rb cb:Nat}{rv tv:AV}{s:MS}(h1:(keysL p rb cb rv tv s.curs).Nodup)(h2:∀b∈keysL p rb cb rv tv s.curs,b<n)(h3:slOk rv s.rows.length 1)(h4:slOk tv s.takes.length 3):Lay n p rb cb rv tv s:=by
 rw[<-fp_keys]at h1 h2;exact⟨h1,λ e he=>h2 e.1 (mem_map_of_mem he),h3,h4⟩
theorem Lay.kn {n p rb cb:Nat}{rv tv:AV}{s:MS}(L:Lay n p rb cb rv tv s):(keysL p rb cb rv tv s.curs).Nodup:=by
 rw[<-fp_keys];exact L.nd
theorem Lay.kl {n p rb cb:Nat}{rv tv:AV}{s:MS}(L:Lay n p rb cb rv tv s):∀b∈keysL p rb cb rv tv s.curs,b<n:=by
 rw[<-fp_keys];intro b hb;obtain⟨e,he,rfl⟩:=mem_map.1 hb;exact L.lt e he
theorem nod_swap {A X R:List Nat}{b:Nat}(h:(A++(X++R)).Nodup)(hb:b∉A++(X++R)):(A++(b::R)).Nodup:=by
 have h2:(A++R).Nodup:=h.sublist (List.Sublist.append_left (List.sublist_append_right X R) A);rw[(List.perm_middle (a:=b) (l₁:=A) (l₂:=R)).nodup_iff,nodup_cons];refine⟨λ hm=>hb ?_,h2⟩
 rcases mem_append.1 hm with h | h
 ·exact mem_append_left _ h
 exact List.mem_append_right _ (List.mem_append_right _ h)
def StepR (H:Hp)(n p rb cb:Nat)(rv tv:AV)(s:MS)(f:FuncId)(args:List AV)(v0:AV)(s':MS):Prop:=
 ∃H' n' rv' tv',CallOk pG f args H n v0 H' n'/\n<=n'/\Mach H' n' p rb cb rv' tv' s'/\(∀b,b<n->b∉s.fp p rb cb rv tv->H'.get b=H.get b)/\(∀b∈s'.fp p rb cb rv' tv',b∈s.fp p rb cb rv tv∨n<=b)/\(Top H n->Top H' n')
section
variable {f:FuncId}{args:List AV}{n n' p rb cb:Nat}{rv tv:AV}{s s':MS}{v0:AV}{H:Hp}
theorem okSame (M:Mach H n p rb cb rv tv s)(hn:n<=n')(ha:RLtL n args)(hf':s'.fine)(e1:lsK s'.curs=lsK s.curs)(e2:s'.rows.length=s.rows.length)(e3:s'.takes.length=s.takes.length)
  (h:∀S,Top S n->Mach S n p rb cb rv tv s->CallR pG f args S n (λ u K k=>u=v0/\ToldO K (s'.told p rb cb rv tv)/\k<=n')):StepR H n p rb cb rv tv s f args v0 s':=by
 have ek:keysL p rb cb rv tv s'.curs=keysL p rb cb rv tv s.curs:=by unfold keysL;rw[e1]
 have L':Lay n' p rb cb rv tv s':=.of (by rw[ek];exact M.lay.kn) (λ b hb=>by rw[ek]at hb;exact Nat.lt_of_lt_of_le (M.lay.kl b hb) hn) (by rw[e2];exact M.lay.rv) (by rw[e3];exact M.lay.tv);have hin:∀b∈s'.fp p rb cb rv tv,b∈s.fp p rb cb rv tv∨n<=b:=λ b hb=>.inl (by rw[fp_keys]at hb ⊢;rwa [ek]at hb);obtain⟨H',h1,h2,h3,h4⟩:=okM M hn ha L' hf' hin h;exact⟨H',n',rv,tv,h1,hn,h2,h3,hin,h4⟩
theorem okRows (M:Mach H n p rb cb rv tv s)(hn:n<=n')(ha:RLtL n args)(hf':s'.fine)(e1:s'.curs=s.curs)(e3:s'.takes.length=s.takes.length){b:Nat}(hb:n<=b)(hb2:b<n')
  (h:∀S,Top S n->Mach S n p rb cb rv tv s->CallR pG f args S n (λ u K k=>u=v0/\ToldO K (s'.told p rb cb (.sl b 0 s'.rows.length 1) tv)/\k<=n')):StepR H n p rb cb rv tv s f args v0 s':=by
 have kn:=M.lay.kn;have kl:=M.lay.kl;have hfr:b∉keysL p rb cb rv tv s.curs:=λ hm=>by have:=kl b hm;omega
 have hmem:∀c∈keysL p rb cb (.sl b 0 s'.rows.length 1) tv s'.curs,c∈keysL p rb cb rv tv s.curs∨c=b:=λ c hc=>by
  rw[e1]at hc;simp only[keysL,blk_sl,Option.toList,mem_cons,mem_append,not_mem_nil,or_false]at hc ⊢
  rcases hc with h | h | h | h | h | h
  ·exact .inl (.inl h)
  ·exact .inl (.inr (.inl h))
  ·exact .inl (.inr (.inr (.inl h)))
  ·exact .inr h
  ·exact .inl (.inr (.inr (.inr (.inr (.inl h)))))
  exact .inl (.inr (.inr (.inr (.inr (.inr h)))))
 have L':Lay n' p rb cb (.sl b 0 s'.rows.length 1) tv s':=.of (by
   rw[e1];exact nod_swap (A:=[p,rb,cb]) (X:=(blk rv).toList) (R:=(blk tv).toList++lsK s.curs) kn hfr) (λ c hc=>by
   rcases hmem c hc with h | h
   ·have:=kl c h;omega
   omega) (.inr ⟨b,rfl⟩) (by rw[e3];exact M.lay.tv)
 have hin:∀c∈s'.fp p rb cb (.sl b 0 s'.rows.length 1) tv,c∈s.fp p rb cb rv tv∨n<=c:=λ c hc=>by
  rw[fp_keys]at hc ⊢
  rcases hmem c hc with h | h
  ·exact .inl h
  exact .inr (by omega)
 obtain⟨H',h1,h2,h3,h4⟩:=okM M hn ha L' hf' hin h;exact⟨H',n',_,tv,h1,hn,h2,h3,hin,h4⟩
theorem okTakes (M:Mach H n p rb cb rv tv s)(hn:n<=n')(ha:RLtL n args)(hf':s'.fine)(e1:s'.curs=s.curs)(e3:s'.rows.length=s.rows.length){b:Nat}(hb:n<=b)(hb2:b<n')
  (h:∀S,Top S n->Mach S n p rb cb rv tv s->CallR pG f args S n (λ u K k=>u=v0/\ToldO K (s'.told p rb cb rv (.sl b 0 s'.takes.length 3))/\k<=n')):StepR H n p rb cb rv tv s f args v0 s':=by
 have kn:=M.lay.kn;have kl:=M.lay.kl;have hfr:b∉keysL p rb cb rv tv s.curs:=λ hm=>by have:=kl b hm;omega
 have hmem:∀c∈keysL p rb cb rv (.sl b 0 s'.takes.length 3) s'.curs,c∈keysL p rb cb rv tv s.curs∨c=b:=λ c hc=>by
  rw[e1]at hc;simp only[keysL,blk_sl,Option.toList,mem_cons,mem_append,not_mem_nil,or_false]at hc ⊢
  rcases hc with h | h | h | h | h | h
  ·exact .inl (.inl h)
  ·exact .inl (.inr (.inl h))
  ·exact .inl (.inr (.inr (.inl h)))
  ·exact .inl (.inr (.inr (.inr (.inl h))))
  ·exact .inr h
  exact .inl (.inr (.inr (.inr (.inr (.inr h)))))
 have L':Lay n' p rb cb rv (.sl b 0 s'.takes.length 3) s':=.of (by
   rw[e1];have:=nod_swap (A:=p::rb::cb::(blk rv).toList) (X:=(blk tv).toList) (R:=lsK s.curs) (b:=b) (by simpa[keysL]using kn) (by simpa[keysL]using hfr);simpa[keysL]using this) (λ c hc=>by
   rcases hmem c hc with h | h
   ·have:=kl c h;omega
   omega) (by rw[e3];exact M.lay.rv) (.inr ⟨b,rfl⟩)
 have hin:∀c∈s'.fp p rb cb rv (.sl b 0 s'.takes.length 3),c∈s.fp p rb cb rv tv∨n<=c:=λ c hc=>by
  rw[fp_keys]at hc ⊢
  rcases hmem c hc with h | h
  ·exact .inl h
  exact .inr (by omega)
 obtain⟨H',h1,h2,h3,h4⟩:=okM M hn ha L' hf' hin h;exact⟨H',n',rv,_,h1,hn,h2,h3,hin,h4⟩
theorem lsK_append (a b:List Cur):lsK (a++b)=lsK a++lsK b:=by simp[lsK]
theorem okCur (M:Mach H n p rb cb rv tv s)(hn:n<=n')(ha:RLtL n args)(hf':s'.fine){q b:Nat}{l:Lis}(hq:q<s.curs.length)(e1:s'.curs=s.curs.set q (newC b l))(e2:s'.rows.length=s.rows.length)(e3:s'.takes.length=s.takes.length)(hb:n<=b)(hb2:b<n')
  (h:∀S,Top S n->Mach S n p rb cb rv tv s->CallR pG f args S n (λ u K k=>u=v0/\ToldO K (s'.told p rb cb rv tv)/\k<=n')):StepR H n p rb cb rv tv s f args v0 s':=by
 have kn:=M.lay.kn;have kl:=M.lay.kl;have hfr:b∉keysL p rb cb rv tv s.curs:=λ hm=>by have:=kl b hm;omega
 have d1:lsK s'.curs=lsK (s.curs.take q)++(b::lsK (s.curs.drop (q+1))):=by
  rw[e1,set_eq_take_append_cons_drop,if_pos hq,lsK_append];rfl
 have d2:lsK s.curs=lsK (s.curs.take q)++(lsK [s.curs[q]]++lsK (s.curs.drop (q+1))):=by
  rw[<-lsK_append,<-lsK_append]
  congr 1
  simp
 have hmem:∀c∈keysL p rb cb rv tv s'.curs,c∈keysL p rb cb rv tv s.curs∨c=b:=λ c hc=>by
  simp only[keysL,d1,d2,mem_cons,mem_append]at hc ⊢
  rcases hc with h | h | h | h | h | h | h | h
  ·exact .inl (.inl h)
  ·exact .inl (.inr (.inl h))
  ·exact .inl (.inr (.inr (.inl h)))
  ·exact .inl (.inr (.inr (.inr (.inl h))))
  ·exact .inl (.inr (.inr (.inr (.inr (.inl h)))))
  ·exact .inl (.inr (.inr (.inr (.inr (.inr (.inl h))))))
  ·exact .inr h
  exact .inl (.inr (.inr (.inr (.inr (.inr (.inr (.inr h)))))))
 have L':Lay n' p rb cb rv tv s':=.of (by
   have:=nod_swap (A:=p::rb::cb::((blk rv).toList++((blk tv).toList++lsK (s.curs.take q)))) (X:=lsK [s.curs[q]]) (R:=lsK (s.curs.drop (q+1))) (b:=b) (by simpa[keysL,d2]using kn) (by simpa[keysL,d2]using hfr);simpa[keysL,d1]using this) (λ c hc=>by
   rcases hmem c hc with h | h
   ·have:=kl c h;omega
   omega) (by rw[e2];exact M.lay.rv) (by rw[e3];exact M.lay.tv)
 have hin:∀c∈s'.fp p rb cb rv tv,c∈s.fp p rb cb rv tv∨n<=c:=λ c hc=>by
  rw[fp_keys]at hc ⊢
  rcases hmem c hc with h | h
  ·exact .inl h
  exact .inr (by omega)
 obtain⟨H',h1,h2,h3,h4⟩:=okM M hn ha L' hf' hin h;exact⟨H',n',rv,tv,h1,hn,h2,h3,hin,h4⟩
end
end Go.Abs
namespace Go.Abs
open List
open Go.Proofs
open Classical
set_option maxRecDepth 100000
def curZ:Cur:=⟨0,none,none,0,0,false⟩
def doS (s:MS) (x:Ins) (n:Nat):Int×MS:=
 if x.op=1 then (-1,{s with curs:=s.curs.set x.a.toNat (newC (n+1+1+1+1) (scanL s.w x.id))})else
 if x.op=2 then (-1,{s with curs:=s.curs.set x.a.toNat (newC (seekB s.w x.id (n+1+1)) (seekL s.w x.id (spnS s x x.b.toNat x.n.toNat)))})else
 if x.op=3 then (match (s.curs.getD x.a.toNat curZ).lst with
  | none=>(x.j,s)
  | some l=>(nxtJ l x.j,{s with curs:=s.curs.set x.a.toNat (nxtC (s.curs.getD x.a.toNat curZ) l)}))else
 if x.op=4 then (-1,{s with regs:=s.regs.set x.a.toNat (colV (s.curs.getD x.b.toNat curZ).row x.c.toNat)})else
 if x.op=5 then (-1,{s with regs:=s.regs.set x.a.toNat x.v})else
 if x.op=6 then callS s x.a.toNat x.j (evalS x.ex (if x.ex<8 then [s.regs.getD x.b.toNat valZ]else [s.regs.getD x.b.toNat valZ,s.regs.getD x.c.toNat valZ]))else
 if x.op=7 then truthS s (s.regs.getD x.a.toNat valZ) x.j else
 if x.op=8 then (-1,emitS s x.a.toNat x.n.toNat)else
 if x.op=9 then (-1,if (s.curs.getD x.a.toNat curZ).there=true then (if s.roomy then takeS s (s.curs.getD x.a.toNat curZ) x.b.toNat x.n.toNat else s.fulled)else s)else
 if x.op=10 then (x.j,s)else (-1,{s with ended:=true})
section
variable {s:MS}
theorem MS.fine.setR (h:s.fine)(i:Nat)(v:Val):({s with regs:=s.regs.set i v}:MS).fine:=⟨h.ok,by simpa using h.reg,h.cur,h.w,h.steps,h.cs,h.at_,h.end_,h.rows,h.rl,h.tl⟩
theorem MS.fine.setL (h:s.fine)(e:Int):({s with least:=e}:MS).fine:=⟨h.ok,h.reg,h.cur,h.w,h.steps,h.cs,h.at_,h.end_,h.rows,h.rl,h.tl⟩
theorem MS.fine.setC (h:s.fine)(i:Nat)(c:Cur)(hc:c.fine):({s with curs:=s.curs.set i c}:MS).fine:=⟨h.ok,h.reg,by simpa using h.cur,h.w,h.steps,λ c' hm=>by
 rcases mem_or_eq_of_mem_set hm with h1 | rfl
 ·exact h.cs c' h1
 exact hc,h.at_,h.end_,h.rows,h.rl,h.tl⟩
theorem MS.fine.full_ (h:s.fine):s.fulled.fine:=⟨h.ok,h.reg,h.cur,h.w,h.steps,h.cs,h.at_,(λ e=>by cases e),h.rows,h.rl,h.tl⟩
theorem MS.fine.endd (h:s.fine):({s with ended:=true}:MS).fine:=⟨h.ok,h.reg,h.cur,h.w,h.steps,h.cs,h.at_,(λ e=>by cases e),h.rows,h.rl,h.tl⟩
theorem MS.fine.emit (h:s.fine)(i N:Nat)(hN:N<=16):(emitS s i N).fine:=by
 unfold emitS
 split
 ·rename_i hr;unfold MS.roomy at hr;refine⟨h.ok,h.reg,h.cur,h.w,h.steps,h.cs,h.at_,h.end_,by simp;omega,λ r hm=>?_,h.tl⟩
  rcases mem_append.1 hm with h1 | h1
  ·exact h.rl r h1
  simp at h1;subst h1;unfold lim;simp;omega
 exact h.full_
theorem MS.fine.take (h:s.fine)(hr:s.roomy)(c:Cur)(i N:Nat)(hN:N<=16):(takeS s c i N).fine:=by
 unfold MS.roomy at hr;refine⟨h.ok,h.reg,h.cur,h.w,h.steps,h.cs,h.at_,h.end_,by simp[takeS];omega,h.rl,λ r hm=>?_⟩
 rcases mem_append.1 hm with h1 | h1
 ·exact h.tl r h1
 simp at h1;subst h1;unfold lim;simp;omega
theorem noLis_fine:noLis.fine:=⟨λ _=>rfl,by simp[noLis],by simp[noLis],by simp[noLis],by simp[noLis],rfl,λ h=>absurd rfl h⟩
theorem ofL_fine {w:Wld}(hw:w.fine)(t:Int){f:FuncId}{cap:List AV}{p:List Val->Bool}(hp:PureL cap)(h:∀r:List Val,r.length<=lim->FnPure pG f (rowAV r::cap) (.bool (p r))):(ofL w t (.fn (.func f) [] cap) p).fine:=by
 unfold ofL
 split
 ·exact noLis_fine
 split
 ·rename_i hk;have hm:=getElem_mem hk;refine⟨(λ h=>by cases h),hw.t _ hm,λ r hr=>(hw.r _ hm r hr).1,by simp,by simp[Pure,hp],rfl,λ _=>⟨f,cap,rfl,λ r hr=>h r (hw.r _ hm r hr).1⟩⟩
 exact noLis_fine
theorem scanL_fine {w:Wld}(hw:w.fine)(t:Int):(scanL w t).fine:=ofL_fine hw t (by simp) λ r _=>all229 r
theorem seekL_fine {w:Wld}(hw:w.fine)(id:Int)(sp:Spn)(hs:sp.eq.length<=lim):(seekL w id sp).fine:=by
 unfold seekL
 split
 ·exact noLis_fine
 split
 ·rename_i hk;exact ofL_fine hw _ (by simp[Spn.cells]) λ r hr=>in231 _ sp r (hw.s.ic _ (getElem_mem hk)) hs hr
 exact noLis_fine
theorem newC_fine {l:Lis}(h:l.fine)(b:Nat):(newC b l).fine:=⟨λ l' e=>by simp[newC]at e;subst e;exact h,λ r e=>by simp[newC]at e⟩
theorem fnd_lt (l:Lis):∀(t i:Nat) k,l.fnd i t=some k->i<=k/\k<l.rows.length
 | 0,i,k,h=>by simp[Lis.fnd]at h
 | t + 1,i,k,h=>by
  rw[Lis.fnd]at h
  split at h
  ·cases h
  rename_i r hr;have hi:=(List.getElem?_eq_some_iff.1 hr).1
  split at h
  ·injection h with h;subst h;exact⟨Nat.le_refl _,hi⟩
  have:=fnd_lt l t (i+1) k h;omega
theorem aft_fine {l:Lis}(h:l.fine):l.aft.fine:=by
 unfold Lis.aft
 cases hn:l.nxt with
 | none=>exact⟨h.n,h.len,h.row,Nat.le_refl _,h.pf,h.o1,h.fn⟩
 | some k =>
  have:=fnd_lt l _ _ _ hn;exact⟨h.n,h.len,h.row,by show k+1<=l.rows.length;omega,h.pf,h.o1,h.fn⟩
theorem nxtC_fine {c:Cur}{l:Lis}(h:l.fine):(nxtC c l).fine:=by
 unfold nxtC
 cases hn:l.nxt with
 | none=>exact⟨λ l' e=>by simp at e;subst e;exact aft_fine h,λ r e=>by simp at e⟩
 | some k =>
  refine⟨λ l' e=>by simp at e;subst e;exact aft_fine h,λ r e=>?_⟩;have hk:=(fnd_lt l _ _ _ hn).2;simp at e;subst e;rw[getElem?_eq_getElem hk];exact h.row _ (getElem_mem hk)
theorem spn_eq (x:Ins)(i N:Nat):(spnS s x i N).eq=(s.regs.drop i).take N:=by
 unfold spnS hiS loS
 split<;>split<;>rfl
end
end Go.Abs
namespace Go.Abs
open List
open Go.Proofs
open Classical
set_option maxRecDepth 100000
theorem chkOk {c:Cod}(h:c.chk=0):0<=c.regs/\c.regs<=256/\0<=c.cur/\c.cur<=4/\c.l.length<=8192/\∀x∈c.l,c.ok x=true:=by
 unfold Cod.chk at h
 split at h
 ·rename_i hs
  split at h
  ·rename_i hl;simp[Cod.shape]at hs;exact⟨by omega,by omega,by omega,by omega,by omega,all_eq_true.1 hl⟩
  omega
 omega
theorem nxtC_keys (c:Cur)(l:Lis):(nxtC c l).lst=some l.aft/\(nxtC c l).b=c.b:=by
 unfold nxtC
 cases l.nxt<;>exact⟨rfl,rfl⟩
theorem lsK_set {cs:List Cur}{q:Nat}{l l':Lis}{c:Cur}(h:q<cs.length)(h1:(cs[q]).lst=some l)(h2:c.lst=some l')(h3:c.b=(cs[q]).b):lsK (cs.set q c)=lsK cs:=by
 have e:lsK cs=lsK (cs.take q)++(lsK [cs[q]]++lsK (cs.drop (q+1))):=by
  rw[<-lsK_append,<-lsK_append]
  congr 1
  simp
 rw[e,set_eq_take_append_cons_drop,if_pos h,lsK_append]
 congr 1
 simp[lsK,h1,h2,h3]
section
variable {H:Hp}{n p rb cb:Nat}{rv tv:AV}{s:MS}
theorem regOk (hf:s.fine){i:Int}(h:s.c.reg i=true):i=(i.toNat:Int)/\i.toNat<s.regs.length:=by
 have:=hf.reg;simp[Cod.reg]at h;omega
theorem curOk (hf:s.fine){i:Int}(h:s.c.cursor i=true):i=(i.toNat:Int)/\i.toNat<s.curs.length:=by
 have:=hf.cur;simp[Cod.cursor]at h;omega
theorem rgsOk (hf:s.fine){i m:Int}(h:s.c.rgs i m=true):i=(i.toNat:Int)/\m=(m.toNat:Int)/\m.toNat<=16/\i.toNat+m.toNat<=s.regs.length:=by
 have:=hf.reg;simp[Cod.rgs]at h;omega
theorem getD_reg {i:Nat}(h:i<s.regs.length):s.regs.getD i valZ=s.regs[i]:=by simp[getD,h]
theorem getD_cur {i:Nat}(h:i<s.curs.length):s.curs.getD i curZ=s.curs[i]:=by simp[getD,h]
theorem args_rlt (hp:p<n)(x:Ins):RLtL n [.ptr p 0,x.av]:=by
 have:=Pure.rlt (n:=n) x.pure;simp[hp,this]
theorem opOk (x:Ins) (hx:s.c.ok x=true) (M:Mach H n p rb cb rv tv s):∃f:Nat,(x.op=(f:Int) - 47)/\48<=f/\f<=58/\StepR H n p rb cb rv tv s f [.ptr p 0,x.av] (toT (doS s x n).1) (doS s x n).2:=by
 have hf:=M.fine;have hR:s.regs.length<=256:=by have:=(chkOk hf.ok).2.1;have:=hf.reg;omega
 have ha:=args_rlt (n:=n) M.lt.1 x;have ok:=hx;unfold Cod.ok at ok
 by_cases h1:x.op=1
 ·simp[h1]at ok;obtain⟨e1,q1⟩:=curOk hf ok;refine⟨48,by omega,by omega,by omega,?_⟩;have hd:doS s x n=(-1,{s with curs:=s.curs.set x.a.toNat (newC (n+1+1+1+1) (scanL s.w x.id))}):=by unfold doS;rw[if_pos h1]
  rw[hd];exact okCur (n':=n+5) M (by omega) ha (hf.setC _ _ (newC_fine (scanL_fine hf.w _) _)) q1 rfl rfl rfl (by omega) (by omega) λ S ht MS=>scan48 x _ e1 q1 ht MS
 by_cases h2:x.op=2
 ·simp[h2]at ok;obtain⟨e1,q1⟩:=curOk hf ok.1;obtain⟨e2,e3,q2,q3⟩:=rgsOk hf ok.2.1
  have hlo:0<=x.lo->x.lo.toNat<s.regs.length:=λ h=>by
   rcases ok.2.2.1 with h' | h'
   ·omega
   exact(regOk hf h').2
  have hhi:0<=x.hi->x.hi.toNat<s.regs.length:=λ h=>by
   rcases ok.2.2.2 with h' | h'
   ·omega
   exact(regOk hf h').2
  refine⟨49,by omega,by omega,by omega,?_⟩;have hd:doS s x n=(-1,{s with curs:=s.curs.set x.a.toNat (newC (seekB s.w x.id (n+1+1)) (seekL s.w x.id (spnS s x x.b.toNat x.n.toNat)))}):=by unfold doS;rw[if_neg h1,if_pos h2]
  rw[hd];have hB:=seekB_le s.w x.id (n+1+1);have hB2:=seekB_lt s.w x.id (n+1+1);exact okCur (n':=n+10) M (by omega) ha (hf.setC _ _ (newC_fine (seekL_fine hf.w _ _ (by rw[spn_eq];unfold lim;simp;omega)) _)) q1 rfl rfl rfl (by omega) (by omega) λ S ht MS=>seek49 x _ _ _ e1 q1 e2 e3 q3 q2 hR hlo hhi ht MS
 by_cases h3:x.op=3
 ·simp[h3]at ok;obtain⟨e1,q1⟩:=curOk hf ok.1;refine⟨50,by omega,by omega,by omega,?_⟩
  cases hl:(s.curs[x.a.toNat]).lst with
  | none =>
   have hd:doS s x n=(x.j,s):=by unfold doS;rw[if_neg h1,if_neg h2,if_pos h3,getD_cur q1,hl]
   rw[hd];exact okSame (n':=n+1) M (by omega) ha hf rfl rfl rfl λ S ht MS=>next50n x _ e1 q1 hl ht MS
  | some l =>
   have hd:doS s x n=(nxtJ l x.j,{s with curs:=s.curs.set x.a.toNat (nxtC s.curs[x.a.toNat] l)}):=by unfold doS;rw[if_neg h1,if_neg h2,if_pos h3,getD_cur q1,hl]
   have hlf:=(hf.cs _ (getElem_mem q1)).l l hl;rw[hd];refine okSame (n':=n+3) M (by omega) ha (hf.setC _ _ (nxtC_fine hlf)) ?_ rfl rfl λ S ht MS=>next50 x _ e1 q1 l hl hlf ht MS;exact lsK_set q1 hl (nxtC_keys s.curs[x.a.toNat] l).1 (nxtC_keys s.curs[x.a.toNat] l).2
 by_cases h4:x.op=4
 ·simp[h4]at ok;obtain⟨e1,q1⟩:=regOk hf ok.1;obtain⟨e2,q2⟩:=curOk hf ok.2.1;refine⟨51,by omega,by omega,by omega,?_⟩;have hd:doS s x n=(-1,{s with regs:=s.regs.set x.a.toNat (colV (s.curs[x.b.toNat]).row x.c.toNat)}):=by unfold doS;rw[if_neg h1,if_neg h2,if_neg h3,if_pos h4,getD_cur q2]
  rw[hd];exact okSame (n':=n+3) M (by omega) ha (hf.setR _ _) rfl rfl rfl λ S ht MS=>col51 x _ _ _ e1 q1 e2 q2 (by omega) (by omega) (hf.cs _ (getElem_mem q2)).r ht MS
 by_cases h5:x.op=5
 ·simp[h5]at ok;obtain⟨e1,q1⟩:=regOk hf ok.1;refine⟨52,by omega,by omega,by omega,?_⟩;have hd:doS s x n=(-1,{s with regs:=s.regs.set x.a.toNat x.v}):=by unfold doS;rw[if_neg h1,if_neg h2,if_neg h3,if_neg h4,if_pos h5]
  rw[hd];exact okSame (n':=n+1) M (by omega) ha (hf.setR _ _) rfl rfl rfl λ S ht MS=>const52 x _ e1 q1 ht MS
 by_cases h6:x.op=6
 ·simp[h6]at ok;obtain⟨e1,q1⟩:=regOk hf ok.1;obtain⟨e2,q2⟩:=regOk hf ok.2.1;refine⟨53,by omega,by omega,by omega,?_⟩
  have hcf:∀r,(callS s x.a.toNat x.j r).2.fine/\(callS s x.a.toNat x.j r).2.curs=s.curs/\(callS s x.a.toNat x.j r).2.rows=s.rows/\(callS s x.a.toNat x.j r).2.takes=s.takes:=λ r=>by
   unfold callS
   split
   ·exact⟨hf.setL _,rfl,rfl,rfl⟩
   exact⟨hf.setR _ _,rfl,rfl,rfl⟩
  by_cases h8:x.ex<8
  ·have hd:doS s x n=callS s x.a.toNat x.j (evalS x.ex [s.regs[x.b.toNat]]):=by unfold doS;rw[if_neg h1,if_neg h2,if_neg h3,if_neg h4,if_neg h5,if_pos h6,if_pos h8,getD_reg q2]
   rw[hd];obtain⟨c1,c2,c3,c4⟩:=hcf (evalS x.ex [s.regs[x.b.toNat]]);exact okSame (n':=n+10) M (by omega) ha c1 (by rw[c2]) (by rw[c3]) (by rw[c4]) λ S ht MS=>call53a x _ _ e1 q1 e2 q2 (by omega) ht MS
  obtain⟨e3,q3⟩:=regOk hf (ok.2.2.2.2.1.resolve_left h8);have hd:doS s x n=callS s x.a.toNat x.j (evalS x.ex [s.regs[x.b.toNat],s.regs[x.c.toNat]]):=by unfold doS;rw[if_neg h1,if_neg h2,if_neg h3,if_neg h4,if_neg h5,if_pos h6,if_neg h8,getD_reg q2,getD_reg q3]
  rw[hd];obtain⟨c1,c2,c3,c4⟩:=hcf (evalS x.ex [s.regs[x.b.toNat],s.regs[x.c.toNat]]);exact okSame (n':=n+20) M (by omega) ha c1 (by rw[c2]) (by rw[c3]) (by rw[c4]) λ S ht MS=>call53b x _ _ e1 q1 e2 q2 _ e3 q3 (by omega) ht MS
 by_cases h7:x.op=7
 ·simp[h7]at ok;obtain⟨e1,q1⟩:=regOk hf ok.1;refine⟨54,by omega,by omega,by omega,?_⟩;have hd:doS s x n=truthS s s.regs[x.a.toNat] x.j:=by unfold doS;rw[if_neg h1,if_neg h2,if_neg h3,if_neg h4,if_neg h5,if_neg h6,if_pos h7,getD_reg q1]
  rw[hd]
  have hcf:∀v,(truthS s v x.j).2.fine/\(truthS s v x.j).2.curs=s.curs/\(truthS s v x.j).2.rows=s.rows/\(truthS s v x.j).2.takes=s.takes:=λ r=>by
   unfold truthS
   split
   ·exact⟨hf,rfl,rfl,rfl⟩
   split
   ·exact⟨hf.setL _,rfl,rfl,rfl⟩
   exact⟨hf,rfl,rfl,rfl⟩
  obtain⟨c1,c2,c3,c4⟩:=hcf s.regs[x.a.toNat];exact okSame (n':=n+2) M (by omega) ha c1 (by rw[c2]) (by rw[c3]) (by rw[c4]) λ S ht MS=>truth54 x _ e1 q1 ht MS
 by_cases h8:x.op=8
 ·simp[h8]at ok;obtain⟨e2,e3,q2,q3⟩:=rgsOk hf ok;refine⟨55,by omega,by omega,by omega,?_⟩;have hd:doS s x n=(-1,emitS s x.a.toNat x.n.toNat):=by unfold doS;rw[if_neg h1,if_neg h2,if_neg h3,if_neg h4,if_neg h5,if_neg h6,if_neg h7,if_pos h8]
  rw[hd];have hef:=hf.emit x.a.toNat x.n.toNat q2
  by_cases hr:s.roomy
  ·have hlr:(emitS s x.a.toNat x.n.toNat).rows.length=s.rows.length+1:=by simp[emitS,hr]
   exact okRows (n':=n+10) (b:=n+2) M (by omega) ha hef (by simp[emitS,hr]) (by simp[emitS,hr]) (by omega) (by omega) λ S ht MS=>by
    rw[hlr];exact emit55 x _ _ e2 e3 q3 q2 hR hr ht MS
  exact okSame (n':=n+1) M (by omega) ha hef (by simp[emitS,hr,MS.fulled]) (by simp[emitS,hr,MS.fulled]) (by simp[emitS,hr,MS.fulled]) λ S ht MS=>emit55f x _ _ hr ht MS
 by_cases h9:x.op=9
 ·simp[h9]at ok;obtain⟨e1,q1⟩:=curOk hf ok.1;obtain⟨e2,e3,q2,q3⟩:=rgsOk hf ok.2;refine⟨56,by omega,by omega,by omega,?_⟩;have hd:doS s x n=(-1,if (s.curs[x.a.toNat]).there=true then (if s.roomy then takeS s s.curs[x.a.toNat] x.b.toNat x.n.toNat else s.fulled)else s):=by unfold doS;rw[if_neg h1,if_neg h2,if_neg h3,if_neg h4,if_neg h5,if_neg h6,if_neg h7,if_neg h8,if_pos h9,getD_cur q1]
  rw[hd]
  by_cases hth:(s.curs[x.a.toNat]).there=true
  ·by_cases hr:s.roomy
   ·rw[if_pos hth,if_pos hr]
    exact okTakes (n':=n+10) (b:=n+3) M (by omega) ha (hf.take hr _ _ _ q2) rfl rfl (by omega) (by omega) λ S ht MS=>by
     have:=take56 x _ _ _ e1 q1 e2 e3 q3 q2 hR hr hth ht MS;simpa[takeS]using this
   rw[if_pos hth,if_neg hr]
   exact okSame (n':=n+2) M (by omega) ha hf.full_ rfl rfl rfl λ S ht MS=>by
    have:=take56a x _ e1 q1 ht MS (.inr hr)
    rwa [if_pos hth]at this
  rw[if_neg hth]
  exact okSame (n':=n+2) M (by omega) ha hf rfl rfl rfl λ S ht MS=>by
   have:=take56a x _ e1 q1 ht MS (.inl (by simpa using hth))
   rwa [if_neg hth]at this
 by_cases h10:x.op=10
 ·refine⟨57,by omega,by omega,by omega,?_⟩;have hd:doS s x n=(x.j,s):=by unfold doS;rw[if_neg h1,if_neg h2,if_neg h3,if_neg h4,if_neg h5,if_neg h6,if_neg h7,if_neg h8,if_neg h9,if_pos h10]
  rw[hd];exact okSame (n':=n+1) M (by omega) ha hf rfl rfl rfl λ S ht MS=>jump57 x ht MS
 simp[h1,h2,h3,h4,h5,h6,h7,h8,h9,h10]at ok;refine⟨58,by omega,by omega,by omega,?_⟩;have hd:doS s x n=(-1,{s with ended:=true}):=by unfold doS;rw[if_neg h1,if_neg h2,if_neg h3,if_neg h4,if_neg h5,if_neg h6,if_neg h7,if_neg h8,if_neg h9,if_neg h10]
 rw[hd];exact okSame (n':=n+1) M (by omega) ha hf.endd rfl rfl rfl λ S ht MS=>end58 x ht MS
end
end Go.Abs
namespace Go.Abs
open List
open Go.Proofs
open Classical
set_option maxRecDepth 100000
def fns12:List AV:=[.cst .nilFunc,.fn (.func 48) [] [],.fn (.func 49) [] [],.fn (.func 50) [] [],.fn (.func 51) [] [],.fn (.func 52) [] [],.fn (.func 53) [] [],.fn (.func 54) [] [],.fn (.func 55) [] [],.fn (.func 56) [] [],.fn (.func 57) [] [],.fn (.func 58) [] []]
theorem ops27:FnPure pG 27 [] (.agg fns12 12):=by
 refine pureV c27 (by simp) (by simp[fns12]) (by simp[A27]) λ F hF=>?_;simp[A27,B27,R27_0,R27_1];exact .pure _ (by simp[fns12])
theorem fns_at (f:Nat)(h1:48<=f)(h2:f<=58):cIxv 12 1 false (.agg fns12 12) (.int .i64 ((f:Int) - 47))=.val (.fn (.func f) [] []):=by
 have e:f=48∨f=49∨f=50∨f=51∨f=52∨f=53∨f=54∨f=55∨f=56∨f=57∨f=58:=by omega
 rcases e with rfl | rfl | rfl | rfl | rfl | rfl | rfl | rfl | rfl | rfl | rfl<;>rfl
theorem to_ok {s:MS}(x:Ins)(hx:s.c.ok x=true)(n:Nat):(doS s x n).1 = -1∨(0<=(doS s x n).1/\(doS s x n).1<=(s.c.l.length:Int)):=by
 have ok:=hx;unfold Cod.ok at ok;have ht:s.c.target x.j=true->(0<=x.j/\x.j<=(s.c.l.length:Int)):=λ h=>by simpa[Cod.target]using h
 by_cases h1:x.op=1
 ·exact .inl (by unfold doS;rw[if_pos h1])
 by_cases h2:x.op=2
 ·exact .inl (by unfold doS;rw[if_neg h1,if_pos h2])
 by_cases h3:x.op=3
 ·simp[h3]at ok;have:=ht ok.2;unfold doS;rw[if_neg h1,if_neg h2,if_pos h3]
  split
  ·exact .inr this
  simp only[nxtJ]
  split
  ·exact .inl rfl
  exact .inr this
 by_cases h4:x.op=4
 ·exact .inl (by unfold doS;rw[if_neg h1,if_neg h2,if_neg h3,if_pos h4])
 by_cases h5:x.op=5
 ·exact .inl (by unfold doS;rw[if_neg h1,if_neg h2,if_neg h3,if_neg h4,if_pos h5])
 by_cases h6:x.op=6
 ·simp[h6]at ok;have:=ht ok.2.2.2.2.2;unfold doS;rw[if_neg h1,if_neg h2,if_neg h3,if_neg h4,if_neg h5,if_pos h6];generalize evalS x.ex _=r;unfold callS
  split
  ·exact .inr this
  exact .inl rfl
 by_cases h7:x.op=7
 ·simp[h7]at ok;have:=ht ok.2;unfold doS;rw[if_neg h1,if_neg h2,if_neg h3,if_neg h4,if_neg h5,if_neg h6,if_pos h7];unfold truthS
  split
  ·exact .inl rfl
  split<;>exact .inr this
 by_cases h8:x.op=8
 ·exact .inl (by unfold doS;rw[if_neg h1,if_neg h2,if_neg h3,if_neg h4,if_neg h5,if_neg h6,if_neg h7,if_pos h8])
 by_cases h9:x.op=9
 ·exact .inl (by unfold doS;rw[if_neg h1,if_neg h2,if_neg h3,if_neg h4,if_neg h5,if_neg h6,if_neg h7,if_neg h8,if_pos h9])
 by_cases h10:x.op=10
 ·simp[h10]at ok;have:=ht ok;unfold doS;rw[if_neg h1,if_neg h2,if_neg h3,if_neg h4,if_neg h5,if_neg h6,if_neg h7,if_neg h8,if_neg h9,if_pos h10];exact .inr this
 exact .inl (by unfold doS;rw[if_neg h1,if_neg h2,if_neg h3,if_neg h4,if_neg h5,if_neg h6,if_neg h7,if_neg h8,if_neg h9,if_neg h10])
def SameM (t s:MS):Prop:=t.c=s.c/\t.w=s.w/\t.at_=s.at_/\t.steps=s.steps
theorem SameM.refl (s:MS):SameM s s:=⟨rfl,rfl,rfl,rfl⟩
theorem do_same (s:MS)(x:Ins)(n:Nat):SameM (doS s x n).2 s:=by
 by_cases h1:x.op=1
 ·unfold doS;rw[if_pos h1];exact⟨rfl,rfl,rfl,rfl⟩
 by_cases h2:x.op=2
 ·unfold doS;rw[if_neg h1,if_pos h2];exact⟨rfl,rfl,rfl,rfl⟩
 by_cases h3:x.op=3
 ·unfold doS;rw[if_neg h1,if_neg h2,if_pos h3]
  split<;>exact⟨rfl,rfl,rfl,rfl⟩
 by_cases h4:x.op=4
 ·unfold doS;rw[if_neg h1,if_neg h2,if_neg h3,if_pos h4];exact⟨rfl,rfl,rfl,rfl⟩
 by_cases h5:x.op=5
 ·unfold doS;rw[if_neg h1,if_neg h2,if_neg h3,if_neg h4,if_pos h5];exact⟨rfl,rfl,rfl,rfl⟩
 by_cases h6:x.op=6
 ·unfold doS;rw[if_neg h1,if_neg h2,if_neg h3,if_neg h4,if_neg h5,if_pos h6];generalize evalS x.ex _=r;unfold callS
  split<;>exact⟨rfl,rfl,rfl,rfl⟩
 by_cases h7:x.op=7
 ·unfold doS;rw[if_neg h1,if_neg h2,if_neg h3,if_neg h4,if_neg h5,if_neg h6,if_pos h7];unfold truthS
  split
  ·exact⟨rfl,rfl,rfl,rfl⟩
  split<;>exact⟨rfl,rfl,rfl,rfl⟩
 by_cases h8:x.op=8
 ·unfold doS;rw[if_neg h1,if_neg h2,if_neg h3,if_neg h4,if_neg h5,if_neg h6,if_neg h7,if_pos h8];unfold emitS MS.fulled
  split<;>exact⟨rfl,rfl,rfl,rfl⟩
 by_cases h9:x.op=9
 ·unfold doS;rw[if_neg h1,if_neg h2,if_neg h3,if_neg h4,if_neg h5,if_neg h6,if_neg h7,if_neg h8,if_pos h9];unfold takeS MS.fulled
  split
  ·split<;>exact⟨rfl,rfl,rfl,rfl⟩
  exact⟨rfl,rfl,rfl,rfl⟩
 by_cases h10:x.op=10
 ·unfold doS;rw[if_neg h1,if_neg h2,if_neg h3,if_neg h4,if_neg h5,if_neg h6,if_neg h7,if_neg h8,if_neg h9,if_pos h10];exact⟨rfl,rfl,rfl,rfl⟩
 unfold doS;rw[if_neg h1,if_neg h2,if_neg h3,if_neg h4,if_neg h5,if_neg h6,if_neg h7,if_neg h8,if_neg h9,if_neg h10];exact⟨rfl,rfl,rfl,rfl⟩
def insZ:Ins:=⟨0,0,0,0,0,0,0,0,0,0,false,false,valZ⟩
def doneS (s:MS)(r:Int×MS):MS:={r.2 with steps:=s.steps+1,at_:=(if r.1<0 then s.at_+1 else r.1),ended:=r.2.ended||decide ((if r.1<0 then s.at_+1 else r.1)=(s.c.l.length:Int))}
def stepS (s:MS)(n:Nat):MS:=if s.ended=true then s else doneS s (doS s (s.c.l.getD s.at_.toNat insZ) n)
end Go.Abs
