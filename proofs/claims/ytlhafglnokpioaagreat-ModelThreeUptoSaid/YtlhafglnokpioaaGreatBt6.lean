/- A part. -/
import Derived.Test.YtlhafglnokpioaaGreatBt5
noncomputable section
namespace Go.Abs
open List
open Go.Proofs
open Classical
set_option maxRecDepth 100000
def one (v:Val):List Nat:=if v.kind=1 then ez (zz v.num)else if v.kind=2 then ez v.s.length++v.s else [v.num.toNat]
def TJ (k:Int):FuncId:=if k=1 then 230 else if k=2 then 234 else 238
theorem nC.alloc {H:Hp}{n p:Nat}{v:AV}{l:List Nat}(W:nC H n p v l)(y:bJ):nC (H.put n (some y)) (n+1) p v l:=by
 obtain⟨a,b,c⟩:=W;refine⟨by rw[Tr.get_put,ak ah,a],ah,?_⟩
 rcases c with h|⟨q,h1,h2,h3,h4,h5⟩
 ·exact .inl h
 exact .inr ⟨q,h1,ah,h3,by rw[Tr.get_put,ak ah,h4],h5⟩
theorem nC.fin {H:Hp}{n p b:Nat}{l:List Nat}(W:nC H n p (.sl b 0 l.length 1) l):H.get p=aN 2 [.bool true,.sl b 0 l.length 1]/\∃y,H.get b=some y/\OwnB y (gV l):=by
 rcases W.hv with⟨h,_⟩|⟨b',h,_,_,h3,_⟩
 ·cases h
 injection h with h;subst h;exact⟨W.hp,_,h3,.list ai⟩
theorem amm (x:Int)(h:0<=x)(h2:x<18446744073709551616):(BitVec.ofInt 64 x).toNat=x.toNat:=by
 rw[BitVec.toNat_ofInt,Int.emod_eq_of_lt h ah]
theorem aoC (x:Int)(h1 : -9223372036854775808<=x)(h2:x<9223372036854775808):bS .xor .u64 (IntKind.u64.wrap (IntKind.u64.wrap x*2)) (IntKind.u64.wrap (x.fdiv 9223372036854775808))=.val (.int .u64 ((zz x:Nat):Int)):=by
 have e:IntKind.u64.wrap (IntKind.u64.wrap x*2)=(2*x) % 18446744073709551616:=by simp[IntKind.wrap,IntKind.signed,IntKind.bits];omega
 rw[sR,e]
 congr 2
 by_cases h:0<=x
 ·have e2:x.fdiv 9223372036854775808=0:=by rw[Int.fdiv_eq_ediv_of_nonneg _ ah];omega
  have e3:(2*x) % 18446744073709551616=2*x:=ah;rw[e2,e3,show IntKind.u64.wrap 0=0 from rfl];show IntKind.u64.wrap (((BitVec.ofInt 64 (2*x) ^^^ BitVec.ofInt 64 0).toNat:Nat):Int)=_;rw[show BitVec.ofInt 64 0=0#64 from rfl,BitVec.xor_zero,amm _ ah ah,zz,ay h,pE ah]
 have e2:x.fdiv 9223372036854775808 = -1:=by rw[Int.fdiv_eq_ediv_of_nonneg _ ah];omega
 rw[e2,show IntKind.u64.wrap (-1)=18446744073709551615 from rfl];show IntKind.u64.wrap (((BitVec.ofInt 64 ((2*x) % 18446744073709551616) ^^^ BitVec.ofInt 64 18446744073709551615).toNat:Nat):Int)=_;rw[show BitVec.ofInt 64 18446744073709551615=BitVec.allOnes 64 from rfl,BitVec.xor_allOnes,BitVec.toNat_not,amm _ ah ah,zz,ak h];have:2 ^ 64 - 1 - (2*x % 18446744073709551616).toNat=(-2*x - 1).toNat:=ah;rw[this,pE ah]
theorem ak2 {H:Hp}{n p:Nat}{v:AV}{l:List Nat}(W:nC H n p v l)(x:Int)(h1 : -9223372036854775808<=x)(h2:x<9223372036854775808)(hl:l.length<1048000):
  ∃H1,bC pG 231 [.ptr p 0,zI x] H n (.br []) H1 (n+2*(ez (zz x)).length)/\nC H1 (n+2*(ez (zz x)).length) p (.sl (n+2*(ez (zz x)).length - 1) 0 (l++ez (zz x)).length 1) (l++ez (zz x))/\∀c,c∉OH p v->c<n∨n+2*(ez (zz x)).length<=c->H1.get c=H.get c:=
 vp W (by simp[W.pn]) (by have:=mJ (zz x);omega) (by have:=mJ (zz x);simp;omega) λ S _ WS=>by
  obtain⟨H1,a,b,_⟩:=OM WS (zz x) (agL h1 h2) hl;have s1:eO .shl (.int .u64 (IntKind.u64.wrap x)) (.int .u64 1)=.val (.int .u64 (IntKind.u64.wrap (IntKind.u64.wrap x*2))):=by rw[wQ _ _ _ _ ah];rfl
  have s2:eO .shr (zI x) (.int .u64 63)=.val (zI (x.fdiv 9223372036854775808)):=by rw[qR _ _ _ _ ah];rfl
  refine ao.of c231 (by simp[A231]) λ F hF=>?_;simp[A231,hF,dN,s1,s2,aoC x h1 h2];refine aB.ok a ?_;simp;have:=b.fin;simpa using this
theorem ajB {H:Hp}{n p:Nat}{v:AV}{l:List Nat}(W:nC H n p v l) (u:Val) (hr:u.pq) (hm:u.may=true) (h0:u.kind≠0) (hl:l.length<1040000):
  ∃b' n',n<n'/\∃H1,bC pG (TJ u.kind) [.ptr p 0,u.av] H n (.br []) H1 n'/\nC H1 n' p (.sl b' 0 (l++one u).length 1) (l++one u)/\∀c,c∉OH p v->c<n∨n'<=c->H1.get c=H.get c:=by
 have hk:=Val.jF hm;unfold one TJ
 by_cases k1:u.kind=1
 ·refine⟨n+2*(ez (zz u.num)).length,n+1+2*(ez (zz u.num)).length,ah,?_⟩;simp only[ay k1];refine vp W (by simp[W.pn,Val.av]) ah (by have:=mJ (zz u.num);simp;omega) λ S _ WS=>?_;obtain⟨H1,a,b,_⟩:=ak2 (WS.alloc (.cells 3 [] u.cells .nil)) u.num hr.lo hr.hi ah;refine ao.of c230 (by simp[A230]) λ F hF=>?_;simp[Val.cells]at a;simp[A230,hF,Val.av];refine aB.ok a ?_;simp;have:=b.fin;have e:n+1+2*(ez (zz u.num)).length - 1=n+2*(ez (zz u.num)).length:=ah;rw[e]at this;simpa using this
 by_cases k2:u.kind=2
 ·have hs:=Val.lQ hm k2;simp only[ak k1,ay k2];have ht:=agM u.s (n+1);refine⟨txB u.s (n+1),txN u.s (n+1),ah,vp W (by simp[W.pn,Val.av]) ah (by have:=mJ u.s.length;simp;omega) λ S _ WS=>?_⟩;obtain⟨H1,a,b,_⟩:=aes (WS.alloc (.cells 3 [] u.cells .nil)) u.s ah hs;refine ao.of c234 (by simp[A234]) λ F hF=>?_;simp[Val.cells]at a;simp[A234,hF,Val.av];refine aB.ok a ?_;simp;simpa using b.fin
 obtain k3:u.kind=3:=ah
 have hn:u.num=0∨u.num=1:=by
  have:=hm;unfold Val.may at this;simp[k3]at this;exact this.2
 simp only[ak k1,ak k2];refine⟨n+2,n+3,ah,vp W (by simp[W.pn,Val.av]) ah ai λ S _ WS=>?_⟩;obtain⟨H1,a,b,_⟩:=CW (WS.alloc (.cells 3 [] u.cells .nil)) u.num.toNat ah ah;have w:IntKind.u8.wrap u.num=((u.num.toNat:Nat):Int):=by rcases hn with h|h<;>rw[h]<;>rfl
 refine ao.of c238 (by simp[A238]) λ F hF=>?_;simp only[Val.cells]at a;simp[A238,hF,Val.av,dN,w];refine aB.ok (by simpa using a) ?_;simp;simpa using b.fin
def rU:List Val->Nat
 |[]=>0
 |v::r=>(if v.kind=0 then 1 else 0)+2*rU r
theorem Uy (l:List Val)(v:Val):rU (l++[v])=rU l+2 ^ l.length*(if v.kind=0 then 1 else 0):=by
 induction l with
 |nil=>simp[rU]
 |cons a r ih =>
  simp only[cons_append,rU,ih,length_cons,Nat.pow_succ,Nat.mul_add];rw[Nat.mul_comm (2 ^ r.length) 2,Nat.mul_assoc];omega
theorem Px (l:List Val):rU l<2 ^ l.length:=by
 induction l with
 |nil=>simp[rU]
 |cons a r ih=>simp only[rU,length_cons,Nat.pow_succ];split<;>omega
def qb (row:List Val)(m:Nat):List Nat:=(range m).map λ j=>rU ((row.drop (8*j)).take 8)
theorem La (row:List Val)(m:Nat):qb row (m+1)=qb row m++[rU ((row.drop (8*m)).take 8)]:=by simp[qb,range_succ]
@[simp] theorem U' (row:List Val)(m:Nat):(qb row m).length=m:=by simp[qb]
def l7 (row:List Val):List Nat:=row.flatMap λ v=>if v.kind=0 then []else one v
def encR (row:List Val):List Nat:=qb row ((row.length+7) / 8)++l7 row
def wo (c:List q7)(row:List Val):List Nat×Int:=if sH c row=0 then (if (encR row).length<=160 then (encR row,0)else ([],51))else ([],sH c row)
theorem or_bit:∀j:Fin 8,∀x:Fin 256,x.val<2 ^ j.val->(BitVec.ofInt 8 (x.val:Int) ||| BitVec.ofInt 8 ((2 ^ j.val:Nat):Int)).toNat=x.val+2 ^ j.val:=by decide
theorem avZ {j x:Nat}(hj:j<8)(hx:x<2 ^ j):bS .or .u8 (x:Int) ((2 ^ j:Nat):Int)=.val (.int .u8 ((x+2 ^ j:Nat):Int)):=by
 have h1:2 ^ j<=2 ^ 7:=Nat.pow_le_pow_right ah ah;have h2:=or_bit ⟨j,hj⟩ ⟨x,ah⟩ hx;rw[CB];rw[show (BitVec.ofInt IntKind.u8.bits (x:Int) ||| BitVec.ofInt IntKind.u8.bits ((2 ^ j:Nat):Int)).toNat=x+2 ^ j from h2,AL ah]
theorem aoS {j:Nat}(hj:j<8):eO .shl (.int .u8 1) (zI (j:Int))=.val (.int .u8 ((2 ^ j:Nat):Int)):=by
 have h1:2 ^ j<=2 ^ 7:=Nat.pow_le_pow_right ah ah;rw[wQ _ _ _ _ ah];have:min (j:Int).toNat IntKind.u8.bits=j:=by simp[IntKind.bits];omega
 rw[this];have:=AL (show 2 ^ j<256 by omega);simpa using this
theorem akE (H:Hp)(n:Nat):ao pG 166 [] H n (λ u K k=>u=.ptr n 0/\K=H.put n (aN 2 [.bool true,.aV (.slice none 0 0)])/\k=n+1):=by
 refine ao.of c166 (by simp[A166]) λ F hF=>?_;simp[A166]
def s5:List AV:=[zI 1,.fn (.func 230) [] [],.fn (.func 232) [] [],zI 2,.fn (.func 234) [] [],.fn (.func 236) [] [],zI 3,.fn (.func 238) [] [],.fn (.func 239) [] []]
theorem aep:aj pG 168 [] (.agg s5 9):=by
 refine gf c168 ai (by simp[s5]) (by simp[A168]) λ F hF=>?_;simp[A168];exact fp
theorem alO (row:List Val) (hl:row.length<=16) (b:Nat) (hm:b<row.length) (F:Fr) (K:Hp) (n:Nat) (Q:QA) (f1:F.get 1=some (aC row)) (f8:F.get 8=some (zI (b:Int))) (f9:F.get 9=some (.int .u8 0)) (f10:F.get 10=some (zI (b:Int)))
  (k:∀F':Fr,F'.get 1=F.get 1->F'.get 7=F.get 7->F'.get 8=F.get 8->F'.get 9=some (.int .u8 (rU ((row.drop b).take 8):Int))->Q (.exit 2) F' K n []):aF I3 pG F K n [] Q:=by
 refine aF.of (λ t F' K' n' ms=>∃i a,t=8 - i/\i<=8/\a=b+i/\a<=row.length/\F'.get 1=F.get 1/\F'.get 7=F.get 7/\F'.get 8=F.get 8/\F'.get 9=some (.int .u8 (rU ((row.drop b).take i):Int))/\F'.get 10=some (zI (a:Int))/\K'=K/\n'=n/\ms=[]) 8 ⟨0,b,by simp[f9,f10,rU];omega⟩ ?_;rintro t F' K' n' ms ⟨i,a,rfl,hi,ha,hle,g1,g7,g8,g9,g10,rfl,rfl,rfl⟩
 have fin:(i=8∨a=row.length)->∀F2:Fr,F2.get 1=F.get 1->F2.get 7=F.get 7->F2.get 8=F.get 8->F2.get 9=F'.get 9->Q (.exit 2) F2 K' n' []:=λ h F2 x y z f=>by
  refine k F2 x y z (f.trans (g9.trans ?_))
  congr 3
  rcases h with rfl|h
  ·rfl
  rw[fZ (by simp;omega),fZ (by simp;omega)]
 have h1':=g1.trans f1;have h8':=g8.trans f8;rw[aC]at h1';have w1:IntKind.i64.wrap ((b:Int)+8)=(b:Int)+8:=dY _ ah ah
 by_cases h1:a<row.length
 ·by_cases h2:i<8
  ·have hx:=fM (k:=.i64) h1;have w2:IntKind.i64.wrap ((a:Int) - (b:Int))=(i:Int):=by rw[dY _ ah ah];omega
   have w3:=aE a ah;have hlen:((row.drop b).take i).length=i:=by simp;omega
   have hs:(row.drop b).take (i+1)=(row.drop b).take i++[row[a]]:=by
    rw[take_add_one,kV,<-ha,cY h1];rfl
   have hb:=Uy ((row.drop b).take i) row[a];have hlt:=Px ((row.drop b).take i);rw[hlen]at hb hlt;rw[<-hs]at hb;simp[I3,h1',h8',g10,h1,w1,show (a:Int)<(b:Int)+8 by omega,hx,PN]
   by_cases h0:row[a].kind=0
   ·have s1:=aoS h2;have s2:=avZ h2 hlt;rw[h0,ay rfl,Nat.mul_one]at hb;rw[<-hb]at s2;simp only[Int.natCast_pow,Int.cast_ofNat_Int]at s1 s2;simp[h0,Z7,g9,g10,h8',w2,s1,s2,Lq,w3];exact⟨_,ah,i+1,rfl,ah,ah,g1,g7,f8.symm,rfl,ah⟩
   rw[ak h0]at hb;simp[h0,Lq,g10,w3];exact⟨_,ah,i+1,rfl,ah,ah,g1,g7,g8,by simp[hb,g9],ah⟩
  obtain rfl:i=8:=ah;simp[I3,h1',h8',g10,h1,w1,show ¬(a:Int)<(b:Int)+8 by omega];exact fin (.inl rfl) _ (by simp[g1]) (by simp[g7]) (by simp[g8]) ai
 simp[I3,h1',g10,h1];exact fin (.inr ah) _ (by simp[g1]) (by simp[g7]) (by simp[g8]) ai
theorem Hn (l:List Val)(h:l.length<=8):rU l<256:=by
 have h1:=Px l;have h2:2 ^ l.length<=2 ^ 8:=Nat.pow_le_pow_right ah h;omega
theorem alN (row:List Val)(hl:row.length<=16)(h0:row≠[])(F:Fr)(K:Hp)(n p:Nat)(Q:QA)(W:nC K n p (.aV (.slice none 0 0)) [])(f1:F.get 1=some (aC row))(f7:F.get 7=some (.ptr p 0))(f8:F.get 8=some (zI 0))
  (k:∀(F':Fr)(K':Hp)(n' b:Nat),F'.get 1=some (aC row)->F'.get 7=some (.ptr p 0)->nC K' n' p (.sl b 0 ((row.length+7) / 8) 1) (qb row ((row.length+7) / 8))->Q (.exit 0) F' K' n' []):aF Tt pG F K n [] Q:=by
 refine aF.of (λ t F K n ms=>∃m v,t=3 - m/\8*m<row.length+8/\F.get 1=some (aC row)/\F.get 7=some (.ptr p 0)/\F.get 8=some (zI ((8*m:Nat):Int))/\nC K n p v (qb row m)/\ms=[]) 3 ⟨0,_,ai,ah,f1,f7,f8,by simpa[qb]using W,rfl⟩ ?_;clear f1 f7 f8 W F K n;rintro t F K n ms ⟨m,v,rfl,hm,f1,f7,f8,W,rfl⟩;rw[aC]at f1;generalize hB:8*m=B at *
 by_cases h:B<row.length
 ·obtain⟨H1,a,b,_⟩:=CW W (rU ((row.drop (8*m)).take 8)) (Hn _ (by simp;omega)) (by simp;omega);have w:IntKind.i64.wrap ((B:Int)+8)=(B:Int)+8:=dY _ ah ah;rw[<-La]at b;rw[hB]at a;simp[Tt,f1,f8,h];refine alO row hl B h _ _ _ _ (by simp[f1,aC]) (by simp[f8]) ai ai λ F' g1 g7 g8 g9=>?_;simp[f1,f7,f8]at g1 g7 g8;simp[Z6,g7,g9];refine aB.ok a ?_;simp[Z5,g8,w];exact⟨_,ah,m+1,rfl,ah,g1,g7,ah,_,b⟩
 obtain rfl:m=(row.length+7) / 8:=ah;simp[Tt,f1,f8,h]
 rcases W.hv with⟨_,h1⟩|⟨b,rfl,_⟩
 ·have h1:=congrArg length h1;have:=length_pos_iff.2 h0;simp at h1;omega
 refine k _ _ _ b ?_ ?_ (by simpa using W)
 ·simp[f1,aC]
 simp[f7]
theorem TM (row:List Val)(i:Nat)(h:i<row.length):l7 (row.take (i+1))=l7 (row.take i)++(if row[i].kind=0 then []else one row[i]):=by
 unfold l7;rw[take_snoc h,flatMap_append];simp
theorem ae' (v:Val)(hm:v.may=true)(hr:v.pq):(one v).length<=70:=by
 unfold one
 split
 ·have:=xn 9 (zz v.num) (by have:=agL hr.lo hr.hi;omega);omega
 split
 ·rename_i h;have:=Val.lQ hm h;have:=xn 0 v.s.length ah;simp;omega
 simp
theorem GP (row:List Val)(hm:∀v∈row,v.may=true)(hr:∀v∈row,v.pq):(l7 row).length<=row.length*70:=by
 induction row with
 |nil=>simp[l7]
 |cons a r ih =>
  have:=ih (λ v hv=>hm v (by simp[hv])) (λ v hv=>hr v (by simp[hv]));have h1:=ae' a (hm a ai) (hr a ai);simp only[l7,flatMap_cons,length_append,length_cons]at this ⊢
  split<;>simp at *<;>omega
theorem nC.alloc2 {H:Hp}{n p:Nat}{v:AV}{l:List Nat}(W:nC H n p v l)(y z:bJ):nC ((H.put n (some y)).put n (some z)) (n+1) p v l:=by
 obtain⟨a,b,c⟩:=W;have e:∀c,c<n->((H.put n (some y)).put n (some z)).get c=H.get c:=λ c hc=>by rw[Tr.get_put,ak ah,Tr.get_put,ak ah]
 refine⟨by rw[e _ b,a],ah,?_⟩
 rcases c with h|⟨q,h1,h2,h3,h4,h5⟩
 ·exact .inl h
 exact .inr ⟨q,h1,ah,h3,by rw[e _ h2,h4],h5⟩
theorem ixw (q:Nat):gB 3 3 (.ptr q 0) (zI 0)=.val (.ptr q 0)/\gB 3 3 (.ptr q 0) (zI 1)=.val (.ptr q 3)/\gB 3 3 (.ptr q 0) (zI 2)=.val (.ptr q 6):=⟨rfl,rfl,rfl⟩
theorem alM (row:List Val) (hl:row.length<=16) (hm:∀v∈row,v.may=true) (hr:∀v∈row,v.pq) (B:List Nat) (hB:0<B.length/\B.length<=2) (F:Fr) (K:Hp) (n p q b:Nat) (Q:QA) (W:nC K n p (.sl b 0 B.length 1) B) (hq:K.get q=aN 9 s5) (qn:q<n) (f7:F.get 7=some (.ptr p 0)) (f11:F.get 11=some (.ptr q 0)) (f56:F.get 56=some (aC row)) (f57:F.get 57=some (zI (row.length:Int))) (f58:F.get 58=some (zI 0))
  (k:∀(F':Fr)(K':Hp)(n' b:Nat),F'.get 7=some (.ptr p 0)->nC K' n' p (.sl b 0 (B++l7 row).length 1) (B++l7 row)->Q (.exit 4) F' K' n' []):aF Tq pG F K n [] Q:=by
 refine aF.of (λ t F K n ms=>∃i b,t=row.length - i/\i<=row.length/\F.get 7=some (.ptr p 0)/\F.get 11=some (.ptr q 0)/\F.get 56=some (aC row)/\F.get 57=some (zI (row.length:Int))/\F.get 58=some (zI (i:Int))/\nC K n p (.sl b 0 (B++l7 (row.take i)).length 1) (B++l7 (row.take i))/\K.get q=aN 9 s5/\q<n/\ms=[]) row.length ⟨0,b,ai,ah,f7,f11,f56,f57,f58,by simpa[l7]using W,hq,qn,rfl⟩ ?_;clear f7 f11 f56 f57 f58 W F K n hq qn b;rintro t F K n ms ⟨i,b,rfl,hi,f7,f11,f56,f57,f58,W,hq,qn,rfl⟩;rw[aC]at f56
 by_cases h:i<row.length
 ·have hx:=fM (k:=.i64) h;have hs:=TM row i h;have hvl:=GP (row.take i) (λ v hv=>hm v (mem_of_mem_take hv)) (λ v hv=>hr v (mem_of_mem_take hv));have hm1:=hm row[i] (dy h);have hr1:=hr row[i] (dy h);have hk:=Val.jF hm1
  have hvl2:(l7 (row.take i)).length<=1120:=by
   have:(row.take i).length<=16:=by simp;omega
   omega
  generalize row[i]=u at *
  obtain⟨hbn,hbp,hbk⟩:b<n/\b≠p/\K.get b=some (.cells (B++l7 (row.take i)).length [] (gV (B++l7 (row.take i))) .nil):=by
   rcases W.hv with⟨h,_⟩|⟨b',h,h1,h2,h3,_⟩
   ·cases h
   injection h with h;subst h;exact⟨h1,h2,h3⟩
  have hqb:q≠b:=by
   rintro rfl;rw[hq]at hbk;injection hbk with e;injection e with e1 e2 e3;have e4:=congrArg (λ l=>l[0]?) e3
   cases hB':B with
   |nil=>rw[hB']at hB;simp at hB
   |cons x y=>rw[hB']at e4;simp[s5,gV]at e4
  have hqp:q≠p:=by
   rintro rfl;rw[W.hp]at hq;injection hq with e;injection e with e1;cases e1
  have w:=aE i ah;simp[Tq,f57,f58,h,f56,hx,gw,Val.av]
  by_cases h0:u.kind=0
  ·simp[h0,zF,f58,w];refine⟨_,ah,i+1,rfl,ah,by simp[f7],by simp[f11],by simp[f56,aC],by simp[f57],ai,⟨b,?_⟩,?_,ah⟩
   ·rw[hs,ay h0];simpa using W.alloc2 _ _
   rw[ak ah,ak ah,hq]
  generalize hK:Tr.put (Tr.put K n _) n _=K2;have W2:nC K2 (n+1) p (.sl b 0 (B++l7 (row.take i)).length 1) (B++l7 (row.take i)):=hK▸W.alloc2 _ _;have k2:K2.get n=aN 3 [zI u.kind,zI u.num,.str u.s]:=by rw[<-hK];simp
  have kq:K2.get q=aN 9 s5:=by rw[<-hK,Tr.get_put,ak ah,Tr.get_put,ak ah,hq]
  obtain⟨b',n',hn,H1,c1,c2,c9003⟩:=ajB W2 u hr1 hm1 h0 (by simp;omega);have c9004:=c9003 q (by simp[OH];exact⟨hqp,hqb⟩) (.inl ah);rw[kq]at c9004;simp only[s5]at kq;have e:(B++l7 (row.take i))++one u=B++l7 (row.take (i+1)):=by rw[hs,ak h0,append_assoc]
  rw[e]at c2;simp[h0,Z1];refine bF.of (KT (l:=[⟨TJ u.kind,[.ptr p 0,u.av],K2,n+1,.br [],H1,n'⟩]) ?_) ?_
  ·simp only[mc];rintro x rfl;exact c1
  rcases hk.resolve_left h0 with h1|h1|h1
  ·rw[h1]at k2;simp[ae,k2,kq,f7,f11,h1,TJ,dY,Val.av,zj,zF,f56,f57,f58,w,ixw];exact⟨_,ah,i+1,rfl,ah,by simp[aC],ah,⟨b',by simpa using c2⟩,c9004,ah⟩
  ·rw[h1]at k2;simp[ae,k2,kq,f7,f11,h1,TJ,dY,Val.av,zj,zF,f56,f57,f58,w,ixw];exact⟨_,ah,i+1,rfl,ah,by simp[aC],ah,⟨b',by simpa using c2⟩,c9004,ah⟩
  rw[h1]at k2;simp[ae,k2,kq,f7,f11,h1,TJ,dY,Val.av,zj,zF,f56,f57,f58,w,ixw];exact⟨_,ah,i+1,rfl,ah,by simp[aC],ah,⟨b',by simpa using c2⟩,c9004,ah⟩
 obtain rfl:i=row.length:=ah;simp[Tq,f57,f58];rw[fZ (aL _)]at W;refine k _ _ _ b ?_ W;simp[f7]
theorem H7:∀(c:List q7) (row:List Val),row.length<=c.length->D8 c row=0->∀v∈row,v.may=true
 |_,[],_,_,v,hv=>by simp at hv
 |[],_::_,h,_,_,_=>by simp at h
 |c :: cs,a::r,h,h0,v,hv=>by
  simp only[D8]at h0
  split at h0
  ·rename_i h1
   rcases mem_cons.1 hv with rfl|hv
   ·unfold Ao at h1
    split at h1
    ·omega
    rename_i h2;simpa using h2
   exact H7 cs r (by simpa using h) h0 v hv
  rename_i h1;exact aw h0 h1
theorem tP {c:List q7}{row:List Val}(h:sH c row=0):jX c/\row.length=c.length/\row≠[]/\row.length<=16/\∀v∈row,v.may=true:=by
 unfold sH at h
 split at h
 ·rename_i h1;obtain⟨h2,h3⟩:=h1;exact⟨h2,h3,λ e=>h2.1 (eq_nil_of_length_eq_zero (by rw[<-h3,e];rfl)),h3▸h2.2.1,H7 c row ah h⟩
 omega
theorem vO (l:List Nat)(h:∀b∈l,b<256):bytesOf (gV l)=some l:=by
 induction l with
 |nil=>rfl
 |cons a r ih =>
  have:=ih λ b hb=>h b (by simp[hb]);have ha:=h a ai;simp only[gV,map_cons]at this ⊢;simp only[bytesOf,this];simp;omega
theorem one_byte (v:Val)(hm:v.may=true)(h0:v.kind≠0)(hr:v.pq):∀b∈one v,b<256:=by
 unfold one
 split
 ·exact AK _
 split
 ·intro b hb
  rcases mem_append.1 hb with h|h
  ·exact AK _ b h
  exact hr.b b h
 rename_i k1 k2;have k3:v.kind=3:=by have:=Val.jF hm;omega
 have:=hm;unfold Val.may at this;simp[k3]at this;intro b hb;simp at hb;omega
theorem U3 (row:List Val)(hm:∀v∈row,v.may=true)(hr:∀v∈row,v.pq):∀b∈encR row,b<256:=by
 intro b hb
 rcases mem_append.1 hb with h|h
 ·simp only[qb,mem_map]at h;obtain⟨j,_,rfl⟩:=h;exact Hn _ (by simp;omega)
 simp only[l7,mem_flatMap]at h;obtain⟨v,hv,h⟩:=h
 split at h
 ·simp at h
 rename_i h0;exact one_byte v (hm v hv) h0 (hr v hv) b h
theorem akR {H:Hp}{n p b:Nat}{l:List Nat}(W:nC H n p (.sl b 0 l.length 1) l):ao pG 169 [.ptr p 0] H n (λ u K k=>u=zI (l.length:Int)/\K=H/\k=n):=by
 have:=W.hp;refine ao.of c169 (by simp[A169]) λ F hF=>?_;simp[A169,hF,this]
theorem Zn {H:Hp}{n p b:Nat}{l:List Nat}(W:nC H n p (.sl b 0 l.length 1) l)(hl:0<l.length/\l.length<4000):ao pG 170 [.ptr p 0] H n (λ u K _k=>u=.sl n 0 l.length 1/\∃y,K.get n=some y/\OwnB y (gV l)):=by
 have hp:=W.hp;obtain⟨b',h,hbn,_,hb,_⟩:=W.hv.resolve_left (by rintro⟨h,_⟩;cases h);injection h with h;subst h;refine ao.of c170 (by simp[A170]) λ F hF=>?_;simp[A170,hF,hp]
 have hsc:aX H 1 (.sl b 0 l.length 1)=some (gV l):=by
  rw[bU hb (.list ai) ai];simp[fZ]
 rw[Zl (new:=gV l) (k:=l.length) hsc ai ah ah (by unfold big;omega) ah (t_ _)];simp;exact .list ai
theorem arh (c:List q7) (row:List Val) (hv:row.length<=aU) (hr:∀v∈row,v.pq):aj pG 91 [dV.ds c,aC row] (.br [.str (wo c row).1,zI (wo c row).2]):=by
 refine pv c91 λ F hF=>?_;simp[A91,hF];refine aB.pure (YQ c row hv) ?_
 by_cases h0:sH c row=0
 ·obtain⟨_,hlen,hne,kK,hmay⟩:=tP h0;have hpos:=length_pos_iff.2 hne;simp[Z2,h0,ah1];refine aB.of (akE _ _) λ v K n ⟨e1,e2,e3⟩=>?_;subst e1 e2 e3;simp[ah0];have W:nC ((Tr.nil:Hp).put 0 (aN 2 [.bool true,.aV (.slice none 0 0)])) 1 0 (.aV (.slice none 0 0)) []:=⟨ai,ah,.inl ⟨rfl,rfl⟩⟩;refine alN row kK hne _ _ _ 0 _ W (by simp[hF]) ai ai λ F K n b f1 f7 W=>?_;clear hF;simp[Z4];refine aB.pure aep ?_;simp[s5,Z3,f1,aC];have hB:0<(row.length+7) / 8/\(row.length+7) / 8<=2:=ah;have eB:=U' row ((row.length+7) / 8);refine alM row kK hmay hr (qb row ((row.length+7) / 8)) (by rw[eB];exact hB) _ _ (n+1) 0 n b _ (by rw[eB];exact W.alloc2 _ _) (by simp[s5]) ah (by simp[f7]) ai (by simp[aC]) ai ai λ F K n b f7 W=>?_;have W':nC K n 0 (.sl b 0 (encR row).length 1) (encR row):=W;have hl:=GP row hmay hr;have hel:(encR row).length=(row.length+7) / 8+(l7 row).length:=by simp[encR]
  simp[Z0,f7];refine aB.same (akR W') ?_;unfold wo;rw[ay h0]
  by_cases h:(encR row).length<=160
  ·simp[show ¬(160:Int)<((encR row).length:Int) by omega,ZY,f7,h];refine aB.of (Zn W' ah) λ v K' n' ⟨e1,y,e2,e3⟩=>?_;subst e1
   have:KY (.sl n 0 (encR row).length 1) K'=.val (.str (encR row)):=by
    unfold KY;dsimp only;rw[bU e2 e3 ai];simp[vO _ (U3 row hmay hr),fZ]
   simp[KD,this];exact fp
  simp[show (160:Int)<((encR row).length:Int) by omega,ZZ,h];exact fp
 simp[Z2,h0,ah2,wo];exact fp
end Go.Abs
namespace Go.Abs
open List
open Go.Proofs
open Classical
set_option maxRecDepth 100000
section
variable {P:Program}{F:Fr}{H:Hp}{n:Nat}{m:List Dm}{Q:QA}
theorem aD.upd {v:AV}{l:List Nat}(h:aD H n v (gV l) l.length 1)(y:bJ):aD (H.put n (some y)) (n+1) v (gV l) l.length 1:=by
 obtain⟨h0,⟨rfl,h1⟩|⟨b,k,rfl,hb,hk,ho⟩⟩:=h
 ·exact⟨h0,.inl ⟨rfl,h1⟩⟩
 exact⟨h0,.inr ⟨b,k,rfl,ah,by rw[Tr.get_put,ak ah,hk],ho⟩⟩
theorem aD.IJ {v:AV}{l:List Nat}{pd:Pd}{r:List (Option GO)}(h:aD H n v (gV l) l.length 1)(x:List Nat)(hx:0<x.length)(hl:l.length+x.length<1048576)
  (hgo:∀H',aD H' (n+2) (.sl (n+1) 0 (l.length+x.length) 1) (gV (l++x)) (l++x).length 1->(∀c,c<n->v≠.sl c 0 l.length 1->H'.get c=H.get c)->fE P r (pd.f (.sl (n+1) 0 (l.length+x.length) 1) F) H' (n+2) m Q):
  Gf (Go.Abs.gZ 1 1 (n+1) v (.sl n 0 x.length 1) (H.put n (some (.cells x.length [] (gV x) .nil)))) pd r P F (H.put n (some (.cells x.length [] (gV x) .nil))) (n+1) m Q:=by
 have hs:aX (H.put n (some (.cells x.length [] (gV x) .nil))) 1 (.sl n 0 x.length 1)=some (gV x):=by
  rw[bU (k:=.cells x.length [] (gV x) .nil) ai (.list ai) ai];simp[fZ]
 refine aD.app (h.upd _) hs (k:=x.length) ai ai ah hx (by unfold big;omega) ah (t_ _) λ H' h1 h2=>hgo H' (by rw[Em];simpa using h1) λ c hc hv=>?_;rw[h2 c ah hv,Tr.get_put,ak ah]
theorem aD.b2s {v:AV}{l:List Nat}(h:aD H n v (gV l) l.length 1)(hb:∀b∈l,b<256):KY v H=.val (.str l):=by
 obtain⟨h0,⟨rfl,h1⟩|⟨b,k,rfl,hbn,hk,ho⟩⟩:=h
 ·have:l=[]:=eq_nil_of_length_eq_zero h1;subst this;rfl
 unfold KY;dsimp only;rw[bU hk ho ai];simp[vO _ hb,fZ]
end
end Go.Abs
namespace Go.Abs
open List
open Go.Proofs
open Classical
set_option maxRecDepth 100000
@[simp] theorem auP (z:List AV)(sz gp:Nat)(x y:G)(F:Fr)(H:Hp)(n:Nat):BP z sz gp x y F H n=oE (x.f F) λ a=>oE (y.f F) λ b=>Qv z sz gp n a b:=by
 unfold BP oE
 cases x.f F with
 |none=>rfl
 |some a=>cases y.f F<;>rfl
def IA (u:Nat):List Nat:=(range 8).map λ j=>u / 2 ^ (56 - 8*j) % 256
def sL (s:List Nat):List Nat:=s.flatMap λ c=>if c=0 then [c,255]else [c]
def JH (x:Int):Nat:=(x+9223372036854775808).toNat
def DK (v:Val):List Nat:=if v.kind=3 then [(2+v.num).toNat]else if v.kind=1 then 4::IA (JH v.num)else if v.kind=2 then 5::(sL v.s++[0,1])else [1]
theorem aD.ne {H:Hp}{n:Nat}{u:AV}{l:List AV}{len sz:Nat}(O:aD H n u l len sz):∀k,u≠.sl n 0 k 1:=by
 rintro k rfl;obtain⟨_,⟨h,_⟩|⟨b,y,h,hb,_⟩⟩:=O
 ·cases h
 injection h with h;omega
theorem aD.box {H:Hp}{n:Nat}{u:AV}{l:List Nat}(O:aD H n u (gV l) l.length 1)(y z:bJ):aD ((H.put n (some y)).put n (some z)) (n+1) u (gV l) l.length 1:=by
 obtain⟨h0,⟨rfl,h1⟩|⟨b,k,rfl,hb,hk,ho⟩⟩:=O
 ·exact⟨h0,.inl ⟨rfl,h1⟩⟩
 exact⟨h0,.inr ⟨b,k,rfl,ah,by rw[Tr.get_put,ak ah,Tr.get_put,ak ah,hk],ho⟩⟩
theorem OG {c:Nat}(h:c<2 ^ 63):c ^^^ 2 ^ 63=2 ^ 63+c:=by
 apply Nat.eq_of_testBit_eq;intro j;rw[Nat.testBit_xor,Nat.testBit_two_pow]
 rcases Nat.lt_trichotomy j 63 with h1|rfl|h1
 ·rw[Nat.testBit_two_pow_add_gt h1];simp[show ¬ 63=j by omega]
 ·rw[Nat.testBit_two_pow_add_eq];simp
 have h2:2 ^ 64<=2 ^ j:=Nat.pow_le_pow_right ah ah;rw[Nat.testBit_lt_two_pow (show 2 ^ 63+c<2 ^ j by omega),Nat.testBit_lt_two_pow (show c<2 ^ j by omega)];simp;omega
theorem aoD (x:Int)(h1 : -9223372036854775808<=x)(h2:x<9223372036854775808):bS .xor .u64 (IntKind.u64.wrap x) 9223372036854775808=.val (.int .u64 ((JH x:Nat):Int)):=by
 have key:∀a:Nat,a<18446744073709551616->(BitVec.ofInt 64 (a:Int) ^^^ BitVec.ofInt 64 9223372036854775808).toNat=if a<9223372036854775808 then 9223372036854775808+a else a - 9223372036854775808:=by
  intro a ha;have e1:(BitVec.ofInt 64 (a:Int)).toNat=a:=by rw[amm _ ah ah];simp
  have e2:(BitVec.ofInt 64 9223372036854775808).toNat=2 ^ 63:=rfl;rw[BitVec.toNat_xor,e1,e2]
  split
  ·rename_i h;exact OG h
  rename_i h;have h3:=OG (c:=a - 9223372036854775808) ah;have h4:2 ^ 63+(a - 9223372036854775808)=a:=ah;rw[h4]at h3;rw[<-h3,Nat.xor_assoc,Nat.xor_self,Nat.xor_zero];omega
 have e0:IntKind.u64.wrap x=(((x % 18446744073709551616).toNat:Nat):Int):=by simp[IntKind.wrap,IntKind.signed,IntKind.bits];omega
 rw[sR,e0];have e1:=key (x % 18446744073709551616).toNat ah;refine Eq.trans (congrArg (λ k:Nat=>bD.val (.int .u64 (IntKind.u64.wrap (k:Int)))) e1) ?_;have e2:(if (x % 18446744073709551616).toNat<9223372036854775808 then 9223372036854775808+(x % 18446744073709551616).toNat else (x % 18446744073709551616).toNat - 9223372036854775808)=JH x:=by unfold JH;split<;>omega
 simp only[e2];rw[pE (by unfold JH;omega)]
theorem aeW (u:Nat)(_hu:u<18446744073709551616)(F:Fr)(K:Hp)(n:Nat)(v:AV)(l:List Nat)(hl:l.length<100000)(Q:QA)(f0:F.get 0=some v)(f5:F.get 5=some (.int .u64 (u:Int)))(f6:F.get 6=some (zI 56))(o:aD K n v (gV l) l.length 1)
  (k:∀(F':Fr)(K':Hp)(n':Nat)(v':AV),F'.get 0=some v'->aD K' n' v' (gV (l++IA u)) (l++IA u).length 1->Q (.exit 1) F' K' n' []):aF Gw pG F K n [] Q:=by
 refine aF.of (λ t F K n ms=>∃j v,t=8 - j/\j<=8/\F.get 0=some v/\F.get 5=some (.int .u64 (u:Int))/\F.get 6=some (zI (56 - 8*(j:Int)))/\aD K n v (gV (l++(IA u).take j)) (l++(IA u).take j).length 1/\ms=[]) 8 ⟨0,v,ai,ah,f0,f5,by simpa using f6,by simpa using o,rfl⟩ ?_;clear f0 f5 f6 o F K n v;rintro t F K n ms ⟨j,v,rfl,hj,f0,f5,f6,o,rfl⟩;have bl:(IA u).length=8:=by simp[IA]
 by_cases h:j<8
 ·have s1:eO .shr (.int .u64 (u:Int)) (zI (56 - 8*(j:Int)))=.val (.int .u64 ((u / 2 ^ (56 - 8*j):Nat):Int)):=by
   rw[qR _ _ _ _ ah];have:min (56 - 8*(j:Int)).toNat IntKind.u64.bits=56 - 8*j:=by simp[IntKind.bits];omega
   rw[this,Int.fdiv_eq_ediv_of_nonneg _ (by exact Int.le_of_lt (Int.pow_pos ah))];simp
  have s2:IntKind.u8.wrap ((u / 2 ^ (56 - 8*j):Nat):Int)=(((IA u)[j]'ah:Nat):Int):=by simp[IA,IntKind.wrap,IntKind.signed,IntKind.bits]
  have s3:(IA u).take (j+1)=(IA u).take j++[(IA u)[j]'ah]:=take_snoc ah;generalize (IA u)[j]'ah=z at *;generalize u / 2 ^ (56 - 8*j)=d at *;have w:IntKind.i64.wrap (56 - 8*(j:Int) - 8)=56 - 8*((j+1:Nat):Int):=by rw[dY _ ah ah];omega
  simp[Gw,f6,show 8*(j:Int)<=56 by omega,f0,f5,s1,dN,s2];refine aD.IJ o [z] ai (by simp;omega) λ H' o' _=>?_;simp[RH,f6,w,f5];exact⟨_,ah,j+1,rfl,ah,ah,by rw[show l.length+min (j+1) (IA u).length=l.length+(min j (IA u).length+1) by omega,s3];simpa using o'⟩
 obtain rfl:j=8:=ah;simp[Gw,f6];rw[fZ ah]at o;refine k _ _ _ v ?_ o;simp[f0]
theorem UZ (s:List Nat)(i:Nat)(h:i<s.length):sL (s.take (i+1))=sL (s.take i)++(if s[i]=0 then [s[i],255]else [s[i]]):=by
 unfold sL;rw[take_snoc h,flatMap_append];simp
theorem yV (s:List Nat):(sL s).length<=2*s.length:=by
 induction s with
 |nil=>simp[sL]
 |cons a r ih =>
  have e:sL (a::r)=(if a=0 then [a,255]else [a])++sL r:=rfl;rw[e,length_append,length_cons]
  split<;>simp<;>omega
theorem aeV (s:List Nat)(hs:s.length<=64)(a b:AV)(F:Fr)(K:Hp)(n q:Nat)(v:AV)(l:List Nat)(hl:l.length<100000)(Q:QA)(f0:F.get 0=some v)(f3:F.get 3=some (.ptr q 0))(f47:F.get 47=some (zI (s.length:Int)))(f48:F.get 48=some (zI 0))(hq:K.get q=aN 3 [a,b,.str s])(qn:q<n)(ne:∀k,v≠.sl q 0 k 1)(o:aD K n v (gV l) l.length 1)
  (k:∀(F':Fr)(K':Hp)(n':Nat)(v':AV),F'.get 0=some v'->aD K' n' v' (gV (l++sL s)) (l++sL s).length 1->Q (.exit 3) F' K' n' []):aF Gv pG F K n [] Q:=by
 refine aF.of (λ t F K n ms=>∃i v,t=s.length - i/\i<=s.length/\F.get 0=some v/\F.get 3=some (.ptr q 0)/\F.get 47=some (zI (s.length:Int))/\F.get 48=some (zI (i:Int))/\K.get q=aN 3 [a,b,.str s]/\q<n/\(∀k,v≠.sl q 0 k 1)/\aD K n v (gV (l++sL (s.take i))) (l++sL (s.take i)).length 1/\ms=[]) s.length ⟨0,v,ai,ah,f0,f3,f47,f48,hq,qn,ne,by simpa[sL]using o,rfl⟩ ?_;clear f0 f3 f47 f48 hq qn ne o F K n v;rintro t F K n ms ⟨i,v,rfl,hi,f0,f3,f47,f48,hq,qn,ne,o,rfl⟩
 by_cases h:i<s.length
 ·have hx:=wR (k:=.i64) h;have w:=aE i ah;have h1:=UZ s i h;have h2:=yV (s.take i);have h3:(s.take i).length<=64:=by simp;omega
  generalize s[i]=c at *;simp[Gv,f47,f48,h,f0,f3,hq,hx];refine aD.IJ o [c] ai (by simp;omega) λ H' o' hf=>?_;have hq':=(hf q qn (ne _)).trans hq;simp[RE,f3,hq',hx]
  by_cases h0:c=0
  ·subst h0;rw[ay rfl]at h1;simp[RD];refine aD.IJ (l:=l++sL (s.take i)++[0]) (by simpa[Nat.add_assoc]using o') [255] ai (by simp;omega) λ H2 o2 hf2=>?_;have hq2:=(hf2 q ah (by intro e;injection e with e;omega)).trans hq';simp[ES,f3,f47,f48,w,hq2];exact⟨_,ah,i+1,rfl,ah,rfl,ah,ah,by rw[h1];simpa[Nat.add_assoc]using o2⟩
  rw[ak h0]at h1;simp[h0,ES,f3,f47,f48,w,hq'];exact⟨_,ah,i+1,rfl,ah,rfl,ah,ah,by rw[h1];simpa[Nat.add_assoc]using o'⟩
 obtain rfl:i=s.length:=ah;simp[Gv,f47,f48];rw[fZ (aL _)]at o;refine k _ _ _ v ?_ o;simp[f0]
theorem aj9 {H:Hp}{n:Nat}{u:AV}{l:List Nat}(O:aD H n u (gV l) l.length 1)(hl:l.length<90000)(v:Val)(hm:v.may=true)(hr:v.pq):
  ao pG 241 [u,v.av] H n (λ w K k=>aD K k w (gV (l++DK v)) (l++DK v).length 1):=by
 refine ao.of c241 (by simp[A241]) λ F hF=>?_;have hk:=Val.jF hm;have hO:=O.box (.cells 3 [] [zI 0,zI 0,.str []] .nil) (.cells 3 [] v.cells .nil);have hO1:=O.upd (.cells 3 [] v.cells .nil);have hne:=O.ne;unfold DK
 by_cases k3:v.kind=3
 ·have hn:v.num=0∨v.num=1:=by
   have:=hm;unfold Val.may at this;simp[k3]at this;exact this.2
  have w:IntKind.u8.wrap (IntKind.i64.wrap (2+v.num))=(((2+v.num).toNat:Nat):Int):=by rcases hn with h|h<;>rw[h]<;>rfl
  generalize (2+v.num).toNat=z at *;simp[A241,hF,Val.av,k3,dN,w];simp only[Val.cells,k3]at hO1;refine aD.IJ hO1 [z] ai (by simp;omega) λ H' o' _=>?_;simp;simpa using o'
 by_cases k1:v.kind=1
 ·have hx:=aoD v.num hr.lo hr.hi;simp[A241,hF,Val.av,k1];simp only[Val.cells,k1]at hO1;refine aD.IJ hO1 [4] ai (by simp;omega) λ H' o' hf=>?_;have hq:=hf n ah (hne _);simp at hq;simp[acf,hq,dN,hx,ace];refine aeW (JH v.num) (by unfold JH;have:=hr.lo;have:=hr.hi;omega) _ _ _ _ (l++[4]) (by simp;omega) _ (by simp;rfl) ai ai (by simpa using o') λ F K n' v' f0 o2=>?_;simp[RG,f0];simpa[Nat.add_assoc]using o2
 by_cases k2:v.kind=2
 ·have h64:=Val.lQ hm k2;simp[A241,hF,Val.av,k2];simp only[Val.cells,k2]at hO1;refine aD.IJ hO1 [5] ai (by simp;omega) λ H' o' hf=>?_;have hq:=hf n ah (hne _);simp at hq;simp[RF,hq];refine aeV v.s h64 _ _ _ _ _ n _ (l++[5]) (by simp;omega) _ (by simp;rfl) ai ai ai (by rw[hq]) ah (λ k e=>by injection e with e;omega) (by simpa using o') λ F K n' v' f0 o2=>?_;have:=yV v.s;simp[RB,f0,rep];refine aD.IJ o2 [0,1] ai (by simp;omega) λ H2 o3 _=>?_;simp;simpa[Nat.add_assoc]using o3
 have k0:v.kind=0:=ah;simp[A241,hF,Val.av,k0];simp only[Val.cells,k0]at hO1;refine aD.IJ hO1 [1] ai (by simp;omega) λ H' o' _=>?_;simp;simpa using o'
def uI (row:List Val):List Nat:=row.flatMap DK
def oZ (row:List Val):List Nat×Int:=if 16<row.length then ([],1)else if ∀v∈row,v.may=true then (if (uI row).length<=140 then (uI row,0)else ([],51))else ([],5)
theorem Yh (v:Val) (hm:v.may=true):(DK v).length<=131:=by
 unfold DK
 split
 ·simp
 split
 ·simp[IA]
 split
 ·rename_i h;have:=Val.lQ hm h;have:=yV v.s;simp;omega
 simp
theorem UJ (row:List Val)(i:Nat)(h:i<row.length):uI (row.take (i+1))=uI (row.take i)++DK row[i]:=by
 unfold uI;rw[take_snoc h,flatMap_append];simp
theorem Yg (row:List Val)(hm:∀v∈row,v.may=true):(uI row).length<=row.length*131:=by
 induction row with
 |nil=>simp[uI]
 |cons a r ih =>
  have:=ih λ v hv=>hm v (by simp[hv]);have h1:=Yh a (hm a ai);simp only[uI,flatMap_cons,length_append,length_cons]at this ⊢;omega
theorem UL (v:Val) (hm:v.may=true) (hr:v.pq):∀b∈DK v,b<256:=by
 unfold DK
 split
 ·rename_i k3;have:=hm;unfold Val.may at this;simp[k3]at this;intro b hb;simp at hb;omega
 split
 ·intro b hb
  rcases mem_cons.1 hb with rfl|hb
  ·omega
  simp only[IA,mem_map]at hb;obtain⟨j,_,rfl⟩:=hb;exact Nat.mod_lt _ ah
 split
 ·intro b hb;simp only[mem_cons,mem_append,not_mem_nil,or_false,sL,mem_flatMap]at hb
  rcases hb with rfl|⟨c,hc,hb⟩|rfl|rfl
  ·omega
  ·have:=hr.b c hc
   split at hb<;>simp at hb<;>omega
  ·omega
  omega
 simp
theorem UK (row:List Val)(hm:∀v∈row,v.may=true)(hr:∀v∈row,v.pq):∀b∈uI row,b<256:=by
 intro b hb;obtain⟨v,hv,h⟩:=mem_flatMap.1 hb;exact UL v (hm v hv) (hr v hv) b h
theorem af' (row:List Val)(hr:∀v∈row,v.pq):aj pG 171 [aC row] (.br [.str (oZ row).1,zI (oZ row).2]):=by
 refine pv c171 λ F hF=>?_;unfold oZ
 by_cases kK:16<row.length
 ·simp[A171,hF,aC,show (16:Int)<(row.length:Int) by omega,kK];exact fp
 simp[A171,hF,aC,show ¬(16:Int)<(row.length:Int) by omega,kK];refine aF.of (λ t F K n ms=>∃i u,t=row.length - i/\i<=row.length/\F.get 4=some u/\F.get 10=some (aC row)/\F.get 11=some (zI (row.length:Int))/\F.get 12=some (zI (i:Int))/\aD K n u (gV (uI (row.take i))) (uI (row.take i)).length 1/\(∀v∈row.take i,v.may=true)/\ms=[]) row.length ⟨0,.aV (.slice none 0 0),ai,ah,ai,by simp[aC],ai,ai,aD.nil _ _ _,ai,rfl⟩ ?_;clear hF F;rintro t F K n ms ⟨i,u,rfl,hi,f4,f10,f11,f12,O,hm,rfl⟩;rw[aC]at f10
 by_cases h:i<row.length
 ·have hx:=fM (k:=.i64) h;have w:=aE i ah;have hs:=UJ row i h;have hl:=Yg (row.take i) hm;have hl2:(row.take i).length<=16:=by simp;omega
  have hr1:=hr row[i] (dy h);have hms:∀v∈row.take (i+1),v∈row.take i∨v=row[i]:=λ v hv=>by rwa [take_snoc h,mem_append,mc]at hv
  have jf:row[i]∈row:=dy h;generalize row[i]=v at *;have hmv:=mT v;simp only[Val.av]at hmv;simp[Gz,f11,f12,h,f10,hx,gw,Val.av];refine aB.pure hmv ?_
  by_cases h1:v.may=true
  ·simp[h1,ac0,f4];have O2:=O.box (.cells 3 [] [zI 0,zI 0,.str []] .nil) (.cells 3 [] [zI v.kind,zI v.num,.str v.s] .nil);have hp:=aj9 O2 ah v h1 hr1;simp only[Val.av]at hp;refine aB.of hp λ u' K' n' o'=>?_;simp[SL,f12,w,f10,f11];refine⟨_,ah,i+1,rfl,ah,by simp[aC],rfl,by rw[hs];simpa using o',λ x hx=>?_⟩
   rcases hms x hx with h2|rfl
   ·exact hm x h2
   exact h1
  have:¬ ∀v∈row,v.may=true:=λ h2=>h1 (h2 v jf);simp[h1,ac1];rw[ak this];exact fp
 obtain rfl:i=row.length:=ah;rw[fZ (aL _)]at O hm
 have hl:bg u=.val (zI ((uI row).length:Int)):=by
  obtain⟨_,⟨rfl,h⟩|⟨b,_,rfl,_⟩⟩:=O
  ·rw[h];simp
  simp
 have hb:=O.b2s (UK row hm hr);rw[ay hm];generalize uI row=B at *
 by_cases aqD:B.length<=140
 ·simp[Gz,f11,f12,FK,f4,hl,show ¬(140:Int)<(B.length:Int) by omega,SJ,KD,hb,aqD];exact fp
 simp[Gz,f11,f12,FK,f4,hl,show (140:Int)<(B.length:Int) by omega,SK,aqD];exact fp
theorem Zm {a b:List Nat}(h:a.length+b.length<=big):Av (.str a) (.str b)=.val (.str (a++b)):=by simp[Av,bN,h]
end Go.Abs
namespace Go.Abs
open List
open Go.Proofs
open Classical
set_option maxRecDepth 100000
def Aq:bf Val 3:=⟨Val.cells,λ _=>ai,λ v=>by simp[Val.cells],λ v=>by simp[Val.cells,bo,AV.one]⟩
theorem Kz (l:List Val):Aq.l l=dF l:=by
 induction l with
 |nil=>rfl
 |cons a r ih=>rw[bf.nT,ih];rfl
section
variable {P:Program}{F:Fr}{H:Hp}{n:Nat}{m:List Dm}{Q:QA}
theorem aD.put {v:AV}{l:List AV}{len sz:Nat}(h:aD H n v l len sz)(y:bJ):aD (H.put n (some y)) (n+1) v l len sz:=by
 obtain⟨h0,⟨rfl,h1⟩|⟨b,k,rfl,hb,hk,ho⟩⟩:=h
 ·exact⟨h0,.inl ⟨rfl,h1⟩⟩
 exact⟨h0,.inr ⟨b,k,rfl,ah,by rw[Tr.get_put,ak ah,hk],ho⟩⟩
theorem aD.avT {v:AV}{l:List AV}{len sz:Nat}(h:aD H n v l len sz)(y z:bJ):aD ((H.put n (some y)).put n (some z)) (n+1) v l len sz:=by
 obtain⟨h0,⟨rfl,h1⟩|⟨b,k,rfl,hb,hk,ho⟩⟩:=h
 ·exact⟨h0,.inl ⟨rfl,h1⟩⟩
 exact⟨h0,.inr ⟨b,k,rfl,ah,by rw[Tr.get_put,ak ah,Tr.get_put,ak ah,hk],ho⟩⟩
theorem aD.avS {v:AV}{l:List AV}{len sz:Nat}(h:aD H n v l len sz)(y z t:bJ):aD (((H.put n (some y)).put n (some z)).put n (some t)) (n+1) v l len sz:=by
 obtain⟨h0,⟨rfl,h1⟩|⟨b,k,rfl,hb,hk,ho⟩⟩:=h
 ·exact⟨h0,.inl ⟨rfl,h1⟩⟩
 exact⟨h0,.inr ⟨b,k,rfl,ah,by rw[Tr.get_put,ak ah,Tr.get_put,ak ah,Tr.get_put,ak ah,hk],ho⟩⟩
theorem aD.asp {α:Type}{k:Nat}{E:bf α k}{v:AV}{L:List α}{gp:Nat}{pd:Pd}{r:List (Option GO)}(h:aD H n v (E.l L) L.length k)(x:α)(hk:0<k)(hby:gp<=4096)(hl:L.length<4000000)
  (hgo:∀H',aD H' (n+2) (.sl (n+1) 0 (L.length+1) k) (E.l (L++[x])) (L++[x]).length k->(∀c,c<n->v≠.sl c 0 L.length k->H'.get c=H.get c)->fE P r (pd.f (.sl (n+1) 0 (L.length+1) k) F) H' (n+2) m Q):
  Gf (Go.Abs.gZ k gp (n+1) v (.sl n 0 1 k) (H.put n (aN k (E.cells x)))) pd r P F (H.put n (aN k (E.cells x))) (n+1) m Q:=by
 have hs:aX (H.put n (aN k (E.cells x))) k (.sl n 0 1 k)=some (E.cells x):=by
  rw[bU (k:=.cells k [] (E.cells x) .nil) ai (.list ai) ai];simp[fZ]
 refine aD.app (h.put _) hs (k:=1) ai ai hk ah (by unfold big;omega) hby (E.one x) λ H' h1 h2=>hgo H' (by rw[E.fu,E.tM];simpa using h1) λ c hc hv=>?_;rw[h2 c ah hv,Tr.get_put,ak ah]
end
theorem BD (x:pz)(t:Int)(u:Bool)(r:List AV)(H:Hp):eE 6 (.dp (.int .u32 x.id::.int .u32 t::.str x.name::dA.ds x.cols::.bool u::.int .u32 x.root::r)) H=.val (.agg [.int .u32 x.id,.int .u32 t,.str x.name,dA.ds x.cols,.bool u,.int .u32 x.root] 6):=qS (k:=6) (l:=[.int .u32 x.id,.int .u32 t,.str x.name,dA.ds x.cols,.bool u,.int .u32 x.root]) r rfl
def cG.on (s:cG)(id:Int):List pz:=s.indexes.filter λ x=>decide (x.table=id)
theorem Ia {α:Type}{p:α->Bool}{l:List α}{i:Nat}(h:i<l.length):(l.take (i+1)).filter p=(l.take i).filter p++(if p l[i]=true then [l[i]]else []):=by
 rw[take_snoc h,filter_append]
 cases hp:p l[i]<;>simp[hp]
theorem al_ (l:List Int)(hl:l.length<=aU):aj pG 59 [dA.ds l] (dA.ds l):=tX (z:=[zI 0]) (sz:=1) (gp:=8) c59 ah ah ah _ _ hl ai ai ai
theorem aye (s:cG)(hs:s.indexes.length<=aU)(hc:∀x∈s.indexes,x.cols.length<=aU)(id:Int):aj pG 92 [lj.av s,.int .u32 id] (bw.ds (s.on id)):=by
 unfold aU at hs;refine pv c92 λ F hF=>?_;simp[A92,hF,bf.av,fe,bf.aT];refine aF.of (λ t F K n ms=>∃i u,t=s.indexes.length - i/\i<=s.indexes.length/\F.get 1=some (.int .u32 id)/\F.get 5=some u/\F.get 9=some (bw.ds s.indexes)/\F.get 10=some (zI (s.indexes.length:Int))/\F.get 11=some (zI (i:Int))/\aD K n u (bw.l ((s.indexes.take i).filter λ x=>decide (x.table=id))) ((s.indexes.take i).filter λ x=>decide (x.table=id)).length 6/\ms=[]) s.indexes.length ⟨0,.aV (.slice none 0 0),ai,ah,by simp[hF],ai,ai,ai,ai,aD.nil _ _ _,rfl⟩ ?_;clear hF F;rintro t F K n ms ⟨i,u,rfl,hi,f1,f5,f9,f10,f11,O,rfl⟩
 by_cases h:i<s.indexes.length
 ·have hx:=bw.ix (ik:=.i64) h;have w:=aE i ah;have hsn:=Ia (p:=λ x:pz=>decide (x.table=id)) h;have hfl:((s.indexes.take i).filter λ x=>decide (x.table=id)).length<=1048576:=vY (length_filter_le _ _) (by simp;omega);have hcl:=al_ s.indexes[i].cols (hc _ (dy h));rw[iQ]at hx;generalize s.indexes[i]=x at *;generalize (s.indexes.take i).filter (λ x=>decide (x.table=id))=L at *
  by_cases he:x.table=id
  ·subst he;rw[ay ai]at hsn;simp[To,f10,f11,h,f9,hx,BD,f1];refine aB.pure hcl ?_;simp[ahZ,f5,rep];refine aD.asp (E:=bw) (x:=x) (O.avS _ _ _) ah ah ah λ H' O' _=>?_;simp[ZX,f11,w,f1,f9,f10];exact⟨_,ah,i+1,rfl,ah,rfl,by rw[hsn];simpa using O'⟩
  rw[ak (by simpa using he),append_nil]at hsn;simp[To,f10,f11,h,f9,hx,BD,f1,he,ZX,w,f5];exact⟨_,ah,i+1,rfl,ah,rfl,by rw[hsn];exact O.avT _ _⟩
 obtain rfl:i=s.indexes.length:=ah;rw[fZ (aL _)]at O;simp[To,f10,f11,ahY,f5];exact O.nz (.pure ai)
end Go.Abs
namespace Go.Abs
open List
open Go.Proofs
open Classical
set_option maxRecDepth 100000
def fq:Val:=⟨0,0,[]⟩
def pJ (row:List Val)(cols:List Int):List Val:=cols.map λ c=>row.getD c.toNat fq
def tI (l:List Val):Bool:=l.any λ v=>decide (v.kind=0)
def qp (cols:List Int)(row:List Val):Prop:=∀c∈cols,0<=c/\c<(row.length:Int)
theorem V7 (row:List Val)(cols:List Int)(i k:Nat)(h:i<cols.length)(hk:k<row.length)(e:cols[i]=(k:Int)):pJ row (cols.take (i+1))=pJ row (cols.take i)++[row[k]]:=by
 unfold pJ;rw[take_snoc h,map_append,map_singleton,e];simp[getD,cY hk]
theorem JJ (l:List Val)(v:Val):tI (l++[v])=(tI l||decide (v.kind=0)):=by simp[tI]
theorem aeA {row:List Val}{cols:List Int}(hr:∀v∈row,v.pq)(hc:qp cols row):∀v∈pJ row cols,v.pq:=by
 intro v hv;obtain⟨c,h1,rfl⟩:=mem_map.1 hv;obtain⟨h2,h3⟩:=hc c h1;have:c.toNat<row.length:=ah;simp only[getD,cY this,Option.getD_some];exact hr _ (dy this)
@[simp] theorem as_ (row:List Val)(cols:List Int):(pJ row cols).length=cols.length:=by simp[pJ]
theorem ag_ (x:pz)(row:List Val)(hl:x.cols.length<=aU)(hr:∀v∈row,v.pq)(hc:qp x.cols row):aj pG 93 [bw.av x,aC row] (.br [.str (oZ (pJ row x.cols)).1,.bool (tI (pJ row x.cols)),zI (oZ (pJ row x.cols)).2]):=by
 unfold aU at hl;refine pv c93 λ F hF=>?_;have hK:=af' (pJ row x.cols) (aeA hr hc);simp[A93,hF,bf.av,iQ,bf.aT];refine aF.of (λ t F K n ms=>∃i u,t=x.cols.length - i/\i<=x.cols.length/\F.get 1=some (aC row)/\F.get 7=some u/\F.get 8=some (.bool (tI (pJ row (x.cols.take i))))/\F.get 14=some (dA.ds x.cols)/\F.get 15=some (zI (x.cols.length:Int))/\F.get 16=some (zI (i:Int))/\aD K n u (Aq.l (pJ row (x.cols.take i))) (pJ row (x.cols.take i)).length 3/\ms=[]) x.cols.length ⟨0,.aV (.slice none 0 0),ai,ah,by simp[hF],ai,by simp[pJ,tI],ai,ai,ai,aD.nil _ _ _,rfl⟩ ?_;clear hF F;rintro t F K n ms ⟨i,u,rfl,hi,f1,f7,f8,f14,f15,f16,O,rfl⟩;rw[aC]at f1
 by_cases h:i<x.cols.length
 ·have hx:=dA.ix (ik:=.i64) h;have w:=aE i ah;obtain⟨h2,h3⟩:=hc x.cols[i] (dy h);obtain⟨k,hk⟩:=Int.eq_ofNat_of_zero_le h2;have hkl:k<row.length:=ah;have hy:=fM (k:=.i64) hkl;have hs:=V7 row x.cols i k h hkl hk;rw[KC,hk]at hx;have hsl:(pJ row (x.cols.take i)).length<4000000:=by simp;omega
  have hnn:=JJ (pJ row (x.cols.take i)) row[k];rw[<-hs]at hnn;generalize row[k]=v at *;generalize pJ row (x.cols.take i)=L at *;have hmin:min (i+1) x.cols.length=(pJ row (x.cols.take (i+1))).length:=ai;generalize hL':pJ row (x.cols.take (i+1))=L' at *;simp[adH,f15,f16,h,f14,hx,f1,hy,f7,gw,rep,Val.av];refine aD.asp (E:=Aq) (x:=v) O ah ah hsl λ H' O' _=>?_;rw[<-hs]at O'
  cases hn:tI L with
  |true =>
   rw[hn]at f8 hnn;simp[ZV,f8,ZU,w,f16,f1,f14,f15,aC];exact⟨_,ah,i+1,rfl,ah,by rw[hL',hnn];rfl,rfl,by rw[hL',hmin];simpa[hs]using O'⟩
  |false =>
   rw[hn]at f8 hnn;simp[ZV,f8,ZU,w,f16,f1,f14,f15,aC,hy,PN];exact⟨_,ah,i+1,rfl,ah,by rw[hL',hnn];rfl,rfl,by rw[hL',hmin];simpa[hs]using O'⟩
 obtain rfl:i=x.cols.length:=ah;rw[fZ (aL _)]at O f8;simp[adH,f15,f16,ahX,f7]
 have hz:fj K.get u (aC (pJ row x.cols)):=by
  have:=O.nz (.pure ai);rw[Kz]at this;exact this
 refine aB.nz hK ai (.cons _ _ _ _ hz .nil) ?_;simp[ZW,f8];exact fp
theorem qQ (a b:Nat) (x y:List Nat):cmpL (a::x) (b::y)=if a=b then cmpL x y else if a<b then -1 else 1:=by
 simp only[cmpL]
 by_cases e:a=b
 ·subst e;simp
 rw[show Nat.beq a b=false by simpa using e,ak e];dsimp only
 by_cases h:a<b
 ·rw[show Nat.blt a b=true by rw[Nat.blt_eq];exact h,ay h]
 rw[show Nat.blt a b=false by cases q:Nat.blt a b with
  |false=>rfl
  |true=>rw[Nat.blt_eq]at q;exact aw q h,ak h]
theorem Io:∀a b:List Nat,cmpL b a = - cmpL a b
 |[],[]=>rfl
 |[],_::_=>rfl
 |_::_,[]=>rfl
 |a :: x,b::y=>by
  rw[qQ,qQ]
  by_cases e:a=b
  ·subst e;simp[Io x y]
  rw[ak e,ak (Ne.symm e)]
  by_cases h:a<b
  ·rw[ay h,ak ah];rfl
  rw[ak h,ay ah]
theorem ajT {k q:Int}(hk:k=0∨k=1∨k=2∨k=3)(hq:q=0∨q=1∨q=2∨q=3):rk k=rk q↔k=q:=by
 rcases hk with rfl|rfl|rfl|rfl<;>rcases hq with rfl|rfl|rfl|rfl<;>decide
theorem O_ {a b:Val}(ha:a.may=true)(hb:b.may=true):b.ord a = - a.ord b:=by
 have hi:=ajT (Val.jF ha) (Val.jF hb);unfold Val.ord
 by_cases e:a.kind=b.kind
 ·rw[ay e,ay e.symm]
  by_cases e2:a.kind=2
  ·rw[ay e2,ay ah,Io]
  rw[ak e2,ak ah]
  repeat' split
  all_goals omega
 rw[ak e,ak (Ne.symm e)];have:rk a.kind≠rk b.kind:=λ h=>e (hi.1 h)
 repeat' split
 all_goals omega
def iI (r:List Val):Prop:=∀v∈r,v.may=true
theorem sQ {a b:Val}(ha:a.may=true)(hb:b.may=true):cV a b=a.ord b:=by simp[cV,ha,hb]
theorem jD:∀ {l m:List Val},iI l->iI m->dP m l = - dP l m
 |[],[],_,_=>by simp[dP]
 |[],_::_,_,_=>by simp[dP]
 |_::_,[],_,_=>by simp[dP]
 |a::l,b::m,hl,hm=>by
  have ha:=hl a ai;have hb:=hm b ai;have ih:=jD (l:=l) (m:=m) (λ v hv=>hl v (by simp[hv])) (λ v hv=>hm v (by simp[hv]));rw[dP,dP,sQ ha hb,sQ hb ha,O_ ha hb,ih]
  by_cases e:a.ord b=0
  ·simp[e]
  simp[e]
theorem nJ:∀ {l m:List Val},iI l->iI m->(rN l m<=0↔dP l m<=0)
 |[],[],_,_=>by simp[rN,dP]
 |[],_::_,_,_=>by simp[rN,dP];omega
 |_::_,[],_,_=>by simp[rN,dP]
 |a::l,b::m,hl,hm=>by
  have ha:=hl a ai;have hb:=hm b ai;have ih:=nJ (l:=l) (m:=m) (λ v hv=>hl v (by simp[hv])) (λ v hv=>hm v (by simp[hv]));rw[rN,dP,sQ ha hb]
  by_cases e:a.ord b=0
  ·simp[e,ih]
  simp[e]
def je (a b:Int):Int:=if a=0 then b else if b=0 then a else min a b
theorem PZ (H:Hp)(n:Nat):ao pG 90 [] H n (λ u K k=>u=.fn (.func 165) [] [.ptr n 0]/\K=(H.put n (aN 1 [zI 0])).put n (aN 1 [zI 0])/\k=n+1):=by
 refine ao.of c90 (by simp[A90]) λ F hF=>?_;simp[A90]
theorem lh {H:Hp}{n p:Nat}(a b:Int)(hp:H.get p=aN 1 [zI a]):ao pG 165 [zI b,.ptr p 0] H n (λ u K k=>u=zI (je a b)/\K.get p=aN 1 [zI (je a b)]/\k=n/\∀c,c≠p->K.get c=H.get c):=by
 refine ao.of c165 (by simp[A165]) λ F hF=>?_;unfold je
 by_cases h2:b=0
 ·simp[A165,hF,hp,h2]
 by_cases h1:a=0
 ·subst h1;simp[A165,hF,hp,h2];intro c hc;simp[hc]
 by_cases h3:b<a
 ·simp[A165,hF,hp,h1,h2,h3];have:min a b=b:=ah;simp[this];intro c hc;simp[hc]
 simp[A165,hF,hp,h1,h2,h3]
 try omega
def Pz:Nat->List (List Nat)->List (AV×AV×Nat)
 |_,[]=>[]
 |i,x::r=>(.str x,zI 1,i)::Pz (i+1) r
theorem Dz (x:List Nat):∀(l:List (List Nat))(i:Nat),Pz i (l++[x])=Pz i l++[(.str x,zI 1,i+l.length)]
 |[],i=>by simp[Pz]
 |y::r,i=>by simp[Pz,Dz x r (i+1)];omega
theorem pW (a b:List Nat):dZ .s (.str a) (.str b)=some (decide (a=b)):=by
 simp only[dZ,fD]
 congr 1
 rw[Bool.eq_iff_iff];simp
theorem D9 (k:List Nat):∀(l:List (List Nat))(i:Nat),findKey .s (.str k) (Pz i l)=some (if k∈l then some (zI 1)else none)
 |[],i=>rfl
 |y::r,i=>by
  simp only[Pz,findKey,pW]
  by_cases h:k=y
  ·simp[h]
  simp[h,D9 k r (i+1)]
theorem V6 (k:List Nat)(v:AV):∀(l:List (List Nat))(i:Nat),k∉l->iH .s (.str k) v (Pz i l)=some none
 |[],i,_=>rfl
 |y::r,i,h=>by
  simp only[mem_cons,not_or]at h;simp only[Pz,iH,pW];simp[h.1,V6 k v r (i+1) h.2]
theorem V5 (k:List Nat)(v:AV):∀(l:List (List Nat))(i:Nat),k∈l->∃es,iH .s (.str k) v (Pz i l)=some (some es)/\findKey .s (.str k) es=some (some v)
 |[],i,h=>by simp at h
 |y :: r,i,h=>by
  simp only[Pz,iH,pW]
  by_cases e:k=y
  ·subst e;simp[findKey,pW]
  have h2:k∈r:=by simpa[e]using h
  obtain⟨es,h3,h4⟩:=V5 k v r (i+1) h2;simp[e,h3,findKey,pW,h4]
theorem af4 (k:List Nat)(l:List (List Nat))(i:Nat):findKey .s (.str k) (Pz i l++[(.str k,zI 1,i+l.length)])=some (some (zI 1)):=by
 rw[<-Dz,D9];simp
def HD (cols:List Int)(r:List Val):List (List Nat):=if tI (pJ r cols)=true then []else [(oZ (pJ r cols)).1]
def fL (cols:List Int)(rows:List (List Val)):List (List Nat):=rows.flatMap (HD cols)
theorem JY (cols:List Int)(rows:List (List Val))(i:Nat)(h:i<rows.length):fL cols (rows.take (i+1))=fL cols (rows.take i)++HD cols rows[i]:=by
 unfold fL;rw[take_snoc h,flatMap_append];simp
theorem UQ (cols:List Int)(rows:List (List Val)):(fL cols rows).length<=rows.length:=by
 induction rows with
 |nil=>simp[fL]
 |cons a r ih =>
  have e:fL cols (a::r)=HD cols a++fL cols r:=rfl;rw[e,length_append,length_cons];unfold HD;split<;>simp<;>omega
theorem UO (cols:List Int)(rows:List (List Val))(i:Nat):∃l,fL cols rows=fL cols (rows.take i)++l:=⟨fL cols (rows.drop i),by
 unfold fL;rw[<-flatMap_append,take_append_drop]⟩
theorem aer (x:pz) (rows:List (List Val)) (hl:x.cols.length<=aU) (hrl:rows.length<=aU) (hr:∀r∈rows,(∀v∈r,v.pq)/\qp x.cols r):aj pG 94 [bw.av x,.ds (aQ rows) rows.length 1] (.bool (decide (¬(fL x.cols rows).Nodup))):=by
 unfold aU at hrl;refine pv c94 λ F hF=>?_;simp[A94,hF,bf.av,iQ,lx];refine aF.of (λ t F K n ms=>∃i c,t=rows.length - i/\i<=rows.length/\F.get 2=some (.ptr 0 0)/\F.get 5=some (.map 1)/\F.get 12=some (.ds (aQ rows) rows.length 1)/\F.get 13=some (zI (rows.length:Int))/\F.get 14=some (zI (i:Int))/\K.get 0=aN 6 [.int .u32 x.id,.int .u32 x.table,.str x.name,dA.ds x.cols,.bool x.uniq,.int .u32 x.root]/\K.get 1=some (.map (Pz 0 (fL x.cols (rows.take i))) c)/\c=(fL x.cols (rows.take i)).length/\(fL x.cols (rows.take i)).Nodup/\ms=[]) rows.length ⟨0,0,ai,ah,ai,ai,ai,ai,ai,ai,by simp[fL,Pz],by simp[fL],by simp[fL],rfl⟩ ?_;clear hF F;rintro t F K n ms ⟨i,c,rfl,hi,f2,f5,f12,f13,f14,k0,k1,rfl,nd,rfl⟩
 by_cases h:i<rows.length
 ·have hx:=kz (k:=.i64) h;have w:=aE i ah;have hs:=JY x.cols rows i h;obtain⟨h1,h2⟩:=hr rows[i] (dy h);have hk:=ag_ x rows[i] hl h1 h2;simp only[bf.av,iQ]at hk;obtain⟨rest,hpre⟩:=UO x.cols rows (i+1);have hlen:=UQ x.cols (rows.take i);generalize rows[i]=r at *;generalize fL x.cols (rows.take i)=l at *;simp[adG,f13,f14,h,f12,hx,f2,k0];refine aB.pure hk ?_
  cases hn:tI (pJ r x.cols)with
  |true =>
   have e:HD x.cols r=[]:=by unfold HD;rw[ay hn]
   rw[e,append_nil]at hs;simp[QM,Lp,f14,w,f2,f5,f12,f13,k0,k1];exact⟨_,ah,i+1,rfl,ah,rfl,l.length,⟨by rw[hs],rfl⟩,by rw[hs],by rw[hs];exact nd⟩
  |false =>
   have e:HD x.cols r=[(oZ (pJ r x.cols)).1]:=by unfold HD;rw[hn];rfl
   rw[e]at hs;generalize (oZ (pJ r x.cols)).1=q at *
   by_cases hm:q∈l
   ·obtain⟨es,hs1,hs2⟩:=V5 q (zI 2) l 0 hm
    have:¬(fL x.cols rows).Nodup:=λ hd=>by
     rw[hpre,hs]at hd;have:=(nodup_append.1 (nodup_append.1 hd).1).2.2;exact this q hm q ai rfl
    simp[QM,ZS,f5,k1,fg,rE,isKey,D9,hm,hs1,hs2,ZR,ahW];exact .bool (by simp[this])
   have hs1:=V6 q (zI 1) l 0 hm;have hs2:=af4 q l 0;simp only[tA]at hs2;simp[QM,ZS,f5,k1,fg,rE,isKey,D9,hm,hs1,hs2,ZR,Lp,f14,w,f2,f12,f13,k0];refine⟨_,ah,i+1,rfl,ah,rfl,l.length+1,⟨by rw[hs,Dz];simp,rfl⟩,by rw[hs];simp,?_⟩;rw[hs];exact nodup_append.2 ⟨nd,ai,by rintro a ha b hb rfl;simp at hb;subst hb;exact hm ha⟩
 obtain rfl:i=rows.length:=ah;rw[fZ (aL _)]at nd;simp[adG,f13,f14,ZT];exact .bool (by simp[nd])
def u3 (s:cG)(id:Int)(rows:List (List Val)):Prop:=∀x∈s.on id,x.uniq=true->(fL x.cols rows).Nodup
def JZ (row:List Val):List pz->Int
 |[]=>0
 |x::xs=>if (oZ (pJ row x.cols)).2=0 then JZ row xs else (oZ (pJ row x.cols)).2
def CU (s:cG)(t:bR)(row:List Val):Int:=if (wo t.cols row).2=0 then JZ row (s.on t.id)else (wo t.cols row).2
def sU (s:cG)(t:bR)(rows:List (List Val)):Int:=rows.foldl (λ a r=>je a (CU s t r)) 0
theorem By (a b c:Int):je (je a b) c=je a (je b c):=by
 unfold je
 by_cases h1:a=0<;>by_cases h2:b=0<;>by_cases h3:c=0<;>simp[h1,h2,h3]
 ·omega
 have e1:¬min a b=0:=ah;have e2:¬min b c=0:=ah;rw[ak e1,ak e2]
@[simp] theorem ag9 (a:Int):je a 0=a:=by unfold je;split<;>simp_all
@[simp] theorem JU (a:Int):je 0 a=a:=by simp[je]
def kF (row:List Val)(xs:List pz):Int:=xs.foldl (λ a x=>je a (oZ (pJ row x.cols)).2) 0
theorem afE (row:List Val)(xs:List pz)(j:Nat)(h:j<xs.length):kF row (xs.take (j+1))=je (kF row (xs.take j)) (oZ (pJ row xs[j].cols)).2:=by
 unfold kF;rw[take_snoc h,foldl_append];rfl
theorem uM (f:pz->Int):∀(xs:List pz)(a:Int),xs.foldl (λ a x=>je a (f x)) a=je a (xs.foldl (λ a x=>je a (f x)) 0)
 |[],a=>ai
 |x::xs,a=>by
  simp only[foldl_cons];rw[uM f xs (je a (f x)),uM f xs (je 0 (f x)),JU,By]
theorem ag' (row:List Val):∀(xs:List pz),(∀x∈xs,(oZ (pJ row x.cols)).2=0∨(oZ (pJ row x.cols)).2=51)->kF row xs=JZ row xs
 |[],_=>rfl
 |x :: xs,h=>by
  have ih:=ag' row xs λ y hy=>h y (by simp[hy])
  have hz:JZ row xs=0∨JZ row xs=51:=by
   clear ih
   induction xs with
   |nil=>exact .inl rfl
   |cons y ys ih2 =>
    unfold JZ
    split
    ·exact ih2 λ z hz=>h z (by simp at hz ⊢;rcases hz with rfl|hz<;>simp[*])
    exact h y ai
  unfold kF at ih ⊢;simp only[foldl_cons];rw[uM,ih,JU,JZ]
  rcases h x ai with h1|h1
  ·rw[h1,JU,ay rfl]
  rw[h1,ak ah]
  rcases hz with h2|h2<;>rw[h2]<;>simp[je]
theorem Y0 {row:List Val}{cols:List Int}(hm:∀v∈row,v.may=true)(hl:cols.length<=16)(hc:qp cols row):(oZ (pJ row cols)).2=0∨(oZ (pJ row cols)).2=51:=by
 have h1:∀v∈pJ row cols,v.may=true:=by
  intro v hv;obtain⟨c,h1,rfl⟩:=mem_map.1 hv;obtain⟨h2,h3⟩:=hc c h1;have:c.toNat<row.length:=ah;simp only[getD,cY this,Option.getD_some];exact hm _ (dy this)
 unfold oZ;rw[ak (by simp;omega),ay h1]
 split<;>simp
theorem afZ (row:List Val)(xs:List pz)(hxl:xs.length<=1048576)(e acc:Int)(hl:∀x∈xs,x.cols.length<=aU)(hr:∀v∈row,v.pq)(jf:e=0->∀x∈xs,qp x.cols row)(F:Fr)(K:Hp)(n p:Nat)(Q:QA)(f7:F.get 7=some (.fn (.func 165) [] [.ptr p 0]))(f9:F.get 9=some (aC row))(f11:F.get 11=some (zI e))(f40:F.get 40=some (bw.ds xs))(f41:F.get 41=some (zI (xs.length:Int)))(f42:F.get 42=some (zI 0))(kp:K.get p=aN 1 [zI acc])(pn:p<n)
  (k:∀F' K' n',F'.get 2=F.get 2->F'.get 3=F.get 3->F'.get 4=F.get 4->F'.get 7=F.get 7->F'.get 21=F.get 21->F'.get 22=F.get 22->F'.get 23=F.get 23->n<=n'->(∀c,c<n->c≠p->K'.get c=K.get c)->K'.get p=aN 1 [zI (if e=0 then je acc (kF row xs)else acc)]->Q (.exit 2) F' K' n' []):aF I4 pG F K n [] Q:=by
 refine aF.of (λ t F' K' n' ms=>∃j,t=xs.length - j/\j<=xs.length/\F'.get 2=F.get 2/\F'.get 3=F.get 3/\F'.get 4=F.get 4/\F'.get 7=some (.fn (.func 165) [] [.ptr p 0])/\F'.get 21=F.get 21/\F'.get 22=F.get 22/\F'.get 23=F.get 23/\F'.get 9=some (aC row)/\F'.get 11=some (zI e)/\F'.get 40=some (bw.ds xs)/\F'.get 41=some (zI (xs.length:Int))/\F'.get 42=some (zI (j:Int))/\n<=n'/\(∀c,c<n->c≠p->K'.get c=K.get c)/\K'.get p=aN 1 [zI (if e=0 then je acc (kF row (xs.take j))else acc)]/\ms=[]) xs.length ⟨0,ai,ah,rfl,rfl,rfl,f7,rfl,rfl,rfl,f9,f11,f40,f41,f42,aL _,λ _ _ _=>rfl,by simpa[kF]using kp,rfl⟩ ?_;clear f9 f11 f40 f41 f42 kp;rintro t F' K' n' ms ⟨j,rfl,hj,g2,g3,g4,g7,g21,g22,g23,f9,f11,f40,f41,f42,hn,hk,kp,rfl⟩
 by_cases h:j<xs.length
 ·have hy:=bw.ix (ik:=.i64) h;have w:=aE j ah;have hxm:xs[j]∈xs:=dy h;have hsn:=afE row xs j h;have hkey:=λ h0:e=0=>ag_ xs[j] row (hl _ hxm) hr (jf h0 _ hxm);simp only[bf.av,iQ]at hkey;rw[iQ]at hy;generalize xs[j]=x at *
  by_cases h0:e=0
  ·subst h0;rw[ay rfl]at kp;have hkey:=hkey rfl;simp[I4,f41,f42,h,f40,hy,BD,f11,f9];refine aB.pure hkey ?_;simp[aa4,g7];refine aB.of (lh (je acc (kF row (xs.take j))) (oZ (pJ row x.cols)).2 (by rw[Tr.get_put,ak ah,Tr.get_put,ak ah,kp])) λ v K2 n2 ⟨e1,e2,e3,e4⟩=>?_;subst e1 e3;simp[LR,f42,w,g2,g3,g4,g7,g21,g22,g23,f9,f11,f40,f41];refine⟨_,ah,j+1,rfl,ah,rfl,ah,λ c h1 h2=>?_,?_⟩
   ·rw[e4 c h2,Tr.get_put,ak ah,Tr.get_put,ak ah,hk c h1 h2]
   rw[e2,hsn,<-By]
  rw[ak h0]at kp;simp[I4,f41,f42,h,f40,hy,BD,f11,h0,LR,w,g2,g3,g4,g7,g21,g22,g23,f9];refine⟨_,ah,j+1,rfl,ah,rfl,ah,λ c h1 h2=>?_,?_⟩
  ·rw[ak ah,ak ah,hk c h1 h2]
  rw[ak ah,ak ah,kp]
 obtain rfl:j=xs.length:=ah;rw[fZ (aL _)]at kp;simp[I4,f41,f42];refine k _ _ _ ?_ ?_ ?_ ?_ ?_ ?_ ?_ hn hk kp
 ·simp[g2]
 ·simp[g3]
 ·simp[g4]
 ·simp[g7,f7]
 ·simp[g21]
 ·simp[g22]
 simp[g23]
def vH (s:cG)(t:bR)(rows:List (List Val)):Int:=if sU s t rows=0 then (if u3 s t.id rows then 0 else 160)else sU s t rows
theorem alC (s:cG)(t:bR)(rows:List (List Val))(hs:s.indexes.length<=aU)(hc:∀x∈s.indexes,x.cols.length<=aU)(hrl:rows.length<=aU)(hv:∀r∈rows,r.length<=aU/\∀v∈r,v.pq)(jf:∀r∈rows,r.length=t.cols.length->∀x∈s.on t.id,qp x.cols r)(kK:∀x∈s.on t.id,x.cols.length<=16)(hfit:∀r∈rows,r.length=t.cols.length):aj pG 41 [lj.av s,aM.av t,.ds (aQ rows) rows.length 1] (zI (vH s t rows)):=by
 unfold aU at hrl;refine pv c41 λ F hF=>?_;have hon:=aye s hs hc t.id;simp only[bf.av,fe]at hon;have hsub:∀x∈s.on t.id,x∈s.indexes:=λ x hx=>(mem_filter.1 hx).1;have hlen:(s.on t.id).length<=aU:=vY (length_filter_le _ _) hs;unfold aU at hlen;simp[A41,hF,bf.av,fe,fc];refine aB.of (PZ _ _) λ u K k ⟨e1,e2,e3⟩=>?_;subst e1 e2 e3;simp[aiy,hF];refine aF.of (λ q F K n ms=>∃i,q=rows.length - i/\i<=rows.length/\F.get 2=some (.ds (aQ rows) rows.length 1)/\F.get 3=some (.ptr 0 0)/\F.get 4=some (.ptr 1 0)/\F.get 7=some (.fn (.func 165) [] [.ptr 2 0])/\F.get 21=some (.ds (aQ rows) rows.length 1)/\F.get 22=some (zI (rows.length:Int))/\F.get 23=some (zI (i:Int))/\K.get 0=aN 2 [aM.ds s.tables,bw.ds s.indexes]/\K.get 1=aN 4 [.int .u32 t.id,.str t.name,dV.ds t.cols,.int .u32 t.head]/\K.get 2=aN 1 [zI (sU s t (rows.take i))]/\3<=n/\ms=[]) rows.length ⟨0,ai,ah,by simp[hF],ai,ai,ai,ai,ai,ai,ai,ai,by simp[sU],ah,rfl⟩ ?_;clear hF F;rintro q F K n ms ⟨i,rfl,hi,f2,f3,f4,f7,f21,f22,f23,k0,k1,k2,n3,rfl⟩
 by_cases h:i<rows.length
 ·have hx:=kz (k:=.i64) h;have w:=aE i ah;have hrm:rows[i]∈rows:=dy h;obtain⟨h1,h2⟩:=hv rows[i] hrm;have henc:=arh t.cols rows[i] h1 h2;have hsn:sU s t (rows.take (i+1))=je (sU s t (rows.take i)) (CU s t rows[i]):=by unfold sU;rw[take_snoc h,foldl_append];rfl
  have hin1:=jf rows[i] hrm (hfit _ hrm)
  have hw:CU s t rows[i]=if (wo t.cols rows[i]).2=0 then kF rows[i] (s.on t.id)else (wo t.cols rows[i]).2:=by
   unfold CU
   split
   ·rename_i h0
    have hf0:sH t.cols rows[i]=0:=by
     unfold wo at h0
     split at h0
     ·assumption
     rename_i h;exact aw h0 h
    rw[ag'];intro x hx;exact Y0 (tP hf0).2.2.2.2 (kK x hx) (hin1 x hx)
   rfl
  generalize sU s t (rows.take i)=a at *;generalize rows[i]=r at *;simp[adO,f22,f23,h,f21,hx,f4,k1];refine aB.pure henc ?_;simp[aix,f7];refine aB.of (lh a (wo t.cols r).2 k2) λ v K2 m2 ⟨e1,e2,e3,e4⟩=>?_;subst e1 e3;simp[aiw,f3,f4,e4 0 ah,e4 1 ah,k0,k1];refine aB.pure hon ?_;simp[bf.aT];refine afZ r (s.on t.id) hlen (wo t.cols r).2 _ (λ x hx=>hc x (hsub x hx)) h2 (λ _=>hin1) _ _ _ 2 _ (by simp[f7]) ai ai ai ai ai e2 ah λ F' K' n' g2 g3 g4 g7 g21 g22 g23 hn hk kp=>?_;simp[f2,f3,f4,f7,f21,f22,f23]at g2 g3 g4 g7 g21 g22 g23;simp[aa3,g2,g3,g4,g7,g21,g22,g23,w];refine⟨_,ah,i+1,rfl,ah,rfl,?_,?_,?_,ah⟩
  ·rw[hk 0 ah ah,e4 0 ah,k0]
  ·rw[hk 1 ah ah,e4 1 ah,k1]
  rw[kp,hsn,hw]
  split
  ·rename_i h0;rw[h0,ag9]
  rfl
 obtain rfl:i=rows.length:=ah;rw[fZ (aL _)]at k2;unfold vH;generalize sU s t rows=a at *;simp[adO,f22,f23,aa2,f7];refine aB.of (lh a 0 k2) λ v K2 m2 ⟨e1,e2,e3,e4⟩=>?_;subst e1 e3;simp only[ag9]at e2
 by_cases h0:a=0
 ·simp[LQ,h0,aa0,f3,f4,e4 0 ah,e4 1 ah,k0,k1];refine aB.pure hon ?_;simp[bf.aT];unfold u3;generalize s.on t.id=xs at *;refine aF.of (λ q F K n ms=>∃j,q=xs.length - j/\j<=xs.length/\F.get 2=some (.ds (aQ rows) rows.length 1)/\F.get 68=some (bw.ds xs)/\F.get 69=some (zI (xs.length:Int))/\F.get 70=some (zI (j:Int))/\(∀x∈xs.take j,x.uniq=true->(fL x.cols rows).Nodup)/\ms=[]) xs.length ⟨0,ai,ah,by simp[f2],ai,ai,ai,ai,rfl⟩ ?_;clear f2 f3 f4 f7 f21 f22 f23 k0 k1 k2;rintro q F K n ms ⟨j,rfl,hj,f2,f68,f69,f70,hk,rfl⟩
  by_cases h:j<xs.length
  ·have hy:=bw.ix (ik:=.i64) h;have w:=aE j ah;have hxm:xs[j]∈xs:=dy h;have hms:∀x∈xs.take (j+1),x∈xs.take j∨x=xs[j]:=λ x hx=>by rwa [take_snoc h,mem_append,mc]at hx
   have htw:=aer xs[j] rows (hc _ (hsub _ hxm)) (by unfold aU;omega) λ r hr=>⟨(hv r hr).2,jf r hr (hfit r hr) _ hxm⟩;simp only[bf.av,iQ]at htw;rw[iQ]at hy;generalize xs[j]=x at *
   cases hu:x.uniq with
   |false =>
    simp[Tz,f69,f70,h,f68,hy,BD,hu,LP,w,f2];refine⟨_,ah,j+1,rfl,ah,rfl,λ y hy' hyu=>?_⟩
    rcases hms y hy' with h1|rfl
    ·exact hk y h1 hyu
    rw[hu]at hyu;cases hyu
   |true =>
    rw[hu]at htw;simp[Tz,f69,f70,h,f68,hy,BD,hu,f2];refine aB.pure htw ?_
    by_cases hnd:(fL x.cols rows).Nodup
    ·simp[hnd,LP,f70,w,f2,f68,f69];refine⟨_,ah,j+1,rfl,ah,rfl,λ y hy' hyu=>?_⟩
     rcases hms y hy' with h1|rfl
     ·exact hk y h1 hyu
     exact hnd
    have:¬ ∀x∈xs,x.uniq=true->(fL x.cols rows).Nodup:=λ h1=>hnd (h1 x hxm hu);simp only[ak this];simp[hnd,aaZ];exact fp
  obtain rfl:j=xs.length:=ah;rw[fZ (aL _)]at hk;simp only[ay hk];simp[Tz,f69,f70,aaY];exact fp
 simp[LQ,h0,aa1];exact fp
end Go.Abs
namespace Go.Abs
open List
open Go.Proofs
open Classical
set_option maxRecDepth 100000
variable {α:Type}{k:Nat}
end Go.Abs
