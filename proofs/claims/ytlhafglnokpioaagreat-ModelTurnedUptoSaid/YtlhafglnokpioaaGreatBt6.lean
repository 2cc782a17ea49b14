/- A part. -/
import Derived.Test.YtlhafglnokpioaaGreatBt5
noncomputable section
namespace Go.Abs
open List
open Go.Proofs
open Classical
set_option maxRecDepth 100000
theorem G_ (l:List Val)(h:l.length<=8):rX l<256:=by
 have h1:=OP l;have h2:2 ^ l.length<=2 ^ 8:=Nat.pow_le_pow_right ae h;omega
theorem alA (row:List Val)(hl:row.length<=16)(h0:row≠[])(F:Fr)(K:Hp)(n p:Nat)(Q:QA)(W:nw K n p (.aV (.slice none 0 0)) [])(f1:F.get 1=some (ay row))(f7:F.get 7=some (.ptr p 0))(f8:F.get 8=some (zI 0))
  (k:∀(F':Fr)(K':Hp)(n' b:Nat),F'.get 1=some (ay row)->F'.get 7=some (.ptr p 0)->nw K' n' p (.sl b 0 ((row.length+7) / 8) 1) (pZ row ((row.length+7) / 8))->Q (.exit 0) F' K' n' []):aE SU pG F K n [] Q:=by
 refine aE.of (λ t F K n ms=>∃m v,t=3 - m/\8*m<row.length+8/\F.get 1=some (ay row)/\F.get 7=some (.ptr p 0)/\F.get 8=some (zI ((8*m:Nat):Int))/\nw K n p v (pZ row m)/\ms=[]) 3 ⟨0,_,ah,ae,f1,f7,f8,by simpa[pZ]using W,rfl⟩ ?_;clear f1 f7 f8 W F K n;rintro t F K n ms ⟨m,v,rfl,hm,f1,f7,f8,W,rfl⟩;rw[ay]at f1;generalize hB:8*m=B at *
 by_cases h:B<row.length
 ·obtain⟨H1,a,b,_⟩:=CO W (rX ((row.drop (8*m)).take 8)) (G_ _ (by simp;omega)) (by simp;omega);have w:IntKind.i64.wrap ((B:Int)+8)=(B:Int)+8:=dW _ ae ae;rw[<-KD]at b;rw[hB]at a;simp[SU,f1,f8,h];refine alB row hl B h _ _ _ _ (by simp[f1,ay]) (by simp[f8]) ah ah λ F' g1 g7 g8 g9=>?_;simp[f1,f7,f8]at g1 g7 g8;simp[ZQ,g7,g9];refine aB.ok a ?_;simp[ZP,g8,w];exact⟨_,ae,m+1,rfl,ae,g1,g7,ae,_,b⟩
 obtain rfl:m=(row.length+7) / 8:=ae;simp[SU,f1,f8,h]
 rcases W.hv with⟨_,h1⟩|⟨b,rfl,_⟩
 ·have h1:=congrArg length h1;have:=length_pos_iff.2 h0;simp at h1;omega
 refine k _ _ _ b ?_ ?_ (by simpa using W)
 ·simp[f1,ay]
 simp[f7]
theorem TA (row:List Val)(i:Nat)(h:i<row.length):mg (row.take (i+1))=mg (row.take i)++(if row[i].kind=0 then []else one row[i]):=by
 unfold mg;rw[take_snoc h,flatMap_append];simp
theorem aeY (v:Val)(hm:v.may=true)(hr:v.nD):(one v).length<=70:=by
 unfold one
 split
 ·have:=xF 9 (zz v.num) (by have:=agG hr.lo hr.hi;omega);omega
 split
 ·rename_i h;have:=Val.lV hm h;have:=xF 0 v.s.length ae;simp;omega
 simp
theorem Gw (row:List Val)(hm:∀v∈row,v.may=true)(hr:∀v∈row,v.nD):(mg row).length<=row.length*70:=by
 induction row with
 |nil=>simp[mg]
 |cons a r ih =>
  have:=ih (λ v hv=>hm v (by simp[hv])) (λ v hv=>hr v (by simp[hv]));have h1:=aeY a (hm a ah) (hr a ah);simp only[mg,flatMap_cons,length_append,length_cons]at this ⊢
  split<;>simp at *<;>omega
theorem nw.alloc2 {H:Hp}{n p:Nat}{v:AV}{l:List Nat}(W:nw H n p v l)(y z:bG):nw ((H.put n (some y)).put n (some z)) (n+1) p v l:=by
 obtain⟨a,b,c⟩:=W;have e:∀c,c<n->((H.put n (some y)).put n (some z)).get c=H.get c:=λ c hc=>by rw[Tr.get_put,ai ae,Tr.get_put,ai ae]
 refine⟨by rw[e _ b,a],ae,?_⟩
 rcases c with h|⟨q,h1,h2,h3,h4,h5⟩
 ·exact .inl h
 exact .inr ⟨q,h1,ae,h3,by rw[e _ h2,h4],h5⟩
theorem ixw (q:Nat):gJ 3 3 (.ptr q 0) (zI 0)=.val (.ptr q 0)/\gJ 3 3 (.ptr q 0) (zI 1)=.val (.ptr q 3)/\gJ 3 3 (.ptr q 0) (zI 2)=.val (.ptr q 6):=⟨rfl,rfl,rfl⟩
theorem alz (row:List Val) (hl:row.length<=16) (hm:∀v∈row,v.may=true) (hr:∀v∈row,v.nD) (B:List Nat) (hB:0<B.length/\B.length<=2) (F:Fr) (K:Hp) (n p q b:Nat) (Q:QA) (W:nw K n p (.sl b 0 B.length 1) B) (hq:K.get q=aR 9 tf) (qn:q<n) (f7:F.get 7=some (.ptr p 0)) (f11:F.get 11=some (.ptr q 0)) (f56:F.get 56=some (ay row)) (f57:F.get 57=some (zI (row.length:Int))) (f58:F.get 58=some (zI 0))
  (k:∀(F':Fr)(K':Hp)(n' b:Nat),F'.get 7=some (.ptr p 0)->nw K' n' p (.sl b 0 (B++mg row).length 1) (B++mg row)->Q (.exit 4) F' K' n' []):aE SS pG F K n [] Q:=by
 refine aE.of (λ t F K n ms=>∃i b,t=row.length - i/\i<=row.length/\F.get 7=some (.ptr p 0)/\F.get 11=some (.ptr q 0)/\F.get 56=some (ay row)/\F.get 57=some (zI (row.length:Int))/\F.get 58=some (zI (i:Int))/\nw K n p (.sl b 0 (B++mg (row.take i)).length 1) (B++mg (row.take i))/\K.get q=aR 9 tf/\q<n/\ms=[]) row.length ⟨0,b,ah,ae,f7,f11,f56,f57,f58,by simpa[mg]using W,hq,qn,rfl⟩ ?_;clear f7 f11 f56 f57 f58 W F K n hq qn b;rintro t F K n ms ⟨i,b,rfl,hi,f7,f11,f56,f57,f58,W,hq,qn,rfl⟩;rw[ay]at f56
 by_cases h:i<row.length
 ·have hx:=fK (k:=.i64) h;have hs:=TA row i h;have hvl:=Gw (row.take i) (λ v hv=>hm v (mem_of_mem_take hv)) (λ v hv=>hr v (mem_of_mem_take hv));have hm1:=hm row[i] (dw h);have hr1:=hr row[i] (dw h);have hk:=Val.jK hm1
  have hvl2:(mg (row.take i)).length<=1120:=by
   have:(row.take i).length<=16:=by simp;omega
   omega
  generalize row[i]=u at *
  obtain⟨hbn,hbp,hbk⟩:b<n/\b≠p/\K.get b=some (.cells (B++mg (row.take i)).length [] (ig (B++mg (row.take i))) .nil):=by
   rcases W.hv with⟨h,_⟩|⟨b',h,h1,h2,h3,_⟩
   ·cases h
   injection h with h;subst h;exact⟨h1,h2,h3⟩
  have hqb:q≠b:=by
   rintro rfl;rw[hq]at hbk;injection hbk with e;injection e with e1 e2 e3;have e4:=congrArg (λ l=>l[0]?) e3
   cases hB':B with
   |nil=>rw[hB']at hB;simp at hB
   |cons x y=>rw[hB']at e4;simp[tf,ig]at e4
  have hqp:q≠p:=by
   rintro rfl;rw[W.hp]at hq;injection hq with e;injection e with e1;cases e1
  have w:=aD i ae;simp[SS,f57,f58,h,f56,hx,gz,Val.av]
  by_cases h0:u.kind=0
  ·simp[h0,zy,f58,w];refine⟨_,ae,i+1,rfl,ae,by simp[f7],by simp[f11],by simp[f56,ay],by simp[f57],ah,⟨b,?_⟩,?_,ae⟩
   ·rw[hs,aw h0];simpa using W.alloc2 _ _
   rw[ai ae,ai ae,hq]
  generalize hK:Tr.put (Tr.put K n _) n _=K2;have W2:nw K2 (n+1) p (.sl b 0 (B++mg (row.take i)).length 1) (B++mg (row.take i)):=hK▸W.alloc2 _ _;have k2:K2.get n=aR 3 [zI u.kind,zI u.num,.str u.s]:=by rw[<-hK];simp
  have kq:K2.get q=aR 9 tf:=by rw[<-hK,Tr.get_put,ai ae,Tr.get_put,ai ae,hq]
  obtain⟨b',n',hn,H1,c1,c2,c9003⟩:=aju W2 u hr1 hm1 h0 (by simp;omega);have c9004:=c9003 q (by simp[NY];exact⟨hqp,hqb⟩) (.inl ae);rw[kq]at c9004;simp only[tf]at kq;have e:(B++mg (row.take i))++one u=B++mg (row.take (i+1)):=by rw[hs,ai h0,append_assoc]
  rw[e]at c2;simp[h0,ZL];refine bC.of (Kw (l:=[⟨Tu u.kind,[.ptr p 0,u.av],K2,n+1,.bo [],H1,n'⟩]) ?_) ?_
  ·simp only[mi];rintro x rfl;exact c1
  rcases hk.resolve_left h0 with h1|h1|h1
  ·rw[h1]at k2;simp[ab,k2,kq,f7,f11,h1,Tu,dW,Val.av,zi,zy,f56,f57,f58,w,ixw];exact⟨_,ae,i+1,rfl,ae,by simp[ay],ae,⟨b',by simpa using c2⟩,c9004,ae⟩
  ·rw[h1]at k2;simp[ab,k2,kq,f7,f11,h1,Tu,dW,Val.av,zi,zy,f56,f57,f58,w,ixw];exact⟨_,ae,i+1,rfl,ae,by simp[ay],ae,⟨b',by simpa using c2⟩,c9004,ae⟩
  rw[h1]at k2;simp[ab,k2,kq,f7,f11,h1,Tu,dW,Val.av,zi,zy,f56,f57,f58,w,ixw];exact⟨_,ae,i+1,rfl,ae,by simp[ay],ae,⟨b',by simpa using c2⟩,c9004,ae⟩
 obtain rfl:i=row.length:=ae;simp[SS,f57,f58];rw[fN (aK _)]at W;refine k _ _ _ b ?_ W;simp[f7]
theorem HM:∀(c:List oS) (row:List Val),row.length<=c.length->DN c row=0->∀v∈row,v.may=true
 |_,[],_,_,v,hv=>by simp at hv
 |[],_::_,h,_,_,_=>by simp at h
 |c :: cs,a::r,h,h0,v,hv=>by
  simp only[DN]at h0
  split at h0
  ·rename_i h1
   rcases mem_cons.1 hv with rfl|hv
   ·unfold Af at h1
    split at h1
    ·omega
    rename_i h2;simpa using h2
   exact HM cs r (by simpa using h) h0 v hv
  rename_i h1;exact ar h0 h1
theorem qM {c:List oS}{row:List Val}(h:sK c row=0):kg c/\row.length=c.length/\row≠[]/\row.length<=16/\∀v∈row,v.may=true:=by
 unfold sK at h
 split at h
 ·rename_i h1;obtain⟨h2,h3⟩:=h1;exact⟨h2,h3,λ e=>h2.1 (eq_nil_of_length_eq_zero (by rw[<-h3,e];rfl)),h3▸h2.2.1,HM c row ae h⟩
 omega
theorem vX (l:List Nat)(h:∀b∈l,b<256):bytesOf (ig l)=some l:=by
 induction l with
 |nil=>rfl
 |cons a r ih =>
  have:=ih λ b hb=>h b (by simp[hb]);have ha:=h a ah;simp only[ig,map_cons]at this ⊢;simp only[bytesOf,this];simp;omega
theorem one_byte (v:Val)(hm:v.may=true)(h0:v.kind≠0)(hr:v.nD):∀b∈one v,b<256:=by
 unfold one
 split
 ·exact AA _
 split
 ·intro b hb
  rcases mem_append.1 hb with h|h
  ·exact AA _ b h
  exact hr.b b h
 rename_i k1 k2;have k3:v.kind=3:=by have:=Val.jK hm;omega
 have:=hm;unfold Val.may at this;simp[k3]at this;intro b hb;simp at hb;omega
theorem UN (row:List Val)(hm:∀v∈row,v.may=true)(hr:∀v∈row,v.nD):∀b∈encR row,b<256:=by
 intro b hb
 rcases mem_append.1 hb with h|h
 ·simp only[pZ,mem_map]at h;obtain⟨j,_,rfl⟩:=h;exact G_ _ (by simp;omega)
 simp only[mg,mem_flatMap]at h;obtain⟨v,hv,h⟩:=h
 split at h
 ·simp at h
 rename_i h0;exact one_byte v (hm v hv) h0 (hr v hv) b h
theorem akG {H:Hp}{n p b:Nat}{l:List Nat}(W:nw H n p (.sl b 0 l.length 1) l):ak pG 169 [.ptr p 0] H n (λ u K k=>u=zI (l.length:Int)/\K=H/\k=n):=by
 have:=W.hp;refine ak.of c169 (by simp[A169]) λ F hF=>?_;simp[A169,hF,this]
theorem Y9 {H:Hp}{n p b:Nat}{l:List Nat}(W:nw H n p (.sl b 0 l.length 1) l)(hl:0<l.length/\l.length<4000):ak pG 170 [.ptr p 0] H n (λ u K _k=>u=.sl n 0 l.length 1/\∃y,K.get n=some y/\OwnB y (ig l)):=by
 have hp:=W.hp;obtain⟨b',h,hbn,_,hb,_⟩:=W.hv.resolve_left (by rintro⟨h,_⟩;cases h);injection h with h;subst h;refine ak.of c170 (by simp[A170]) λ F hF=>?_;simp[A170,hF,hp]
 have hsc:aX H 1 (.sl b 0 l.length 1)=some (ig l):=by
  rw[bT hb (.list ah) ah];simp[fN]
 rw[Y7 (new:=ig l) (k:=l.length) hsc ah ae ae (by unfold big;omega) ae (uc _)];simp;exact .list ah
theorem aq9 (c:List oS) (row:List Val) (hv:row.length<=aU) (hr:∀v∈row,v.nD):aj pG 91 [dL.ds c,ay row] (.bo [.str (wF c row).1,zI (wF c row).2]):=by
 refine pv c91 λ F hF=>?_;simp[A91,hF];refine aB.pure (YB c row hv) ?_
 by_cases h0:sK c row=0
 ·obtain⟨_,hlen,hne,lP,hmay⟩:=qM h0;have hpos:=length_pos_iff.2 hne;simp[ZM,h0,ahP];refine aB.of (akt _ _) λ v K n ⟨e1,e2,e3⟩=>?_;subst e1 e2 e3;simp[ahO];have W:nw ((Tr.nil:Hp).put 0 (aR 2 [.bool true,.aV (.slice none 0 0)])) 1 0 (.aV (.slice none 0 0)) []:=⟨ah,ae,.inl ⟨rfl,rfl⟩⟩;refine alA row lP hne _ _ _ 0 _ W (by simp[hF]) ah ah λ F K n b f1 f7 W=>?_;clear hF;simp[ZO];refine aB.pure ad' ?_;simp[tf,ZN,f1,ay];have hB:0<(row.length+7) / 8/\(row.length+7) / 8<=2:=ae;have eB:=UX row ((row.length+7) / 8);refine alz row lP hmay hr (pZ row ((row.length+7) / 8)) (by rw[eB];exact hB) _ _ (n+1) 0 n b _ (by rw[eB];exact W.alloc2 _ _) (by simp[tf]) ae (by simp[f7]) ah (by simp[ay]) ah ah λ F K n b f7 W=>?_;have W':nw K n 0 (.sl b 0 (encR row).length 1) (encR row):=W;have hl:=Gw row hmay hr;have hel:(encR row).length=(row.length+7) / 8+(mg row).length:=by simp[encR]
  simp[ZK,f7];refine aB.same (akG W') ?_;unfold wF;rw[aw h0]
  by_cases h:(encR row).length<=160
  ·simp[show ¬(160:Int)<((encR row).length:Int) by omega,ZI,f7,h];refine aB.of (Y9 W' ae) λ v K' n' ⟨e1,y,e2,e3⟩=>?_;subst e1
   have:KB (.sl n 0 (encR row).length 1) K'=.val (.str (encR row)):=by
    unfold KB;dsimp only;rw[bT e2 e3 ah];simp[vX _ (UN row hmay hr),fN]
   simp[J1,this];exact fp
  simp[show (160:Int)<((encR row).length:Int) by omega,ZJ,h];exact fp
 simp[ZM,h0,ahQ,wF];exact fp
end Go.Abs
namespace Go.Abs
open List
open Go.Proofs
open Classical
set_option maxRecDepth 100000
section
variable {P:Program}{F:Fr}{H:Hp}{n:Nat}{m:List Dm}{Q:QA}
theorem aC.upd {v:AV}{l:List Nat}(h:aC H n v (ig l) l.length 1)(y:bG):aC (H.put n (some y)) (n+1) v (ig l) l.length 1:=by
 obtain⟨h0,⟨rfl,h1⟩|⟨b,k,rfl,hb,hk,ho⟩⟩:=h
 ·exact⟨h0,.inl ⟨rfl,h1⟩⟩
 exact⟨h0,.inr ⟨b,k,rfl,ae,by rw[Tr.get_put,ai ae,hk],ho⟩⟩
theorem aC.Iu {v:AV}{l:List Nat}{pd:Pd}{r:List (Option GO)}(h:aC H n v (ig l) l.length 1)(x:List Nat)(hx:0<x.length)(hl:l.length+x.length<1048576)
  (hgo:∀H',aC H' (n+2) (.sl (n+1) 0 (l.length+x.length) 1) (ig (l++x)) (l++x).length 1->(∀c,c<n->v≠.sl c 0 l.length 1->H'.get c=H.get c)->fE P r (pd.f (.sl (n+1) 0 (l.length+x.length) 1) F) H' (n+2) m Q):
  IK (Go.Abs.jh 1 1 (n+1) v (.sl n 0 x.length 1) (H.put n (some (.cells x.length [] (ig x) .nil)))) pd r P F (H.put n (some (.cells x.length [] (ig x) .nil))) (n+1) m Q:=by
 have hs:aX (H.put n (some (.cells x.length [] (ig x) .nil))) 1 (.sl n 0 x.length 1)=some (ig x):=by
  rw[bT (k:=.cells x.length [] (ig x) .nil) ah (.list ah) ah];simp[fN]
 refine aC.app (h.upd _) hs (k:=x.length) ah ah ae hx (by unfold big;omega) ae (uc _) λ H' h1 h2=>hgo H' (by rw[D7];simpa using h1) λ c hc hv=>?_;rw[h2 c ae hv,Tr.get_put,ai ae]
theorem aC.b2s {v:AV}{l:List Nat}(h:aC H n v (ig l) l.length 1)(hb:∀b∈l,b<256):KB v H=.val (.str l):=by
 obtain⟨h0,⟨rfl,h1⟩|⟨b,k,rfl,hbn,hk,ho⟩⟩:=h
 ·have:l=[]:=eq_nil_of_length_eq_zero h1;subst this;rfl
 unfold KB;dsimp only;rw[bT hk ho ah];simp[vX _ hb,fN]
end
end Go.Abs
namespace Go.Abs
open List
open Go.Proofs
open Classical
set_option maxRecDepth 100000
@[simp] theorem auz (z:List AV)(sz gq:Nat)(x y:G)(F:Fr)(H:Hp)(n:Nat):BL z sz gq x y F H n=oE (x.f F) λ a=>oE (y.f F) λ b=>PU z sz gq n a b:=by
 unfold BL oE
 cases x.f F with
 |none=>rfl
 |some a=>cases y.f F<;>rfl
def Ij (u:Nat):List Nat:=(range 8).map λ j=>u / 2 ^ (56 - 8*j) % 256
def sQ (s:List Nat):List Nat:=s.flatMap λ c=>if c=0 then [c,255]else [c]
def Jr (x:Int):Nat:=(x+9223372036854775808).toNat
def Du (v:Val):List Nat:=if v.kind=3 then [(2+v.num).toNat]else if v.kind=1 then 4::Ij (Jr v.num)else if v.kind=2 then 5::(sQ v.s++[0,1])else [1]
theorem aC.ne {H:Hp}{n:Nat}{u:AV}{l:List AV}{len sz:Nat}(O:aC H n u l len sz):∀k,u≠.sl n 0 k 1:=by
 rintro k rfl;obtain⟨_,⟨h,_⟩|⟨b,y,h,hb,_⟩⟩:=O
 ·cases h
 injection h with h;omega
theorem aC.box {H:Hp}{n:Nat}{u:AV}{l:List Nat}(O:aC H n u (ig l) l.length 1)(y z:bG):aC ((H.put n (some y)).put n (some z)) (n+1) u (ig l) l.length 1:=by
 obtain⟨h0,⟨rfl,h1⟩|⟨b,k,rfl,hb,hk,ho⟩⟩:=O
 ·exact⟨h0,.inl ⟨rfl,h1⟩⟩
 exact⟨h0,.inr ⟨b,k,rfl,ae,by rw[Tr.get_put,ai ae,Tr.get_put,ai ae,hk],ho⟩⟩
theorem NX {c:Nat}(h:c<2 ^ 63):c ^^^ 2 ^ 63=2 ^ 63+c:=by
 apply Nat.eq_of_testBit_eq;intro j;rw[Nat.testBit_xor,Nat.testBit_two_pow]
 rcases Nat.lt_trichotomy j 63 with h1|rfl|h1
 ·rw[Nat.testBit_two_pow_add_gt h1];simp[show ¬ 63=j by omega]
 ·rw[Nat.testBit_two_pow_add_eq];simp
 have h2:2 ^ 64<=2 ^ j:=Nat.pow_le_pow_right ae ae;rw[Nat.testBit_lt_two_pow (show 2 ^ 63+c<2 ^ j by omega),Nat.testBit_lt_two_pow (show c<2 ^ j by omega)];simp;omega
theorem aoj (x:Int)(h1 : -9223372036854775808<=x)(h2:x<9223372036854775808):bS .xor .u64 (IntKind.u64.wrap x) 9223372036854775808=.val (.int .u64 ((Jr x:Nat):Int)):=by
 have key:∀a:Nat,a<18446744073709551616->(BitVec.ofInt 64 (a:Int) ^^^ BitVec.ofInt 64 9223372036854775808).toNat=if a<9223372036854775808 then 9223372036854775808+a else a - 9223372036854775808:=by
  intro a ha;have e1:(BitVec.ofInt 64 (a:Int)).toNat=a:=by rw[al' _ ae ae];simp
  have e2:(BitVec.ofInt 64 9223372036854775808).toNat=2 ^ 63:=rfl;rw[BitVec.toNat_xor,e1,e2]
  split
  ·rename_i h;exact NX h
  rename_i h;have h3:=NX (c:=a - 9223372036854775808) ae;have h4:2 ^ 63+(a - 9223372036854775808)=a:=ae;rw[h4]at h3;rw[<-h3,Nat.xor_assoc,Nat.xor_self,Nat.xor_zero];omega
 have e0:IntKind.u64.wrap x=(((x % 18446744073709551616).toNat:Nat):Int):=by simp[IntKind.wrap,IntKind.signed,IntKind.bits];omega
 rw[sV,e0];have e1:=key (x % 18446744073709551616).toNat ae;refine Eq.trans (congrArg (λ k:Nat=>bw.val (.int .u64 (IntKind.u64.wrap (k:Int)))) e1) ?_;have e2:(if (x % 18446744073709551616).toNat<9223372036854775808 then 9223372036854775808+(x % 18446744073709551616).toNat else (x % 18446744073709551616).toNat - 9223372036854775808)=Jr x:=by unfold Jr;split<;>omega
 simp only[e2];rw[pC (by unfold Jr;omega)]
theorem aeJ (u:Nat)(_hu:u<18446744073709551616)(F:Fr)(K:Hp)(n:Nat)(v:AV)(l:List Nat)(hl:l.length<100000)(Q:QA)(f0:F.get 0=some v)(f5:F.get 5=some (.int .u64 (u:Int)))(f6:F.get 6=some (zI 56))(o:aC K n v (ig l) l.length 1)
  (k:∀(F':Fr)(K':Hp)(n':Nat)(v':AV),F'.get 0=some v'->aC K' n' v' (ig (l++Ij u)) (l++Ij u).length 1->Q (.exit 1) F' K' n' []):aE Gf pG F K n [] Q:=by
 refine aE.of (λ t F K n ms=>∃j v,t=8 - j/\j<=8/\F.get 0=some v/\F.get 5=some (.int .u64 (u:Int))/\F.get 6=some (zI (56 - 8*(j:Int)))/\aC K n v (ig (l++(Ij u).take j)) (l++(Ij u).take j).length 1/\ms=[]) 8 ⟨0,v,ah,ae,f0,f5,by simpa using f6,by simpa using o,rfl⟩ ?_;clear f0 f5 f6 o F K n v;rintro t F K n ms ⟨j,v,rfl,hj,f0,f5,f6,o,rfl⟩;have bl:(Ij u).length=8:=by simp[Ij]
 by_cases h:j<8
 ·have s1:eR .shr (.int .u64 (u:Int)) (zI (56 - 8*(j:Int)))=.val (.int .u64 ((u / 2 ^ (56 - 8*j):Nat):Int)):=by
   rw[qR _ _ _ _ ae];have:min (56 - 8*(j:Int)).toNat IntKind.u64.bits=56 - 8*j:=by simp[IntKind.bits];omega
   rw[this,Int.fdiv_eq_ediv_of_nonneg _ (by exact Int.le_of_lt (Int.pow_pos ae))];simp
  have s2:IntKind.u8.wrap ((u / 2 ^ (56 - 8*j):Nat):Int)=(((Ij u)[j]'ae:Nat):Int):=by simp[Ij,IntKind.wrap,IntKind.signed,IntKind.bits]
  have s3:(Ij u).take (j+1)=(Ij u).take j++[(Ij u)[j]'ae]:=take_snoc ae;generalize (Ij u)[j]'ae=z at *;generalize u / 2 ^ (56 - 8*j)=d at *;have w:IntKind.i64.wrap (56 - 8*(j:Int) - 8)=56 - 8*((j+1:Nat):Int):=by rw[dW _ ae ae];omega
  simp[Gf,f6,show 8*(j:Int)<=56 by omega,f0,f5,s1,dI,s2];refine aC.Iu o [z] ah (by simp;omega) λ H' o' _=>?_;simp[Rk,f6,w,f5];exact⟨_,ae,j+1,rfl,ae,ae,by rw[show l.length+min (j+1) (Ij u).length=l.length+(min j (Ij u).length+1) by omega,s3];simpa using o'⟩
 obtain rfl:j=8:=ae;simp[Gf,f6];rw[fN ae]at o;refine k _ _ _ v ?_ o;simp[f0]
theorem UI (s:List Nat)(i:Nat)(h:i<s.length):sQ (s.take (i+1))=sQ (s.take i)++(if s[i]=0 then [s[i],255]else [s[i]]):=by
 unfold sQ;rw[take_snoc h,flatMap_append];simp
theorem yX (s:List Nat):(sQ s).length<=2*s.length:=by
 induction s with
 |nil=>simp[sQ]
 |cons a r ih =>
  have e:sQ (a::r)=(if a=0 then [a,255]else [a])++sQ r:=rfl;rw[e,length_append,length_cons]
  split<;>simp<;>omega
theorem aeI (s:List Nat)(hs:s.length<=64)(a b:AV)(F:Fr)(K:Hp)(n q:Nat)(v:AV)(l:List Nat)(hl:l.length<100000)(Q:QA)(f0:F.get 0=some v)(f3:F.get 3=some (.ptr q 0))(f47:F.get 47=some (zI (s.length:Int)))(f48:F.get 48=some (zI 0))(hq:K.get q=aR 3 [a,b,.str s])(qn:q<n)(ne:∀k,v≠.sl q 0 k 1)(o:aC K n v (ig l) l.length 1)
  (k:∀(F':Fr)(K':Hp)(n':Nat)(v':AV),F'.get 0=some v'->aC K' n' v' (ig (l++sQ s)) (l++sQ s).length 1->Q (.exit 3) F' K' n' []):aE Ge pG F K n [] Q:=by
 refine aE.of (λ t F K n ms=>∃i v,t=s.length - i/\i<=s.length/\F.get 0=some v/\F.get 3=some (.ptr q 0)/\F.get 47=some (zI (s.length:Int))/\F.get 48=some (zI (i:Int))/\K.get q=aR 3 [a,b,.str s]/\q<n/\(∀k,v≠.sl q 0 k 1)/\aC K n v (ig (l++sQ (s.take i))) (l++sQ (s.take i)).length 1/\ms=[]) s.length ⟨0,v,ah,ae,f0,f3,f47,f48,hq,qn,ne,by simpa[sQ]using o,rfl⟩ ?_;clear f0 f3 f47 f48 hq qn ne o F K n v;rintro t F K n ms ⟨i,v,rfl,hi,f0,f3,f47,f48,hq,qn,ne,o,rfl⟩
 by_cases h:i<s.length
 ·have hx:=xd (k:=.i64) h;have w:=aD i ae;have h1:=UI s i h;have h2:=yX (s.take i);have h3:(s.take i).length<=64:=by simp;omega
  generalize s[i]=c at *;simp[Ge,f47,f48,h,f0,f3,hq,hx];refine aC.Iu o [c] ah (by simp;omega) λ H' o' hf=>?_;have hq':=(hf q qn (ne _)).trans hq;simp[Q8,f3,hq',hx]
  by_cases h0:c=0
  ·subst h0;rw[aw rfl]at h1;simp[Q7];refine aC.Iu (l:=l++sQ (s.take i)++[0]) (by simpa[Nat.add_assoc]using o') [255] ah (by simp;omega) λ H2 o2 hf2=>?_;have hq2:=(hf2 q ae (by intro e;injection e with e;omega)).trans hq';simp[ED,f3,f47,f48,w,hq2];exact⟨_,ae,i+1,rfl,ae,rfl,ae,ae,by rw[h1];simpa[Nat.add_assoc]using o2⟩
  rw[ai h0]at h1;simp[h0,ED,f3,f47,f48,w,hq'];exact⟨_,ae,i+1,rfl,ae,rfl,ae,ae,by rw[h1];simpa[Nat.add_assoc]using o'⟩
 obtain rfl:i=s.length:=ae;simp[Ge,f47,f48];rw[fN (aK _)]at o;refine k _ _ _ v ?_ o;simp[f0]
theorem ajY {H:Hp}{n:Nat}{u:AV}{l:List Nat}(O:aC H n u (ig l) l.length 1)(hl:l.length<90000)(v:Val)(hm:v.may=true)(hr:v.nD):
  ak pG 241 [u,v.av] H n (λ w K k=>aC K k w (ig (l++Du v)) (l++Du v).length 1):=by
 refine ak.of c241 (by simp[A241]) λ F hF=>?_;have hk:=Val.jK hm;have hO:=O.box (.cells 3 [] [zI 0,zI 0,.str []] .nil) (.cells 3 [] v.cells .nil);have hO1:=O.upd (.cells 3 [] v.cells .nil);have hne:=O.ne;unfold Du
 by_cases k3:v.kind=3
 ·have hn:v.num=0∨v.num=1:=by
   have:=hm;unfold Val.may at this;simp[k3]at this;exact this.2
  have w:IntKind.u8.wrap (IntKind.i64.wrap (2+v.num))=(((2+v.num).toNat:Nat):Int):=by rcases hn with h|h<;>rw[h]<;>rfl
  generalize (2+v.num).toNat=z at *;simp[A241,hF,Val.av,k3,dI,w];simp only[Val.cells,k3]at hO1;refine aC.Iu hO1 [z] ah (by simp;omega) λ H' o' _=>?_;simp;simpa using o'
 by_cases k1:v.kind=1
 ·have hx:=aoj v.num hr.lo hr.hi;simp[A241,hF,Val.av,k1];simp only[Val.cells,k1]at hO1;refine aC.Iu hO1 [4] ah (by simp;omega) λ H' o' hf=>?_;have hq:=hf n ae (hne _);simp at hq;simp[abZ,hq,dI,hx,abY];refine aeJ (Jr v.num) (by unfold Jr;have:=hr.lo;have:=hr.hi;omega) _ _ _ _ (l++[4]) (by simp;omega) _ (by simp;rfl) ah ah (by simpa using o') λ F K n' v' f0 o2=>?_;simp[Rj,f0];simpa[Nat.add_assoc]using o2
 by_cases k2:v.kind=2
 ·have h64:=Val.lV hm k2;simp[A241,hF,Val.av,k2];simp only[Val.cells,k2]at hO1;refine aC.Iu hO1 [5] ah (by simp;omega) λ H' o' hf=>?_;have hq:=hf n ae (hne _);simp at hq;simp[Q9,hq];refine aeI v.s h64 _ _ _ _ _ n _ (l++[5]) (by simp;omega) _ (by simp;rfl) ah ah ah (by rw[hq]) ae (λ k e=>by injection e with e;omega) (by simpa using o') λ F K n' v' f0 o2=>?_;have:=yX v.s;simp[Q6,f0,rep];refine aC.Iu o2 [0,1] ah (by simp;omega) λ H2 o3 _=>?_;simp;simpa[Nat.add_assoc]using o3
 have k0:v.kind=0:=ae;simp[A241,hF,Val.av,k0];simp only[Val.cells,k0]at hO1;refine aC.Iu hO1 [1] ah (by simp;omega) λ H' o' _=>?_;simp;simpa using o'
def uO (row:List Val):List Nat:=row.flatMap Du
def oV (row:List Val):List Nat×Int:=if 16<row.length then ([],1)else if ∀v∈row,v.may=true then (if (uO row).length<=140 then (uO row,0)else ([],51))else ([],5)
theorem X3 (v:Val) (hm:v.may=true):(Du v).length<=131:=by
 unfold Du
 split
 ·simp
 split
 ·simp[Ij]
 split
 ·rename_i h;have:=Val.lV hm h;have:=yX v.s;simp;omega
 simp
theorem Ur (row:List Val)(i:Nat)(h:i<row.length):uO (row.take (i+1))=uO (row.take i)++Du row[i]:=by
 unfold uO;rw[take_snoc h,flatMap_append];simp
theorem X2 (row:List Val)(hm:∀v∈row,v.may=true):(uO row).length<=row.length*131:=by
 induction row with
 |nil=>simp[uO]
 |cons a r ih =>
  have:=ih λ v hv=>hm v (by simp[hv]);have h1:=X3 a (hm a ah);simp only[uO,flatMap_cons,length_append,length_cons]at this ⊢;omega
theorem Ut (v:Val) (hm:v.may=true) (hr:v.nD):∀b∈Du v,b<256:=by
 unfold Du
 split
 ·rename_i k3;have:=hm;unfold Val.may at this;simp[k3]at this;intro b hb;simp at hb;omega
 split
 ·intro b hb
  rcases mem_cons.1 hb with rfl|hb
  ·omega
  simp only[Ij,mem_map]at hb;obtain⟨j,_,rfl⟩:=hb;exact Nat.mod_lt _ ae
 split
 ·intro b hb;simp only[mem_cons,mem_append,not_mem_nil,or_false,sQ,mem_flatMap]at hb
  rcases hb with rfl|⟨c,hc,hb⟩|rfl|rfl
  ·omega
  ·have:=hr.b c hc
   split at hb<;>simp at hb<;>omega
  ·omega
  omega
 simp
theorem Us (row:List Val)(hm:∀v∈row,v.may=true)(hr:∀v∈row,v.nD):∀b∈uO row,b<256:=by
 intro b hb;obtain⟨v,hv,h⟩:=mem_flatMap.1 hb;exact Ut v (hm v hv) (hr v hv) b h
theorem af0 (row:List Val)(hr:∀v∈row,v.nD):aj pG 171 [ay row] (.bo [.str (oV row).1,zI (oV row).2]):=by
 refine pv c171 λ F hF=>?_;unfold oV
 by_cases lP:16<row.length
 ·simp[A171,hF,ay,show (16:Int)<(row.length:Int) by omega,lP];exact fp
 simp[A171,hF,ay,show ¬(16:Int)<(row.length:Int) by omega,lP];refine aE.of (λ t F K n ms=>∃i u,t=row.length - i/\i<=row.length/\F.get 4=some u/\F.get 10=some (ay row)/\F.get 11=some (zI (row.length:Int))/\F.get 12=some (zI (i:Int))/\aC K n u (ig (uO (row.take i))) (uO (row.take i)).length 1/\(∀v∈row.take i,v.may=true)/\ms=[]) row.length ⟨0,.aV (.slice none 0 0),ah,ae,ah,by simp[ay],ah,ah,aC.nil _ _ _,ah,rfl⟩ ?_;clear hF F;rintro t F K n ms ⟨i,u,rfl,hi,f4,f10,f11,f12,O,hm,rfl⟩;rw[ay]at f10
 by_cases h:i<row.length
 ·have hx:=fK (k:=.i64) h;have w:=aD i ae;have hs:=Ur row i h;have hl:=X2 (row.take i) hm;have hl2:(row.take i).length<=16:=by simp;omega
  have hr1:=hr row[i] (dw h);have hms:∀v∈row.take (i+1),v∈row.take i∨v=row[i]:=λ v hv=>by rwa [take_snoc h,mem_append,mi]at hv
  have jm:row[i]∈row:=dw h;generalize row[i]=v at *;have hmv:=mV v;simp only[Val.av]at hmv;simp[Gi,f11,f12,h,f10,hx,gz,Val.av];refine aB.pure hmv ?_
  by_cases h1:v.may=true
  ·simp[h1,acJ,f4];have O2:=O.box (.cells 3 [] [zI 0,zI 0,.str []] .nil) (.cells 3 [] [zI v.kind,zI v.num,.str v.s] .nil);have hp:=ajY O2 ae v h1 hr1;simp only[Val.av]at hp;refine aB.of hp λ u' K' n' o'=>?_;simp[Sj,f12,w,f10,f11];refine⟨_,ae,i+1,rfl,ae,by simp[ay],rfl,by rw[hs];simpa using o',λ x hx=>?_⟩
   rcases hms x hx with h2|rfl
   ·exact hm x h2
   exact h1
  have:¬ ∀v∈row,v.may=true:=λ h2=>h1 (h2 v jm);simp[h1,acK];rw[ai this];exact fp
 obtain rfl:i=row.length:=ae;rw[fN (aK _)]at O hm
 have hl:bm u=.val (zI ((uO row).length:Int)):=by
  obtain⟨_,⟨rfl,h⟩|⟨b,_,rfl,_⟩⟩:=O
  ·rw[h];simp
  simp
 have hb:=O.b2s (Us row hm hr);rw[aw hm];generalize uO row=B at *
 by_cases aqu:B.length<=140
 ·simp[Gi,f11,f12,Fg,f4,hl,show ¬(140:Int)<(B.length:Int) by omega,RZ,J1,hb,aqu];exact fp
 simp[Gi,f11,f12,Fg,f4,hl,show (140:Int)<(B.length:Int) by omega,Si,aqu];exact fp
theorem Y8 {a b:List Nat}(h:a.length+b.length<=big):Ak (.str a) (.str b)=.val (.str (a++b)):=by simp[Ak,bM,h]
end Go.Abs
namespace Go.Abs
open List
open Go.Proofs
open Classical
set_option maxRecDepth 100000
def uZ:aZ Val 3:=⟨Val.cells,λ _=>ah,λ v=>by simp[Val.cells],λ v=>by simp[Val.cells,br,AV.one]⟩
theorem j8 (l:List Val):uZ.l l=cM l:=by
 induction l with
 |nil=>rfl
 |cons a r ih=>rw[aZ.lC,ih];rfl
theorem wZ (l:List Val):uZ.ds l=ay l:=by simp[aZ.ds,ay,j8]
section
variable {P:Program}{F:Fr}{H:Hp}{n:Nat}{m:List Dm}{Q:QA}
theorem aC.put {v:AV}{l:List AV}{len sz:Nat}(h:aC H n v l len sz)(y:bG):aC (H.put n (some y)) (n+1) v l len sz:=by
 obtain⟨h0,⟨rfl,h1⟩|⟨b,k,rfl,hb,hk,ho⟩⟩:=h
 ·exact⟨h0,.inl ⟨rfl,h1⟩⟩
 exact⟨h0,.inr ⟨b,k,rfl,ae,by rw[Tr.get_put,ai ae,hk],ho⟩⟩
theorem aC.avu {v:AV}{l:List AV}{len sz:Nat}(h:aC H n v l len sz)(y z:bG):aC ((H.put n (some y)).put n (some z)) (n+1) v l len sz:=by
 obtain⟨h0,⟨rfl,h1⟩|⟨b,k,rfl,hb,hk,ho⟩⟩:=h
 ·exact⟨h0,.inl ⟨rfl,h1⟩⟩
 exact⟨h0,.inr ⟨b,k,rfl,ae,by rw[Tr.get_put,ai ae,Tr.get_put,ai ae,hk],ho⟩⟩
theorem aC.avt {v:AV}{l:List AV}{len sz:Nat}(h:aC H n v l len sz)(y z t:bG):aC (((H.put n (some y)).put n (some z)).put n (some t)) (n+1) v l len sz:=by
 obtain⟨h0,⟨rfl,h1⟩|⟨b,k,rfl,hb,hk,ho⟩⟩:=h
 ·exact⟨h0,.inl ⟨rfl,h1⟩⟩
 exact⟨h0,.inr ⟨b,k,rfl,ae,by rw[Tr.get_put,ai ae,Tr.get_put,ai ae,Tr.get_put,ai ae,hk],ho⟩⟩
theorem aC.asd {α:Type}{k:Nat}{E:aZ α k}{v:AV}{L:List α}{gq:Nat}{pd:Pd}{r:List (Option GO)}(h:aC H n v (E.l L) L.length k)(x:α)(hk:0<k)(hby:gq<=4096)(hl:L.length<4000000)
  (hgo:∀H',aC H' (n+2) (.sl (n+1) 0 (L.length+1) k) (E.l (L++[x])) (L++[x]).length k->(∀c,c<n->v≠.sl c 0 L.length k->H'.get c=H.get c)->fE P r (pd.f (.sl (n+1) 0 (L.length+1) k) F) H' (n+2) m Q):
  IK (Go.Abs.jh k gq (n+1) v (.sl n 0 1 k) (H.put n (aR k (E.cells x)))) pd r P F (H.put n (aR k (E.cells x))) (n+1) m Q:=by
 have hs:aX (H.put n (aR k (E.cells x))) k (.sl n 0 1 k)=some (E.cells x):=by
  rw[bT (k:=.cells k [] (E.cells x) .nil) ah (.list ah) ah];simp[fN]
 refine aC.app (h.put _) hs (k:=1) ah ah hk ae (by unfold big;omega) hby (E.one x) λ H' h1 h2=>hgo H' (by rw[E.gX,E.Bt];simpa using h1) λ c hc hv=>?_;rw[h2 c ae hv,Tr.get_put,ai ae]
end
theorem Bz (x:pf)(t:Int)(u:Bool)(r:List AV)(H:Hp):eD 6 (.dp (.int .u32 x.id::.int .u32 t::.str x.name::dA.ds x.cols::.bool u::.int .u32 x.root::r)) H=.val (.agg [.int .u32 x.id,.int .u32 t,.str x.name,dA.ds x.cols,.bool u,.int .u32 x.root] 6):=qS (k:=6) (l:=[.int .u32 x.id,.int .u32 t,.str x.name,dA.ds x.cols,.bool u,.int .u32 x.root]) r rfl
def cn.on (s:cn)(id:Int):List pf:=s.indexes.filter λ x=>decide (x.table=id)
theorem HO {α:Type}{p:α->Bool}{l:List α}{i:Nat}(h:i<l.length):(l.take (i+1)).filter p=(l.take i).filter p++(if p l[i]=true then [l[i]]else []):=by
 rw[take_snoc h,filter_append]
 cases hp:p l[i]<;>simp[hp]
theorem alY (l:List Int)(hl:l.length<=aU):aj pG 59 [dA.ds l] (dA.ds l):=t_ (z:=[zI 0]) (sz:=1) (gq:=8) c59 ae ae ae _ _ hl ah ah ah
theorem axI (s:cn)(hs:s.indexes.length<=aU)(hc:∀x∈s.indexes,x.cols.length<=aU)(id:Int):aj pG 92 [kQ.av s,.int .u32 id] (bp.ds (s.on id)):=by
 unfold aU at hs;refine pv c92 λ F hF=>?_;simp[A92,hF,aZ.av,fm,aZ.aM];refine aE.of (λ t F K n ms=>∃i u,t=s.indexes.length - i/\i<=s.indexes.length/\F.get 1=some (.int .u32 id)/\F.get 5=some u/\F.get 9=some (bp.ds s.indexes)/\F.get 10=some (zI (s.indexes.length:Int))/\F.get 11=some (zI (i:Int))/\aC K n u (bp.l ((s.indexes.take i).filter λ x=>decide (x.table=id))) ((s.indexes.take i).filter λ x=>decide (x.table=id)).length 6/\ms=[]) s.indexes.length ⟨0,.aV (.slice none 0 0),ah,ae,by simp[hF],ah,ah,ah,ah,aC.nil _ _ _,rfl⟩ ?_;clear hF F;rintro t F K n ms ⟨i,u,rfl,hi,f1,f5,f9,f10,f11,O,rfl⟩
 by_cases h:i<s.indexes.length
 ·have hx:=bp.ix (ik:=.i64) h;have w:=aD i ae;have hsn:=HO (p:=λ x:pf=>decide (x.table=id)) h;have hfl:((s.indexes.take i).filter λ x=>decide (x.table=id)).length<=1048576:=wo (length_filter_le _ _) (by simp;omega);have hcl:=alY s.indexes[i].cols (hc _ (dw h));rw[iT]at hx;generalize s.indexes[i]=x at *;generalize (s.indexes.take i).filter (λ x=>decide (x.table=id))=L at *
  by_cases he:x.table=id
  ·subst he;rw[aw ah]at hsn;simp[SR,f10,f11,h,f9,hx,Bz,f1];refine aB.pure hcl ?_;simp[ahN,f5,rep];refine aC.asd (E:=bp) (x:=x) (O.avt _ _ _) ae ae ae λ H' O' _=>?_;simp[ZH,f11,w,f1,f9,f10];exact⟨_,ae,i+1,rfl,ae,rfl,by rw[hsn];simpa using O'⟩
  rw[ai (by simpa using he),append_nil]at hsn;simp[SR,f10,f11,h,f9,hx,Bz,f1,he,ZH,w,f5];exact⟨_,ae,i+1,rfl,ae,rfl,by rw[hsn];exact O.avu _ _⟩
 obtain rfl:i=s.indexes.length:=ae;rw[fN (aK _)]at O;simp[SR,f10,f11,ahM,f5];exact O.nV (.pure ah)
end Go.Abs
namespace Go.Abs
open List
open Go.Proofs
open Classical
set_option maxRecDepth 100000
def f_:Val:=⟨0,0,[]⟩
def pH (row:List Val)(cols:List Int):List Val:=cols.map λ c=>row.getD c.toNat f_
def tM (l:List Val):Bool:=l.any λ v=>decide (v.kind=0)
def qk (cols:List Int)(row:List Val):Prop:=∀c∈cols,0<=c/\c<(row.length:Int)
theorem VZ (row:List Val)(cols:List Int)(i k:Nat)(h:i<cols.length)(hk:k<row.length)(e:cols[i]=(k:Int)):pH row (cols.take (i+1))=pH row (cols.take i)++[row[k]]:=by
 unfold pH;rw[take_snoc h,map_append,map_singleton,e];simp[getD,cX hk]
theorem Jt (l:List Val)(v:Val):tM (l++[v])=(tM l||decide (v.kind=0)):=by simp[tM]
theorem ael {row:List Val}{cols:List Int}(hr:∀v∈row,v.nD)(hc:qk cols row):∀v∈pH row cols,v.nD:=by
 intro v hv;obtain⟨c,h1,rfl⟩:=mem_map.1 hv;obtain⟨h2,h3⟩:=hc c h1;have:c.toNat<row.length:=ae;simp only[getD,cX this,Option.getD_some];exact hr _ (dw this)
@[simp] theorem asW (row:List Val)(cols:List Int):(pH row cols).length=cols.length:=by simp[pH]
theorem ag5 (x:pf)(row:List Val)(hl:x.cols.length<=aU)(hr:∀v∈row,v.nD)(hc:qk x.cols row):aj pG 93 [bp.av x,ay row] (.bo [.str (oV (pH row x.cols)).1,.bool (tM (pH row x.cols)),zI (oV (pH row x.cols)).2]):=by
 unfold aU at hl;refine pv c93 λ F hF=>?_;have hK:=af0 (pH row x.cols) (ael hr hc);simp[A93,hF,aZ.av,iT,aZ.aM];refine aE.of (λ t F K n ms=>∃i u,t=x.cols.length - i/\i<=x.cols.length/\F.get 1=some (ay row)/\F.get 7=some u/\F.get 8=some (.bool (tM (pH row (x.cols.take i))))/\F.get 14=some (dA.ds x.cols)/\F.get 15=some (zI (x.cols.length:Int))/\F.get 16=some (zI (i:Int))/\aC K n u (uZ.l (pH row (x.cols.take i))) (pH row (x.cols.take i)).length 3/\ms=[]) x.cols.length ⟨0,.aV (.slice none 0 0),ah,ae,by simp[hF],ah,by simp[pH,tM],ah,ah,ah,aC.nil _ _ _,rfl⟩ ?_;clear hF F;rintro t F K n ms ⟨i,u,rfl,hi,f1,f7,f8,f14,f15,f16,O,rfl⟩;rw[ay]at f1
 by_cases h:i<x.cols.length
 ·have hx:=dA.ix (ik:=.i64) h;have w:=aD i ae;obtain⟨h2,h3⟩:=hc x.cols[i] (dw h);obtain⟨k,hk⟩:=Int.eq_ofNat_of_zero_le h2;have hkl:k<row.length:=ae;have hy:=fK (k:=.i64) hkl;have hs:=VZ row x.cols i k h hkl hk;rw[YQ,hk]at hx;have hsl:(pH row (x.cols.take i)).length<4000000:=by simp;omega
  have hnn:=Jt (pH row (x.cols.take i)) row[k];rw[<-hs]at hnn;generalize row[k]=v at *;generalize pH row (x.cols.take i)=L at *;have hmin:min (i+1) x.cols.length=(pH row (x.cols.take (i+1))).length:=ah;generalize hL':pH row (x.cols.take (i+1))=L' at *;simp[adq,f15,f16,h,f14,hx,f1,hy,f7,gz,rep,Val.av];refine aC.asd (E:=uZ) (x:=v) O ae ae hsl λ H' O' _=>?_;rw[<-hs]at O'
  cases hn:tM L with
  |true =>
   rw[hn]at f8 hnn;simp[ZF,f8,ZE,w,f16,f1,f14,f15,ay];exact⟨_,ae,i+1,rfl,ae,by rw[hL',hnn];rfl,rfl,by rw[hL',hmin];simpa[hs]using O'⟩
  |false =>
   rw[hn]at f8 hnn;simp[ZF,f8,ZE,w,f16,f1,f14,f15,ay,hy,O3];exact⟨_,ae,i+1,rfl,ae,by rw[hL',hnn];rfl,rfl,by rw[hL',hmin];simpa[hs]using O'⟩
 obtain rfl:i=x.cols.length:=ae;rw[fN (aK _)]at O f8;simp[adq,f15,f16,ahL,f7]
 have hz:e_ K.get u (ay (pH row x.cols)):=by
  have:=O.nV (.pure ah);rw[j8]at this;exact this
 refine aB.nV hK ah (.cons _ _ _ _ hz .nil) ?_;simp[ZG,f8];exact fp
theorem qQ (a b:Nat) (x y:List Nat):cmpL (a::x) (b::y)=if a=b then cmpL x y else if a<b then -1 else 1:=by
 simp only[cmpL]
 by_cases e:a=b
 ·subst e;simp
 rw[show Nat.beq a b=false by simpa using e,ai e];dsimp only
 by_cases h:a<b
 ·rw[show Nat.blt a b=true by rw[Nat.blt_eq];exact h,aw h]
 rw[show Nat.blt a b=false by cases q:Nat.blt a b with
  |false=>rfl
  |true=>rw[Nat.blt_eq]at q;exact ar q h,ai h]
theorem Ia:∀a b:List Nat,cmpL b a = - cmpL a b
 |[],[]=>rfl
 |[],_::_=>rfl
 |_::_,[]=>rfl
 |a :: x,b::y=>by
  rw[qQ,qQ]
  by_cases e:a=b
  ·subst e;simp[Ia x y]
  rw[ai e,ai (Ne.symm e)]
  by_cases h:a<b
  ·rw[aw h,ai ae];rfl
  rw[ai h,aw ae]
theorem ajN {k q:Int}(hk:k=0∨k=1∨k=2∨k=3)(hq:q=0∨q=1∨q=2∨q=3):rk k=rk q↔k=q:=by
 rcases hk with rfl|rfl|rfl|rfl<;>rcases hq with rfl|rfl|rfl|rfl<;>decide
theorem OL {a b:Val}(ha:a.may=true)(hb:b.may=true):b.ord a = - a.ord b:=by
 have hi:=ajN (Val.jK ha) (Val.jK hb);unfold Val.ord
 by_cases e:a.kind=b.kind
 ·rw[aw e,aw e.symm]
  by_cases e2:a.kind=2
  ·rw[aw e2,aw ae,Ia]
  rw[ai e2,ai ae]
  repeat' split
  all_goals omega
 rw[ai e,ai (Ne.symm e)];have:rk a.kind≠rk b.kind:=λ h=>e (hi.1 h)
 repeat' split
 all_goals omega
def eI (r:List Val):Prop:=∀v∈r,v.may=true
theorem sU {a b:Val}(ha:a.may=true)(hb:b.may=true):cV a b=a.ord b:=by simp[cV,ha,hb]
theorem jI:∀ {l m:List Val},eI l->eI m->dK m l = - dK l m
 |[],[],_,_=>by simp[dK]
 |[],_::_,_,_=>by simp[dK]
 |_::_,[],_,_=>by simp[dK]
 |a::l,b::m,hl,hm=>by
  have ha:=hl a ah;have hb:=hm b ah;have ih:=jI (l:=l) (m:=m) (λ v hv=>hl v (by simp[hv])) (λ v hv=>hm v (by simp[hv]));rw[dK,dK,sU ha hb,sU hb ha,OL ha hb,ih]
  by_cases e:a.ord b=0
  ·simp[e]
  simp[e]
theorem nC:∀ {l m:List Val},eI l->eI m->(rO l m<=0↔dK l m<=0)
 |[],[],_,_=>by simp[rO,dK]
 |[],_::_,_,_=>by simp[rO,dK];omega
 |_::_,[],_,_=>by simp[rO,dK]
 |a::l,b::m,hl,hm=>by
  have ha:=hl a ah;have hb:=hm b ah;have ih:=nC (l:=l) (m:=m) (λ v hv=>hl v (by simp[hv])) (λ v hv=>hm v (by simp[hv]));rw[rO,dK,sU ha hb]
  by_cases e:a.ord b=0
  ·simp[e,ih]
  simp[e]
def gQ (a b:Int):Int:=if a=0 then b else if b=0 then a else min a b
theorem Px (H:Hp)(n:Nat):ak pG 90 [] H n (λ u K k=>u=.fn (.func 165) [] [.ptr n 0]/\K=(H.put n (aR 1 [zI 0])).put n (aR 1 [zI 0])/\k=n+1):=by
 refine ak.of c90 (by simp[A90]) λ F hF=>?_;simp[A90]
theorem lH {H:Hp}{n p:Nat}(a b:Int)(hp:H.get p=aR 1 [zI a]):ak pG 165 [zI b,.ptr p 0] H n (λ u K k=>u=zI (gQ a b)/\K.get p=aR 1 [zI (gQ a b)]/\k=n/\∀c,c≠p->K.get c=H.get c):=by
 refine ak.of c165 (by simp[A165]) λ F hF=>?_;unfold gQ
 by_cases h2:b=0
 ·simp[A165,hF,hp,h2]
 by_cases h1:a=0
 ·subst h1;simp[A165,hF,hp,h2];intro c hc;simp[hc]
 by_cases h3:b<a
 ·simp[A165,hF,hp,h1,h2,h3];have:min a b=b:=ae;simp[this];intro c hc;simp[hc]
 simp[A165,hF,hp,h1,h2,h3]
 try omega
def OT:Nat->List (List Nat)->List (AV×AV×Nat)
 |_,[]=>[]
 |i,x::r=>(.str x,zI 1,i)::OT (i+1) r
theorem Dh (x:List Nat):∀(l:List (List Nat))(i:Nat),OT i (l++[x])=OT i l++[(.str x,zI 1,i+l.length)]
 |[],i=>by simp[OT]
 |y::r,i=>by simp[OT,Dh x r (i+1)];omega
theorem pU (a b:List Nat):dY .s (.str a) (.str b)=some (decide (a=b)):=by
 simp only[dY,fB]
 congr 1
 rw[Bool.eq_iff_iff];simp
theorem DR (k:List Nat):∀(l:List (List Nat))(i:Nat),findKey .s (.str k) (OT i l)=some (if k∈l then some (zI 1)else none)
 |[],i=>rfl
 |y::r,i=>by
  simp only[OT,findKey,pU]
  by_cases h:k=y
  ·simp[h]
  simp[h,DR k r (i+1)]
theorem VY (k:List Nat)(v:AV):∀(l:List (List Nat))(i:Nat),k∉l->iM .s (.str k) v (OT i l)=some none
 |[],i,_=>rfl
 |y::r,i,h=>by
  simp only[mem_cons,not_or]at h;simp only[OT,iM,pU];simp[h.1,VY k v r (i+1) h.2]
theorem VX (k:List Nat)(v:AV):∀(l:List (List Nat))(i:Nat),k∈l->∃es,iM .s (.str k) v (OT i l)=some (some es)/\findKey .s (.str k) es=some (some v)
 |[],i,h=>by simp at h
 |y :: r,i,h=>by
  simp only[OT,iM,pU]
  by_cases e:k=y
  ·subst e;simp[findKey,pU]
  have h2:k∈r:=by simpa[e]using h
  obtain⟨es,h3,h4⟩:=VX k v r (i+1) h2;simp[e,h3,findKey,pU,h4]
theorem afU (k:List Nat)(l:List (List Nat))(i:Nat):findKey .s (.str k) (OT i l++[(.str k,zI 1,i+l.length)])=some (some (zI 1)):=by
 rw[<-Dh,DR];simp
def Ho (cols:List Int)(r:List Val):List (List Nat):=if tM (pH r cols)=true then []else [(oV (pH r cols)).1]
def fJ (cols:List Int)(rows:List (List Val)):List (List Nat):=rows.flatMap (Ho cols)
theorem JE (cols:List Int)(rows:List (List Val))(i:Nat)(h:i<rows.length):fJ cols (rows.take (i+1))=fJ cols (rows.take i)++Ho cols rows[i]:=by
 unfold fJ;rw[take_snoc h,flatMap_append];simp
theorem Ux (cols:List Int)(rows:List (List Val)):(fJ cols rows).length<=rows.length:=by
 induction rows with
 |nil=>simp[fJ]
 |cons a r ih =>
  have e:fJ cols (a::r)=Ho cols a++fJ cols r:=rfl;rw[e,length_append,length_cons];unfold Ho;split<;>simp<;>omega
theorem Uw (cols:List Int)(rows:List (List Val))(i:Nat):∃l,fJ cols rows=fJ cols (rows.take i)++l:=⟨fJ cols (rows.drop i),by
 unfold fJ;rw[<-flatMap_append,take_append_drop]⟩
theorem aeb (x:pf) (rows:List (List Val)) (hl:x.cols.length<=aU) (hrl:rows.length<=aU) (hr:∀r∈rows,(∀v∈r,v.nD)/\qk x.cols r):aj pG 94 [bp.av x,.ds (aJ rows) rows.length 1] (.bool (decide (¬(fJ x.cols rows).Nodup))):=by
 unfold aU at hrl;refine pv c94 λ F hF=>?_;simp[A94,hF,aZ.av,iT,lJ];refine aE.of (λ t F K n ms=>∃i c,t=rows.length - i/\i<=rows.length/\F.get 2=some (.ptr 0 0)/\F.get 5=some (.map 1)/\F.get 12=some (.ds (aJ rows) rows.length 1)/\F.get 13=some (zI (rows.length:Int))/\F.get 14=some (zI (i:Int))/\K.get 0=aR 6 [.int .u32 x.id,.int .u32 x.table,.str x.name,dA.ds x.cols,.bool x.uniq,.int .u32 x.root]/\K.get 1=some (.map (OT 0 (fJ x.cols (rows.take i))) c)/\c=(fJ x.cols (rows.take i)).length/\(fJ x.cols (rows.take i)).Nodup/\ms=[]) rows.length ⟨0,0,ah,ae,ah,ah,ah,ah,ah,ah,by simp[fJ,OT],by simp[fJ],by simp[fJ],rfl⟩ ?_;clear hF F;rintro t F K n ms ⟨i,c,rfl,hi,f2,f5,f12,f13,f14,k0,k1,rfl,nd,rfl⟩
 by_cases h:i<rows.length
 ·have hx:=iQ (k:=.i64) h;have w:=aD i ae;have hs:=JE x.cols rows i h;obtain⟨h1,h2⟩:=hr rows[i] (dw h);have hk:=ag5 x rows[i] hl h1 h2;simp only[aZ.av,iT]at hk;obtain⟨rest,hpre⟩:=Uw x.cols rows (i+1);have hlen:=Ux x.cols (rows.take i);generalize rows[i]=r at *;generalize fJ x.cols (rows.take i)=l at *;simp[adp,f13,f14,h,f12,hx,f2,k0];refine aB.pure hk ?_
  cases hn:tM (pH r x.cols)with
  |true =>
   have e:Ho x.cols r=[]:=by unfold Ho;rw[aw hn]
   rw[e,append_nil]at hs;simp[Qr,KL,f14,w,f2,f5,f12,f13,k0,k1];exact⟨_,ae,i+1,rfl,ae,rfl,l.length,⟨by rw[hs],rfl⟩,by rw[hs],by rw[hs];exact nd⟩
  |false =>
   have e:Ho x.cols r=[(oV (pH r x.cols)).1]:=by unfold Ho;rw[hn];rfl
   rw[e]at hs;generalize (oV (pH r x.cols)).1=q at *
   by_cases hm:q∈l
   ·obtain⟨es,hs1,hs2⟩:=VX q (zI 2) l 0 hm
    have:¬(fJ x.cols rows).Nodup:=λ hd=>by
     rw[hpre,hs]at hd;have:=(nodup_append.1 (nodup_append.1 hd).1).2.2;exact this q hm q ah rfl
    simp[Qr,ZC,f5,k1,fo,rE,isKey,DR,hm,hs1,hs2,ZB,ahK];exact .bool (by simp[this])
   have hs1:=VY q (zI 1) l 0 hm;have hs2:=afU q l 0;simp only[q7]at hs2;simp[Qr,ZC,f5,k1,fo,rE,isKey,DR,hm,hs1,hs2,ZB,KL,f14,w,f2,f12,f13,k0];refine⟨_,ae,i+1,rfl,ae,rfl,l.length+1,⟨by rw[hs,Dh];simp,rfl⟩,by rw[hs];simp,?_⟩;rw[hs];exact nodup_append.2 ⟨nd,ah,by rintro a ha b hb rfl;simp at hb;subst hb;exact hm ha⟩
 obtain rfl:i=rows.length:=ae;rw[fN (aK _)]at nd;simp[adp,f13,f14,ZD];exact .bool (by simp[nd])
def vh (s:cn)(id:Int)(rows:List (List Val)):Prop:=∀x∈s.on id,x.uniq=true->(fJ x.cols rows).Nodup
def JF (row:List Val):List pf->Int
 |[]=>0
 |x::xs=>if (oV (pH row x.cols)).2=0 then JF row xs else (oV (pH row x.cols)).2
def CM (s:cn)(t:bK)(row:List Val):Int:=if (wF t.cols row).2=0 then JF row (s.on t.id)else (wF t.cols row).2
def sZ (s:cn)(t:bK)(rows:List (List Val)):Int:=rows.foldl (λ a r=>gQ a (CM s t r)) 0
theorem Bo (a b c:Int):gQ (gQ a b) c=gQ a (gQ b c):=by
 unfold gQ
 by_cases h1:a=0<;>by_cases h2:b=0<;>by_cases h3:c=0<;>simp[h1,h2,h3]
 ·omega
 have e1:¬min a b=0:=ae;have e2:¬min b c=0:=ae;rw[ai e1,ai e2]
@[simp] theorem Bq (a:Int):gQ a 0=a:=by unfold gQ;split<;>simp_all
@[simp] theorem JB (a:Int):gQ 0 a=a:=by simp[gQ]
def kF (row:List Val)(xs:List pf):Int:=xs.foldl (λ a x=>gQ a (oV (pH row x.cols)).2) 0
theorem afw (row:List Val)(xs:List pf)(j:Nat)(h:j<xs.length):kF row (xs.take (j+1))=gQ (kF row (xs.take j)) (oV (pH row xs[j].cols)).2:=by
 unfold kF;rw[take_snoc h,foldl_append];rfl
theorem uU (f:pf->Int):∀(xs:List pf)(a:Int),xs.foldl (λ a x=>gQ a (f x)) a=gQ a (xs.foldl (λ a x=>gQ a (f x)) 0)
 |[],a=>ah
 |x::xs,a=>by
  simp only[foldl_cons];rw[uU f xs (gQ a (f x)),uU f xs (gQ 0 (f x)),JB,Bo]
theorem ag6 (row:List Val):∀(xs:List pf),(∀x∈xs,(oV (pH row x.cols)).2=0∨(oV (pH row x.cols)).2=51)->kF row xs=JF row xs
 |[],_=>rfl
 |x :: xs,h=>by
  have ih:=ag6 row xs λ y hy=>h y (by simp[hy])
  have hz:JF row xs=0∨JF row xs=51:=by
   clear ih
   induction xs with
   |nil=>exact .inl rfl
   |cons y ys ih2 =>
    unfold JF
    split
    ·exact ih2 λ z hz=>h z (by simp at hz ⊢;rcases hz with rfl|hz<;>simp[*])
    exact h y ah
  unfold kF at ih ⊢;simp only[foldl_cons];rw[uU,ih,JB,JF]
  rcases h x ah with h1|h1
  ·rw[h1,JB,aw rfl]
  rw[h1,ai ae]
  rcases hz with h2|h2<;>rw[h2]<;>simp[gQ]
theorem YN {row:List Val}{cols:List Int}(hm:∀v∈row,v.may=true)(hl:cols.length<=16)(hc:qk cols row):(oV (pH row cols)).2=0∨(oV (pH row cols)).2=51:=by
 have h1:∀v∈pH row cols,v.may=true:=by
  intro v hv;obtain⟨c,h1,rfl⟩:=mem_map.1 hv;obtain⟨h2,h3⟩:=hc c h1;have:c.toNat<row.length:=ae;simp only[getD,cX this,Option.getD_some];exact hm _ (dw this)
 unfold oV;rw[ai (by simp;omega),aw h1]
 split<;>simp
theorem afQ (row:List Val)(xs:List pf)(hxl:xs.length<=1048576)(e acc:Int)(hl:∀x∈xs,x.cols.length<=aU)(hr:∀v∈row,v.nD)(jm:e=0->∀x∈xs,qk x.cols row)(F:Fr)(K:Hp)(n p:Nat)(Q:QA)(f7:F.get 7=some (.fn (.func 165) [] [.ptr p 0]))(f9:F.get 9=some (ay row))(f11:F.get 11=some (zI e))(f40:F.get 40=some (bp.ds xs))(f41:F.get 41=some (zI (xs.length:Int)))(f42:F.get 42=some (zI 0))(kp:K.get p=aR 1 [zI acc])(pn:p<n)
  (k:∀F' K' n',F'.get 2=F.get 2->F'.get 3=F.get 3->F'.get 4=F.get 4->F'.get 7=F.get 7->F'.get 21=F.get 21->F'.get 22=F.get 22->F'.get 23=F.get 23->n<=n'->(∀c,c<n->c≠p->K'.get c=K.get c)->K'.get p=aR 1 [zI (if e=0 then gQ acc (kF row xs)else acc)]->Q (.exit 2) F' K' n' []):aE IM pG F K n [] Q:=by
 refine aE.of (λ t F' K' n' ms=>∃j,t=xs.length - j/\j<=xs.length/\F'.get 2=F.get 2/\F'.get 3=F.get 3/\F'.get 4=F.get 4/\F'.get 7=some (.fn (.func 165) [] [.ptr p 0])/\F'.get 21=F.get 21/\F'.get 22=F.get 22/\F'.get 23=F.get 23/\F'.get 9=some (ay row)/\F'.get 11=some (zI e)/\F'.get 40=some (bp.ds xs)/\F'.get 41=some (zI (xs.length:Int))/\F'.get 42=some (zI (j:Int))/\n<=n'/\(∀c,c<n->c≠p->K'.get c=K.get c)/\K'.get p=aR 1 [zI (if e=0 then gQ acc (kF row (xs.take j))else acc)]/\ms=[]) xs.length ⟨0,ah,ae,rfl,rfl,rfl,f7,rfl,rfl,rfl,f9,f11,f40,f41,f42,aK _,λ _ _ _=>rfl,by simpa[kF]using kp,rfl⟩ ?_;clear f9 f11 f40 f41 f42 kp;rintro t F' K' n' ms ⟨j,rfl,hj,g2,g3,g4,g7,g21,g22,g23,f9,f11,f40,f41,f42,hn,hk,kp,rfl⟩
 by_cases h:j<xs.length
 ·have hy:=bp.ix (ik:=.i64) h;have w:=aD j ae;have hxm:xs[j]∈xs:=dw h;have hsn:=afw row xs j h;have hkey:=λ h0:e=0=>ag5 xs[j] row (hl _ hxm) hr (jm h0 _ hxm);simp only[aZ.av,iT]at hkey;rw[iT]at hy;generalize xs[j]=x at *
  by_cases h0:e=0
  ·subst h0;rw[aw rfl]at kp;have hkey:=hkey rfl;simp[IM,f41,f42,h,f40,hy,Bz,f11,f9];refine aB.pure hkey ?_;simp[aaN,g7];refine aB.of (lH (gQ acc (kF row (xs.take j))) (oV (pH row x.cols)).2 (by rw[Tr.get_put,ai ae,Tr.get_put,ai ae,kp])) λ v K2 n2 ⟨e1,e2,e3,e4⟩=>?_;subst e1 e3;simp[Lr,f42,w,g2,g3,g4,g7,g21,g22,g23,f9,f11,f40,f41];refine⟨_,ae,j+1,rfl,ae,rfl,ae,λ c h1 h2=>?_,?_⟩
   ·rw[e4 c h2,Tr.get_put,ai ae,Tr.get_put,ai ae,hk c h1 h2]
   rw[e2,hsn,<-Bo]
  rw[ai h0]at kp;simp[IM,f41,f42,h,f40,hy,Bz,f11,h0,Lr,w,g2,g3,g4,g7,g21,g22,g23,f9];refine⟨_,ae,j+1,rfl,ae,rfl,ae,λ c h1 h2=>?_,?_⟩
  ·rw[ai ae,ai ae,hk c h1 h2]
  rw[ai ae,ai ae,kp]
 obtain rfl:j=xs.length:=ae;rw[fN (aK _)]at kp;simp[IM,f41,f42];refine k _ _ _ ?_ ?_ ?_ ?_ ?_ ?_ ?_ hn hk kp
 ·simp[g2]
 ·simp[g3]
 ·simp[g4]
 ·simp[g7,f7]
 ·simp[g21]
 ·simp[g22]
 simp[g23]
def vS (s:cn)(t:bK)(rows:List (List Val)):Int:=if sZ s t rows=0 then (if vh s t.id rows then 0 else 160)else sZ s t rows
theorem alo (s:cn)(t:bK)(rows:List (List Val))(hs:s.indexes.length<=aU)(hc:∀x∈s.indexes,x.cols.length<=aU)(hrl:rows.length<=aU)(hv:∀r∈rows,r.length<=aU/\∀v∈r,v.nD)(jm:∀r∈rows,r.length=t.cols.length->∀x∈s.on t.id,qk x.cols r)(lP:∀x∈s.on t.id,x.cols.length<=16)(hfit:∀r∈rows,r.length=t.cols.length):aj pG 41 [kQ.av s,aH.av t,.ds (aJ rows) rows.length 1] (zI (vS s t rows)):=by
 unfold aU at hrl;refine pv c41 λ F hF=>?_;have hon:=axI s hs hc t.id;simp only[aZ.av,fm]at hon;have hsub:∀x∈s.on t.id,x∈s.indexes:=λ x hx=>(mem_filter.1 hx).1;have hlen:(s.on t.id).length<=aU:=wo (length_filter_le _ _) hs;unfold aU at hlen;simp[A41,hF,aZ.av,fm,eK];refine aB.of (Px _ _) λ u K k ⟨e1,e2,e3⟩=>?_;subst e1 e2 e3;simp[aio,hF];refine aE.of (λ q F K n ms=>∃i,q=rows.length - i/\i<=rows.length/\F.get 2=some (.ds (aJ rows) rows.length 1)/\F.get 3=some (.ptr 0 0)/\F.get 4=some (.ptr 1 0)/\F.get 7=some (.fn (.func 165) [] [.ptr 2 0])/\F.get 21=some (.ds (aJ rows) rows.length 1)/\F.get 22=some (zI (rows.length:Int))/\F.get 23=some (zI (i:Int))/\K.get 0=aR 2 [aH.ds s.tables,bp.ds s.indexes]/\K.get 1=aR 4 [.int .u32 t.id,.str t.name,dL.ds t.cols,.int .u32 t.head]/\K.get 2=aR 1 [zI (sZ s t (rows.take i))]/\3<=n/\ms=[]) rows.length ⟨0,ah,ae,by simp[hF],ah,ah,ah,ah,ah,ah,ah,ah,by simp[sZ],ae,rfl⟩ ?_;clear hF F;rintro q F K n ms ⟨i,rfl,hi,f2,f3,f4,f7,f21,f22,f23,k0,k1,k2,n3,rfl⟩
 by_cases h:i<rows.length
 ·have hx:=iQ (k:=.i64) h;have w:=aD i ae;have hrm:rows[i]∈rows:=dw h;obtain⟨h1,h2⟩:=hv rows[i] hrm;have henc:=aq9 t.cols rows[i] h1 h2;have hsn:sZ s t (rows.take (i+1))=gQ (sZ s t (rows.take i)) (CM s t rows[i]):=by unfold sZ;rw[take_snoc h,foldl_append];rfl
  have hin1:=jm rows[i] hrm (hfit _ hrm)
  have hw:CM s t rows[i]=if (wF t.cols rows[i]).2=0 then kF rows[i] (s.on t.id)else (wF t.cols rows[i]).2:=by
   unfold CM
   split
   ·rename_i h0
    have hf0:sK t.cols rows[i]=0:=by
     unfold wF at h0
     split at h0
     ·assumption
     rename_i h;exact ar h0 h
    rw[ag6];intro x hx;exact YN (qM hf0).2.2.2.2 (lP x hx) (hin1 x hx)
   rfl
  generalize sZ s t (rows.take i)=a at *;generalize rows[i]=r at *;simp[adx,f22,f23,h,f21,hx,f4,k1];refine aB.pure henc ?_;simp[ain,f7];refine aB.of (lH a (wF t.cols r).2 k2) λ v K2 m2 ⟨e1,e2,e3,e4⟩=>?_;subst e1 e3;simp[aim,f3,f4,e4 0 ae,e4 1 ae,k0,k1];refine aB.pure hon ?_;simp[aZ.aM];refine afQ r (s.on t.id) hlen (wF t.cols r).2 _ (λ x hx=>hc x (hsub x hx)) h2 (λ _=>hin1) _ _ _ 2 _ (by simp[f7]) ah ah ah ah ah e2 ae λ F' K' n' g2 g3 g4 g7 g21 g22 g23 hn hk kp=>?_;simp[f2,f3,f4,f7,f21,f22,f23]at g2 g3 g4 g7 g21 g22 g23;simp[aaM,g2,g3,g4,g7,g21,g22,g23,w];refine⟨_,ae,i+1,rfl,ae,rfl,?_,?_,?_,ae⟩
  ·rw[hk 0 ae ae,e4 0 ae,k0]
  ·rw[hk 1 ae ae,e4 1 ae,k1]
  rw[kp,hsn,hw]
  split
  ·rename_i h0;rw[h0,Bq]
  rfl
 obtain rfl:i=rows.length:=ae;rw[fN (aK _)]at k2;unfold vS;generalize sZ s t rows=a at *;simp[adx,f22,f23,aaL,f7];refine aB.of (lH a 0 k2) λ v K2 m2 ⟨e1,e2,e3,e4⟩=>?_;subst e1 e3;simp only[Bq]at e2
 by_cases h0:a=0
 ·simp[Lq,h0,aaJ,f3,f4,e4 0 ae,e4 1 ae,k0,k1];refine aB.pure hon ?_;simp[aZ.aM];unfold vh;generalize s.on t.id=xs at *;refine aE.of (λ q F K n ms=>∃j,q=xs.length - j/\j<=xs.length/\F.get 2=some (.ds (aJ rows) rows.length 1)/\F.get 68=some (bp.ds xs)/\F.get 69=some (zI (xs.length:Int))/\F.get 70=some (zI (j:Int))/\(∀x∈xs.take j,x.uniq=true->(fJ x.cols rows).Nodup)/\ms=[]) xs.length ⟨0,ah,ae,by simp[f2],ah,ah,ah,ah,rfl⟩ ?_;clear f2 f3 f4 f7 f21 f22 f23 k0 k1 k2;rintro q F K n ms ⟨j,rfl,hj,f2,f68,f69,f70,hk,rfl⟩
  by_cases h:j<xs.length
  ·have hy:=bp.ix (ik:=.i64) h;have w:=aD j ae;have hxm:xs[j]∈xs:=dw h;have hms:∀x∈xs.take (j+1),x∈xs.take j∨x=xs[j]:=λ x hx=>by rwa [take_snoc h,mem_append,mi]at hx
   have htw:=aeb xs[j] rows (hc _ (hsub _ hxm)) (by unfold aU;omega) λ r hr=>⟨(hv r hr).2,jm r hr (hfit r hr) _ hxm⟩;simp only[aZ.av,iT]at htw;rw[iT]at hy;generalize xs[j]=x at *
   cases hu:x.uniq with
   |false =>
    simp[SY,f69,f70,h,f68,hy,Bz,hu,Lp,w,f2];refine⟨_,ae,j+1,rfl,ae,rfl,λ y hy' hyu=>?_⟩
    rcases hms y hy' with h1|rfl
    ·exact hk y h1 hyu
    rw[hu]at hyu;cases hyu
   |true =>
    rw[hu]at htw;simp[SY,f69,f70,h,f68,hy,Bz,hu,f2];refine aB.pure htw ?_
    by_cases hnd:(fJ x.cols rows).Nodup
    ·simp[hnd,Lp,f70,w,f2,f68,f69];refine⟨_,ae,j+1,rfl,ae,rfl,λ y hy' hyu=>?_⟩
     rcases hms y hy' with h1|rfl
     ·exact hk y h1 hyu
     exact hnd
    have:¬ ∀x∈xs,x.uniq=true->(fJ x.cols rows).Nodup:=λ h1=>hnd (h1 x hxm hu);simp only[ai this];simp[hnd,aaI];exact fp
  obtain rfl:j=xs.length:=ae;rw[fN (aK _)]at hk;simp only[aw hk];simp[SY,f69,f70,aaH];exact fp
 simp[Lq,h0,aaK];exact fp
end Go.Abs
namespace Go.Abs
open List
open Go.Proofs
open Classical
set_option maxRecDepth 100000
variable {α:Type}{k:Nat}
theorem aei {F F2:Fr}{K:Hp}{m:Nat}{va x:AV}{l r cs:List AV}{len sa k sz:Nat}(hF:∀(t:Nat) v,F2.get t=some v->F.get t=some v) (ha:aC K m va (l++x::r) len sa) (h1:0<len) (hx:aC K m x cs k sz) (hz:0<sz) (hcs:aP cs) (hd:∀c,blk va=some c->blk x≠some c):
  ∃h K2,dQ h F K F2 K2/\aC K2 m va (l++.ds cs k sz::r) len sa/\∀c,blk va≠some c->blk x≠some c->K2.get c=K.get c:=by
 have hfz:∀h:Hf,(∀c,blk x=some c->h c=K.get c)->e_ h x (.ds cs k sz):=by
  intro h hh;obtain⟨s',rfl⟩:∃s',sz=s'+1:=⟨sz - 1,ae⟩;obtain⟨h0,⟨rfl,rfl⟩|⟨b,kk,rfl,hb,hk,ho⟩⟩:=hx
  ·have:cs=[]:=by simpa using h0
   subst this;exact .nil _
  obtain⟨u,z,bs,t,rfl,hg⟩:=ho.jN (o:=0) (c:=k*(s'+1)) ae;refine .sl _ _ _ _ _ _ _ _ _ _ ((hh b rfl).trans hk) hg ?_;rw[drop_zero,fN ae];exact bc.pure hcs
 obtain⟨h0,⟨_,h1⟩|⟨b,kb,rfl,hb,hk,ho⟩⟩:=ha
 ·omega
 have hxb:blk x≠some b:=hd b rfl;obtain⟨u,z,bs,t,rfl,hu,hg,hi⟩:=ho
 refine⟨λ c=>if blk x=some c then K.get c else none,(match blk x with
  |some c=>K.put c none
  |none=>K).put b (aR u (l++AV.ds cs k sz::r)),⟨λ c y hc=>?_,λ c hc=>?_,λ t v hv=>⟨v,hF t v hv,.inl rfl⟩,λ c y hc=>?_⟩,⟨by simpa using h0,.inr ⟨b,.cells u [] (l++AV.ds cs k sz::r) .nil,rfl,hb,ah,OwnB.list (by simpa using hu)⟩⟩,λ c h3 h4=>?_⟩
 ·split at hc
  ·exact hc
  cases hc
 ·have hc:(if blk x=some c then K.get c else none)≠none:=hc
  by_cases he:blk x=some c
  ·have hcb:c≠b:=λ e=>hxb (by rw[he,e]);rw[he];simp[hcb]
  simp[he]at hc
 ·by_cases hcb:c=b
  ·subst hcb;simp at hc;subst hc;refine⟨_,hk,.inr ⟨u,z,bs,t,_,rfl,rfl,by simpa using hu.symm,λ i v' hv=>?_⟩⟩
   by_cases hil:i<l.length
   ·rw[getElem?_append_left hil]at hv;exact⟨v',by rw[hg,getElem?_append_left hil];exact hv,.inl rfl⟩
   rw[getElem?_append_right ae]at hv
   rcases Nat.eq_zero_or_pos (i - l.length)with e|e
   ·rw[e]at hv;simp at hv;subst hv;refine⟨x,by rw[hg,getElem?_append_right ae,e];simp,.inr (hfz _ λ c hc=>aw hc)⟩
   obtain⟨j,hj⟩:∃j,i - l.length=j+1:=⟨i - l.length - 1,ae⟩;rw[hj]at hv;simp at hv;exact⟨v',by rw[hg,getElem?_append_right ae,hj];simpa using hv,.inl rfl⟩
  rw[Tr.get_put,ai hcb]at hc;refine⟨y,?_,.inl rfl⟩
  cases hbx:blk x with
  |none=>rw[hbx]at hc;exact hc
  |some d =>
   rw[hbx]at hc;simp only[Tr.get_put]at hc
   split at hc
   ·cases hc
   exact hc
 have hc:c≠b:=λ e=>h3 (by rw[e];rfl);rw[Tr.get_put,ai hc]
 cases hbx:blk x with
 |none=>rfl
 |some d =>
  have:c≠d:=λ e=>h4 (by rw[hbx,e]);simp[this]
end Go.Abs
namespace Go.Abs
open List
open Go.Proofs
open Classical
set_option maxRecDepth 100000
def dx (t:List (List Val)):AV:=.ds (aJ t) t.length 1
def iH:aZ (List (List Val)) 1:=⟨λ t=>[dx t],λ _=>rfl,λ _=>by simp[dx],λ _=>by simp[br,AV.one,dx]⟩
theorem YP (t:List (List Val)):iH.cells t=[dx t]:=rfl
structure pe where
 aL:cn
 rows:List (List (List Val))
def oW:aZ pe 3:=⟨λ w=>[aH.ds w.aL.tables,bp.ds w.aL.indexes,iH.ds w.rows],λ _=>rfl,λ _=>ah,λ _=>by simp[br,AV.one,aZ.ds]⟩
theorem uY (w:pe):oW.cells w=[aH.ds w.aL.tables,bp.ds w.aL.indexes,iH.ds w.rows]:=rfl
def lN (L:List (List Val)):Prop:=∀k,∀h:k+1<L.length,0<=dK L[k+1] (L[k]'ae)
theorem VP (L:List (List Val))(hL:L.length<=aU)(hl:∀l∈L,l.length<=aU):aj pG 39 [dx L,.fn (.func 40) [] []] (.bool (decide (lN L))):=by
 unfold aU at hL hl;refine gW c39 (by simp[dx]) ah (by simp[A39]) λ F hF=>?_;simp[A39,hF,dx];have w0:IntKind.i64.wrap ((L.length:Int) - 1)=(L.length:Int) - 1:=dW _ ae ae;rw[w0];refine aE.of (λ t F K n ms=>∃j:Nat,t=j/\j<=L.length/\F.get 0=some (dx L)/\F.get 1=some (.fn (.func 40) [] [])/\F.get 5=some (zI ((j:Int) - 1))/\(∀k,j<=k+1->∀h:k+1<L.length,0<=dK L[k+1] (L[k]'ae))/\ms=[]) L.length ⟨L.length,ah,ae,by simp[hF,dx],by simp[hF],ah,λ k h1 h2=>ae,rfl⟩ ?_;clear hF F;rintro t F K n ms ⟨j,hj,hjl,f0,f1,f5,hk,rfl⟩;rw[dx]at f0
 by_cases h:2<=j
 ·obtain⟨k,hjk⟩:∃k,j=k+2:=⟨j - 2,ae⟩;subst hjk;have h1:k+1<L.length:=ae;have hx:=iQ (k:=.i64) h1;have hy:=iQ (k:=.i64) (show k<L.length by omega);have ho:=C_ L[k+1] (L[k]'ae) (hl _ (dw _)) (hl _ (dw _));have e5:((k+2:Nat):Int) - 1=((k+1:Nat):Int):=ae;have w1:IntKind.i64.wrap (((k+1:Nat):Int) - 1)=(k:Int):=by rw[dW _ ae ae];omega
  rw[e5]at f5
  have hk1:(0<=dK L[k+1] (L[k]'ae))->∀k',k+1<=k'+1->∀h:k'+1<L.length,0<=dK L[k'+1] (L[k']'ae):=λ h0 k' h2 h3=>by
   by_cases e:k'=k
   ·subst e;exact h0
   exact hk k' ae h3
  have hbad:¬(0<=dK L[k+1] (L[k]'ae))->¬lN L:=λ h0 h2=>h0 (h2 k h1);generalize L[k+1]=a at *;generalize L[k]'ae=b at *;generalize hc:k+1=c at *;have hcp:(0:Int)<(c:Int):=ae;simp[adz,f5,show 0<c by omega];refine bC.of (eh (l:=[(40,[ay a,ay b],λ H n=>.mk (zI (dK a b)) H n)]) ?_) ?_
  ·simp only[mi];rintro y rfl;exact cR ho
  by_cases h0:dK a b<0
  ·have hb:=hbad ae;simp[ab,f0,f1,f5,hx,hy,w1,bX,h0,ait];exact .bool (by simp[hb])
  simp[ab,f0,f1,f5,hx,hy,w1,bX,h0,ais];exact⟨c,ae,ae,by simp[dx],ae,hk1 ae⟩
 simp[adz,f5,show ¬(1:Int)<(j:Int) by omega,air];have:lN L:=λ k h1=>hk k ae h1;exact .bool (by simp[this])
structure pe.gG (w:pe):Prop where
 s:w.aL.gG
 g:w.aL.nD
 l:w.rows.length<=aU
 t:∀t∈w.rows,t.length<=aU
 r:∀t∈w.rows,∀r∈t,r.length<=aU/\∀v∈r,v.nD
structure KH (s:cn)(t:bK)(L:List (List Val)):Prop where
 len:L.length<=4096
 w:sZ s t L=0
 oK:lN L
 uq:vh s t.id L
structure fW (w:pe):Prop where
 s:eW w.aL
 l:w.rows.length=w.aL.tables.length
 t:∀i (h1:i<w.rows.length) (h2:i<w.aL.tables.length),KH w.aL w.aL.tables[i] w.rows[i]
theorem XS (a b:Int):gQ a b=0↔a=0/\b=0:=by
 unfold gQ
 by_cases h1:a=0<;>by_cases h2:b=0<;>simp[h1,h2]
 omega
theorem Ci (s:cn)(t:bK)(L:List (List Val)):sZ s t L=0↔∀r∈L,CM s t r=0:=by
 have key:∀(L:List (List Val)) (a:Int),L.foldl (λ a r=>gQ a (CM s t r)) a=0↔a=0/\∀r∈L,CM s t r=0:=by
  intro L
  induction L with
  |nil=>intro a;simp
  |cons r L ih=>intro a;simp only[foldl_cons,ih,XS,mem_cons,forall_eq_or_imp,and_assoc]
 unfold sZ;rw[key];simp
theorem Gu {s:cn}{t:bK}{r:List Val}(h:CM s t r=0):sK t.cols r=0:=by
 unfold CM at h
 split at h
 ·rename_i h0;unfold wF at h0
  split at h0
  ·assumption
  rename_i h;exact ar h0 h
 rename_i h0;exact ar h h0
theorem eW.tbl {s:cn}(h:eW s)(hg:s.nD){t:bK}(ht:t∈s.tables):(s.table t.id).1=t:=by
 have ha:=(rI s.tables hg.t).1 h.tabs;obtain⟨i,hi,rfl⟩:=getElem_of_mem ht;unfold cn.table fU
 have e:s.tables.find? (λ u:bK=>decide (u.id=s.tables[i].id))=some s.tables[i]:=by
  rw[find?_eq_some_iff_getElem];refine⟨ah,i,hi,rfl,λ j hj=>?_⟩;have:=((ha i) hi).2.2.2 j hj;simp;omega
 rw[e]
theorem eW.on {s:cn}(h:eW s)(hg:s.nD){t:bK}(ht:t∈s.tables){x:pf}(hx:x∈s.on t.id):fX t x.cols:=by
 obtain⟨h1,h2⟩:=mem_filter.1 hx;simp at h2;obtain⟨i,hi,rfl⟩:=getElem_of_mem h1;have:=(h.ixs i hi).cols;rw[h2,h.tbl hg ht]at this;exact this
theorem fX.alU {t:bK}{l:List Int}(h:fX t l){r:List Val}(hr:r.length=t.cols.length):qk l r:=by
 intro c hc;obtain⟨i,hi,rfl⟩:=getElem_of_mem hc;have:=h.2.2 i hi;exact⟨this.1,by rw[hr];exact this.2.1⟩
structure RowsFit (s:cn)(t:bK)(L:List (List Val)):Prop where
 jm:∀r∈L,r.length=t.cols.length->∀x∈s.on t.id,qk x.cols r
 lP:∀x∈s.on t.id,x.cols.length<=16
theorem eW.rows {s:cn}(h:eW s)(hg:s.nD){t:bK}(ht:t∈s.tables)(L:List (List Val)):RowsFit s t L:=
 ⟨λ _ _ hr _ hx=>(h.on hg ht hx).alU hr,λ _ hx=>(h.on hg ht hx).2.1⟩
theorem nW (s:cn)(t:bK)(L:List (List Val)):vS s t L=0↔sZ s t L=0/\vh s t.id L:=by
 unfold vS
 by_cases h1:sZ s t L=0<;>by_cases h2:vh s t.id L<;>simp[h1,h2]
end Go.Abs
