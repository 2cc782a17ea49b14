/- A part. -/
import Derived.Test.YtbdgioomddkglaaGreatBt6
noncomputable section
namespace Go.Abs
open List
open Go.Proofs
open Classical
set_option maxRecDepth 100000
def yesV (b:Bool):Val:=⟨3,if b then 1 else 0,[]⟩
def kOk (k:Int)(v:Val):Bool:=decide (v.kind=0)||decide (v.kind=k)
def fitA (k:Int)(l:List Val):Int:=if l.all Val.may then (if l.all (kOk k)then 0 else 30)else 5
def vRes (r:Val×Int):AV:=.tup [r.1.av,.int .i64 r.2]
@[simp] theorem vRes_pure (r:Val×Int):Pure (vRes r):=by simp[vRes]
theorem yes169 (b:Bool):FnPure pG 169 [.bool b] (yesV b).av:=by
 refine pureV c169 (by simp) (by simp) (by simp[A169]) λ F hF=>?_;cases b
 ·simp[A169,B169,R169_0,R169_1,R169_3,hF];exact .pure _ (by simp)
 simp[A169,B169,R169_0,R169_1,R169_2,hF];exact .pure _ (by simp)
theorem truth141 (b:Bool):FnPure pG 141 [.bool b] (yesV b).av:=by
 refine pureV c141 (by simp) (by simp) (by simp[A141]) λ F hF=>?_;cases b
 ·simp[A141,B141,R141_0,R141_1,R141_2,R141_4,hF];exact .pure _ (by simp)
 simp[A141,B141,R141_0,R141_1,R141_2,R141_3,R141_4,hF];exact .pure _ (by simp)
theorem all_snoc (p:Val->Bool)(l:List Val)(i:Nat)(h:i<l.length)(h0:(l.take i).all p=true):(l.take (i+1)).all p=p l[i]:=by
 rw[take_snoc h,all_append,h0];simp
theorem all_no (p:Val->Bool)(l:List Val)(i:Nat)(h:i<l.length)(h0:p l[i]=false):l.all p=false:=by
 rw[all_eq_false];exact⟨l[i],getElem_mem h,by simp[h0]⟩
theorem all168 (k:Int) (l:List Val) (hl:l.length<=lim):FnPure pG 168 [.int .i64 k,rowAV l] (.int .i64 (fitA k l)):=by
 unfold lim at hl;refine pureV c168 (by simp) (by simp) (by simp[A168]) λ F hF=>?_;simp[A168,B168,R168_0,R168_1,hF,rowAV];refine LoopV.of (λ t F K n ms=>∃i,t=l.length - i/\i<=l.length/\F.get 0=some (.int .i64 k)/\F.get 1=some (rowAV l)/\F.get 9=some (rowAV l)/\F.get 10=some (.int .i64 (l.length:Int))/\F.get 11=some (.int .i64 (i:Int))/\(l.take i).all Val.may=true/\ms=[]) l.length ⟨0,by simp[hF,rowAV]⟩ ?_;clear hF F;rintro t F K n ms ⟨i,rfl,hi,f0,f1,f9,f10,f11,ha,rfl⟩;rw[rowAV]at f1 f9
 by_cases h:i<l.length
 ·have hx:=ixa_val (k:=.i64) h;have w:=wrap_nat i (by omega);have hs:=all_snoc Val.may l i h ha;have hn:=all_no Val.may l i h;generalize l[i]=v at *;have hm:=may52 v;simp only[Val.av]at hm;simp[L168_0,R168_2,f10,f11,h,R168_3,f9,hx,ld_val,Val.av,R168_4];refine CalV.pure hm ?_
  cases hv:v.may with
  | true =>
   simp[R168_6,f11,w,f0,f1,f9,f10];exact⟨_,by omega,i+1,rfl,by omega,by simp[rowAV],rfl,by rw[hv]at hs;simpa using hs⟩
  | false =>
   have e:fitA k l=5:=by unfold fitA;rw[hn hv];rfl
   simp[R168_5,e];exact .pure _ (by simp)
 obtain rfl:i=l.length:=by omega
 rw[take_of_length_le (Nat.le_refl _)]at ha;have hall:=ha;simp[L168_0,R168_2,f10,f11,R168_7,f1];refine LoopV.of (λ t F K n ms=>∃i,t=l.length - i/\i<=l.length/\F.get 0=some (.int .i64 k)/\F.get 19=some (rowAV l)/\F.get 20=some (.int .i64 (l.length:Int))/\F.get 21=some (.int .i64 (i:Int))/\(l.take i).all (kOk k)=true/\ms=[]) l.length ⟨0,by simp[f0,rowAV]⟩ ?_;clear f0 f1 f9 f10 f11 F;rintro t F K n ms ⟨i,rfl,hi,f0,f19,f20,f21,ha,rfl⟩;rw[rowAV]at f19
 by_cases h:i<l.length
 ·have hx:=ixa_val (k:=.i64) h;have w:=wrap_nat i (by omega);have hs:=all_snoc (kOk k) l i h ha;have hn:=all_no (kOk k) l i h;generalize l[i]=v at *
  by_cases h0:v.kind=0
  ·have hk:kOk k v=true:=by simp[kOk,h0]
   simp[L168_1,R168_8,f20,f21,h,R168_9,f19,hx,ld_val,Val.av,R168_10,h0,R168_12,w,f0];exact⟨_,by omega,i+1,rfl,by omega,by simp[rowAV],rfl,by rw[hk]at hs;simpa using hs⟩
  by_cases h1:v.kind=k
  ·have hk:kOk k v=true:=by simp[kOk,h1]
   simp[L168_1,R168_8,f20,f21,h,R168_9,f19,hx,ld_val,Val.av,R168_10,h0,h1,R168_12,w,f0];simp[h1]at h0;simp[h0,R168_12,f19,f21,w,f0,f20];exact⟨_,by omega,i+1,rfl,by omega,by simp[rowAV],rfl,by rw[hk]at hs;simpa using hs⟩
  have hk:kOk k v=false:=by simp[kOk,h0,h1]
  have e:fitA k l=30:=by unfold fitA;rw[hall,hn hk];rfl
  simp[e,L168_1,R168_8,f20,f21,h,R168_9,f19,hx,ld_val,Val.av,R168_10,h0,h1,R168_11,f0];exact .pure _ (by simp)
 obtain rfl:i=l.length:=by omega
 rw[take_of_length_le (Nat.le_refl _)]at ha;have e:fitA k l=0:=by unfold fitA;rw[hall,ha];rfl
 simp[e,L168_1,R168_8,f20,f21,R168_13];exact .pure _ (by simp)
theorem frzV1 {H:Hp}{b:Nat}{a:Val}(h:H.get b=some (.cells 3 [] a.cells .nil)):Frz H.get (.sl b 0 1 3) (rowAV [a]):=by
 have:=OwnS.frz (H:=H) (n:=b+1) (v:=.sl b 0 1 3) (l:=eVal.l [a]) (len:=1) (sz:=3) ⟨by simp,.inr ⟨b,_,rfl,by omega,h,OwnB.list (l:=eVal.l [a]) (by simp)⟩⟩ (.pure (by simp));rw[eVal_l]at this;exact this
theorem frzV2 {H:Hp}{b:Nat}{a c:Val}(h:H.get b=some (.cells 6 [] (a.cells++c.cells) .nil)):Frz H.get (.sl b 0 2 3) (rowAV [a,c]):=by
 have:=OwnS.frz (H:=H) (n:=b+1) (v:=.sl b 0 2 3) (l:=eVal.l [a,c]) (len:=2) (sz:=3) ⟨by simp,.inr ⟨b,_,rfl,by omega,h,OwnB.list (l:=eVal.l [a,c]) (by simp)⟩⟩ (.pure (by simp));rw[eVal_l]at this;exact this
def reckS (a b:Val)(r:Int×Bool):Val×Int:=if fitA 1 [a,b]≠0∨a.kind=0∨b.kind=0 then (valZ,fitA 1 [a,b])else if r.2=true then (⟨1,r.1,[]⟩,0)else (valZ,31)
theorem reck166 (a b:Val) (g:FuncId) (r:Int×Bool) (h:fitA 1 [a,b]=0->a.kind≠0->b.kind≠0->FnPure pG g [.int .i64 a.num,.int .i64 b.num] (.tup [.int .i64 r.1,.bool r.2])):FnPure pG 166 [a.av,b.av,.fn (.func g) [] []] (vRes (reckS a b r)):=by
 refine pureV c166 (by simp) (by simp) (by simp[A166]) λ F hF=>?_;have hall:=all168 1 [a,b] (by simp[lim]);unfold reckS;generalize fitA 1 [a,b]=e at *;simp[A166,B166,R166_0,R166_1,hF,Val.av,rep];refine CalV.frz hall (by simp) (.cons _ _ _ _ (.pure _ (by simp)) (.cons _ _ _ _ (frzV2 (a:=a) (c:=b) (by simp[Val.cells])) .nil)) ?_
 by_cases h0:e=0
 ·by_cases ha:a.kind=0
  ·simp[R166_2,h0,ha,R166_3];exact .pure _ (by simp)
  by_cases hb:b.kind=0
  ·simp[R166_2,h0,ha,hb,R166_3];exact .pure _ (by simp)
  simp[R166_2,h0,ha,hb,R166_4,hF];refine CalV.pure (h h0 ha hb) ?_
  cases hr:r.2 with
  | true=>simp[R166_5,R166_7];exact .pure _ (by simp)
  | false=>simp[R166_5,R166_6];exact .pure _ (by simp)
 simp[R166_2,h0,R166_3];exact .pure _ (by simp)
def cmpdS (a b:Val)(r:Bool):Val×Int:=if ¬(a.may=true/\b.may=true)then (valZ,5)else if a.kind=0∨b.kind=0 then (valZ,0)else if a.kind≠b.kind then (valZ,30)else (yesV r,0)
theorem comp201 (a b:Val) (g:FuncId) (r:Bool) (h:FnPure pG g [.int .i64 (a.ord b)] (.bool r)):FnPure pG 201 [a.av,b.av,.fn (.func g) [] []] (vRes (cmpdS a b r)):=by
 refine pureV c201 (by simp) (by simp) (by simp[A201]) λ F hF=>?_;have ha:=may52 a;have hb:=may52 b;have ho:=order21 a b;unfold cmpdS;simp only[Val.av]at ha hb ho;simp[A201,B201,R201_0,R201_1,hF,Val.av];refine CalV.pure ha ?_
 cases hma:a.may with
 | false=>simp[R201_2];exact .pure _ (by simp)
 | true =>
  simp;refine CalV.pure hb ?_
  cases hmb:b.may with
  | false=>simp[R201_2];exact .pure _ (by simp)
  | true =>
   by_cases h1:a.kind=0
   ·simp[R201_3,h1,R201_4];exact .pure _ (by simp)
   by_cases h2:b.kind=0
   ·simp[R201_3,h1,h2,R201_4];exact .pure _ (by simp)
   by_cases h3:a.kind=b.kind
   ·simp[R201_3,h1,h2,R201_5,h3,R201_7,hF];simp only[h3]at ho h1;refine CalV.pure ho ?_;simp;refine CalV.pure h ?_;simp;refine CalV.pure (yes169 r) ?_;simp[Val.av];exact .pure _ (by simp)
   simp[R201_3,h1,h2,R201_5,h3,R201_6];exact .pure _ (by simp)
def opC (c f:FuncId):CF:={res:=[rCelN 4 3,rTmp 5],code:=.seq (.reg [oP (pdT 2) (eBox (slotG 0)),oP (pdT 3) (eBox (slotG 1)),oP (pdT 4) (eAlloc [(.int .i64 0),(.int .i64 0),(.str [])] 3),oP (pdT 5) (eMov (constG (.int .i64 0)))]) (.seq (.reg [oP (pdT 6) (eLoadN 3 (slotG 2)),oP (pdT 7) (eLoadN 3 (slotG 3)),cP (pdT 8) c [(slotG 6),(slotG 7),(constG (.fn (.func f) [] []))],oP (pdT 9) (e1 (cExt 0) (slotG 8)),oP (pdT 10) (e1 (cExt 1) (slotG 8)),oP pdN (eStore 3 (slotG 4) (slotG 9)),oP (pdT 5) (eMov (slotG 10))]) .ret),nt:=11}
theorem op_ok {g c f:FuncId}(hc:ctF pG g=some (opC c f)){a b:Val}{r:Val×Int}(h:FnPure pG c [a.av,b.av,.fn (.func f) [] []] (vRes r)):FnPure pG g [a.av,b.av] (vRes r):=by
 refine pureV hc (by simp) (by simp) (by simp[opC]) λ F hF=>?_;simp only[Val.av]at h;simp[opC,hF,Val.av];refine CalV.pure h ?_;simp[vRes,Val.av];exact .pure _ (by simp)
def w64 (x:Int):Int:=IntKind.i64.wrap x
def leastI:Int := -9223372036854775808
def addF (x y:Int):Int×Bool:=(w64 (x+y),(decide (x<0) != decide (y<0))||(decide (w64 (x+y)<0) == decide (x<0)))
def subF (x y:Int):Int×Bool:=(w64 (x - y),(decide (x<0) == decide (y<0))||(decide (w64 (x - y)<0) == decide (x<0)))
def mulF (x y:Int):Int×Bool:=if x=0∨y=0 then (0,true)else (w64 (x*y),!((decide (x = -1)&&decide (y=leastI))||(decide (y = -1)&&decide (x=leastI)))&&decide (w64 ((w64 (x*y)).tdiv y)=x))
def divF (x y:Int):Int×Bool:=if x=leastI/\y = -1 then (0,false)else (w64 (x.tdiv y),true)
def modF (x y:Int):Int×Bool:=if y = -1 then (0,true)else (x.tmod y,true)
def negF (y:Int):Int×Bool:=(w64 (-y),decide (y≠leastI))
theorem cArith_quo (k:IntKind)(a b:Int)(h:b≠0):cArith .quo k a b=.val (.int k (k.wrap (a.tdiv b))):=by simp only[cArith,vint_eq];rw[if_neg h]
theorem cArith_rem (k:IntKind)(a b:Int)(h:b≠0):cArith .rem k a b=.val (.int k (a.tmod b)):=by simp only[cArith,vint_eq];rw[if_neg h]
theorem add196 (x y:Int):FnPure pG 196 [.int .i64 x,.int .i64 y] (.tup [.int .i64 (addF x y).1,.bool (addF x y).2]):=by
 refine pureV c196 (by simp) (by simp) (by simp[A196]) λ F hF=>?_;unfold addF w64
 by_cases h1:x<0<;>by_cases h2:y<0<;>by_cases h3:IntKind.i64.wrap (x+y)<0 <;>
 ·simp[A196,B196,R196_0,R196_1,R196_2,hF,h1,h2,h3,cEq,eqVal];exact .pure _ (by simp)
theorem sub197 (x y:Int):FnPure pG 197 [.int .i64 x,.int .i64 y] (.tup [.int .i64 (subF x y).1,.bool (subF x y).2]):=by
 refine pureV c197 (by simp) (by simp) (by simp[A197]) λ F hF=>?_;unfold subF w64
 by_cases h1:x<0<;>by_cases h2:y<0<;>by_cases h3:IntKind.i64.wrap (x - y)<0 <;>
 ·simp[A197,B197,R197_0,R197_1,R197_2,hF,h1,h2,h3,cEq,eqVal];exact .pure _ (by simp)
theorem mul198 (x y:Int):FnPure pG 198 [.int .i64 x,.int .i64 y] (.tup [.int .i64 (mulF x y).1,.bool (mulF x y).2]):=by
 refine pureV c198 (by simp) (by simp) (by simp[A198]) λ F hF=>?_;unfold mulF w64 leastI
 by_cases h1:x=0
 ·simp[A198,B198,R198_0,R198_1,R198_2,hF,h1];exact .pure _ (by simp)
 by_cases h2:y=0
 ·simp[A198,B198,R198_0,R198_1,R198_2,hF,h1,h2];exact .pure _ (by simp)
 simp[A198,B198,R198_0,R198_1,R198_3,R198_4,hF,h1,h2];refine DrwV.of (ce0_ok (P:=pG)) ?_
 by_cases h3:x = -1<;>by_cases h4:y = -9223372036854775808<;>by_cases h5:y = -1<;>by_cases h6:x = -9223372036854775808 <;>
 first
 | omega
 | (simp[clearF_get,hF,h3,h4,h5,h6,h1,h2,cArith_quo];exact .pure _ (by simp))
theorem div199 (x y:Int)(h0:y≠0):FnPure pG 199 [.int .i64 x,.int .i64 y] (.tup [.int .i64 (divF x y).1,.bool (divF x y).2]):=by
 refine pureV c199 (by simp) (by simp) (by simp[A199]) λ F hF=>?_;unfold divF w64 leastI
 by_cases h1:x = -9223372036854775808
 ·by_cases h2:y = -1
  ·simp[A199,B199,R199_0,R199_1,R199_2,hF,h1,h2];exact .pure _ (by simp)
  simp[A199,B199,R199_0,R199_1,R199_3,hF,h1,h2,h0,cArith_quo];exact .pure _ (by simp)
 simp[A199,B199,R199_0,R199_1,R199_3,hF,h1,h0,cArith_quo];exact .pure _ (by simp)
theorem mod200 (x y:Int)(h0:y≠0):FnPure pG 200 [.int .i64 x,.int .i64 y] (.tup [.int .i64 (modF x y).1,.bool (modF x y).2]):=by
 refine pureV c200 (by simp) (by simp) (by simp[A200]) λ F hF=>?_;unfold modF
 by_cases h1:y = -1
 ·simp[A200,B200,R200_0,R200_1,R200_2,hF,h1];exact .pure _ (by simp)
 simp[A200,B200,R200_0,R200_1,R200_3,hF,h1,h0,cArith_rem];exact .pure _ (by simp)
theorem neg167 (x y:Int):FnPure pG 167 [.int .i64 x,.int .i64 y] (.tup [.int .i64 (negF y).1,.bool (negF y).2]):=by
 refine pureV c167 (by simp) (by simp) (by simp[A167]) λ F hF=>?_;unfold negF w64 leastI;have n1:cUn .neg (.int .i64 y)=.val (.int .i64 (IntKind.i64.wrap (-y))):=by simp only[cUn,vint_eq,Int.zero_sub]
 by_cases h1:y = -9223372036854775808
 ·subst h1;simp[A167,B167,R167_0,R167_1,hF,n1];exact .pure _ (by simp)
 simp[A167,B167,R167_0,R167_1,hF,n1,h1];exact .pure _ (by simp)
theorem eq202 (c:Int):FnPure pG 202 [.int .i64 c] (.bool (decide (c=0))):=by
 refine pureV c202 (by simp) (by simp) (by simp[A202]) λ F hF=>?_;simp[A202,B202,R202_0,R202_1,hF];exact .bool (by simp)
theorem ne203 (c:Int):FnPure pG 203 [.int .i64 c] (.bool (decide (c≠0))):=by
 refine pureV c203 (by simp) (by simp) (by simp[A203]) λ F hF=>?_;simp[A203,B203,R203_0,R203_1,hF];exact .bool (by simp)
theorem lt204 (c:Int):FnPure pG 204 [.int .i64 c] (.bool (decide (c<0))):=by
 refine pureV c204 (by simp) (by simp) (by simp[A204]) λ F hF=>?_;simp[A204,B204,R204_0,R204_1,hF];exact .bool (by simp)
theorem le205 (c:Int):FnPure pG 205 [.int .i64 c] (.bool (decide (c<=0))):=by
 refine pureV c205 (by simp) (by simp) (by simp[A205]) λ F hF=>?_;simp[A205,B205,R205_0,R205_1,hF];exact .bool (by simp)
theorem gt206 (c:Int):FnPure pG 206 [.int .i64 c] (.bool (decide (0<c))):=by
 refine pureV c206 (by simp) (by simp) (by simp[A206]) λ F hF=>?_;simp[A206,B206,R206_0,R206_1,hF];exact .bool (by simp)
theorem ge207 (c:Int):FnPure pG 207 [.int .i64 c] (.bool (decide (0<=c))):=by
 refine pureV c207 (by simp) (by simp) (by simp[A207]) λ F hF=>?_;simp[A207,B207,R207_0,R207_1,hF];exact .bool (by simp)
theorem Add170 (a b:Val):FnPure pG 170 [a.av,b.av] (vRes (reckS a b (addF a.num b.num))):=op_ok c170 (reck166 a b 196 _ λ _ _ _=>add196 _ _)
theorem Sub171 (a b:Val):FnPure pG 171 [a.av,b.av] (vRes (reckS a b (subF a.num b.num))):=op_ok c171 (reck166 a b 197 _ λ _ _ _=>sub197 _ _)
theorem Mul172 (a b:Val):FnPure pG 172 [a.av,b.av] (vRes (reckS a b (mulF a.num b.num))):=op_ok c172 (reck166 a b 198 _ λ _ _ _=>mul198 _ _)
theorem Eq176 (a b:Val):FnPure pG 176 [a.av,b.av] (vRes (cmpdS a b (decide (a.ord b=0)))):=op_ok c176 (comp201 a b 202 _ (eq202 _))
theorem Ne177 (a b:Val):FnPure pG 177 [a.av,b.av] (vRes (cmpdS a b (decide (a.ord b≠0)))):=op_ok c177 (comp201 a b 203 _ (ne203 _))
theorem Lt178 (a b:Val):FnPure pG 178 [a.av,b.av] (vRes (cmpdS a b (decide (a.ord b<0)))):=op_ok c178 (comp201 a b 204 _ (lt204 _))
theorem Le179 (a b:Val):FnPure pG 179 [a.av,b.av] (vRes (cmpdS a b (decide (a.ord b<=0)))):=op_ok c179 (comp201 a b 205 _ (le205 _))
theorem Gt180 (a b:Val):FnPure pG 180 [a.av,b.av] (vRes (cmpdS a b (decide (0<a.ord b)))):=op_ok c180 (comp201 a b 206 _ (gt206 _))
theorem Ge181 (a b:Val):FnPure pG 181 [a.av,b.av] (vRes (cmpdS a b (decide (0<=a.ord b)))):=op_ok c181 (comp201 a b 207 _ (ge207 _))
def divS (a b:Val)(r:Int×Bool):Val×Int:=if fitA 1 [a,b]=0/\a.kind≠0/\b.kind≠0/\b.num=0 then (valZ,32)else reckS a b r
def divC (f:FuncId):CF:={A173 with code:=.seq R173_0 (.seq (.seq R173_1 (.cond (slotG 25) (.seq R173_2 .ret) .skip)) (.seq (.reg [oP (pdT 27) (eLoadN 3 (slotG 2)),oP (pdT 28) (eLoadN 3 (slotG 3)),cP (pdT 29) 166 [(slotG 27),(slotG 28),(constG (.fn (.func f) [] []))],oP (pdT 30) (e1 (cExt 0) (slotG 29)),oP (pdT 31) (e1 (cExt 1) (slotG 29)),oP pdN (eStore 3 (slotG 4) (slotG 30)),oP (pdT 5) (eMov (slotG 31))]) .ret))}
theorem div_ok {g f:FuncId}(hc:ctF pG g=some (divC f)){a b:Val}{r:Int×Bool}(h:b.num≠0->FnPure pG f [.int .i64 a.num,.int .i64 b.num] (.tup [.int .i64 r.1,.bool r.2])):FnPure pG g [a.av,b.av] (vRes (divS a b r)):=by
 refine pureV hc (by simp) (by simp) (by simp[divC,A173]) λ F hF=>?_;have hall:=all168 1 [a,b] (by simp[lim]);have hr:=λ h0=>reck166 a b f r λ _ _ _=>h h0;have hr2:fitA 1 [a,b]≠0∨a.kind=0∨b.kind=0->FnPure pG 166 [a.av,b.av,.fn (.func f) [] []] (vRes (reckS a b r)):=λ h1=>reck166 a b f r λ x y z=>by rcases h1 with h1 | h1 | h1<;>contradiction
 unfold divS;simp only[Val.av]at hr hr2;generalize reckS a b r=q at *;generalize fitA 1 [a,b]=e at *;simp[divC,R173_0,R173_1,hF,Val.av,rep];refine CalV.frz hall (by simp) (.cons _ _ _ _ (.pure _ (by simp)) (.cons _ _ _ _ (frzV2 (a:=a) (c:=b) (by simp[Val.cells])) .nil)) ?_
 by_cases h0:e=0
 ·by_cases ha:a.kind=0
  ·simp only[ha]at hr2;simp[h0,ha];refine CalV.pure (hr2 (.inr (.inl trivial))) ?_;simp[A173,vRes,Val.av];exact .pure _ (by simp)
  by_cases hb:b.kind=0
  ·simp only[hb]at hr2;simp[h0,ha,hb];refine CalV.pure (hr2 (.inr (.inr trivial))) ?_;simp[A173,vRes,Val.av];exact .pure _ (by simp)
  by_cases hn:b.num=0
  ·simp[h0,ha,hb,hn,R173_2,A173,vRes,Val.av];exact .pure _ (by simp)
  simp[h0,ha,hb,hn];refine CalV.pure (hr hn) ?_;simp[A173,vRes,Val.av];exact .pure _ (by simp)
 simp[h0];refine CalV.pure (hr2 (.inl h0)) ?_;simp[A173,vRes,Val.av];exact .pure _ (by simp)
theorem Div173 (a b:Val):FnPure pG 173 [a.av,b.av] (vRes (divS a b (divF a.num b.num))):=div_ok c173 λ h=>div199 _ _ h
theorem Mod174 (a b:Val):FnPure pG 174 [a.av,b.av] (vRes (divS a b (modF a.num b.num))):=div_ok c174 λ h=>mod200 _ _ h
def oneV:Val:=⟨1,0,[]⟩
theorem Neg139 (a:Val):FnPure pG 139 [a.av] (vRes (reckS oneV a (negF a.num))):=by
 refine pureV c139 (by simp) (by simp) (by simp[A139]) λ F hF=>?_;have h:=reck166 oneV a 167 _ λ _ _ _=>neg167 0 a.num;generalize reckS oneV a (negF a.num)=q at *;simp only[Val.av,oneV]at h;simp[A139,B139,R139_0,R139_1,hF,Val.av];refine CalV.pure h ?_;simp[vRes,Val.av];exact .pure _ (by simp)
def notS (a:Val):Val×Int:=if fitA 3 [a]≠0∨a.kind=0 then (valZ,fitA 3 [a])else (yesV (decide (a.num=0)),0)
theorem Not140 (a:Val):FnPure pG 140 [a.av] (vRes (notS a)):=by
 refine pureV c140 (by simp) (by simp) (by simp[A140]) λ F hF=>?_;have hall:=all168 3 [a] (by simp[lim]);unfold notS;generalize fitA 3 [a]=e at *;simp[A140,B140,R140_0,R140_1,hF,Val.av,rep];refine CalV.frz hall (by simp) (.cons _ _ _ _ (.pure _ (by simp)) (.cons _ _ _ _ (frzV1 (a:=a) (by simp[Val.cells])) .nil)) ?_
 by_cases h0:e=0
 ·by_cases ha:a.kind=0
  ·simp[R140_2,h0,ha,R140_3];exact .pure _ (by simp)
  simp[R140_2,h0,ha,R140_4];refine CalV.pure (yes169 _) ?_;simp[Val.av];exact .pure _ (by simp)
 simp[R140_2,h0,R140_3];exact .pure _ (by simp)
def joinS (a b:Val):Val×Int:=if fitA 2 [a,b]≠0∨a.kind=0∨b.kind=0 then (valZ,fitA 2 [a,b])else if a.s.length+b.s.length<=64 then (⟨2,0,a.s++b.s⟩,0)else (valZ,3)
theorem fit_may {k:Int}{a b:Val}(h:fitA k [a,b]=0):a.may=true/\b.may=true/\kOk k a=true/\kOk k b=true:=by
 unfold fitA at h
 split at h
 ·rename_i h1
  split at h
  ·rename_i h2;simp at h1 h2;exact⟨h1.1,h1.2,h2.1,h2.2⟩
  omega
 omega
theorem Join175 (a b:Val):FnPure pG 175 [a.av,b.av] (vRes (joinS a b)):=by
 refine pureV c175 (by simp) (by simp) (by simp[A175]) λ F hF=>?_;have hall:=all168 2 [a,b] (by simp[lim]);have hfm:=fit_may (k:=2) (a:=a) (b:=b);unfold joinS;generalize fitA 2 [a,b]=e at *;simp[A175,B175,R175_0,R175_1,hF,Val.av,rep];refine CalV.frz hall (by simp) (.cons _ _ _ _ (.pure _ (by simp)) (.cons _ _ _ _ (frzV2 (a:=a) (c:=b) (by simp[Val.cells])) .nil)) ?_
 by_cases h0:e=0
 ·by_cases ha:a.kind=0
  ·simp[R175_2,h0,ha,R175_3];exact .pure _ (by simp)
  by_cases hb:b.kind=0
  ·simp[R175_2,h0,ha,hb,R175_3];exact .pure _ (by simp)
  obtain⟨m1,m2,m3,m4⟩:=hfm h0;have l1:a.s.length<=64:=Val.may_len m1 (by simpa[kOk,ha]using m3);have l2:b.s.length<=64:=Val.may_len m2 (by simpa[kOk,hb]using m4);have ws:IntKind.i64.wrap ((a.s.length:Int)+(b.s.length:Int))=((a.s.length+b.s.length:Nat):Int):=by rw[wrap_sm _ (by omega) (by omega)];omega
  by_cases hl:a.s.length+b.s.length<=64
  ·have hcat:cAdd (.str a.s) (.str b.s)=.val (.str (a.s++b.s)):=cAdd_str (by unfold big;omega);simp[R175_2,h0,ha,hb,R175_4,ws,show ¬(64:Int)<(a.s.length:Int)+(b.s.length:Int) by omega,R175_6,hcat,hl];exact .pure _ (by simp)
  simp[R175_2,h0,ha,hb,R175_4,ws,show (64:Int)<(a.s.length:Int)+(b.s.length:Int) by omega,R175_5,hl];exact .pure _ (by simp)
 simp[R175_2,h0,R175_3];exact .pure _ (by simp)
def bothS (c:Bool)(a b:Val):Val×Int:=if fitA 3 [a,b]≠0 then (valZ,fitA 3 [a,b])else if a=yesV c∨b=yesV c then (yesV c,0)else if a.kind=0∨b.kind=0 then (valZ,0)else (yesV (!c),0)
def bothC (c:Bool):CF:={A182 with code:=.seq R182_0 (.seq (.seq R182_1 (.seq R182_2 (.cond (slotG 13) (.seq R182_3 .ret) .skip))) (.seq (.reg [cP (pdT 16) 169 [(constG (.bool c))],oP (pdT 7) (eAlloc [(.int .i64 0),(.int .i64 0),(.str [])] 3),oP pdN (eStore 3 (slotG 7) (slotG 16))]) (.seq (.block 0 (.seq R182_5 (.cond (slotG 17) (.seq R182_6 .ret) (.seq R182_7 (.cond (slotG 27) (.seq R182_8 .ret) .skip))))) (.seq (.reg [cP (pdT 37) 169 [(constG (.bool (!c)))],oP pdN (eStore 3 (slotG 4) (slotG 37)),oP (pdT 5) (eMov (constG (.int .i64 0)))]) .ret))))}
theorem both_ok {g:FuncId}(c:Bool) (hc:ctF pG g=some (bothC c)) (a b:Val):FnPure pG g [a.av,b.av] (vRes (bothS c a b)):=by
 refine pureV hc (by simp) (by simp) (by simp[bothC,A182]) λ F hF=>?_;have hall:=all168 3 [a,b] (by simp[lim])
 have ey:∀(v:Val),cEqA false [.i,.i,.s] (.agg [.int .i64 v.kind,.int .i64 v.num,.str v.s] 3) (.agg [.int .i64 (yesV c).kind,.int .i64 (yesV c).num,.str (yesV c).s] 3)=.val (.bool (decide (v=yesV c))):=λ v=>by
  have:=eqA_val false v (yesV c);simpa[Val.av]using this
 unfold bothS;generalize fitA 3 [a,b]=e at *;have y1:=yes169 c;have y2:=yes169 (!c);generalize yesV c=y at *;generalize yesV (!c)=y' at *;simp only[Val.av]at y1 y2;simp[bothC,R182_0,R182_1,hF,Val.av,rep];refine CalV.frz hall (by simp) (.cons _ _ _ _ (.pure _ (by simp)) (.cons _ _ _ _ (frzV2 (a:=a) (c:=b) (by simp[Val.cells])) .nil)) ?_
 by_cases h0:e=0
 ·simp[R182_2,h0];refine CalV.pure y1 ?_
  by_cases h1:a=y
  ·simp[R182_5,ey,h1,R182_6,A182,vRes,Val.av];exact .pure _ (by simp)
  by_cases h2:b=y
  ·simp[R182_5,ey,h1,h2,R182_6,A182,vRes,Val.av];exact .pure _ (by simp)
  simp[R182_5,ey,h1,h2]
  by_cases h3:a.kind=0
  ·simp[R182_7,h3,R182_8,A182,vRes,Val.av];exact .pure _ (by simp)
  by_cases h4:b.kind=0
  ·simp[R182_7,h3,h4,R182_8,A182,vRes,Val.av];exact .pure _ (by simp)
  simp[R182_7,h3,h4];refine CalV.pure y2 ?_;simp[A182,vRes,Val.av];exact .pure _ (by simp)
 simp[R182_2,h0,R182_3,A182,vRes,Val.av];exact .pure _ (by simp)
theorem And182 (a b:Val):FnPure pG 182 [a.av,b.av] (vRes (bothS false a b)):=both_ok false c182 a b
theorem Or183 (a b:Val):FnPure pG 183 [a.av,b.av] (vRes (bothS true a b)):=both_ok true c183 a b
def eEx:Enc Ex 8:=⟨Ex.cells,Ex.cells_len,Ex.pureC,Ex.allOne⟩
theorem eEx_l (l:List Ex):eEx.l l=Ex.cellsL l:=by
 induction l with
 | nil=>rfl
 | cons a r ih=>rw[Enc.l_cons,ih];rfl
def cE (v:Val):Ex:=.mk 1 v [] [] 0 []
def opE (op:Int)(l:List Val):Ex:=.mk op valZ [] [] 0 (l.map cE)
def partsS (op:Int):Int:=if op=1∨op=3 then 0 else if 4<=op/\op<=7 then 1 else if 8<=op/\op<=21 then 2 else -1
theorem parts134 (op:Int):FnPure pG 134 [.int .i64 op] (.int .i64 (partsS op)):=by
 refine pureV c134 (by simp) (by simp) (by simp[A134]) λ F hF=>?_;unfold partsS
 by_cases h1:op=1
 ·simp[A134,B134,R134_0,R134_1,R134_2,hF,h1];exact .pure _ (by simp)
 by_cases h3:op=3
 ·simp[A134,B134,R134_0,R134_1,R134_2,hF,h3];exact .pure _ (by simp)
 by_cases h4:4<=op
 ·by_cases h7:op<=7
  ·simp[A134,B134,R134_0,R134_1,R134_3,R134_4,hF,h1,h3,h4,h7];exact .pure _ (by simp)
  by_cases h21:op<=21
  ·simp[A134,B134,R134_0,R134_1,R134_3,R134_5,R134_6,hF,h1,h3,h4,h7,show 8<=op by omega,h21];exact .pure _ (by simp)
  simp[A134,B134,R134_0,R134_1,R134_3,R134_5,R134_7,hF,h1,h3,h4,h7,show 8<=op by omega,h21];exact .pure _ (by simp)
 simp[A134,B134,R134_0,R134_1,R134_3,R134_5,R134_7,hF,h1,h3,h4,show ¬ 8<=op by omega];exact .pure _ (by simp)
theorem conEx {f:FuncId}{first cap:List AV}{p:Ex->Bool}{H:Hp}{n:Nat}(l:List Ex)(hl:l.length<=lim)(hp:∀x∈l,CallR pG f (first++([eEx.av x]++cap)) H n (λ u K k=>u=.bool (p x)/\K=H/\k=n)):
  CallR pG 135 [eEx.ds l,.fn (.func f) first cap] H n (λ u K k=>u=.bool (l.any p)/\K=H/\k=n):=
 con_ok c135 (idx_ok (el:=eEx.av) c164 hl (eEx.len_ds _) (λ i h=>⟨_,eEx.ix h,λ F H n h14=>by simp[h14,eEx.ldN]⟩) hp)
theorem rightC (v:Val)(n0:Int):FnPure pG 106 [(cE v).av,.int .i64 n0] (.bool v.may):=by
 refine pureV c106 (by simp) (by simp) (by simp[A106]) λ F hF=>?_;have hm:=may52 v;simp only[Val.av]at hm;simp[A106,B106,R106_0,hF,R106_1,Ex.av,cE,Ex.cells,Ex.cellsL];refine DrwV.of (ceT_ok (l:=[(134,[.int .i64 1],λ H n=>.mk (.int .i64 0) H n)]) ?_) ?_
 ·simp only[mem_singleton];rintro y rfl;exact ceT_pure (parts134 1)
 simp[clearF_get,ceT_hd,R106_3];refine CalV.pure hm ?_
 cases hv:v.may with
 | false=>simp[clearF_get,R106_4];exact .bool rfl
 | true =>
  simp[clearF_get,R106_5];refine CalV.same (conEx (f:=136) (first:=[]) (cap:=[.ptr 1 0]) (p:=λ _=>false) [] (by simp) (by simp)) ?_;simp;exact .bool rfl
theorem right136 (v:Val)(H:Hp)(n b:Nat)(n0:Int)(hb:H.get b=some (.cells 1 [] [.int .i64 n0] .nil))(ht:Top H n):CallR pG 136 [eEx.av (cE v),.ptr b 0] H n (λ u K k=>u=.bool (!v.may)/\K=H/\k=n):=by
 refine CallR.forget (by simp) (CallR.of c136 (by simp[A136]) λ F hF=>?_);have hr:=rightC v n0;have e:eEx.av (cE v)=(cE v).av:=rfl;rw[e]at hF;have hl:(cE v).av.len=8:=rfl;have hc:(cE v).av.cells=(cE v).cells:=rfl;have q:¬b=n:=by have:=ht.lt hb;omega
 have h8:(cE v).cells.length=8:=by simp
 have hav:(cE v).av=.agg (cE v).cells 8:=rfl;rw[hav]at hr;simp[A136,B136,R136_0,R136_1,hF,q,hb];refine CalV.pure hr ?_;simp;intro c hc' h2;subst h2;exact absurd (ht _ (Nat.le_refl _)) hc'
theorem rightE (op:Int)(l:List Val)(hl:l.length<=2)(ho:partsS op=(l.length:Int))(hop:op≠1/\op≠3)(n0:Int):FnPure pG 106 [(opE op l).av,.int .i64 n0] (.bool (l.all Val.may)):=by
 refine pureV c106 (by simp) (by simp) (by simp[A106]) λ F hF=>?_;have hp:=parts134 op;rw[ho]at hp;have hel:(Ex.cellsL (l.map cE))=eEx.l (l.map cE):=(eEx_l _).symm;have hds:AV.ds (eEx.l (l.map cE)) l.length 8=eEx.ds (l.map cE):=by simp[Enc.ds]
 simp[A106,B106,R106_0,hF,R106_1,Ex.av,opE,Ex.cells,hel];refine DrwV.of (ceT_ok (l:=[(134,[.int .i64 op],λ H n=>.mk (.int .i64 (l.length:Int)) H n)]) ?_) ?_
 ·simp only[mem_singleton];rintro y rfl;exact ceT_pure hp
 simp[clearF_get,ceT_hd,R106_3,hop.1,hop.2,R106_5,hds,Enc.len_ds];refine CalV.same (conEx (f:=136) (first:=[]) (cap:=[.ptr 1 0]) (p:=λ x=>match x with | .mk _ v _ _ _ _=>!v.may) (l.map cE) (by simp[lim];omega) ?_) ?_
 ·intro x hx;obtain⟨v,_,rfl⟩:=mem_map.1 hx;exact right136 v _ _ 1 n0 (by simp) (by intro b hb;simp[show ¬b=1 by omega,show ¬b=0 by omega])
 simp;refine .bool ?_;rw[Bool.eq_iff_iff];simp[any_eq_true,cE]
abbrev nilR:AV:=.cst (.slice none 0 0)
theorem ofC108 (v:Val):FnPure pG 108 [(cE v).av,nilR] (vRes (v,0)):=by
 refine pureV c108 (by simp) (by simp) (by simp[A108]) λ F hF=>?_;simp[A108,B108,R108_0,R108_1,R108_2,R108_3,hF,Ex.av,cE,Ex.cells,Ex.cellsL];exact .pure _ (by simp)
def fnsC:List AV:=[.fn (.func 170) [] [],.fn (.func 171) [] [],.fn (.func 172) [] [],.fn (.func 173) [] [],.fn (.func 174) [] [],.fn (.func 175) [] [],.fn (.func 176) [] [],.fn (.func 177) [] [],.fn (.func 178) [] [],.fn (.func 179) [] [],.fn (.func 180) [] [],.fn (.func 181) [] [],.fn (.func 182) [] [],.fn (.func 183) [] []]
theorem calls142:FnPure pG 142 [] (.agg fnsC 14):=by
 refine pureV c142 (by simp) (by simp[fnsC]) (by simp[A142]) λ F hF=>?_;simp[A142,B142,R142_0,R142_1];exact .pure _ (by simp)
def unS (op:Int)(a:Val):Val×Int:=if op=4 then reckS oneV a (negF a.num)else if op=5 then notS a else if op=6 then (yesV (decide (a.kind=0)),0)else (yesV (decide (a.kind≠0)),0)
def biS (op:Int)(a b:Val):Val×Int:=
 if op=8 then reckS a b (addF a.num b.num)else if op=9 then reckS a b (subF a.num b.num)else if op=10 then reckS a b (mulF a.num b.num)else if op=11 then divS a b (divF a.num b.num)else if op=12 then divS a b (modF a.num b.num)else
 if op=13 then joinS a b else if op=14 then cmpdS a b (decide (a.ord b=0))else if op=15 then cmpdS a b (decide (a.ord b≠0))else if op=16 then cmpdS a b (decide (a.ord b<0))else if op=17 then cmpdS a b (decide (a.ord b<=0))else
 if op=18 then cmpdS a b (decide (0<a.ord b))else if op=19 then cmpdS a b (decide (0<=a.ord b))else if op=20 then bothS false a b else bothS true a b
theorem bi_ok (k:Nat)(h:k<14)(a b:Val):FnPure pG (170+k) [a.av,b.av] (vRes (biS ((8+k:Nat):Int) a b))/\fnsC[k]?=some (.fn (.func (170+k)) [] []):=by
 have:k=0∨k=1∨k=2∨k=3∨k=4∨k=5∨k=6∨k=7∨k=8∨k=9∨k=10∨k=11∨k=12∨k=13:=by omega
 rcases this with rfl | rfl | rfl | rfl | rfl | rfl | rfl | rfl | rfl | rfl | rfl | rfl | rfl | rfl<;>refine⟨?_,rfl⟩
 ·exact Add170 a b
 ·exact Sub171 a b
 ·exact Mul172 a b
 ·exact Div173 a b
 ·exact Mod174 a b
 ·exact Join175 a b
 ·exact Eq176 a b
 ·exact Ne177 a b
 ·exact Lt178 a b
 ·exact Le179 a b
 ·exact Gt180 a b
 ·exact Ge181 a b
 ·exact And182 a b
 exact Or183 a b
theorem ix23 (q:Nat):cIxarr 2 3 (.ptr q 0) (.int .i64 0)=.val (.ptr q 0)/\cIxarr 2 3 (.ptr q 0) (.int .i64 1)=.val (.ptr q 3):=⟨rfl,rfl⟩
theorem ix8 (cs:List AV)(len:Nat)(h:0<len):cIxa 8 (.ds cs len 8) (.int .i64 0)=.val (.dp cs):=by
 have:=cIxa_ds (cs:=cs) (len:=len) (sz:=8) (k:=.i64) h;simpa using this
theorem ld8 (a b c d e f g h:AV)(r:List AV)(H:Hp):cLoadN 8 (.dp (a::b::c::d::e::f::g::h::r)) H=.val (.agg [a,b,c,d,e,f,g,h] 8):=cLoadN_dp (l:=[a,b,c,d,e,f,g,h]) r rfl
theorem of1 (op:Int)(a:Val)(h:4<=op/\op<=7):FnPure pG 108 [(opE op [a]).av,nilR] (vRes (unS op a)):=by
 refine pureV c108 (by simp) (by simp[vRes]) (by simp[A108]) λ F hF=>?_;have hc:=ofC108 a;have h8:=ix8 (cE a).cells 1 (by omega);simp only[Ex.av,cE,Ex.cells,Ex.cellsL,length_nil]at hc h8;simp[A108,B108,R108_0,R108_1,R108_2,R108_4,R108_6,R108_7,hF,Ex.av,opE,cE,Ex.cells,Ex.cellsL,show ¬op=1 by omega,show ¬op=3 by omega];refine LoopV.ofU 1 (LoopU.step ?_);simp[L108_0,R108_8,R108_9,h8,ld8,R108_10,hF];refine CalV.pure hc ?_;simp[vRes,Val.av,R108_11,R108_13,ix23];simp[R108_14];refine LoopU.step ?_;simp;have e:op=4∨op=5∨op=6∨op=7:=by omega
 rcases e with rfl | rfl | rfl | rfl
 ·have:=Neg139 a;simp only[vRes,Val.av]at this;simp[R108_15,R108_16,R108_17,ix23];refine CalV.pure this ?_;simp;exact .pure _ (by simp)
 ·have:=Not140 a;simp only[vRes,Val.av]at this;simp[R108_15,R108_16,R108_18,R108_19,ix23];refine CalV.pure this ?_;simp;exact .pure _ (by simp)
 ·have:=truth141 (decide (a.kind=0));simp only[Val.av]at this;simp[R108_15,R108_16,R108_18,R108_20,R108_21,ix23];refine CalV.pure this ?_;simp;exact .pure _ (by simp)
 have:=truth141 (!decide (a.kind=0));simp only[Val.av]at this;simp[R108_15,R108_16,R108_18,R108_20,R108_22,R108_23,ix23];refine CalV.pure this ?_;simp;have hu:unS 7 a=(yesV (!decide (a.kind=0)),0):=by simp[unS]
 rw[hu];exact .pure _ (by simp)
theorem of2 (k:Nat)(hk:k<14)(a b:Val):FnPure pG 108 [(opE ((8+k:Nat):Int) [a,b]).av,nilR] (vRes (biS ((8+k:Nat):Int) a b)):=by
 refine pureV c108 (by simp) (by simp[vRes]) (by simp[A108]) λ F hF=>?_;obtain⟨hb,hi⟩:=bi_ok k hk a b;generalize hr:biS ((8+k:Nat):Int) a b=r at hb ⊢;have hop:((8+k:Nat):Int) - 8=(k:Int):=by omega
 have h0:(8:Int)<=((8+k:Nat):Int)/\((8+k:Nat):Int)<22:=by omega
 generalize ((8+k:Nat):Int)=op at hr hop h0 hF ⊢;have hc:=ofC108 a;have hc2:=ofC108 b
 have h8:cIxa 8 (.ds ((cE a).cells++(cE b).cells) 2 8) (.int .i64 0)=.val (.dp ((cE a).cells++(cE b).cells)):=by
  have:=cIxa_ds (cs:=(cE a).cells++(cE b).cells) (len:=2) (sz:=8) (i:=0) (k:=.i64) (by omega);simpa using this
 have h9:cIxa 8 (.ds ((cE a).cells++(cE b).cells) 2 8) (.int .i64 1)=.val (.dp (cE b).cells):=by
  have:=cIxa_ds (cs:=(cE a).cells++(cE b).cells) (len:=2) (sz:=8) (i:=1) (k:=.i64) (by omega);simpa using this
 simp only[Ex.av,cE,Ex.cells,Ex.cellsL,length_nil,cons_append,nil_append]at hc hc2 h8 h9;simp[A108,B108,R108_0,R108_1,R108_2,R108_4,R108_6,R108_7,hF,Ex.av,opE,cE,Ex.cells,Ex.cellsL,show ¬op=1 by omega,show ¬op=3 by omega];refine LoopV.ofU 2 (LoopU.step ?_);simp[L108_0,R108_8,R108_9,h8,ld8,R108_10,hF];refine CalV.pure hc ?_;simp[vRes,Val.av,R108_11,R108_13,ix23,R108_14];refine LoopU.step ?_;simp[h9,ld8,hF];refine CalV.pure hc2 ?_;simp[vRes,Val.av,ix23];refine LoopU.step ?_;simp[R108_15,R108_16,R108_18,R108_20,R108_22,show ¬op=4 by omega,show ¬op=5 by omega,show ¬op=6 by omega,show ¬op=7 by omega];simp only[R108_24,vRes,Val.av]at hb ⊢;refine DrwV.of (ceT_ok (l:=[(142,[],λ H n=>.mk (.agg fnsC 14) H n),(170+k,[.agg [.int .i64 a.kind,.int .i64 a.num,.str a.s] 3,.agg [.int .i64 b.kind,.int .i64 b.num,.str b.s] 3],λ H n=>.mk (.tup [.agg [.int .i64 r.1.kind,.int .i64 r.1.num,.str r.1.s] 3,.int .i64 r.2]) H n)]) ?_) ?_
 ·intro y hy;simp only[mem_cons,not_mem_nil,or_false]at hy
  rcases hy with rfl | rfl
  ·exact ceT_pure calls142
  exact ceT_pure hb
 have hx:cIxv 14 1 false (.agg fnsC 14) (.int .i64 (k:Int))=.val (.fn (.func (170+k)) [] []):=by
  have e:k=0∨k=1∨k=2∨k=3∨k=4∨k=5∨k=6∨k=7∨k=8∨k=9∨k=10∨k=11∨k=12∨k=13:=by omega
  rcases e with rfl | rfl | rfl | rfl | rfl | rfl | rfl | rfl | rfl | rfl | rfl | rfl | rfl | rfl<;>rfl
 simp[clearF_get,ceT_hd,ceT_tl,hop,hx,ix23,show IntKind.i64.wrap (k:Int)=k from wrap_sm _ (by omega) (by omega)];exact .pure _ (by simp)
theorem whole107:FnPure pG 107 [nilR] (.bool true):=by
 refine pureV c107 (by simp) (by simp) (by simp[A107]) λ F hF=>?_;simp[A107,B107,R107_0,R107_1,hF]
 have h137:FnPure pG 137 [nilR,.fn (.func 138) [] []] (.bool false):=by
  refine pureV c137 (by simp) (by simp) (by simp[A137]) λ F hF=>?_;simp[A137,B137,R137_0,R137_1,hF]
  have h165:FnPure pG 165 [nilR,.fn (.func 138) [] []] (.int .i64 (-1)):=by
   refine pureV c165 (by simp) (by simp) (by simp[A165]) λ F hF=>?_;simp[A165,B165,R165_0,R165_1,hF];refine LoopV.ofU 0 (LoopU.step ?_);simp[L165_0,R165_2,R165_7];exact .pure _ (by simp)
  refine CalV.pure h165 ?_;simp;exact .pure _ (by simp)
 refine CalV.pure h137 ?_;simp;exact .pure _ (by simp)
def ofS (op:Int)(l:List Val):Val×Int:=match l with | [a]=>unS op a | [a,b]=>biS op a b | _=>(valZ,0)
def evalS (op:Int)(l:List Val):Val×Int:=if l.all Val.may=true then ofS op l else (valZ,1)
def argsOk (op:Int)(l:List Val):Prop:=(l.length=1/\4<=op/\op<=7)∨(l.length=2/\8<=op/\op<=21)
theorem of108 {op:Int}{l:List Val}(h:argsOk op l):FnPure pG 108 [(opE op l).av,nilR] (vRes (ofS op l)):=by
 match l,h with
 | [a],h=>exact of1 op a (by simpa[argsOk]using h)
 | [a,b],h =>
  have h':8<=op/\op<=21:=by simpa[argsOk]using h
  have e:op=((8+(op - 8).toNat:Nat):Int):=by omega
  rw[e];exact of2 _ (by omega) a b
 | [],h=>simp[argsOk]at h
 | _::_::_::_,h=>simp[argsOk]at h
theorem eval75 {op:Int}{l:List Val}(h:argsOk op l):FnPure pG 75 [(opE op l).av,nilR] (vRes (evalS op l)):=by
 have hl:l.length<=2:=by rcases h with h | h<;>omega
 have hp:partsS op=(l.length:Int):=by unfold partsS;rcases h with h | h<;>(repeat' split)<;>omega
 have hr:=rightE op l hl hp (by rcases h with h | h<;>omega) 0;have ho:=of108 h;refine pureV c75 (by simp) (by simp[vRes]) (by simp[A75]) λ F hF=>?_;have ha:(opE op l).av=.agg (opE op l).cells 8:=rfl;have hlen:(opE op l).cells.length=8:=by simp
 rw[ha]at hr ho hF;simp[A75,B75,R75_0,R75_1,hF];refine CalV.pure hr ?_;unfold evalS
 cases hm:l.all Val.may with
 | false=>simp[R75_2];exact .pure _ (by simp)
 | true =>
  simp[R75_3,hF];refine CalV.pure whole107 ?_;simp[R75_5,hF];refine CalV.pure ho ?_;generalize ofS op l=r;simp[vRes,Val.av];exact .pure _ (by simp)
end Go.Abs
namespace Go.Abs
open List
open Go.Proofs
open Classical
set_option maxRecDepth 100000
def FJ (h:Hf)(v v':AV):Prop:=∀(φ:Ph)(D:Da)(w:World)(x:Value),Rel φ D h w->VR φ D v x->VR φ (shut φ D h w) v' x
theorem FJ.refl (h:Hf)(v:AV):FJ h v v:=λ _ _ _ _ _ hx=>hx.mono (λ _ _ h=>h) shut_le
theorem FJ.frz {h:Hf}{v v':AV}(f:Frz h v v'):FJ h v v':=λ _ _ _ _ hr hx=>(f.vr hr hx).mono (λ b p hb=>by simp[PhN]at hb) (λ _ _ h=>h)
theorem FJ.fn {h:Hf}{g:Fn}{a b b':List AV}(f:FrzL h b b'):FJ h (.fn g a b) (.fn g a b'):=by
 intro φ D w x hr hx
 cases hx with
 | fn _ _ _ _ _ h1 h2=>exact .fn _ _ _ _ _ (h1.mono (λ _ _ h=>h) shut_le) ((f.vrs hr h2).mono (λ b p hb=>by simp[PhN]at hb) (λ _ _ h=>h))
inductive FJL (h:Hf):List AV->List AV->Prop
 | nil:FJL h [] []
 | cons (v v' vs vs'):FJ h v v'->FJL h vs vs'->FJL h (v::vs) (v'::vs')
theorem FJL.at {h:Hf}:∀ {l l':List AV},FJL h l l'->∀(i:Nat) v',l'[i]?=some v'->∃v,l[i]?=some v/\FJ h v v'
 | _,_,.nil,i,v',hv=>by simp at hv
 | _,_,.cons v v2 vs vs' f r,i,v',hv=>by
  cases i with
  | zero=>simp at hv;subst hv;exact⟨v,by simp,f⟩
  | succ i=>simp at hv;simpa using r.at i v' hv
theorem FJL.length {h:Hf}:∀ {l l':List AV},FJL h l l'->l'.length=l.length
 | _,_,.nil=>rfl
 | _,_,.cons _ _ _ _ _ r=>by simp[r.length]
theorem FJL.refl (h:Hf):∀l:List AV,FJL h l l
 | []=>.nil
 | v::l=>.cons _ _ _ _ (FJ.refl h v) (FJL.refl h l)
def BJ (h:Hf)(y0 y:ABlk):Prop:=y0=y∨∃u z bs t l,y0=.cells u z bs t/\y=.cells u [] l .nil/\l.length=u/\∀(i:Nat) v',l[i]?=some v'->∃v,getc u z bs t i=some v/\FJ h v v'
structure Shuj (h:Hf)(H H2:Hp):Prop where
 sub:∀b k,h b=some k->H.get b=some k
 gone:∀b,h b≠none->H2.get b=none
 hp:∀b y,H2.get b=some y->∃y0,H.get b=some y0/\BJ h y0 y
theorem Shuj.refl (H:Hp):Shuj (λ _=>none) H H:=
 ⟨λ b k h=>by simp at h,λ b h=>absurd rfl h,λ b y h=>⟨y,h,.inl rfl⟩⟩
section
variable {φ:Ph}{D:Da}{w:World}{n:Nat}
theorem BJ.blkR {h:Hf}(hr:Rel φ D h w){y0 y:ABlk}(hz:BJ h y0 y) {p}(hb:BlkR φ D w p y0):BlkR φ (shut φ D h w) w p y:=by
 rcases hz with rfl | ⟨u,z,bs,t,l,rfl,rfl,hl,hz⟩
 ·exact hb.mono (λ _ _ h=>h) shut_le rfl
 obtain⟨c,e,fr,h1,h2,h3,h4,h5,h6⟩:=hb;refine⟨c,e,fr,h1,h2,h3,λ i v hv=>?_,λ _ _=>hl,h6⟩;rw[getc_list]at hv
 split at hv
 ·obtain⟨v0,h7,h8⟩:=hz i v hv;obtain⟨x,h9,h10⟩:=h4 i v0 h7;exact⟨x,h9,h8 _ _ _ _ hr h10⟩
 cases hv
theorem Shuj.rel {h:Hf}{H H2:Hp}(s:Shuj h H H2)(hr:Rel φ D H.get w):Rel φ (shut φ D h w) H2.get w:=by
 have hs:=hr.sub s.sub
 have ne:∀b,H2.get b≠none->H.get b≠none:=λ b hb=>by
  cases hx:H2.get b with
  | none=>exact absurd hx hb
  | some k=>obtain⟨y0,h0,_⟩:=s.hp b k hx;rw[h0];simp
 have neh:∀b,h b≠none->H.get b≠none:=λ b hb=>by
  cases hx:h b with
  | none=>exact absurd hx hb
  | some k=>rw[s.sub b k hx];simp
 refine⟨λ b k hb=>?_,λ b c p q hb hc=>hr.inj b c p q (ne b hb) (ne c hc),λ b p hb hp=>?_,shut_dat hr.dat⟩
 ·obtain⟨y0,h0,hz⟩:=s.hp b k hb;obtain⟨p,hp,hl,hk⟩:=hr.blk b y0 h0;exact⟨p,hp,hl,hz.blkR hs hk⟩
 refine shut_none (hr.sep b p (ne b hb) hp) λ b' p' h1 h2 h3=>?_;have:=hr.inj b' b p' p (neh b' h1) (ne b hb) h2 hp h3;subst this;exact hb (s.gone b' h1)
theorem Shuj.ext {h:Hf}{H H2:Hp}(s:Shuj h H H2):Ext φ D H.get w n φ (shut φ D h w) H2.get w n:=by
 have ne:∀b,H2.get b≠none->H.get b≠none:=λ b hb=>by
  cases hx:H2.get b with
  | none=>exact absurd hx hb
  | some k=>obtain⟨y0,h0,_⟩:=s.hp b k hx;rw[h0];simp
 have neh:∀b,h b≠none->H.get b≠none:=λ b hb=>by
  cases hx:h b with
  | none=>exact absurd hx hb
  | some k=>rw[s.sub b k hx];simp
 refine⟨Nat.le_refl _,λ _ _ h=>h,λ b a c=>absurd a c,shut_le,Nat.le_refl _,λ _ _ _=>rfl,λ b p hb hp=>.inr ⟨b,p,ne b hb,hp,rfl⟩,λ c hc=>?_,λ b hb=>.inl (ne b hb),rfl,rfl⟩
 rcases shut_new hc with h1 | ⟨b,p,h1,h2,h3⟩
 ·exact .inl h1
 exact .inr (.inr ⟨b,p,neh b h1,h2,h3⟩)
end
theorem CallR.zs {P:Program}{g:FuncId}{args:List AV}{H:Hp}{n:Nat}{R R2:AV->Hp->Nat->Prop}(h:CallR P g args H n R)(hs:∀v K k,R v K k->∃hh K2 v2,Shuj hh K K2/\FJ hh v v2/\R2 v2 K2 k):CallR P g args H n R2:=
 ⟨h.1,λ φ D w xs a b c RR hR=>h.2 φ D w xs a b c RR λ v K k φ' D' w' x r e rel hx=>by
  obtain⟨hh,K2,v2,sh,fi,r2⟩:=hs v K k r;exact hR v2 K2 k φ' (Go.Abs.shut φ' D' hh w') w' x r2 (e.trans sh.ext) (sh.rel rel) (fi _ _ _ _ (rel.sub sh.sub) hx)⟩
theorem Shuj.some {h:Hf}{H:Hp}(L:List Nat)(hs:∀b k,h b=some k->H.get b=some k)(hg:∀b,h b≠none->b∉L):Shuj h H (pick H L):=
 ⟨hs,λ b hb=>by rw[pick_get,if_neg (hg b hb)],λ b y hy=>by
  rw[pick_get]at hy
  split at hy
  ·exact⟨y,hy,.inl rfl⟩
  cases hy⟩
end Go.Abs
namespace Go.Abs
open List
open Go.Proofs
open Classical
set_option maxRecDepth 100000
def flC {α:Type}(f:α->List AV):List α->List AV
 | []=>[]
 | a::r=>f a++flC f r
section
variable {α:Type}{f:α->List AV}{k:Nat}
theorem flC_len (hk:∀a,(f a).length=k)(l:List α):(flC f l).length=l.length*k:=by
 induction l with
 | nil=>simp[flC]
 | cons a r ih=>simp[flC,hk,ih,Nat.add_mul];omega
theorem flC_drop (hk:∀a,(f a).length=k){l:List α}{i:Nat}(h:i<l.length):(flC f l).drop (i*k)=f l[i]++flC f (l.drop (i+1)):=by
 induction l generalizing i with
 | nil=>simp at h
 | cons e r ih =>
  cases i with
  | zero=>simp[flC]
  | succ i =>
   have:(i+1)*k=(f e).length+i*k:=by rw[hk,Nat.add_mul];omega
   rw[flC,this,<-drop_drop,drop_left' rfl];simpa using ih (i:=i) (by simpa using h)
theorem flC_take (hk:∀a,(f a).length=k)(l:List α)(i:Nat):(flC f l).take (i*k)=flC f (l.take i):=by
 induction l generalizing i with
 | nil=>simp[flC]
 | cons e r ih =>
  cases i with
  | zero=>simp[flC]
  | succ i =>
   have:(i+1)*k=(f e).length+i*k:=by rw[hk,Nat.add_mul];omega
   rw[flC,this,List.take_length_add_append,ih];simp[flC]
theorem flC_append (l m:List α):flC f (l++m)=flC f l++flC f m:=by
 induction l with
 | nil=>rfl
 | cons a r ih=>simp[flC,ih]
theorem flC_at (hk:∀a,(f a).length=k){l:List α}{i:Nat}(h:i<l.length):((flC f l).drop (i*k)).take k=f l[i]:=by
 rw[flC_drop hk h,take_left' (hk _)]
theorem flC_set (hk:∀a,(f a).length=k){l:List α}{i:Nat}(h:i<l.length)(a:α):(flC f l).take (i*k)++f a++(flC f l).drop (i*k+k)=flC f (l.set i a):=by
 rw[flC_take hk,show i*k+k=(i+1)*k by rw[Nat.add_mul];omega]
 have e:(flC f l).drop ((i+1)*k)=flC f (l.drop (i+1)):=by
  have:=flC_drop hk h;rw[show (i+1)*k=i*k+k by rw[Nat.add_mul];omega,<-drop_drop,this,drop_left' (hk _)]
 rw[e,set_eq_take_append_cons_drop,if_pos h,flC_append,flC,append_assoc]
end
theorem flC_one {α:Type}{f:α->List AV}(h:∀a,allOne (f a)=true)(l:List α):allOne (flC f l)=true:=by
 induction l with
 | nil=>rfl
 | cons a r ih=>simp[flC,h,ih]
theorem OwnB.stN {u:Nat}{z bs:List AV}{t:Ov AV}{l:List AV}(h:OwnB (.cells u z bs t) l){o:Nat}{vs:List AV}(hv:vs≠[]) (hi:o+vs.length<=l.length):OwnB (stBlk u z bs t vs o) (l.take o++vs++l.drop (o+vs.length)):=by
 obtain⟨u',z',bs',t',e,hu,hg,hl⟩:=h;injection e with e1 e2 e3 e4;subst e1 e2 e3 e4;have hlen:(l.take o++vs++l.drop (o+vs.length)).length=u:=by simp;omega
 have hat:∀j,(l.take o++vs++l.drop (o+vs.length))[j]?=if o<=j/\j<o+vs.length then vs[j - o]? else l[j]?:=by
  intro j;rw[List.getElem?_append,List.getElem?_append,length_append,length_take,Nat.min_eq_left (by omega)]
  by_cases h1:j<o
  ·rw[if_pos (by omega),if_pos h1,if_neg (by omega),getElem?_take,if_pos h1]
  by_cases h2:j<o+vs.length
  ·rw[if_pos h2,if_neg h1,if_pos (by omega)]
  rw[if_neg h2,if_neg (by omega),getElem?_drop]
  congr 1
  omega
 have key:∀t2,(∀j,t2.get j=if o<=j/\j<o+vs.length then vs[j - o]? else t.get j)->t2≠.nil->OwnB (.cells u z bs t2) (l.take o++vs++l.drop (o+vs.length)):=by
  intro t2 h2 hne;refine⟨u,z,bs,t2,rfl,hlen.symm,λ j=>?_,λ e=>absurd e hne⟩;have hj:=hg j;rw[getc_eq]at hj ⊢;rw[hat,h2]
  by_cases e:o<=j/\j<o+vs.length
  ·rw[if_pos (by omega),if_pos e,if_pos e];rw[getElem?_eq_getElem (by omega)]
  rw[if_neg e,if_neg e]
  by_cases hju:j<u
  ·rw[if_pos hju]at hj ⊢;exact hj
  rw[if_neg hju]at hj ⊢;exact hj
 have hput:∀t:Ov AV,(Ov.putAll vs o t)≠.nil:=by
  intro t e;have:=Ov.get_putAll vs o t o;have h0:0<vs.length:=length_pos_iff.2 hv;rw[e,if_pos (by omega)]at this;simp at this;exact absurd this hv
 have hgen:OwnB (.cells u z bs (Ov.putAll vs o t)) (l.take o++vs++l.drop (o+vs.length)):=key _ (λ j=>Ov.get_putAll vs o t j) (hput t);unfold stBlk
 split
 ·split
  ·split
   ·split
    ·rename_i bs' hp;obtain⟨p1,_,p3⟩:=patch_spec hp
     have:bs'=l.take o++vs++l.drop (o+vs.length):=by
      apply ext_getElem?;intro j;rw[p3,hat];have hj:=hg j;rw[getc_list']at hj
      split
      ·rfl
      rw[<-hj];have hb:=hl rfl rfl
      split
      ·rfl
      rw[getElem?_eq_none (by omega)]
     rw[this];exact .list hlen.symm
    exact hgen
   exact hgen
  exact hgen
 ·exact hgen
 exact hgen
theorem own_ldN {H:Hp}{b o c:Nat}{k:ABlk}{L:List AV}(hb:H.get b=some k)(ho:OwnB k L)(hi:o+c<=L.length):cLoadN c (.ptr b o) H=.val (.agg ((L.drop o).take c) c):=by
 obtain⟨u,z,bs,t,rfl,hg⟩:=ho.grab hi;simp[hb,hg,lE]
theorem own_stN {H:Hp}{b o c:Nat}{k:ABlk}{L:List AV}{v:AV}(hb:H.get b=some k)(ho:OwnB k L)(hc:v.len=c)(hc2:v.cells.length=c)(hc0:0<c)(h1:allOne v.cells=true)(hi:o+c<=L.length):∃y,cStore c (.ptr b o) v H=.upd (.tup []) b y/\OwnB y (L.take o++v.cells++L.drop (o+c)):=by
 have ho':=ho;obtain⟨u,z,bs,t,rfl,h3,h4,_⟩:=ho;have:=ho'.stN (o:=o) (vs:=v.cells) (by intro e;rw[e]at hc2;simp at hc2;omega) (by omega);rw[hc2]at this;refine⟨_,?_,this⟩;have hu:o+c<=u:=by omega
 simp[cStore,hb,hu,hc,h1]
theorem own_ldR {H:Hp}{b i c:Nat}{k:ABlk}{α:Type}{f:α->List AV}{l:List α}(hb:H.get b=some k)(ho:OwnB k (flC f l))(hk:∀a,(f a).length=c)(h:i<l.length):cLoadN c (.ptr b (i*c)) H=.val (.agg (f l[i]) c):=by
 rw[own_ldN hb ho (by rw[flC_len hk];have:=Nat.mul_le_mul_right c h;rw[Nat.succ_mul]at this;omega),flC_at hk h]
theorem own_stR {H:Hp}{b i c:Nat}{k:ABlk}{α:Type}{f:α->List AV}{l:List α}(hb:H.get b=some k)(ho:OwnB k (flC f l))(hk:∀a,(f a).length=c)(h1:∀a,allOne (f a)=true)(hc0:0<c)(h:i<l.length)(a:α):∃y,cStore c (.ptr b (i*c)) (.agg (f a) c) H=.upd (.tup []) b y/\OwnB y (flC f (l.set i a)):=by
 obtain⟨y,h3,h4⟩:=own_stN (o:=i*c) (c:=c) (v:=.agg (f a) c) hb ho rfl (hk a) hc0 (h1 a) (by rw[flC_len hk];have:=Nat.mul_le_mul_right c h;rw[Nat.succ_mul]at this;omega);refine⟨y,h3,?_⟩;rw[<-flC_set hk h];exact h4
theorem own_ld1 {H:Hp}{b i c j:Nat}{k:ABlk}{α:Type}{f:α->List AV}{l:List α}{v:AV}(hb:H.get b=some k)(ho:OwnB k (flC f l))(hk:∀a,(f a).length=c)(h:i<l.length)(hj:(f l[i])[j]?=some v):cLoad1 (.ptr b (i*c+j)) H=.val v:=by
 have hjl:j<(f l[i]).length:=(List.getElem?_eq_some_iff.1 hj).1;rw[hk]at hjl;refine own_ldq hb ho ?_;rw[<-getElem?_drop,flC_drop hk h,getElem?_append_left (by rw[hk];exact hjl)];exact hj
end Go.Abs
namespace Go.Abs
open List
open Go.Proofs
open Classical
set_option maxRecDepth 100000
structure Lis where
 page:Int
 rows:List (List Val)
 nil:Bool
 at_:Nat
 fv:AV
 p:List Val->Bool
def Lis.rv (l:Lis):AV:=if l.nil then nilR else tabAV l.rows
def Lis.cells (l:Lis):List AV:=[.int .u32 l.page,l.rv,.int .i64 (l.at_:Int),l.fv]
structure Lis.fine (l:Lis):Prop where
 n:l.nil=true->l.rows=[]
 len:l.rows.length<=lim
 row:∀r∈l.rows,r.length<=lim
 at_:l.at_<=l.rows.length
 pf:Pure l.fv
 o1:l.fv.one=true
 fn:l.rows≠[]->∃f cap,l.fv=.fn (.func f) [] cap/\∀r∈l.rows,FnPure pG f (rowAV r::cap) (.bool (l.p r))
structure Cur where
 b:Nat
 lst:Option Lis
 row:Option (List Val)
 page:Int
 slot:Int
 there:Bool
def ifcA (o:Option Lis)(b:Nat):AV:=match o with | none=>.cst .nilIface | some _=>.ifc 260 (.ptr b 0)
def rowN (r:Option (List Val)):AV:=match r with | none=>nilR | some r=>rowAV r
def Cur.cells (c:Cur):List AV:=[ifcA c.lst c.b,rowN c.row,.int .u32 c.page,.int .i64 c.slot,.bool c.there]
@[simp] theorem Cur.cells_len (c:Cur):c.cells.length=5:=rfl
structure Cur.fine (c:Cur):Prop where
 l:∀l,c.lst=some l->l.fine
 r:∀r,c.row=some r->r.length<=lim
structure Tk where
 page:Int
 slot:Int
 new:List Val
def Tk.cells (t:Tk):List AV:=[.int .u32 t.page,.int .i64 t.slot,rowAV t.new]
@[simp] theorem Tk.cells_len (t:Tk):t.cells.length=3:=rfl
structure MS where
 c:Cod
 w:Wld
 at_:Int
 regs:List Val
 curs:List Cur
 steps:Nat
 ended:Bool
 full:Bool
 least:Int
 rows:List (List Val)
 takes:List Tk
def MS.mc (s:MS)(rb cb:Nat)(rv tv:AV):List AV:=[.int .i64 s.c.regs,.int .i64 s.c.cur,.ds (insC s.c.l) s.c.l.length 15,.ifc 71 (eWld.av s.w),.int .i64 s.at_,.sl rb 0 s.regs.length 3,.sl cb 0 s.curs.length 5,.int .i64 (s.steps:Int),.bool s.ended,.bool s.full,.int .i64 s.least,rv,tv]
def slT (v:AV)(l:List AV):List (Nat×List AV):=match v with | .sl b _ _ _=>[(b,l)] | _=>[]
def lsT (cs:List Cur):List (Nat×List AV):=cs.filterMap λ c=>c.lst.map λ l=>(c.b,l.cells)
def MS.told (s:MS)(p rb cb:Nat)(rv tv:AV):List (Nat×List AV):=(p,s.mc rb cb rv tv)::(rb,flC Val.cells s.regs)::(cb,flC Cur.cells s.curs)::(slT rv (rowsC s.rows)++(slT tv (flC Tk.cells s.takes)++lsT s.curs))
def slOk (v:AV)(len sz:Nat):Prop:=(v=nilR/\len=0)∨∃b,v=.sl b 0 len sz
structure MS.fine (s:MS):Prop where
 ok:s.c.chk=0
 reg:(s.regs.length:Int)=s.c.regs
 cur:(s.curs.length:Int)=s.c.cur
 w:s.w.fine
 steps:s.steps<1000000000
 cs:∀c∈s.curs,c.fine
 at_:0<=s.at_/\s.at_<=s.c.l.length
 end_:s.ended=false->s.at_<s.c.l.length
 rows:s.rows.length+s.takes.length<=4096
 rl:∀r∈s.rows,r.length<=lim
 tl:∀t∈s.takes,t.new.length<=lim
structure Lay (n:Nat)(p rb cb:Nat)(rv tv:AV)(s:MS):Prop where
 nd:((s.told p rb cb rv tv).map (·.1)).Nodup
 lt:∀e∈s.told p rb cb rv tv,e.1<n
 rv:slOk rv s.rows.length 1
 tv:slOk tv s.takes.length 3
structure Mach (H:Hp)(n:Nat)(p rb cb:Nat)(rv tv:AV)(s:MS):Prop where
 lay:Lay n p rb cb rv tv s
 told:∀e∈s.told p rb cb rv tv,H.get e.1=some (.cells e.2.length [] e.2 .nil)
 fine:s.fine
def MS.fp (s:MS)(p rb cb:Nat)(rv tv:AV):List Nat:=(s.told p rb cb rv tv).map (·.1)
theorem Mach.frame {H H':Hp}{n n' p rb cb:Nat}{rv tv:AV}{s:MS}(M:Mach H n p rb cb rv tv s)(hn:n<=n')(h:∀b∈s.fp p rb cb rv tv,H'.get b=H.get b):Mach H' n' p rb cb rv tv s:=
 ⟨⟨M.lay.nd,λ e he=>Nat.lt_of_lt_of_le (M.lay.lt e he) hn,M.lay.rv,M.lay.tv⟩,λ e he=>(h e.1 (mem_map_of_mem he)).trans (M.told e he),M.fine⟩
theorem Ifc_rlt {n:Nat}{o:Option Lis}{b:Nat}(h:∀l,o=some l->b<n):RLt n (ifcA o b):=by
 unfold ifcA
 cases o with
 | none=>simp
 | some l=>simpa using h l rfl
theorem slT_mem {v:AV}{b:Nat}(h:blk v=some b)(l:List AV):(b,l)∈slT v l:=by
 unfold blk at h
 split at h
 ·injection h with h;subst h;simp[slT]
 cases h
theorem slOk.one {v:AV}{len sz:Nat}(h:slOk v len sz):v.one=true:=by
 rcases h with⟨rfl,_⟩ | ⟨b,rfl⟩<;>simp
theorem slOk.rlt {v:AV}{len sz n:Nat}(h:slOk v len sz)(hb:∀b,blk v=some b->b<n):RLt n v:=by
 rcases h with⟨rfl,_⟩ | ⟨b,rfl⟩
 ·simp
 simpa using hb b rfl
theorem slOk.len {v:AV}{len sz:Nat}(h:slOk v len sz):cLenL v=.val (.int .i64 (len:Int)):=by
 rcases h with⟨rfl,rfl⟩ | ⟨b,rfl⟩<;>simp
theorem rlt_flC {α:Type}{f:α->List AV}{n:Nat}{l:List α}(h:∀a∈l,RLtL n (f a)):RLtL n (flC f l):=by
 induction l with
 | nil=>simp[flC]
 | cons a r ih =>
  refine RLtL.of λ v hv=>?_;simp only[flC,mem_append]at hv
  rcases hv with hv | hv
  ·exact(h a (by simp)).mem v hv
  exact(ih λ a ha=>h a (by simp[ha])).mem v hv
theorem Lay.rlt {n p rb cb:Nat}{rv tv:AV}{s:MS}(L:Lay n p rb cb rv tv s) (hf:s.fine):∀e∈s.told p rb cb rv tv,RLtL n e.2:=by
 have hlt:=L.lt;have hrv:=L.rv;have htv:=L.tv;intro e he;simp only[MS.told,mem_cons,mem_append]at he hlt
 rcases he with rfl | rfl | rfl | he | he | he
 ·have h1:=hlt (p,_) (.inl rfl);have h2:=hlt (rb,_) (.inr (.inl rfl));have h3:=hlt (cb,_) (.inr (.inr (.inl rfl)));have h4:RLt n rv:=hrv.rlt λ b hb=>hlt (b,_) (.inr (.inr (.inr (.inl (slT_mem hb _)))));have h5:RLt n tv:=htv.rlt λ b hb=>hlt (b,_) (.inr (.inr (.inr (.inr (.inl (slT_mem hb _))))));have h6:RLtL n (insC s.c.l):=PureL.rlt (insC_pure _);have h7:RLt n (eWld.av s.w):=Pure.rlt (by simp);simp only at h2 h3;simp[MS.mc,h2,h3,h4,h5,h6,h7]
 ·refine rlt_flC λ a _=>?_;simp[Val.cells]
 ·refine rlt_flC λ a ha=>?_
  have hb:RLt n (ifcA a.lst a.b):=Ifc_rlt λ l hl=>hlt (a.b,l.cells) (.inr (.inr (.inr (.inr (.inr (by
   unfold lsT;rw[List.mem_filterMap];exact⟨a,ha,by simp[hl]⟩))))))
  have hr:RLt n (rowN a.row):=by
   unfold rowN
   split
   ·simp
   exact Pure.rlt (by simp)
  simp[Cur.cells,hb,hr]
 ·cases rv<;>simp[slT]at he
  subst he;refine RLtL.of λ v hv=>?_;simp only[rowsC,mem_map]at hv;obtain⟨r,_,rfl⟩:=hv;exact Pure.rlt (by simp)
 ·cases tv<;>simp[slT]at he
  subst he;refine rlt_flC λ a _=>?_;have:RLt n (rowAV a.new):=Pure.rlt (by simp);simp[Tk.cells,this]
 unfold lsT at he;rw[List.mem_filterMap]at he;obtain⟨c,hc,he⟩:=he
 cases hl:c.lst with
 | none=>simp[hl]at he
 | some l =>
  simp[hl]at he;subst he;have hfn:=(hf.cs c hc).l l hl;have h1:RLt n l.fv:=Pure.rlt hfn.pf
  have h2:RLt n l.rv:=by
   unfold Lis.rv
   split
   ·simp
   exact Pure.rlt (by rw[<-eRw_ds];simp)
  simp[Lis.cells,h1,h2]
def ToldO (K:Hp)(L:List (Nat×List AV)):Prop:=∀e∈L,∃y,K.get e.1=some y/\OwnB y e.2
theorem okM {f:FuncId}{args:List AV}{n n' p rb cb:Nat}{rv tv rv' tv':AV}{s s':MS}{v0:AV}{H:Hp}(M:Mach H n p rb cb rv tv s)(hn:n<=n')(ha:RLtL n args)(L':Lay n' p rb cb rv' tv' s')(hf':s'.fine)
  (hin:∀b∈s'.fp p rb cb rv' tv',b∈s.fp p rb cb rv tv∨n<=b)
  (h:∀S,Top S n->Mach S n p rb cb rv tv s->CallR pG f args S n (λ u K k=>u=v0/\ToldO K (s'.told p rb cb rv' tv')/\k<=n')):
  ∃H',CallOk pG f args H n v0 H' n'/\Mach H' n' p rb cb rv' tv' s'/\(∀b,b<n->b∉s.fp p rb cb rv tv->H'.get b=H.get b)/\(Top H n->Top H' n'):=by
 have hfp:∀b∈s.fp p rb cb rv tv,∃e∈s.told p rb cb rv tv,e.1=b:=λ b hb=>by
  obtain⟨e,h1,h2⟩:=mem_map.1 hb;exact⟨e,h1,h2⟩
 have hlt:∀b∈s.fp p rb cb rv tv,b<n:=λ b hb=>by
  obtain⟨e,h1,rfl⟩:=hfp b hb;exact M.lay.lt e h1
 obtain⟨H',h1,h2,h3⟩:=CallR.okL (H:=H) (n:=n) (n':=n') (v0:=v0) (s.fp p rb cb rv tv) (s'.told p rb cb rv' tv') ha hlt (λ b hb=>by
   obtain⟨e,h1,rfl⟩:=hfp b hb;rw[M.told e h1];simp) (λ b hb k hk=>by
   obtain⟨e,h1,rfl⟩:=hfp b hb;rw[M.told e h1]at hk;injection hk with hk;subst hk;exact rLtB_list (M.lay.rlt M.fine e h1)) hn L'.nd (λ e he=>by
   rcases hin e.1 (mem_map_of_mem he)with h1 | h1
   ·exact .inl h1
   exact .inr ⟨h1,L'.lt e he⟩) (h _ (pick_top hlt) (M.frame (Nat.le_refl _) λ b hb=>pick_in hb))
 exact⟨H',h1,⟨L',h2,hf'⟩,λ b hb hb2=>h3 b hb2 (.inl hb),λ ht b hb=>(h3 b (λ hm=>by have:=hlt b hm;omega) (.inr hb)).trans (ht b (by omega))⟩
end Go.Abs
namespace Go.Abs
open List
open Go.Proofs
open Classical
set_option maxRecDepth 100000
section
variable {H S K:Hp}{n p rb cb:Nat}{rv tv:AV}{s s':MS}
theorem Mach.gp (M:Mach H n p rb cb rv tv s):H.get p=some (.cells 13 [] (s.mc rb cb rv tv) .nil):=M.told (p,s.mc rb cb rv tv) (by simp[MS.told])
theorem Mach.gr (M:Mach H n p rb cb rv tv s):∃y,H.get rb=some y/\OwnB y (flC Val.cells s.regs):=⟨_,M.told (rb,_) (by simp[MS.told]),OwnB.list rfl⟩
theorem Mach.gc (M:Mach H n p rb cb rv tv s):∃y,H.get cb=some y/\OwnB y (flC Cur.cells s.curs):=⟨_,M.told (cb,_) (by simp[MS.told]),OwnB.list rfl⟩
theorem Mach.lt (M:Mach H n p rb cb rv tv s):p<n/\rb<n/\cb<n:=⟨M.lay.lt (p,s.mc rb cb rv tv) (by simp[MS.told]),M.lay.lt (rb,flC Val.cells s.regs) (by simp[MS.told]),M.lay.lt (cb,flC Cur.cells s.curs) (by simp[MS.told])⟩
theorem Mach.ne (M:Mach H n p rb cb rv tv s):p≠rb/\p≠cb/\rb≠cb:=by
 have:=M.lay.nd;simp only[MS.told,map_cons,nodup_cons,mem_cons,not_or]at this;exact⟨this.1.1,this.1.2.1,this.2.1.1⟩
theorem Mach.updR (M:Mach S n p rb cb rv tv s)(e1:s'.rows=s.rows)(e2:s'.takes=s.takes)(e3:s'.curs=s.curs)(hp:K.get p=some (.cells 13 [] (s'.mc rb cb rv tv) .nil))(hr:∃y,K.get rb=some y/\OwnB y (flC Val.cells s'.regs))
  (hk:∀b,b<n->b≠p->b≠rb->K.get b=S.get b):ToldO K (s'.told p rb cb rv tv):=by
 have hnd:=M.lay.nd;have hlt:=M.lay.lt;have htl:=M.told;simp only[MS.told,map_cons,nodup_cons,mem_cons,not_or]at hnd hlt htl;intro e he;simp only[MS.told,e1,e2,e3,mem_cons]at he
 rcases he with rfl | rfl | he
 ·exact⟨_,hp,OwnB.list rfl⟩
 ·exact hr
 have h1:=hlt e (.inr (.inr he));have h2:=htl e (.inr (.inr he))
 have h3:e.1∈cb::(slT rv (rowsC s.rows)++(slT tv (flC Tk.cells s.takes)++lsT s.curs)).map (·.1):=by
  rcases he with rfl | he
  ·simp
  exact mem_cons_of_mem _ (mem_map_of_mem he)
 have h4:e.1≠p:=by
  rintro rfl
  rcases mem_cons.1 h3 with h | h
  ·exact hnd.1.2.1 h
  exact hnd.1.2.2 h
 have h5:e.1≠rb:=by
  rintro rfl
  rcases mem_cons.1 h3 with h | h
  ·exact hnd.2.1.1 h
  exact hnd.2.1.2 h
 exact⟨_,(hk e.1 h1 h4 h5).trans h2,OwnB.list rfl⟩
end
theorem stR {i c b:Nat}{k:ABlk}{α:Type}{f:α->List AV}{l:List α}(ho:OwnB k (flC f l))(hk:∀a,(f a).length=c)(h1:∀a,allOne (f a)=true)(hc0:0<c)(h:i<l.length)(a:α):∃y,stE c (.agg (f a) c) (some k) b (i*c)=.upd (.tup []) b y/\OwnB y (flC f (l.set i a)):=by
 obtain⟨y,h3,h4⟩:=own_stR (H:=Tr.nil.put b (some k)) (b:=b) (by simp) ho hk h1 hc0 h a;exact⟨y,by simpa using h3,h4⟩
theorem ldR {i c:Nat}{k:ABlk}{α:Type}{f:α->List AV}{l:List α}(ho:OwnB k (flC f l))(hk:∀a,(f a).length=c)(h:i<l.length):ldN (some k) (i*c) c=.val (.agg (f l[i]) c):=by
 have:=own_ldR (H:=Tr.nil.put 0 (some k)) (b:=0) (i:=i) (by simp) ho hk h;simpa using this
theorem ld1R {i c j:Nat}{k:ABlk}{α:Type}{f:α->List AV}{l:List α}{v:AV}(ho:OwnB k (flC f l))(hk:∀a,(f a).length=c)(h:i<l.length)(hj:(f l[i])[j]?=some v):ld1 (some k) (i*c+j)=.val v:=by
 have:=own_ld1 (H:=Tr.nil.put 0 (some k)) (b:=0) (i:=i) (by simp) ho hk h hj;simpa using this
theorem valOne (a:Val):allOne a.cells=true:=rfl
def toT (j:Int):AV:=.tup [.int .i64 j,.int .i64 0]
theorem const52 {S:Hp}{n p rb cb:Nat}{rv tv:AV}{s:MS}(x:Ins)(i:Nat)(ha:x.a=(i:Int))(hi:i<s.regs.length)(_ht:Top S n)(M:Mach S n p rb cb rv tv s):
  CallR pG 52 [.ptr p 0,x.av] S n (λ u K k=>u=toT (-1)/\ToldO K (({s with regs:=s.regs.set i x.v}:MS).told p rb cb rv tv)/\k<=n+1):=by
 refine CallR.of c52 (by simp[A52]) λ F hF=>?_;have gp:=M.gp;obtain⟨y,gr,ho⟩:=M.gr;obtain⟨l1,l2,l3⟩:=M.lt;obtain⟨d1,d2,d3⟩:=M.ne;have hix:=cIxa_sl (b:=rb) (o:=0) (sz:=3) (k:=.i64) hi;obtain⟨y',hst,ho'⟩:=stR (b:=rb) (c:=3) ho (λ a=>a.cells_len) valOne (by omega) hi x.v;rw[Nat.zero_add]at hix;generalize i*3=o at hix hst;simp only[MS.mc]at gp;simp[A52,B52,R52_0,R52_1,hF,Ins.av,Ins.cells,ha];refine DrwV.of (ce0_ok (P:=pG)) ?_;simp only[Val.cells]at hst;simp[clearF_get,hF,gp,neC l1,neC l2,hix,gr,hst,R52_2];refine⟨rfl,M.updR rfl rfl rfl (by simp[d1,neC l1,gp,MS.mc]) ⟨_,by simp,ho'⟩ λ b h1 h2 h3=>by simp[h3,neC h1]⟩
theorem jump57 {S:Hp}{n p rb cb:Nat}{rv tv:AV}{s:MS}(x:Ins)(_ht:Top S n)(M:Mach S n p rb cb rv tv s):
  CallR pG 57 [.ptr p 0,x.av] S n (λ u K k=>u=toT x.j/\ToldO K (s.told p rb cb rv tv)/\k<=n+1):=by
 refine CallR.of c57 (by simp[A57]) λ F hF=>?_;have gp:=M.gp;obtain⟨y,gr,ho⟩:=M.gr;obtain⟨l1,l2,l3⟩:=M.lt;simp only[MS.mc]at gp;simp[A57,B57,R57_0,R57_1,hF,Ins.av,Ins.cells];refine⟨rfl,M.updR rfl rfl rfl (by simp[neC l1,gp,MS.mc]) ⟨_,by simp[neC l2,gr],ho⟩ λ b h1 h2 h3=>by simp[neC h1]⟩
theorem end58 {S:Hp}{n p rb cb:Nat}{rv tv:AV}{s:MS}(x:Ins)(_ht:Top S n)(M:Mach S n p rb cb rv tv s):
  CallR pG 58 [.ptr p 0,x.av] S n (λ u K k=>u=toT (-1)/\ToldO K (({s with ended:=true}:MS).told p rb cb rv tv)/\k<=n+1):=by
 refine CallR.of c58 (by simp[A58]) λ F hF=>?_;have gp:=M.gp;obtain⟨y,gr,ho⟩:=M.gr;obtain⟨l1,l2,l3⟩:=M.lt;obtain⟨d1,d2,d3⟩:=M.ne;simp only[MS.mc]at gp;simp[A58,B58,R58_0,R58_1,R58_2,hF,Ins.av,Ins.cells,neC l1,gp];refine⟨rfl,M.updR rfl rfl rfl (by simp[MS.mc]) ⟨_,by simp[d1.symm,neC l2,gr],ho⟩ λ b h1 h2 h3=>by simp[h2,neC h1]⟩
def keepF (l e:Int):Int:=if l=0∨e<l then e else l
theorem keep76 {S:Hp}{n p rb cb:Nat}{rv tv:AV}{s:MS}(e:Int)(_l1:p<n)(gp:S.get p=some (.cells 13 [] (s.mc rb cb rv tv) .nil)):
  CallR pG 76 [.ptr p 0,.int .i64 e] S n (λ u K k=>u=.tup []/\K.get p=some (.cells 13 [] (({s with least:=keepF s.least e}:MS).mc rb cb rv tv) .nil)/\(∀b,b≠p->K.get b=S.get b)/\k=n):=by
 refine CallR.of c76 (by simp[A76]) λ F hF=>?_;simp only[MS.mc]at gp
 by_cases h0:s.least=0
 ·simp[A76,B76,R76_0,R76_1,hF,gp,h0];refine⟨by simp[MS.mc,keepF],λ b h=>by simp[h]⟩
 by_cases h1:e<s.least
 ·simp[A76,B76,R76_0,R76_1,hF,gp,h0,h1];refine⟨by simp[MS.mc,keepF,h1],λ b h=>by simp[h]⟩
 simp[A76,B76,R76_0,hF,gp,h0,h1];simp[MS.mc,keepF,h1,h0]
end Go.Abs
