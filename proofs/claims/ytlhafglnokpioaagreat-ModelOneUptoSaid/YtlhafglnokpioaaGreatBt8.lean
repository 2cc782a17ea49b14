/- A part. -/
import Derived.Test.YtlhafglnokpioaaGreatBt7
noncomputable section
namespace Go.Abs
open List
open Go.Proofs
open Classical
set_option maxRecDepth 100000
def yC (x:Int):Int:=IntKind.i64.wrap x
def nQ:Int := -9223372036854775808
def Qs (x y:Int):Int×Bool:=(yC (x+y),(decide (x<0) != decide (y<0))||(decide (yC (x+y)<0) == decide (x<0)))
def OP (x y:Int):Int×Bool:=(yC (x - y),(decide (x<0) == decide (y<0))||(decide (yC (x - y)<0) == decide (x<0)))
def Es (x y:Int):Int×Bool:=if x=0∨y=0 then (0,true)else (yC (x*y),!((decide (x = -1)&&decide (y=nQ))||(decide (y = -1)&&decide (x=nQ)))&&decide (yC ((yC (x*y)).tdiv y)=x))
def Fz (x y:Int):Int×Bool:=if x=nQ/\y = -1 then (0,false)else (yC (x.tdiv y),true)
def Ew (x y:Int):Int×Bool:=if y = -1 then (0,true)else (x.tmod y,true)
def Hk (y:Int):Int×Bool:=(yC (-y),decide (y≠nQ))
theorem qU (k:IntKind)(a b:Int)(h:b≠0):dw .quo k a b=.val (.int k (k.wrap (a.tdiv b))):=by simp only[dw,kN];rw[ah h]
theorem Im (k:IntKind)(a b:Int)(h:b≠0):dw .rem k a b=.val (.int k (a.tmod b)):=by simp only[dw,kN];rw[ah h]
theorem aiz (x y:Int):ae pG 335 [zI x,zI y] (.aX [zI (Qs x y).1,.bool (Qs x y).2]):=by
 refine pv c335 λ F hF=>?_;unfold Qs yC
 by_cases h1:x<0<;>by_cases h2:y<0<;>by_cases h3:IntKind.i64.wrap (x+y)<0 <;>
 ·simp[A335,hF,h1,h2,h3,js,fS];exact fp
theorem afU (x y:Int):ae pG 336 [zI x,zI y] (.aX [zI (OP x y).1,.bool (OP x y).2]):=by
 refine pv c336 λ F hF=>?_;unfold OP yC
 by_cases h1:x<0<;>by_cases h2:y<0<;>by_cases h3:IntKind.i64.wrap (x - y)<0 <;>
 ·simp[A336,hF,h1,h2,h3,js,fS];exact fp
theorem agK (x y:Int):ae pG 337 [zI x,zI y] (.aX [zI (Es x y).1,.bool (Es x y).2]):=by
 refine pv c337 λ F hF=>?_;unfold Es yC nQ
 by_cases h1:x=0
 ·simp[A337,hF,h1];exact fp
 by_cases h2:y=0
 ·simp[A337,hF,h1,h2];exact fp
 simp[A337,hF,h1,h2];refine cj.of (cN (P:=pG)) ?_
 by_cases h3:x = -1<;>by_cases h4:y = -9223372036854775808<;>by_cases h5:y = -1<;>by_cases h6:x = -9223372036854775808 <;>
 first
 |omega
 |(simp[ab,hF,h3,h4,h5,h6,h2,qU];exact fp)
theorem ahT (x y:Int)(h0:y≠0):ae pG 338 [zI x,zI y] (.aX [zI (Fz x y).1,.bool (Fz x y).2]):=by
 refine pv c338 λ F hF=>?_;unfold Fz yC nQ
 by_cases h1:x = -9223372036854775808
 ·by_cases h2:y = -1
  ·simp[A338,hF,h1,h2];exact fp
  simp[A338,hF,h1,h2,h0,qU];exact fp
 simp[A338,hF,h1,h0,qU];exact fp
theorem agL (x y:Int)(h0:y≠0):ae pG 339 [zI x,zI y] (.aX [zI (Ew x y).1,.bool (Ew x y).2]):=by
 refine pv c339 λ F hF=>?_;unfold Ew
 by_cases h1:y = -1
 ·simp[A339,hF,h1];exact fp
 simp[A339,hF,h1,h0,Im];exact fp
theorem agJ (x y:Int):ae pG 306 [zI x,zI y] (.aX [zI (Hk y).1,.bool (Hk y).2]):=by
 refine pv c306 λ F hF=>?_;unfold Hk yC nQ;have n1:cUn .neg (zI y)=.val (zI (IntKind.i64.wrap (-y))):=by simp only[cUn,kN,Int.zero_sub]
 by_cases h1:y = -9223372036854775808
 ·subst h1;simp[A306,hF,n1];exact fp
 simp[A306,hF,n1,h1];exact fp
theorem anb (c:Int):ae pG 341 [zI c] (.bool (decide (c=0))):=by
 refine pv c341 λ F hF=>?_;simp[A341,hF];exact .bool (by simp)
theorem alK (c:Int):ae pG 342 [zI c] (.bool (decide (c≠0))):=by
 refine pv c342 λ F hF=>?_;simp[A342,hF];exact .bool (by simp)
theorem alN (c:Int):ae pG 343 [zI c] (.bool (decide (c<0))):=by
 refine pv c343 λ F hF=>?_;simp[A343,hF];exact .bool (by simp)
theorem alP (c:Int):ae pG 344 [zI c] (.bool (decide (c<=0))):=by
 refine pv c344 λ F hF=>?_;simp[A344,hF];exact .bool (by simp)
theorem amz (c:Int):ae pG 345 [zI c] (.bool (decide (0<c))):=by
 refine pv c345 λ F hF=>?_;simp[A345,hF];exact .bool (by simp)
theorem amJ (c:Int):ae pG 346 [zI c] (.bool (decide (0<=c))):=by
 refine pv c346 λ F hF=>?_;simp[A346,hF];exact .bool (by simp)
theorem ai9 (a b:Val):ae pG 309 [a.av,b.av] (ct (jR a b (Qs a.num b.num))):=rp c309 (oU a b 335 _ λ _ _ _=>aiz _ _)
theorem aiD (a b:Val):ae pG 310 [a.av,b.av] (ct (jR a b (OP a.num b.num))):=rp c310 (oU a b 336 _ λ _ _ _=>afU _ _)
theorem aiS (a b:Val):ae pG 311 [a.av,b.av] (ct (jR a b (Es a.num b.num))):=rp c311 (oU a b 337 _ λ _ _ _=>agK _ _)
theorem aoG (a b:Val):ae pG 315 [a.av,b.av] (ct (jT a b (decide (a.ord b=0)))):=rp c315 (pF a b 341 _ (anb _))
theorem aow (a b:Val):ae pG 316 [a.av,b.av] (ct (jT a b (decide (a.ord b≠0)))):=rp c316 (pF a b 342 _ (alK _))
theorem aox (a b:Val):ae pG 317 [a.av,b.av] (ct (jT a b (decide (a.ord b<0)))):=rp c317 (pF a b 343 _ (alN _))
theorem aoy (a b:Val):ae pG 318 [a.av,b.av] (ct (jT a b (decide (a.ord b<=0)))):=rp c318 (pF a b 344 _ (alP _))
theorem aoB (a b:Val):ae pG 319 [a.av,b.av] (ct (jT a b (decide (0<a.ord b)))):=rp c319 (pF a b 345 _ (amz _))
theorem aoD (a b:Val):ae pG 320 [a.av,b.av] (ct (jT a b (decide (0<=a.ord b)))):=rp c320 (pF a b 346 _ (amJ _))
def Fv (a b:Val)(r:Int×Bool):Val×Int:=if jO 1 [a,b]=0/\a.kind≠0/\b.kind≠0/\b.num=0 then (iw,32)else jR a b r
def divC (f:FuncId):CF:={A312 with code:=.seq Ji (.seq (.seq Jh (.cond (ar 25) (.seq Jg .ret) .skip)) (.seq (.mc [oP (bm 27) (iI 3 (ar 2)),oP (bm 28) (iI 3 (ar 3)),cP (bm 29) 305 [(ar 27),(ar 28),(aT (.fn (.func f) [] []))],oP (bm 30) (e1 (mN 0) (ar 29)),oP (bm 31) (e1 (mN 1) (ar 29)),oP pZ (dm 3 (ar 4) (ar 30)),oP (bm 5) (ej (ar 31))]) .ret))}
theorem Uw {g f:FuncId}(hc:HU pG g=some (divC f)){a b:Val}{r:Int×Bool}(h:b.num≠0->ae pG f [zI a.num,zI b.num] (.aX [zI r.1,.bool r.2])):ae pG g [a.av,b.av] (ct (Fv a b r)):=by
 refine hU hc (by simp) (by simp) (by simp[divC,A312]) λ F hF=>?_;have hall:=xB 1 [a,b] (by simp[aM]);have hr:=λ h0=>oU a b f r λ _ _ _=>h h0;have hr2:jO 1 [a,b]≠0∨a.kind=0∨b.kind=0->ae pG 305 [a.av,b.av,.fn (.func f) [] []] (ct (jR a b r)):=λ h1=>oU a b f r λ x y z=>by rcases h1 with h1|h1|h1<;>contradiction
 unfold Fv;simp only[Val.av]at hr hr2;generalize jR a b r=q at *;generalize jO 1 [a,b]=e at *;simp[divC,Ji,Jh,hF,Val.av,rep];refine aw.nf hall (by simp) (.cons _ _ _ _ fp (.cons _ _ _ _ (Lu (a:=a) (c:=b) (by simp[Val.cells])) .nil)) ?_
 by_cases h0:e=0
 ·by_cases ha:a.kind=0
  ·simp only[ha]at hr2;simp[h0,ha];refine aw.pure (hr2 (.inr (.inl trivial))) ?_;simp[A312,ct,Val.av];exact fp
  by_cases hb:b.kind=0
  ·simp only[hb]at hr2;simp[h0,ha,hb];refine aw.pure (hr2 (.inr (.inr trivial))) ?_;simp[A312,ct,Val.av];exact fp
  by_cases hn:b.num=0
  ·simp[h0,ha,hb,hn,Jg,A312,ct,Val.av];exact fp
  simp[h0,ha,hb,hn];refine aw.pure (hr hn) ?_;simp[A312,ct,Val.av];exact fp
 simp[h0];refine aw.pure (hr2 (.inl h0)) ?_;simp[A312,ct,Val.av];exact fp
theorem ai5 (a b:Val):ae pG 312 [a.av,b.av] (ct (Fv a b (Fz a.num b.num))):=Uw c312 λ h=>ahT _ _ h
theorem aiT (a b:Val):ae pG 313 [a.av,b.av] (ct (Fv a b (Ew a.num b.num))):=Uw c313 λ h=>agL _ _ h
def Pq:Val:=⟨1,0,[]⟩
theorem aiR (a:Val):ae pG 272 [a.av] (ct (jR Pq a (Hk a.num))):=by
 refine pv c272 λ F hF=>?_;have h:=oU Pq a 306 _ λ _ _ _=>agJ 0 a.num;generalize jR Pq a (Hk a.num)=q at *;simp only[Val.av,Pq]at h;simp[A272,hF,Val.av];refine aw.pure h ?_;simp[ct,Val.av];exact fp
def abe (a:Val):Val×Int:=if jO 3 [a]≠0∨a.kind=0 then (iw,jO 3 [a])else (fA (decide (a.num=0)),0)
theorem aiQ (a:Val):ae pG 273 [a.av] (ct (abe a)):=by
 refine pv c273 λ F hF=>?_;have hall:=xB 3 [a] (by simp[aM]);unfold abe;generalize jO 3 [a]=e at *;simp[A273,hF,Val.av,rep];refine aw.nf hall (by simp) (.cons _ _ _ _ fp (.cons _ _ _ _ (amO (a:=a) (by simp[Val.cells])) .nil)) ?_
 by_cases h0:e=0
 ·by_cases ha:a.kind=0
  ·simp[BL,h0,ha,Jk];exact fp
  simp[BL,h0,ha,XR];refine aw.pure (zQ _) ?_;simp[Val.av];exact fp
 simp[BL,h0,Jk];exact fp
def EH (a b:Val):Val×Int:=if jO 2 [a,b]≠0∨a.kind=0∨b.kind=0 then (iw,jO 2 [a,b])else if a.s.length+b.s.length<=64 then (⟨2,0,a.s++b.s⟩,0)else (iw,3)
theorem abW {k:Int}{a b:Val}(h:jO k [a,b]=0):a.may=true/\b.may=true/\Lh k a=true/\Lh k b=true:=by
 unfold jO at h
 split at h
 ·rename_i h1
  split at h
  ·rename_i h2;simp at h1 h2;exact⟨h1.1,h1.2,h2.1,h2.2⟩
  omega
 omega
theorem acD (a b:Val):ae pG 314 [a.av,b.av] (ct (EH a b)):=by
 refine pv c314 λ F hF=>?_;have hall:=xB 2 [a,b] (by simp[aM]);have hfm:=abW (k:=2) (a:=a) (b:=b);unfold EH;generalize jO 2 [a,b]=e at *;simp[A314,hF,Val.av,rep];refine aw.nf hall (by simp) (.cons _ _ _ _ fp (.cons _ _ _ _ (Lu (a:=a) (c:=b) (by simp[Val.cells])) .nil)) ?_
 by_cases h0:e=0
 ·by_cases ha:a.kind=0
  ·simp[tB,h0,ha,BI];exact fp
  by_cases hb:b.kind=0
  ·simp[tB,h0,ha,hb,BI];exact fp
  obtain⟨m1,m2,m3,m4⟩:=hfm h0;have l1:a.s.length<=64:=Val.oZ m1 (by simpa[Lh,ha]using m3);have l2:b.s.length<=64:=Val.oZ m2 (by simpa[Lh,hb]using m4);have ws:IntKind.i64.wrap ((a.s.length:Int)+(b.s.length:Int))=((a.s.length+b.s.length:Nat):Int):=by rw[dY _ (by omega) (by omega)];omega
  by_cases hl:a.s.length+b.s.length<=64
  ·have arS:yq (.str a.s) (.str b.s)=.val (.str (a.s++b.s)):=UR (by unfold big;omega);simp[tB,h0,ha,hb,Jf,ws,show ¬(64:Int)<(a.s.length:Int)+(b.s.length:Int) by omega,XB,arS,hl];exact fp
  simp[tB,h0,ha,hb,Jf,ws,show (64:Int)<(a.s.length:Int)+(b.s.length:Int) by omega,XC,hl];exact fp
 simp[tB,h0,BI];exact fp
def ue (c:Bool)(a b:Val):Val×Int:=if jO 3 [a,b]≠0 then (iw,jO 3 [a,b])else if a=fA c∨b=fA c then (fA c,0)else if a.kind=0∨b.kind=0 then (iw,0)else (fA (!c),0)
def UU (c:Bool):CF:={A321 with code:=.seq Je (.seq (.seq Jd (.seq BH (.cond (ar 13) (.seq Jc .ret) .skip))) (.seq (.mc [cP (bm 16) 308 [(aT (.bool c))],oP (bm 7) (ak [(zI 0),(zI 0),(.str [])] 3),oP pZ (dm 3 (ar 7) (ar 16))]) (.seq (.block 0 (.seq xO (.cond (ar 17) (.seq BG .ret) (.seq xN (.cond (ar 27) (.seq BF .ret) .skip))))) (.seq (.mc [cP (bm 37) 308 [(aT (.bool (!c)))],oP pZ (dm 3 (ar 4) (ar 37)),oP (bm 5) (ej (aT (zI 0)))]) .ret))))}
theorem both_ok {g:FuncId}(c:Bool) (hc:HU pG g=some (UU c)) (a b:Val):ae pG g [a.av,b.av] (ct (ue c a b)):=by
 refine hU hc (by simp) (by simp) (by simp[UU,A321]) λ F hF=>?_;have hall:=xB 3 [a,b] (by simp[aM])
 have ey:∀(v:Val),ly false [.i,.i,.s] (.agg [zI v.kind,zI v.num,.str v.s] 3) (.agg [zI (fA c).kind,zI (fA c).num,.str (fA c).s] 3)=.val (.bool (decide (v=fA c))):=λ v=>by
  have:=Ba false v (fA c);simpa[Val.av]using this
 unfold ue;generalize jO 3 [a,b]=e at *;have y1:=zQ c;have y2:=zQ (!c);generalize fA c=y at *;generalize fA (!c)=y' at *;simp only[Val.av]at y1 y2;simp[UU,Je,Jd,hF,Val.av,rep];refine aw.nf hall (by simp) (.cons _ _ _ _ fp (.cons _ _ _ _ (Lu (a:=a) (c:=b) (by simp[Val.cells])) .nil)) ?_
 by_cases h0:e=0
 ·simp[BH,h0];refine aw.pure y1 ?_
  by_cases h1:a=y
  ·simp[xO,ey,h1,BG,A321,ct,Val.av];exact fp
  by_cases h2:b=y
  ·simp[xO,ey,h1,h2,BG,A321,ct,Val.av];exact fp
  simp[xO,ey,h1,h2]
  by_cases h3:a.kind=0
  ·simp[xN,h3,BF,A321,ct,Val.av];exact fp
  by_cases h4:b.kind=0
  ·simp[xN,h3,h4,BF,A321,ct,Val.av];exact fp
  simp[xN,h3,h4];refine aw.pure y2 ?_;simp[A321,ct,Val.av];exact fp
 simp[BH,h0,Jc,A321,ct,Val.av];exact fp
theorem ai8 (a b:Val):ae pG 321 [a.av,b.av] (ct (ue false a b)):=both_ok false c321 a b
theorem aov (a b:Val):ae pG 322 [a.av,b.av] (ct (ue true a b)):=both_ok true c322 a b
def sy (op:Int):Int:=if op=1∨op=3 then 0 else if 4<=op/\op<=7 then 1 else if 8<=op/\op<=21 then 2 else -1
theorem Sr (op:Int):ae pG 267 [zI op] (zI (sy op)):=by
 refine pv c267 λ F hF=>?_;unfold sy
 by_cases h1:op=1
 ·simp[A267,hF,h1];exact fp
 by_cases h3:op=3
 ·simp[A267,hF,h3];exact fp
 by_cases h4:4<=op
 ·by_cases h7:op<=7
  ·simp[A267,hF,h1,h3,h4,h7];exact fp
  by_cases h21:op<=21
  ·simp[A267,hF,h1,h3,h4,h7,show 8<=op by omega,h21];exact fp
  simp[A267,hF,h1,h3,h4,h7,show 8<=op by omega,h21];exact fp
 simp[A267,hF,h1,h3,h4,show ¬ 8<=op by omega];exact fp
abbrev Eo:AV:=.al (.slice none 0 0)
def TV:List AV:=[.fn (.func 309) [] [],.fn (.func 310) [] [],.fn (.func 311) [] [],.fn (.func 312) [] [],.fn (.func 313) [] [],.fn (.func 314) [] [],.fn (.func 315) [] [],.fn (.func 316) [] [],.fn (.func 317) [] [],.fn (.func 318) [] [],.fn (.func 319) [] [],.fn (.func 320) [] [],.fn (.func 321) [] [],.fn (.func 322) [] []]
theorem UL:ae pG 274 [] (.agg TV 14):=by
 refine hU c274 (by simp) (by simp[TV]) (by simp[A274]) λ F hF=>?_;simp[A274];exact .pure _ (by simp)
def unS (op:Int)(a:Val):Val×Int:=if op=4 then jR Pq a (Hk a.num)else if op=5 then abe a else if op=6 then (fA (decide (a.kind=0)),0)else (fA (decide (a.kind≠0)),0)
def biS (op:Int)(a b:Val):Val×Int:=
 if op=8 then jR a b (Qs a.num b.num)else if op=9 then jR a b (OP a.num b.num)else if op=10 then jR a b (Es a.num b.num)else if op=11 then Fv a b (Fz a.num b.num)else if op=12 then Fv a b (Ew a.num b.num)else
 if op=13 then EH a b else if op=14 then jT a b (decide (a.ord b=0))else if op=15 then jT a b (decide (a.ord b≠0))else if op=16 then jT a b (decide (a.ord b<0))else if op=17 then jT a b (decide (a.ord b<=0))else
 if op=18 then jT a b (decide (0<a.ord b))else if op=19 then jT a b (decide (0<=a.ord b))else if op=20 then ue false a b else ue true a b
theorem an' (k:Nat)(h:k<14)(a b:Val):ae pG (309+k) [a.av,b.av] (ct (biS ((8+k:Nat):Int) a b))/\TV[k]?=some (.fn (.func (309+k)) [] []):=by
 have:k=0∨k=1∨k=2∨k=3∨k=4∨k=5∨k=6∨k=7∨k=8∨k=9∨k=10∨k=11∨k=12∨k=13:=by omega
 rcases this with rfl|rfl|rfl|rfl|rfl|rfl|rfl|rfl|rfl|rfl|rfl|rfl|rfl|rfl<;>refine⟨?_,rfl⟩
 ·exact ai9 a b
 ·exact aiD a b
 ·exact aiS a b
 ·exact ai5 a b
 ·exact aiT a b
 ·exact acD a b
 ·exact aoG a b
 ·exact aow a b
 ·exact aox a b
 ·exact aoy a b
 ·exact aoB a b
 ·exact aoD a b
 ·exact ai8 a b
 exact aov a b
theorem EI (q:Nat):f_ 2 3 (.ptr q 0) (zI 0)=.val (.ptr q 0)/\f_ 2 3 (.ptr q 0) (zI 1)=.val (.ptr q 3):=⟨rfl,rfl⟩
end Go.Abs
namespace Go.Abs
open List
open Go.Proofs
open Classical
set_option maxRecDepth 100000
def FJ (h:Hf)(v v':AV):Prop:=∀(φ:Ph)(D:Da)(w:World)(x:Value),Rel φ D h w->VR φ D v x->VR φ (shut φ D h w) v' x
theorem FJ.refl (h:Hf)(v:AV):FJ h v v:=λ _ _ _ _ _ hx=>hx.mono (λ _ _ h=>h) eP
theorem FJ.nf {h:Hf}{v v':AV}(f:eY h v v'):FJ h v v':=λ _ _ _ _ hr hx=>(f.vr hr hx).mono (λ b p hb=>by simp[lF]at hb) (λ _ _ h=>h)
inductive J5 (h:Hf):List AV->List AV->Prop
 |nil:J5 h [] []
 |cons (v v' vs vs'):FJ h v v'->J5 h vs vs'->J5 h (v::vs) (v'::vs')
theorem J5.at {h:Hf}:∀ {l l':List AV},J5 h l l'->∀(i:Nat) v',l'[i]?=some v'->∃v,l[i]?=some v/\FJ h v v'
 |_,_,.nil,i,v',hv=>by simp at hv
 |_,_,.cons v v2 vs vs' f r,i,v',hv=>by
  cases i with
  |zero=>simp at hv;subst hv;exact⟨v,by simp,f⟩
  |succ i=>simp at hv;simpa using r.at i v' hv
theorem J5.length {h:Hf}:∀ {l l':List AV},J5 h l l'->l'.length=l.length
 |_,_,.nil=>rfl
 |_,_,.cons _ _ _ _ _ r=>by simp[r.length]
def BJ (h:Hf)(y0 y:br):Prop:=y0=y∨∃u z bs t l,y0=.cells u z bs t/\y=.cells u [] l .nil/\l.length=u/\∀(i:Nat) v',l[i]?=some v'->∃v,gz u z bs t i=some v/\FJ h v v'
structure pV (h:Hf)(H H2:Hp):Prop where
 sub:∀b k,h b=some k->H.get b=some k
 gone:∀b,h b≠none->H2.get b=none
 hp:∀b y,H2.get b=some y->∃y0,H.get b=some y0/\BJ h y0 y
theorem pV.refl (H:Hp):pV (λ _=>none) H H:=
 ⟨λ b k h=>by simp at h,λ b h=>ai rfl h,λ b y h=>⟨y,h,.inl rfl⟩⟩
section
variable {φ:Ph}{D:Da}{w:World}{n:Nat}
theorem BJ.acb {h:Hf}(hr:Rel φ D h w){y0 y:br}(hz:BJ h y0 y) {p}(hb:iQ φ D w p y0):iQ φ (shut φ D h w) w p y:=by
 rcases hz with rfl|⟨u,z,bs,t,l,rfl,rfl,hl,hz⟩
 ·exact hb.mono (λ _ _ h=>h) eP rfl
 obtain⟨c,e,fr,h1,h2,h3,h4,h5,h6⟩:=hb;refine⟨c,e,fr,h1,h2,h3,λ i v hv=>?_,λ _ _=>hl,h6⟩;rw[jc]at hv
 split at hv
 ·obtain⟨v0,h7,h8⟩:=hz i v hv;obtain⟨x,h9,h10⟩:=h4 i v0 h7;exact⟨x,h9,h8 _ _ _ _ hr h10⟩
 cases hv
theorem pV.rel {h:Hf}{H H2:Hp}(s:pV h H H2)(hr:Rel φ D H.get w):Rel φ (shut φ D h w) H2.get w:=by
 have hs:=hr.sub s.sub
 have ne:∀b,H2.get b≠none->H.get b≠none:=λ b hb=>by
  cases hx:H2.get b with
  |none=>exact ai hx hb
  |some k=>obtain⟨y0,h0,_⟩:=s.hp b k hx;rw[h0];simp
 have neh:∀b,h b≠none->H.get b≠none:=λ b hb=>by
  cases hx:h b with
  |none=>exact ai hx hb
  |some k=>rw[s.sub b k hx];simp
 refine⟨λ b k hb=>?_,λ b c p q hb hc=>hr.inj b c p q (ne b hb) (ne c hc),λ b p hb hp=>?_,lI hr.ep⟩
 ·obtain⟨y0,h0,hz⟩:=s.hp b k hb;obtain⟨p,hp,hl,hk⟩:=hr.blk b y0 h0;exact⟨p,hp,hl,hz.acb hs hk⟩
 refine oR (hr.sep b p (ne b hb) hp) λ b' p' h1 h2 h3=>?_;have:=hr.inj b' b p' p (neh b' h1) (ne b hb) h2 hp h3;subst this;exact hb (s.gone b' h1)
theorem pV.ext {h:Hf}{H H2:Hp}(s:pV h H H2):Ext φ D H.get w n φ (shut φ D h w) H2.get w n:=by
 have ne:∀b,H2.get b≠none->H.get b≠none:=λ b hb=>by
  cases hx:H2.get b with
  |none=>exact ai hx hb
  |some k=>obtain⟨y0,h0,_⟩:=s.hp b k hx;rw[h0];simp
 have neh:∀b,h b≠none->H.get b≠none:=λ b hb=>by
  cases hx:h b with
  |none=>exact ai hx hb
  |some k=>rw[s.sub b k hx];simp
 refine⟨aP _,λ _ _ h=>h,λ b a c=>ai a c,eP,aP _,λ _ _ _=>rfl,λ b p hb hp=>.inr ⟨b,p,ne b hb,hp,rfl⟩,λ c hc=>?_,λ b hb=>.inl (ne b hb),rfl,rfl⟩
 rcases vM hc with h1|⟨b,p,h1,h2,h3⟩
 ·exact .inl h1
 exact .inr (.inr ⟨b,p,neh b h1,h2,h3⟩)
end
theorem aj.zs {P:Program}{g:FuncId}{args:List AV}{H:Hp}{n:Nat}{R R2:AV->Hp->Nat->Prop}(h:aj P g args H n R)(hs:∀v K k,R v K k->∃hh K2 v2,pV hh K K2/\FJ hh v v2/\R2 v2 K2 k):aj P g args H n R2:=
 ⟨h.1,λ φ D w xs a b c RR hR=>h.2 φ D w xs a b c RR λ v K k φ' D' w' x r e rel hx=>by
  obtain⟨hh,K2,v2,sh,fi,r2⟩:=hs v K k r;exact hR v2 K2 k φ' (Go.Abs.shut φ' D' hh w') w' x r2 (e.trans sh.ext) (sh.rel rel) (fi _ _ _ _ (rel.sub sh.sub) hx)⟩
theorem pV.some {h:Hf}{H:Hp}(L:List Nat)(hs:∀b k,h b=some k->H.get b=some k)(hg:∀b,h b≠none->b∉L):pV h H (pick H L):=
 ⟨hs,λ b hb=>by rw[ew,ah (hg b hb)],λ b y hy=>by
  rw[ew]at hy
  split at hy
  ·exact⟨y,hy,.inl rfl⟩
  cases hy⟩
end Go.Abs
namespace Go.Abs
open List
open Go.Proofs
open Classical
set_option maxRecDepth 100000
theorem Qa (w:jP):AV.agg ((fc.cells w).take 2) 2=fe.av w.aO:=by simp[jf,aL.av,dI]
theorem afZ (t:bo)(hl:t.cols.length<=aM):ae pG 68 [aA.av t,aA.av t] (.bool true):=by
 unfold aM at hl;refine pv c68 λ F hF=>?_;simp[A68,hF,aL.av,dB,aL.aD]
 refine aE.of (λ q F K m ms=>∃i:Nat,q=t.cols.length - i/\i<=t.cols.length/\F.get 2=some (.ptr 0 0)/\F.get 3=some (.ptr 1 0)/\F.get 5=some (zI (i:Int))/\K.get 0=aG 4 [.int .u32 t.id,.str t.name,bL.ds t.cols,.int .u32 t.head]/\K.get 1=aG 4 [.int .u32 t.id,.str t.name,bL.ds t.cols,.int .u32 t.head]/\ms=[]) t.cols.length
  ⟨0,rfl,by omega,by simp,by simp,by simp,by simp,by simp,rfl⟩ ?_
 clear hF F;rintro q F K m ms ⟨i,rfl,hi,f2,f3,f5,k0,k1,rfl⟩
 by_cases h:i<t.cols.length
 ·have hx:=bL.ix (ik:=.i64) h;have hld:=λ H=>bL.mf t.cols[i] (bL.l (t.cols.drop (i+1))) H;generalize t.cols[i]=u at *;obtain⟨un,uk,ub⟩:=u
  have hq:ly true [.s,.i,.b] (bL.av ⟨un,uk,ub⟩) (bL.av ⟨un,uk,ub⟩)=.val (.bool false):=by
   have he:bF [.s,.i,.b] (bL.cells ⟨un,uk,ub⟩) (bL.cells ⟨un,uk,ub⟩)=some true:=by simp[nY,bF,dH]
   show (match bF [.s,.i,.b] (bL.cells ⟨un,uk,ub⟩) (bL.cells ⟨un,uk,ub⟩)with|some r=>bb.val (.bool (true != r))|none=>.fail)=_;rw[he];rfl
  generalize bL.cells ⟨un,uk,ub⟩=cc at *;generalize bL.av ⟨un,uk,ub⟩=ca at *;simp[Zy,f2,f5,k0,aL.aD,h];simp only[aed];refine cj.of (cN (P:=pG)) ?_;simp[ab,f2,f3,f5,k0,k1,hx,hld,hq,aec,aC i (by omega)];exact⟨_,by omega,i+1,rfl,by omega,by simp⟩
 obtain rfl:i=t.cols.length:=by omega
 simp[Zy,f2,f5,k0,aL.aD,aeb];exact fp
theorem aat (x:mb)(hl:x.cols.length<=aM):ae pG 155 [aQ.av x,aQ.av x] (.bool true):=by
 unfold aM at hl;refine pv c155 λ F hF=>?_
 cases hu:x.uniq <;>
 ·simp[A155,hF,aL.av,eC,aL.aD,hu,js,fS,eJ]
  refine aE.of (λ q F K m ms=>∃i:Nat,q=x.cols.length - i/\i<=x.cols.length/\F.get 2=some (.ptr 0 0)/\F.get 3=some (.ptr 1 0)/\F.get 5=some (zI (i:Int))/\K.get 0=aG 6 (aQ.cells x)/\K.get 1=aG 6 (aQ.cells x)/\ms=[]) x.cols.length
   ⟨0,rfl,by omega,by simp,by simp,by simp,by simp[eC,hu],by simp[eC,hu],rfl⟩ ?_
  clear hF F;rintro q F K m ms ⟨i,rfl,hi,f2,f3,f5,k0,k1,rfl⟩;rw[eC]at k0 k1
  by_cases h:i<x.cols.length
  ·have hx:=cQ.ix (ik:=.i64) h;rw[HQ]at hx;generalize x.cols[i]=u at *;simp[JZ,f2,f5,k0,aL.aD,h];simp only[YS];refine cj.of (cN (P:=pG)) ?_;simp[ab,f2,f3,f5,k0,k1,hx,js,fS,YR,aC i (by omega)];exact⟨_,by omega,i+1,rfl,by omega,by simp[eC]⟩
  obtain rfl:i=x.cols.length:=by omega
  simp[JZ,f2,f5,k0,aL.aD,YQ];exact fp
theorem afY (l:List mb)(hl:l.length<=aM)(hc:∀x∈l,x.cols.length<=aM):ae pG 69 [aQ.ds l,aQ.ds l] (.bool true):=by
 unfold aM at hl;refine pv c69 λ F hF=>?_;simp[A69,hF,aL.aD]
 refine aE.of (λ q F K m ms=>∃i:Nat,q=l.length - i/\i<=l.length/\F.get 0=some (aQ.ds l)/\F.get 1=some (aQ.ds l)/\F.get 5=some (zI (i:Int))/\ms=[]) l.length
  ⟨0,rfl,by omega,by simp[hF],by simp[hF],by simp,rfl⟩ ?_
 clear hF F;rintro q F K m ms ⟨i,rfl,hi,f0,f1,f5,rfl⟩
 by_cases h:i<l.length
 ·have hx:=aQ.ix (ik:=.i64) h;have hld:=λ H=>aQ.mf l[i] (aQ.l (l.drop (i+1))) H;have hs:=aat l[i] (hc _ (b6 h));generalize l[i]=u at *;generalize aQ.av u=ca at *;simp[Zx,f0,f5,aL.aD,h];simp only[aea];refine cj.of (dK (l:=[(155,[ca,ca],λ H n=>.mk (.bool true) H n)]) ?_) ?_
  ·simp only[gp];rintro y rfl;exact cL hs
  simp[ab,f0,f1,f5,hx,hld,bZ,ad',aC i (by omega)];exact⟨_,by omega,i+1,rfl,by omega,by simp⟩
 obtain rfl:i=l.length:=by omega
 simp[Zx,f0,f5,aL.aD,ad_];exact fp
theorem af0 (s:bB)(hs:s.dz):ae pG 26 [fe.av s,fe.av s] (.bool true):=by
 have hl:=hs.t;unfold aM at hl;have h70:=afY s.indexes hs.i hs.ic;refine pv c26 λ F hF=>?_;simp[A26,hF,aL.av,dI,aL.aD]
 refine aE.of (λ q F K m ms=>∃i:Nat,q=s.tables.length - i/\i<=s.tables.length/\F.get 2=some (.ptr 0 0)/\F.get 3=some (.ptr 1 0)/\F.get 5=some (zI (i:Int))/\K.get 0=aG 2 [aA.ds s.tables,aQ.ds s.indexes]/\K.get 1=aG 2 [aA.ds s.tables,aQ.ds s.indexes]/\ms=[]) s.tables.length
  ⟨0,rfl,by omega,by simp,by simp,by simp,by simp,by simp,rfl⟩ ?_
 clear hF F;rintro q F K m ms ⟨i,rfl,hi,f2,f3,f5,k0,k1,rfl⟩
 by_cases h:i<s.tables.length
 ·have hx:=aA.ix (ik:=.i64) h;have hld:=λ H=>aA.mf s.tables[i] (aA.l (s.tables.drop (i+1))) H;have hsm:=afZ s.tables[i] (hs.tc _ (b6 h));generalize s.tables[i]=u at *;generalize aA.av u=ca at *;simp[ZI,f2,f5,k0,aL.aD,h];simp only[aeW];refine cj.of (dK (l:=[(68,[ca,ca],λ H n=>.mk (.bool true) H n)]) ?_) ?_
  ·simp only[gp];rintro y rfl;exact cL hsm
  simp[ab,f2,f3,f5,k0,k1,hx,hld,bZ,aeV,aC i (by omega)];exact⟨_,by omega,i+1,rfl,by omega,by simp⟩
 obtain rfl:i=s.tables.length:=by omega
 simp[ZI,f2,f3,f5,k0,k1,aL.aD,aeU];refine aw.pure h70 ?_;simp;exact fp
theorem aaa (w:jP)(hw:w.dz):ae pG 11 [fc.av w,fc.av w] (.bool true):=by
 have hl:=hw.l;unfold aM at hl;have h34:=af0 w.aO hw.s;rw[<-Qa]at h34;refine pv c11 λ F hF=>?_;have hwv:fc.av w=.agg (fc.cells w) 3:=rfl;have hcl:(fc.cells w).length=3:=by simp
 rw[hwv]at hF;simp[A11,hF];refine aw.pure h34 ?_;simp[jf,aL.aD,afh]
 refine aE.of (λ q F K m ms=>∃i:Nat,q=w.rows.length - i/\i<=w.rows.length/\F.get 2=some (.ptr 0 0)/\F.get 3=some (.ptr 1 0)/\F.get 5=some (zI (i:Int))/\K.get 0=aG 3 (fc.cells w)/\K.get 1=aG 3 (fc.cells w)/\ms=[]) w.rows.length
  ⟨0,rfl,by omega,by simp,by simp,by simp,by simp[jf],by simp[jf],rfl⟩ ?_
 clear hF F;rintro q F K m ms ⟨i,rfl,hi,f2,f3,f5,k0,k1,rfl⟩;rw[jf]at k0 k1
 by_cases h:i<w.rows.length
 ·have hx:=dM.ix (ik:=.i64) h;have hsr:=Qu w.rows[i] w.rows[i] (hw.t _ (b6 h)) (λ r hr=>(hw.r _ (b6 h) r hr).1);rw[sP]at hx;generalize w.rows[i]=rows at *;rw[show aW rows=.ds (bG rows) rows.length 1 from rfl]at hx;simp only[decide_true]at hsr;generalize AV.ds (bG rows) rows.length 1=tv at *;simp[ZO,f2,f5,k0,aL.aD,h];simp only[afg];refine cj.of (dK (l:=[(16,[tv,tv],λ H n=>.mk (.bool true) H n)]) ?_) ?_
  ·simp only[gp];rintro y rfl;exact cL hsr
  simp[ab,f2,f3,f5,k0,k1,hx,bZ,aff,aC i (by omega)];exact⟨_,by omega,i+1,rfl,by omega,by simp[jf]⟩
 obtain rfl:i=w.rows.length:=by omega
 simp[ZO,f2,f5,k0,aL.aD,afe];exact fp
end Go.Abs
namespace Go.Abs.Srt
variable {α:Type}
structure Ord (c:α->α->Int)(Pd:α->Prop):Prop where
 acn:∀x y,Pd x->Pd y->(c x y<0↔0<c y x)
 trans:∀x y z,Pd x->Pd y->Pd z->c x y<=0->c y z<=0->c x z<=0
variable {c:α->α->Int}{tg:α->Nat}{Pd:α->Prop}
def Le (c:α->α->Int)(tg:α->Nat)(x y:α):Prop:=c x y<0∨(c x y=0/\tg x<tg y)
theorem Le.le {x y:α}(h:Le c tg x y):c x y<=0:=by unfold Le at h;omega
def Good (c:α->α->Int)(tg:α->Nat)(Pd:α->Prop)(L R M:List α):Prop:=
 M.Perm (L++R)/\((∀x∈L++R,Pd x)->L.Pairwise (Le c tg)->R.Pairwise (Le c tg)->(∀x∈L,∀y∈R,tg x<tg y)->M.Pairwise (Le c tg))
theorem Good.SQ (R:List α):Good c tg Pd [] R R:=⟨by simp,λ _ _ h _=>h⟩
theorem Good.Eo (L:List α):Good c tg Pd L [] L:=⟨by simp,λ _ h _ _=>h⟩
theorem le_last {l:List α}{x z:α}(_hc:Ord c Pd)(hp:∀x∈l,Pd x)(h:l.Pairwise (Le c tg))(hx:x∈l)(hz:l.getLast?=some z):x=z∨c x z<=0:=by
 obtain⟨a,rfl⟩:=List.getLast?_eq_some_iff.1 hz
 rcases List.mem_append.1 hx with h1|h1
 ·rw[List.pairwise_append]at h;exact .inr (h.2.2 x h1 z (by simp)).le
 simp at h1;exact .inl h1
theorem Lr {l:List α}{x z:α}(h:l.Pairwise (Le c tg))(hx:x∈l)(hz:l.head?=some z):x=z∨c z x<=0:=by
 obtain⟨a,rfl⟩:=List.head?_eq_some_iff.1 hz
 rcases List.mem_cons.1 hx with h1|h1
 ·exact .inl h1
 rw[List.pairwise_cons]at h;exact .inr (h.1 x h1).le
theorem Good.split (hc:Ord c Pd){L1 L2 R1 R2 M1 M2:List α}(h1:Good c tg Pd L1 R1 M1) (h2:Good c tg Pd L2 R2 M2)
  (e1:∀x y,L1.getLast?=some x->R2.head?=some y->¬c y x<0)(e2:∀x y,R1.getLast?=some x->L2.head?=some y->c x y<0):Good c tg Pd (L1++L2) (R1++R2) (M1++M2):=by
 constructor
 ·refine(List.Perm.append h1.1 h2.1).trans ?_;rw[List.append_assoc,List.append_assoc];refine List.Perm.append_left L1 ?_;rw[<-List.append_assoc,<-List.append_assoc];exact List.Perm.append_right R2 List.perm_append_comm
 intro hp hL hR ht;rw[List.pairwise_append]at hL hR;have pL1:∀x∈L1,Pd x:=λ x hx=>hp x (by simp[hx]);have pL2:∀x∈L2,Pd x:=λ x hx=>hp x (by simp[hx]);have pR1:∀x∈R1,Pd x:=λ x hx=>hp x (by simp[hx]);have pR2:∀x∈R2,Pd x:=λ x hx=>hp x (by simp[hx]);rw[List.pairwise_append];refine⟨h1.2 (λ x hx=>?_) hL.1 hR.1 (λ x hx y hy=>ht x (by simp[hx]) y (by simp[hy])),h2.2 (λ x hx=>?_) hL.2.1 hR.2.1 (λ x hx y hy=>ht x (by simp[hx]) y (by simp[hy])),λ x hx y hy=>?_⟩
 ·rcases List.mem_append.1 hx with h|h
  ·exact pL1 x h
  exact pR1 x h
 ·rcases List.mem_append.1 hx with h|h
  ·exact pL2 x h
  exact pR2 x h
 rcases List.mem_append.1 (h1.1.mem_iff.1 hx)with hx|hx
 ·rcases List.mem_append.1 (h2.1.mem_iff.1 hy)with hy|hy
  ·exact hL.2.2 x hx y hy
  
  have htt:=ht x (by simp[hx]) y (by simp[hy])
  cases hl:L1.getLast? with
  |none=>rw[List.getLast?_eq_none_iff]at hl;subst hl;simp at hx
  |some u =>
   cases hr:R2.head? with
   |none=>rw[List.head?_eq_none_iff]at hr;subst hr;simp at hy
   |some v =>
    have pu:=pL1 u (List.mem_of_getLast? hl);have pv:=pR2 v (List.mem_of_head? hr)
    have huv:c u v<=0:=by
     have:=e1 u v hl hr;have:=hc.acn v u pv pu;omega
    have hxv:c x v<=0:=by
     rcases le_last hc pL1 hL.1 hx hl with rfl|h
     ·exact huv
     exact hc.trans x u v (pL1 x hx) pu pv h huv
    have hxy:c x y<=0:=by
     rcases Lr hR.2.1 hy hr with rfl|h
     ·exact hxv
     exact hc.trans x v y (pL1 x hx) pv (pR2 y hy) hxv h
    unfold Le;omega
 rcases List.mem_append.1 (h2.1.mem_iff.1 hy)with hy|hy
 ·cases hl:R1.getLast? with
  |none=>rw[List.getLast?_eq_none_iff]at hl;subst hl;simp at hx
  |some u =>
   cases hr:L2.head? with
   |none=>rw[List.head?_eq_none_iff]at hr;subst hr;simp at hy
   |some v =>
    have pu:=pR1 u (List.mem_of_getLast? hl);have pv:=pL2 v (List.mem_of_head? hr);have huv:=e2 u v hl hr;refine .inl ?_
    have hxy:¬ 0<=c x y:=by
     intro hge
     have hyx:c y x<=0:=by
      have:=hc.acn y x (pL2 y hy) (pR1 x hx);have:=hc.acn x y (pR1 x hx) (pL2 y hy);omega
     have tU:c v x<=0:=by
      rcases Lr hL.2.1 hy hr with rfl|h
      ·exact hyx
      exact hc.trans v y x pv (pL2 y hy) (pR1 x hx) h hyx
     have hvu:c v u<=0:=by
      rcases le_last hc pR1 hR.1 hx hl with rfl|h
      ·exact tU
      exact hc.trans v x u pv (pR1 x hx) pu tU h
     have:=hc.acn u v pu pv;omega
    omega
 exact hR.2.2 x hx y hy
theorem Good.cons (hc:Ord c Pd){x:α}{R:List α}(h:∀y,R.head?=some y->¬c y x<0):Good c tg Pd [x] R (x::R):=by
 have:=Good.split (c:=c) (tg:=tg) (Pd:=Pd) hc (L1:=[x]) (R1:=[]) (L2:=[]) (R2:=R) (Good.Eo [x]) (Good.SQ R) (λ u v hu hv=>by simp at hu;subst hu;exact h v hv) (λ u v hu _=>by simp at hu);simpa using this
theorem Good.one (hc:Ord c Pd){x:α}{R1 R2:List α}(h1:∀y,R2.head?=some y->¬c y x<0)(h2:∀y,R1.getLast?=some y->c y x<0):Good c tg Pd [x] (R1++R2) (R1++x::R2):=
 Good.split hc (L1:=[]) (L2:=[x]) (Good.SQ R1) (Good.cons hc h1) (λ u v hu _=>by simp at hu) (λ u v hu hv=>by simp at hv;subst hv;exact h2 u hu)
theorem Good.snoc (hc:Ord c Pd){x:α}{L1 L2:List α}(h1:∀y,L1.getLast?=some y->¬c x y<0)(h2:∀y,L2.head?=some y->c x y<0):Good c tg Pd (L1++L2) [x] (L1++x::L2):=by
 have h3:Good c tg Pd L2 [x] (x::L2):=by
  have:=Good.split (c:=c) (tg:=tg) (Pd:=Pd) hc (L1:=[]) (L2:=L2) (R1:=[x]) (R2:=[]) (Good.SQ [x]) (Good.Eo L2) (λ u v hu _=>by simp at hu) (λ u v hu hv=>by simp at hu;subst hu;exact h2 v hv);simpa using this
 exact Good.split hc (L1:=L1) (R1:=[]) (R2:=[x]) (Good.Eo L1) h3 (λ u v hu hv=>by simp at hv;subst hv;exact h1 u hu) (λ u v hu _=>by simp at hu)
end Go.Abs.Srt
namespace Go.Abs
open List
open Go.Proofs
set_option maxRecDepth 100000
structure Cm (α:Type) where
 g:FuncId
 first:List AV
 cap:List AV
 av:α->AV
 c:α->α->Int
 El:α->Prop
 J:Hp->Prop
 bk:Nat
structure Cm.Ok {α:Type}(C:Cm α)(P:Program):Prop where
 call:∀x y,C.El x->C.El y->∀H n,C.J H->bc P C.g (C.first++([C.av x,C.av y]++C.cap)) H n (zI (C.c x y)) H n
 stay:∀H K,C.J H->(∀b,b≠C.bk->K.get b=H.get b)->C.J K
 one:∀x,(C.av x).one=true
def Cm.fv {α:Type}(C:Cm α):AV:=.fn (.func C.g) C.first C.cap
variable {α:Type}{C:Cm α}
def Dt (C:Cm α)(H:Hp)(d:List α):Prop:=∃y,H.get C.bk=some y/\OwnB y (d.map C.av)
def Ch (C:Cm α)(H:Hp)(d:List α)(K:Hp):Prop:=Dt C K d/\∀b,b≠C.bk->K.get b=H.get b
theorem Ch.refl {H:Hp}{d:List α}(h:Dt C H d):Ch C H d H:=⟨h,λ _ _=>rfl⟩
theorem Ch.trans {H K L:Hp}{d e:List α}(h:Ch C H d K)(k:Ch C K e L):Ch C H e L:=⟨k.1,λ b hb=>(k.2 b hb).trans (h.2 b hb)⟩
theorem Ej {v:AV}(h:v.one=true):v.len=1/\v.cells=[v]:=by
 cases v<;>simp_all [AV.one,AV.len,AV.cells]
theorem Dt.ld {H:Hp}{d:List α}(h:Dt C H d){i:Nat}(hi:i<d.length):dP (.ptr C.bk i) H=.val (C.av d[i]):=by
 obtain⟨y,h2,u,z,bs,t,rfl,h3,h4,_⟩:=h;have:=h4 i;rw[cE (by simpa using hi)]at this;simp[h2,this]
theorem Dt.st {P:Program}{H:Hp}{d:List α}(ho:C.Ok P)(h:Dt C H d){i:Nat}(hi:i<d.length)(x:α):∃y,fZ 1 (.ptr C.bk i) (C.av x) H=.upd (.aX []) C.bk y/\Ch C H (d.set i x) (H.put C.bk (some y)):=by
 obtain⟨y,h2,h3⟩:=h;have h3':=h3;obtain⟨u,z,bs,t,rfl,h4,_⟩:=h3;obtain⟨o1,o2⟩:=Ej (ho.one x);refine⟨ke u z bs t [C.av x] i,?_,⟨⟨_,by simp;rfl,?_⟩,λ b hb=>by simp[hb]⟩⟩
 ·have hu:i+1<=u:=by rw[h4,length_map];omega
  have h5:aY [C.av x]=true:=by rw[oG,ho.one];rfl
  simp[fZ,h2,o1,o2,hu,h5]
 have:=h3'.st (i:=i) (by simpa using hi) (C.av x);rw[<-List.map_set]at this;exact this
theorem iF {bk N i:Nat}(hi:i<N):e9 1 (.sl bk 0 N 1) (zI (i:Int))=.val (.ptr bk i):=by
 have:=LS (b:=bk) (o:=0) (sz:=1) (k:=.i64) hi;simpa using this
theorem Kt (X Y Z:List α)(x y:α):((X++x::(Y++y::Z)).set X.length y).set (X.length+1+Y.length) x=X++y::(Y++x::Z):=by
 have h1:(X++x::(Y++y::Z)).set X.length y=X++y::(Y++y::Z):=by
  rw[List.set_append_right _ _ (aP _)];simp
 rw[h1,List.set_append_right _ _ (by omega)];have h2:X.length+1+Y.length - X.length=Y.length+1:=by omega
 rw[h2];simp only[List.set_cons_succ];rw[List.set_append_right _ _ (aP _)];simp
def swD (p u q v s:List α)(i:Nat):List α:=p++((v.take i++u.drop i)++(q++((u.take i++v.drop i)++s)))
theorem Q2 (p u q v s:List α):swD p u q v s 0=p++(u++(q++(v++s))):=by simp[swD]
theorem aak (p u q v s:List α)(h:u.length=v.length):swD p u q v s u.length=p++(v++(q++(u++s))):=by
 unfold swD;rw[take_length,drop_length,h,take_length,drop_length];simp
theorem afT (p u q v s:List α){i:Nat}(hu:i<u.length)(hv:i<v.length):swD p u q v s i=(p++v.take i)++u[i]::((u.drop (i+1)++(q++u.take i))++v[i]::(v.drop (i+1)++s)):=by
 unfold swD;rw[km hu,km hv];simp only[append_assoc,cons_append]
theorem Q4 (p u q v s:List α){i:Nat}(hu:i<u.length)(hv:i<v.length):swD p u q v s (i+1)=(p++v.take i)++v[i]::((u.drop (i+1)++(q++u.take i))++u[i]::(v.drop (i+1)++s)):=by
 unfold swD;rw[take_succ_eq_append_getElem hu,take_succ_eq_append_getElem hv];simp only[append_assoc,cons_append,nil_append]
theorem cR (x:Int)(h : -2147483648<=x)(h2:x<2147483648):IntKind.i64.wrap x=x:=by
 simp[IntKind.wrap,IntKind.signed,IntKind.bits];omega
theorem Kv (X Y Z:List α)(x y:α){i:Nat}(hi:i=X.length):∀h,(X++x::(Y++y::Z))[i]'h=x:=by
 subst hi;intro h;simp
theorem Ku (X Y Z:List α)(x y:α){i:Nat}(hi:i=X.length+1+Y.length):∀h,(X++x::(Y++y::Z))[i]'h=y:=by
 subst hi;intro h;rw[getElem_append_right (by omega)];have e:X.length+1+Y.length - X.length=Y.length+1:=by omega
 simp[e]
theorem Ch.swap {P:Program}(ho:C.Ok P){H K:Hp}{D X Y Z:List α}{x y:α}(h:Ch C H D K)(eD:D=X++x::(Y++y::Z)){A B:Nat}(hA:A=X.length)(hB:B=X.length+1+Y.length):
  ∃y1 y2,dP (.ptr C.bk A) K=.val (C.av x)/\dP (.ptr C.bk B) K=.val (C.av y)/\fZ 1 (.ptr C.bk A) (C.av y) K=.upd (.aX []) C.bk y1/\fZ 1 (.ptr C.bk B) (C.av x) (K.put C.bk (some y1))=.upd (.aX []) C.bk y2/\Ch C H (X++y::(Y++x::Z)) ((K.put C.bk (some y1)).put C.bk (some y2)):=by
 have hl:D.length=B+1+Z.length:=by rw[eD];simp;omega
 have l1:=h.1.ld (i:=A) (by omega);have l2:=h.1.ld (i:=B) (by omega);have g1:D[A]'(by omega)=x:=by subst eD;exact Kv X Y Z _ _ hA _
 have g2:D[B]'(by omega)=y:=by subst eD;exact Ku X Y Z _ _ hB _
 rw[g1]at l1;rw[g2]at l2;obtain⟨y1,s1,t1⟩:=h.1.st ho (i:=A) (by omega) y;obtain⟨y2,s2,t2⟩:=t1.1.st ho (i:=B) (by rw[List.length_set];omega) x
 have e:(D.set A y).set B x=X++y::(Y++x::Z):=by
  rw[eD,hA,hB];exact Kt X Y Z x y
 rw[e]at t2;exact⟨y1,y2,l1,l2,s1,s2,(h.trans t1).trans t2⟩
theorem Ch.swap' {P:Program}(ho:C.Ok P){H K:Hp}{D X Y Z:List α}{x y:α}(h:Ch C H D K)(eD:D=X++x::(Y++y::Z)){A B:Nat}(hA:A=X.length)(hB:B=X.length+1+Y.length):
  ∃y1 y2,dP (.ptr C.bk A) K=.val (C.av x)/\dP (.ptr C.bk B) K=.val (C.av y)/\fZ 1 (.ptr C.bk B) (C.av x) K=.upd (.aX []) C.bk y1/\fZ 1 (.ptr C.bk A) (C.av y) (K.put C.bk (some y1))=.upd (.aX []) C.bk y2/\Ch C H (X++y::(Y++x::Z)) ((K.put C.bk (some y1)).put C.bk (some y2)):=by
 have hl:D.length=B+1+Z.length:=by rw[eD];simp;omega
 have l1:=h.1.ld (i:=A) (by omega);have l2:=h.1.ld (i:=B) (by omega);have g1:D[A]'(by omega)=x:=by subst eD;exact Kv X Y Z _ _ hA _
 have g2:D[B]'(by omega)=y:=by subst eD;exact Ku X Y Z _ _ hB _
 rw[g1]at l1;rw[g2]at l2;obtain⟨y1,s1,t1⟩:=h.1.st ho (i:=B) (by omega) x;obtain⟨y2,s2,t2⟩:=t1.1.st ho (i:=A) (by rw[List.length_set];omega) y
 have e:(D.set B x).set A y=X++y::(Y++x::Z):=by
  rw[List.set_comm _ _ (by omega),eD,hA,hB];exact Kt X Y Z x y
 rw[e]at t2;exact⟨y1,y2,l1,l2,s1,s2,(h.trans t1).trans t2⟩
theorem zX (ho:C.Ok pG){H:Hp}{n:Nat}{p u q v s:List α}{N:Nat}(hd:Dt C H (p++(u++(q++(v++s)))))(huv:u.length=v.length)(hN:p.length+u.length+q.length+v.length<=N)(hb:N<1000000){a b k:Nat}(ea:a=p.length)(eb:b=p.length+u.length+q.length)(ek:k=u.length):
  aj pG 334 [.sl C.bk 0 N 1,zI (a:Int),zI (b:Int),zI (k:Int),C.fv] H n (λ w K j=>w=.aX []/\Ch C H (p++(v++(q++(u++s)))) K/\j=n):=by
 refine aj.of c334 (by simp[A334]) λ F hF=>?_;simp[A334];refine aE.of (λ t F' K n' ms=>∃i,t=k - i/\i<=k/\F'.get 0=some (.sl C.bk 0 N 1)/\F'.get 1=some (zI (a:Int))/\F'.get 2=some (zI (b:Int))/\F'.get 3=some (zI (k:Int))/\F'.get 10=some (zI (i:Int))/\Ch C H (swD p u q v s i) K/\n=n'/\ms=[]) k ⟨0,by simp[hF,Q2];exact .refl hd⟩ ?_;rintro t F' K n' ms ⟨i,rfl,hi,f0,f1,f2,f3,f10,hC,rfl,rfl⟩
 by_cases hlt:i<k
 ·have hlu:i<u.length:=by omega
  have hlv:i<v.length:=by omega
  obtain⟨A,hA⟩:∃A,A=a+i:=⟨_,rfl⟩;obtain⟨B,hB⟩:∃B,B=b+i:=⟨_,rfl⟩;obtain⟨y1,y2,l1,l2,s1,s2,t2⟩:=hC.swap ho (afT p u q v s hlu hlv) (A:=A) (B:=B) (by simp;omega) (by simp;omega);rw[<-Q4 p u q v s hlu hlv]at t2;have x1:=iF (bk:=C.bk) (N:=N) (i:=A) (by omega);have x2:=iF (bk:=C.bk) (N:=N) (i:=B) (by omega);have w1:IntKind.i64.wrap ((a:Int)+(i:Int))=(A:Int):=by rw[cR _ (by omega) (by omega)];omega
  have w2:IntKind.i64.wrap ((b:Int)+(i:Int))=(B:Int):=by rw[cR _ (by omega) (by omega)];omega
  simp[JO,f3,f10,hlt];refine cj.of (cN (P:=pG)) ?_;simp[ab,f0,f1,f2,f3,f10,w1,w2,x1,x2,l1,l2,s1,s2,XA,aC i (by omega)];exact⟨k - (i+1),by omega,i+1,rfl,hlt,by simp,t2⟩
 have hi':i=u.length:=by omega
 subst hi';rw[aak _ _ _ _ _ huv]at hC;simp[JO,f3,f10,hC,ek]
end Go.Abs
namespace Go.Abs
open List
open Go.Proofs
set_option maxRecDepth 100000
variable {α:Type}{C:Cm α}
theorem af1 (ho:C.Ok pG){H:Hp}{n:Nat}{p u v s:List α}{N:Nat}(hd:Dt C H (p++(u++(v++s))))(hu:0<u.length)(hv:0<v.length)(hN:p.length+u.length+v.length<=N)(hb:N<1000000){a m b:Nat}(ea:a=p.length)(em:m=p.length+u.length)(eb:b=p.length+u.length+v.length):
  aj pG 302 [.sl C.bk 0 N 1,zI (a:Int),zI (m:Int),zI (b:Int),C.fv] H n (λ w K j=>w=.aX []/\Ch C H (p++(v++(u++s))) K/\j=n):=by
 refine aj.of c302 (by simp[A302]) λ F hF=>?_;obtain⟨i0,hi0⟩:∃i0,i0=m - a:=⟨_,rfl⟩;obtain⟨j0,hj0⟩:∃j0,j0=b - m:=⟨_,rfl⟩;have w1:IntKind.i64.wrap ((m:Int) - (a:Int))=(i0:Int):=by rw[cR _ (by omega) (by omega)];omega
 have w2:IntKind.i64.wrap ((b:Int) - (m:Int))=(j0:Int):=by rw[cR _ (by omega) (by omega)];omega
 simp[A302,hF,w1,w2];generalize ame:p++(v++(u++s))=G
 refine aE.of (λ t F' K n' ms=>∃i j,t=i+j/\0<i/\0<j/\i+j<=i0+j0/\F'.get 0=some (.sl C.bk 0 N 1)/\F'.get 2=some (zI (m:Int))/\F'.get 4=some C.fv/\F'.get 10=some (zI (i:Int))/\F'.get 11=some (zI (j:Int))/\n=n'/\ms=[] /\
  ∃p' u' v' s',Ch C H (p'++(u'++(v'++s'))) K/\p'.length+u'.length=m/\u'.length=i/\v'.length=j/\m+j<=b/\p'++(v'++(u'++s'))=G) (i0+j0) ⟨i0,j0,rfl,by omega,by omega,by omega,by simp[hF],by simp[hF],by simp[hF],by simp,by simp,rfl,rfl,p,u,v,s,.refl hd,by omega,by omega,by omega,by omega,ame⟩ ?_
 rintro t F' K n' ms ⟨i,j,rfl,hi,hj,hij,f0,f2,f4,f10,f11,rfl,rfl,p',u',v',s',hC,hm,hui,hvj,hmb,hG⟩;obtain⟨A,hA⟩:∃A,A=m - i:=⟨_,rfl⟩;have wA:IntKind.i64.wrap ((m:Int) - (i:Int))=(A:Int):=by rw[cR _ (by omega) (by omega)];omega
 by_cases he:i=j
 ·have hne:(i:Int)=(j:Int):=by omega
  simp[JQ,f10,f11,hne,XJ,f0,f2,f4];subst he;rw[wA];refine aw.of (zX ho (H:=K) (n:=n) (p:=p') (u:=u') (q:=[]) (v:=v') (s:=s') (N:=N) (by simpa using hC.1) (by omega) (by simp;omega) hb (a:=A) (b:=m) (k:=i) (by omega) (by simp;omega) hui.symm) λ w K' n'' ⟨e1,e2,e3⟩=>?_;subst e1 e3;rw[nil_append,hG]at e2;simp;exact hC.trans e2
 have hne:¬(i:Int)=(j:Int):=by omega
 simp[JQ,f10,f11,hne]
 by_cases hgt:j<i
 ·have wI:IntKind.i64.wrap ((i:Int) - (j:Int))=((i - j:Nat):Int):=by rw[cR _ (by omega) (by omega)];omega
  simp[hgt,XN,f0,f2,f4,f10,f11,wA];have e0:u'=u'.take j++u'.drop j:=(take_append_drop j u').symm;have hl1:(u'.take j).length=j:=by simp;omega
  have hl2:(u'.drop j).length=i - j:=by simp;omega
  generalize u'.take j=u1 at e0 hl1;generalize u'.drop j=u2 at e0 hl2;subst e0;refine aw.of (zX ho (H:=K) (n:=n) (p:=p') (u:=u1) (q:=u2) (v:=v') (s:=s') (N:=N) (by simpa using hC.1) (by omega) (by simp at hm hui ⊢;omega) hb (a:=A) (b:=m) (k:=j) (by simp at hm hui;omega) (by simp at hm hui ⊢;omega) hl1.symm) λ w K' n'' ⟨e1,e2,e3⟩=>?_;subst e1 e3;simp[XM,f10,f11,wI];refine⟨i - j+j,by omega,i - j,j,rfl,by omega,hj,by omega,f0,f2,f4,rfl,rfl,p'++v',u2,u1,s',by simpa using hC.trans e2,by simp at hm hui ⊢;omega,hl2,hl1,by omega,by rw[<-hG];simp⟩
 obtain⟨B,hB⟩:∃B,B=m+j - i:=⟨_,rfl⟩;have w3:IntKind.i64.wrap ((m:Int)+(j:Int))=((m+j:Nat):Int):=by rw[cR _ (by omega) (by omega)];omega
 have w4:IntKind.i64.wrap (((m+j:Nat):Int) - (i:Int))=(B:Int):=by rw[cR _ (by omega) (by omega)];omega
 have wI:IntKind.i64.wrap ((j:Int) - (i:Int))=((j - i:Nat):Int):=by rw[cR _ (by omega) (by omega)];omega
 simp only[Int.natCast_add]at w4;simp[hgt,XL,f0,f2,f4,f10,f11,wA,w3,w4];have e0:v'=v'.take (j - i)++v'.drop (j - i):=(take_append_drop _ v').symm;have hl1:(v'.take (j - i)).length=j - i:=by simp;omega
 have hl2:(v'.drop (j - i)).length=i:=by simp;omega
 generalize v'.take (j - i)=v1 at e0 hl1;generalize v'.drop (j - i)=v2 at e0 hl2;subst e0;refine aw.of (zX ho (H:=K) (n:=n) (p:=p') (u:=u') (q:=v1) (v:=v2) (s:=s') (N:=N) (by simpa using hC.1) (by omega) (by omega) hb (a:=A) (b:=B) (k:=i) (by omega) (by omega) hui.symm) λ w K' n'' ⟨e1,e2,e3⟩=>?_;subst e1 e3;simp[XK,f10,f11,wI];refine⟨i+(j - i),by omega,i,j - i,rfl,hi,by omega,by omega,f0,f2,f4,rfl,rfl,p',v2,v1,u'++s',by simpa using hC.trans e2,by omega,hl2,hl1,by omega,by rw[<-hG];simp⟩
end Go.Abs
namespace Go.Abs
open List
open Go.Proofs
set_option maxRecDepth 100000
open Classical
variable {α:Type}{C:Cm α}{tg:α->Nat}{Pd:α->Prop}
def Cm.ce (C:Cm α)(x y:α):Ce:=ceT [(C.g,C.first++([C.av x,C.av y]++C.cap),λ H n=>if C.J H then .mk (zI (C.c x y)) H n else .fail)]
theorem Cm.LN {P:Program}(ho:C.Ok P){x y:α}(hx:C.El x)(hy:C.El y):gX P (C.ce x y):=by
 refine dK ?_;simp only[gp];rintro z rfl H n v H' n' h;dsimp only at h
 split at h
 ·rename_i hc;injection h with h1 h2 h3;subst h1 h2 h3;exact ho.call x y hx hy H n hc
 cases h
theorem Cm.uV {x y:α}{H:Hp}{n:Nat}(h:C.J H):(C.ce x y).call C.g (C.first++C.av x::C.av y::C.cap) H n=.mk (zI (C.c x y)) H n:=by
 show (C.ce x y).call C.g (C.first++([C.av x,C.av y]++C.cap)) H n=_;unfold Cm.ce;rw[bZ,ao h];rfl
theorem aaf (x:Nat)(h:x<2147483648):cw .u64 (zI (x:Int))=.val (.int .u64 (x:Int)):=by
 rw[dW];congr 2;simp[IntKind.wrap,IntKind.signed,IntKind.bits];omega
theorem abJ (x:Nat)(h:x<2147483648):cw .i64 (.int .u64 (x:Int))=.val (zI (x:Int)):=by
 rw[dW];congr 2;exact cR _ (by omega) (by omega)
theorem aap (x:Nat):fH .shr (.int .u64 (x:Int)) (.int .u64 1)=.val (.int .u64 ((x / 2:Nat):Int)):=by
 show kJ .u64 (Int.fdiv (x:Int) (2 ^ (min 1 64)))=_;rw[kN]
 congr 2
 show Int.fdiv (x:Int) 2=_;rw[Int.fdiv_eq_ediv_of_nonneg _ (by omega)];omega
theorem fm {l:List α}{i:Nat}(h:i<l.length):(l.take (i+1)).getLast?=some l[i]:=by
 rw[take_succ_eq_append_getElem h];exact getLast?_concat
theorem head_drop {l:List α}{i:Nat}(h:i<l.length):(l.drop i).head?=some l[i]:=by
 rw[km h];rfl
theorem Dt.at {H:Hp}{p L s:List α}(h:Dt C H (p++(L++s))){k i:Nat}(hk:k=p.length+i)(hi:i<L.length):dP (.ptr C.bk k) H=.val (C.av L[i]):=by
 have:=h.ld (i:=k) (by simp;omega);rw[this]
 congr 2
 subst hk;rw[getElem_append_right (by omega),List.getElem_append_left (by omega)]
 congr 1
 omega
theorem alv (ho:C.Ok pG) (hc:Srt.Ord C.c Pd){H:Hp}{n:Nat}{p R s:List α}{x:α}{N:Nat}(hd:Dt C H (p++([x]++(R++s)))) (hJ:C.J H) (hx:C.El x) (hEl:∀z∈R,C.El z) (hR:0<R.length) (hN:p.length+1+R.length<=N) (hb:N<1000000){a m b:Nat}(ea:a=p.length) (em:m=p.length+1) (eb:b=p.length+1+R.length):
  aj pG 266 [.sl C.bk 0 N 1,zI (a:Int),zI (m:Int),zI (b:Int),C.fv] H n (λ w K j=>w=.aX []/\(∃M,Srt.Good C.c tg Pd [x] R M/\Ch C H (p++(M++s)) K)/\j=n):=by
 refine aj.of c266 (by simp[A266]) λ F hF=>?_;have w1:IntKind.i64.wrap ((m:Int) - (a:Int))=1:=by rw[cR _ (by omega) (by omega)];omega
 simp[A266,tC,hF,w1,Jn,Jm];have hd':Dt C H ((p++[x])++(R++s)):=by simpa using hd
 refine aE.of (λ t F' K n' ms=>∃i j,t=j - i/\i<=j/\j<=R.length/\F'.get 0=some (.sl C.bk 0 N 1)/\F'.get 1=some (zI (a:Int))/\F'.get 4=some C.fv/\F'.get 10=some (zI ((m+i:Nat):Int))/\F'.get 11=some (zI ((m+j:Nat):Int))/\H=K/\n=n'/\ms=[] /\
  (∀y,(R.take i).getLast?=some y->C.c y x<0)/\(∀y,R[j]?=some y->0<=C.c y x)) R.length ⟨0,R.length,by omega,by omega,by omega,by simp[hF],by simp[hF],by simp[hF],by simp,by simp;omega,rfl,rfl,rfl,by simp,by simp⟩ ?_
 rintro t F' K n' ms ⟨i,j,rfl,hij,hj,f0,f1,f4,f10,f11,rfl,rfl,rfl,h1,h2⟩;obtain⟨I,hI⟩:∃I,I=m+i:=⟨_,rfl⟩;obtain⟨J,hJ'⟩:∃J,J=m+j:=⟨_,rfl⟩;rw[<-hI]at f10;rw[<-hJ']at f11
 by_cases hlt:I<J
 ·obtain⟨h,hh⟩:∃h,h=(i+j) / 2+(if (i+j) % 2=1 then 0 else 0):=⟨_,rfl⟩;have hmid:(I+J) / 2=m+(i+j) / 2:=by omega
  generalize hq:(i+j) / 2=q at *;obtain⟨A,hA⟩:∃A,A=m+q:=⟨_,rfl⟩;have Lp:q<R.length:=by omega
  have w2:IntKind.i64.wrap ((I:Int)+(J:Int))=((I+J:Nat):Int):=by rw[cR _ (by omega) (by omega)];omega
  have hs:=aap (I+J);rw[hmid,<-hA]at hs;have hs2:=aaf (I+J) (by omega);have hs3:=abJ A (by omega);have l1:=hd'.at (k:=A) (i:=q) (by simp;omega) Lp;have l2:=hd.at (k:=a) (i:=0) (by omega) (by simp);have x1:=iF (bk:=C.bk) (N:=N) (i:=A) (by omega);have x2:=iF (bk:=C.bk) (N:=N) (i:=a) (by omega);have ahu:=hEl R[q] (b6 Lp);have hg:=fm Lp;have hg2:=head_drop Lp;simp only[List.getElem_cons_zero]at l2;generalize hIJ:I+J=S at *;simp[C_,f10,f11,hlt,w2,hs,hs2,hs3];refine cj.of (C.LN ho ahu hx) ?_;simp[ab,f0,f1,f4,Cm.fv,x1,x2,l1,l2,Cm.uV hJ]
  by_cases hlt0:C.c R[q] x<0
  ·have w3:IntKind.i64.wrap ((A:Int)+1)=((m+(q+1):Nat):Int):=by rw[cR _ (by omega) (by omega)];omega
   simp[ab,hlt0,XT,w3,f0,f1,f4,f11,Cm.fv];exact⟨j - (q+1),by omega,q+1,j,rfl,by omega,hj,by omega,by omega,λ y hy=>by rw[hg]at hy;injection hy with hy;subst hy;exact hlt0,h2⟩
  simp[ab,hlt0,XS,f0,f1,f4,f10,Cm.fv];exact⟨q - i,by omega,i,q,rfl,by omega,by omega,by omega,by omega,h1,λ y hy=>by rw[cE Lp]at hy;injection hy with hy;subst hy;omega⟩
 have hij':i=j:=by omega
 subst hij';have hIJ:I=J:=by omega
 subst hIJ;simp[C_,f10,f11,Jl,f1];have hG:=Srt.Good.one (c:=C.c) (tg:=tg) (Pd:=Pd) hc (x:=x) (R1:=R.take i) (R2:=R.drop i) (λ y hy=>by rw[List.head?_drop]at hy;have:=h2 y hy;omega) h1;rw[take_append_drop]at hG;have hd0:Dt C H (p++(([]++x::R.take i)++(R.drop i++s))):=by simpa[<-append_assoc]using hd
 generalize hR1:R.take i=R1 at hG hd0;generalize R.drop i=R2 at hG hd0;have amn:R1.length=i:=by rw[<-hR1];simp;omega
 clear h1 h2;refine aE.of (λ t F' K n' ms=>∃e,t=i - e/\e<=i/\F'.get 0=some (.sl C.bk 0 N 1)/\F'.get 10=some (zI (I:Int))/\F'.get 13=some (zI ((a+e:Nat):Int))/\n=n'/\ms=[]/\Ch C H (p++((R1.take e++x::R1.drop e)++(R2++s))) K) i ⟨0,by simp[f0,f10];exact .refl (by simpa using hd0)⟩ ?_;rintro t F1 K n' ms ⟨e,rfl,he,g0,g10,Lt,rfl,rfl,hC⟩;obtain⟨E,hE⟩:∃E,E=a+e:=⟨_,rfl⟩;rw[<-hE]at Lt;have w3:IntKind.i64.wrap ((I:Int) - 1)=((a+i:Nat):Int):=by rw[cR _ (by omega) (by omega)];omega
 by_cases hlt:e<i
 ·have hel:e<R1.length:=by omega
  obtain⟨B,hB⟩:∃B,B=E+1:=⟨_,rfl⟩;have w4:IntKind.i64.wrap ((E:Int)+1)=(B:Int):=by rw[cR _ (by omega) (by omega)];omega
  have eD:p++((R1.take e++x::R1.drop e)++(R2++s))=(p++R1.take e)++x::([]++R1[e]::(R1.drop (e+1)++(R2++s))):=by
   rw[km hel];simp only[append_assoc,cons_append,nil_append]
  have eS:(p++R1.take e)++R1[e]::([]++x::(R1.drop (e+1)++(R2++s)))=p++((R1.take (e+1)++x::R1.drop (e+1))++(R2++s)):=by
   rw[take_succ_eq_append_getElem hel];simp only[append_assoc,cons_append,nil_append]
  obtain⟨y1,y2,l1,l2,s1,s2,t2⟩:=hC.swap ho eD (A:=E) (B:=B) (by simp;omega) (by simp;omega);rw[eS]at t2;have x1:=iF (bk:=C.bk) (N:=N) (i:=E) (by omega);have x2:=iF (bk:=C.bk) (N:=N) (i:=B) (by omega);simp[C9,g10,Lt,w3,show (E:Int)<(a:Int)+(i:Int) by omega];refine cj.of (cN (P:=pG)) ?_;simp[ab,g0,Lt,w4,x1,x2,l1,l2,s1,s2,MI,g10];exact⟨i - (e+1),by omega,e+1,rfl,hlt,by omega,by simpa using t2⟩
 have he':e=i:=by omega
 subst he';simp[C9,g10,Lt,w3,show ¬(E:Int)<(a:Int)+(e:Int) by omega];refine⟨_,hG,?_⟩;rw[<-amn,take_length,drop_length]at hC;simpa using hC
end Go.Abs
namespace Go.Abs
open List
open Go.Proofs
set_option maxRecDepth 100000
open Classical
variable {α:Type}{C:Cm α}{tg:α->Nat}{Pd:α->Prop}
theorem afW (ho:C.Ok pG) (hc:Srt.Ord C.c Pd){H:Hp}{n:Nat}{p R s:List α}{x:α}{N:Nat}(hd:Dt C H (p++(R++([x]++s)))) (hJ:C.J H) (hx:C.El x) (hEl:∀z∈R,C.El z) (hR:1<R.length) (hN:p.length+1+R.length<=N) (hb:N<1000000){a m b:Nat}(ea:a=p.length) (em:m=p.length+R.length) (eb:b=p.length+R.length+1):
  aj pG 266 [.sl C.bk 0 N 1,zI (a:Int),zI (m:Int),zI (b:Int),C.fv] H n (λ w K j=>w=.aX []/\(∃M,Srt.Good C.c tg Pd R [x] M/\Ch C H (p++(M++s)) K)/\j=n):=by
 refine aj.of c266 (by simp[A266]) λ F hF=>?_;have w0:¬IntKind.i64.wrap ((m:Int) - (a:Int))=1:=by rw[cR _ (by omega) (by omega)];omega
 have w1:IntKind.i64.wrap ((b:Int) - (m:Int))=1:=by rw[cR _ (by omega) (by omega)];omega
 simp[A266,tC,hF,w0,w1,rS,BU,BS];have hd':Dt C H ((p++R)++([x]++s)):=by simpa using hd
 refine aE.of (λ t F' K n' ms=>∃i j,t=j - i/\i<=j/\j<=R.length/\F'.get 0=some (.sl C.bk 0 N 1)/\F'.get 2=some (zI (m:Int))/\F'.get 4=some C.fv/\F'.get 14=some (zI ((a+i:Nat):Int))/\F'.get 15=some (zI ((a+j:Nat):Int))/\H=K/\n=n'/\ms=[] /\
  (∀y,(R.take i).getLast?=some y->0<=C.c x y)/\(∀y,R[j]?=some y->C.c x y<0)) R.length ⟨0,R.length,by omega,by omega,by omega,by simp[hF],by simp[hF],by simp[hF],by simp,by simp;omega,rfl,rfl,rfl,by simp,by simp⟩ ?_
 rintro t F' K n' ms ⟨i,j,rfl,hij,hj,f0,f1,f4,f10,f11,rfl,rfl,rfl,h1,h2⟩;obtain⟨I,hI⟩:∃I,I=a+i:=⟨_,rfl⟩;obtain⟨J,hJ'⟩:∃J,J=a+j:=⟨_,rfl⟩;rw[<-hI]at f10;rw[<-hJ']at f11
 by_cases hlt:I<J
 ·have hmid:(I+J) / 2=a+(i+j) / 2:=by omega
  generalize hq:(i+j) / 2=q at *;obtain⟨A,hA⟩:∃A,A=a+q:=⟨_,rfl⟩;have Lp:q<R.length:=by omega
  have w2:IntKind.i64.wrap ((I:Int)+(J:Int))=((I+J:Nat):Int):=by rw[cR _ (by omega) (by omega)];omega
  have hs:=aap (I+J);rw[hmid,<-hA]at hs;have hs2:=aaf (I+J) (by omega);have hs3:=abJ A (by omega);have l1:=hd.at (k:=A) (i:=q) (by omega) Lp;have l2:=hd'.at (k:=m) (i:=0) (by simp;omega) (by simp);have x1:=iF (bk:=C.bk) (N:=N) (i:=A) (by omega);have x2:=iF (bk:=C.bk) (N:=N) (i:=m) (by omega);have ahu:=hEl R[q] (b6 Lp);have hg:=fm Lp;simp only[List.getElem_cons_zero]at l2;generalize hIJ:I+J=S at *;simp[C6,f10,f11,hlt,w2,hs,hs2,hs3];refine cj.of (C.LN ho hx ahu) ?_;simp[ab,f0,f1,f4,Cm.fv,x1,x2,l1,l2,Cm.uV hJ]
  by_cases hlt0:C.c x R[q]<0
  ·simp[ab,hlt0,MG,f0,f1,f4,f10,Cm.fv];exact⟨q - i,by omega,i,q,rfl,by omega,by omega,by omega,by omega,h1,λ y hy=>by rw[cE Lp]at hy;injection hy with hy;subst hy;omega⟩
  have w3:IntKind.i64.wrap ((A:Int)+1)=((a+(q+1):Nat):Int):=by rw[cR _ (by omega) (by omega)];omega
  simp[ab,hlt0,MH,w3,f0,f1,f4,f11,Cm.fv];exact⟨j - (q+1),by omega,q+1,j,rfl,by omega,hj,by omega,by omega,λ y hy=>by rw[hg]at hy;injection hy with hy;subst hy;omega,h2⟩
 have hij':i=j:=by omega
 subst hij';have hIJ:I=J:=by omega
 subst hIJ;simp[C6,f10,f11,BQ,f1];have hG:=Srt.Good.snoc (c:=C.c) (tg:=tg) (Pd:=Pd) hc (x:=x) (L1:=R.take i) (L2:=R.drop i) (λ y hy=>by have:=h1 y hy;omega) (λ y hy=>by rw[List.head?_drop]at hy;exact h2 y hy);rw[take_append_drop]at hG;have hd0:Dt C H (p++(R.take i++(R.drop i++x::s))):=by simpa[<-append_assoc]using hd
 generalize hR1:R.take i=R1 at hG hd0;generalize hR2:R.drop i=R2 at hG hd0;have amn:R1.length=i:=by rw[<-hR1];simp;omega
 have hR2l:R2.length+i=R.length:=by rw[<-hR2];simp;omega
 clear h1 h2;refine aE.of (λ t F' K n' ms=>∃r,t=r/\r<=R2.length/\F'.get 0=some (.sl C.bk 0 N 1)/\F'.get 14=some (zI (I:Int))/\F'.get 17=some (zI ((I+r:Nat):Int))/\n=n'/\ms=[]/\Ch C H (p++(R1++(R2.take r++x::(R2.drop r++s)))) K) R2.length ⟨R2.length,rfl,by omega,by simp[f0],by simp[f10],by simp;omega,rfl,rfl,.refl (by simpa using hd0)⟩ ?_;rintro r F1 K n' ms ⟨_,rfl,hr,g0,g10,Lt,rfl,rfl,hC⟩;obtain⟨E,hE⟩:∃E,E=I+r:=⟨_,rfl⟩;rw[<-hE]at Lt
 by_cases hlt:I<E
 ·obtain⟨r0,rfl⟩:∃r0,r=r0+1:=⟨r - 1,by omega⟩;have hel:r0<R2.length:=by omega
  obtain⟨B,hB⟩:∃B,B=I+r0:=⟨_,rfl⟩;have w4:IntKind.i64.wrap ((E:Int) - 1)=(B:Int):=by rw[cR _ (by omega) (by omega)];omega
  have eD:p++(R1++(R2.take (r0+1)++x::(R2.drop (r0+1)++s)))=(p++(R1++R2.take r0))++R2[r0]::([]++x::(R2.drop (r0+1)++s)):=by
   rw[take_succ_eq_append_getElem hel];simp only[append_assoc,cons_append,nil_append]
  have eS:(p++(R1++R2.take r0))++x::([]++R2[r0]::(R2.drop (r0+1)++s))=p++(R1++(R2.take r0++x::(R2.drop r0++s))):=by
   rw[km hel];simp only[append_assoc,cons_append,nil_append]
  obtain⟨y1,y2,l1,l2,s1,s2,t2⟩:=hC.swap' ho eD (A:=B) (B:=E) (by simp;omega) (by simp;omega);rw[eS]at t2;have x1:=iF (bk:=C.bk) (N:=N) (i:=E) (by omega);have x2:=iF (bk:=C.bk) (N:=N) (i:=B) (by omega);simp[C4,g10,Lt,hlt];refine cj.of (cN (P:=pG)) ?_;simp[ab,g0,Lt,w4,x1,x2,l1,l2,s1,s2,MF,g10];exact⟨r0,by omega,by omega,by omega,t2⟩
 have he':r=0:=by omega
 subst he';simp[C4,g10,Lt,hlt];exact⟨_,hG,by simpa using hC⟩
end Go.Abs
namespace Go.Abs
open List
open Go.Proofs
set_option maxRecDepth 100000
open Classical
variable {α:Type}{C:Cm α}{tg:α->Nat}{Pd:α->Prop}
def Gg (C:Cm α)(tg:α->Nat)(Pd:α->Prop)(N:Nat)(p L R s:List α)(a m b:Nat)(H:Hp)(n:Nat):Prop:=
 aj pG 266 [.sl C.bk 0 N 1,zI (a:Int),zI (m:Int),zI (b:Int),C.fv] H n (λ w K j=>w=.aX []/\(∃M,Srt.Good C.c tg Pd L R M/\Ch C H (p++(M++s)) K)/\j=n)
theorem Ro (ho:C.Ok pG){H:Hp}{n:Nat}{p L R s:List α}{N:Nat}(hd:Dt C H (p++(L++(R++s)))) (hJ:C.J H) (hL:∀z∈L,C.El z) (hR:∀z∈R,C.El z) (hN:p.length+L.length+R.length<=N) (hb:N<1000000){a m b mid nn M' lo hi:Nat}(ea:a=p.length) (em:m=p.length+L.length)
  (Ul:mid=a+M')(enn:nn=mid+m)(h0:0<M')(hlh:lo<=hi)(hhM:hi<=M')(hhL:hi<=L.length)(hlR:M' - lo<=R.length){F':Fr}
  (f0:F'.get 0=some (.sl C.bk 0 N 1))(f1:F'.get 1=some (zI (a:Int)))(f2:F'.get 2=some (zI (m:Int)))(f3:F'.get 3=some (zI (b:Int)))(f4:F'.get 4=some C.fv)(f18:F'.get 18=some (zI (mid:Int)))(f19:F'.get 19=some (zI (nn:Int)))
  (f20:F'.get 20=some (zI ((a+lo:Nat):Int)))(f21:F'.get 21=some (zI ((a+hi:Nat):Int)))(Q:QA)(X:CT)
  (hgo:∀(F2:Fr)(st:Nat),F2.get 0=some (.sl C.bk 0 N 1)->F2.get 1=some (zI (a:Int))->F2.get 2=some (zI (m:Int))->F2.get 3=some (zI (b:Int))->F2.get 4=some C.fv->F2.get 18=some (zI (mid:Int))->F2.get 19=some (zI (nn:Int))->F2.get 20=some (zI ((a+st:Nat):Int)) ->
   lo<=st->st<=hi->(st=lo∨∀x y,L[st - 1]?=some x->R[M' - st]?=some y->0<=C.c y x)->(st=hi∨∀x y,R[M' - 1 - st]?=some x->L[st]?=some y->C.c x y<0)->VC pG X F2 H n [] Q):
  VC pG (.seq rR (.seq (.block 8 (.loop tH)) X)) F' H n [] Q:=by
 obtain⟨pp,hpp⟩:∃pp,pp=nn - 1:=⟨_,rfl⟩;have w4:IntKind.i64.wrap ((nn:Int) - 1)=(pp:Int):=by rw[cR _ (by omega) (by omega)];omega
 have hdR:Dt C H ((p++L)++(R++s)):=by simpa using hd
 simp[rR,f19,w4]
 refine aE.of (λ t F' K n' ms=>∃i j,t=j - i/\lo<=i/\i<=j/\j<=hi/\F'.get 0=some (.sl C.bk 0 N 1)/\F'.get 1=some (zI (a:Int))/\F'.get 2=some (zI (m:Int))/\F'.get 3=some (zI (b:Int))/\F'.get 4=some C.fv/\F'.get 18=some (zI (mid:Int))/\F'.get 19=some (zI (nn:Int))/\F'.get 20=some (zI ((a+i:Nat):Int))/\F'.get 21=some (zI ((a+j:Nat):Int))/\F'.get 22=some (zI (pp:Int))/\H=K/\n=n'/\ms=[] /\
  (i=lo∨∀x y,L[i - 1]?=some x->R[M' - i]?=some y->0<=C.c y x)/\(j=hi∨∀x y,R[M' - 1 - j]?=some x->L[j]?=some y->C.c x y<0)) (hi - lo) ⟨lo,hi,rfl,aP _,hlh,aP _,by simp[f0],by simp[f1],by simp[f2],by simp[f3],by simp[f4],by simp[f18],by simp[f19],by simp[f20],by simp[f21],by simp,rfl,rfl,rfl,.inl rfl,.inl rfl⟩ ?_
 clear f0 f1 f2 f3 f4 f18 f19 f20 f21;rintro t F1 K n' ms ⟨i,j,rfl,hli,hij,hj,f0,f1,f2,f3,f4,f18,f19,f20,f21,f22,rfl,rfl,rfl,h1,h2⟩;obtain⟨I,hI⟩:∃I,I=a+i:=⟨_,rfl⟩;obtain⟨J,hJ'⟩:∃J,J=a+j:=⟨_,rfl⟩;rw[<-hI]at f20;rw[<-hJ']at f21
 by_cases hlt:I<J
 ·obtain⟨q,hq⟩:∃q,q=(i+j) / 2:=⟨_,rfl⟩;obtain⟨A,hA⟩:∃A,A=a+q:=⟨_,rfl⟩;obtain⟨B,hB⟩:∃B,B=pp - A:=⟨_,rfl⟩;obtain⟨S,hS⟩:∃S,S=I+J:=⟨_,rfl⟩;have ama:S / 2=A:=by omega
  have hiq:i<=q/\q<j:=by omega
  clear hq;have hqL:q<L.length:=by omega
  have Lp:M' - 1 - q<R.length:=by omega
  have hSb:S<2147483648:=by omega
  have hAb:A<N:=by omega
  have hBb:B<N:=by omega
  have hBR:B=p.length+L.length+(M' - 1 - q):=by omega
  have w5:IntKind.i64.wrap ((I:Int)+(J:Int))=(S:Int):=by rw[cR _ (by omega) (by omega)];omega
  have w6:IntKind.i64.wrap ((pp:Int) - (A:Int))=(B:Int):=by rw[cR _ (by omega) (by omega)];omega
  have w7:IntKind.i64.wrap ((A:Int)+1)=((a+(q+1):Nat):Int):=by rw[cR _ (by omega) (by omega)];omega
  have hs:=aap S;rw[ama]at hs;have hs2:=aaf S hSb;have hs3:=abJ A (by omega);have l1:=hd.at (k:=A) (i:=q) (by rw[hA,ea]) hqL;have l2:=hdR.at (k:=B) (i:=M' - 1 - q) (by rw[length_append];exact hBR) Lp;have x1:=iF (bk:=C.bk) (N:=N) (i:=A) hAb;have x2:=iF (bk:=C.bk) (N:=N) (i:=B) hBb;have arX:=hL L[q] (b6 hqL);have arW:=hR R[M' - 1 - q] (b6 Lp);have gL:L[q]?=some L[q]:=cE hqL;have gR:R[M' - 1 - q]?=some R[M' - 1 - q]:=cE Lp;generalize L[q]=xl at *;generalize R[M' - 1 - q]=xr at *;simp[tH,f20,f21,hlt,w5,hs,hs2,hs3];refine cj.of (C.LN ho arW arX) ?_;simp[ab,f0,f4,f22,Cm.fv,w6,x1,x2,l1,l2,Cm.uV hJ];have hIi:(I:Int)=(a:Int)+(i:Int):=by omega
  have hJj:(J:Int)=(a:Int)+(j:Int):=by omega
  have hAq:(A:Int)=(a:Int)+(q:Int):=by omega
  have d1:q - i<j - i:=by omega
  have d2:j - (q+1)<j - i:=by omega
  have o1:lo<=q+1/\q+1<=j/\q<=hi:=by omega
  by_cases hlt0:C.c xr xl<0
  ·simp[ab,hlt0,MD,f0,f1,f2,f3,f4,f18,f19,f20,f22,Cm.fv];exact⟨q - i,d1,i,q,rfl,hli,hiq.1,o1.2.2,hIi,hAq,h1,.inr λ x y hx hy=>by rw[gR]at hx;rw[gL]at hy;injection hx with hx;injection hy with hy;subst hx hy;exact hlt0⟩
  simp[ab,hlt0,ME,w7,f0,f1,f2,f3,f4,f18,f19,f21,f22,Cm.fv];have e2:M' - (q+1)=M' - 1 - q:=by omega
  exact⟨j - (q+1),d2,q+1,j,rfl,o1.1,o1.2.1,hj,by omega,hJj,.inr λ x y hx hy=>by
   rw[Nat.add_sub_cancel,gL]at hx;rw[e2,gR]at hy;injection hx with hx;injection hy with hy;subst hx hy;omega,h2⟩
 have hij':i=j:=by omega
 subst hij';simp[tH,f20,f21,hlt];exact hgo _ i (by simp[f0]) (by simp[f1]) (by simp[f2]) (by simp[f3]) (by simp[f4]) (by simp[f18]) (by simp[f19]) (by simp[f20,hI]) hli hj h1 h2
end Go.Abs
